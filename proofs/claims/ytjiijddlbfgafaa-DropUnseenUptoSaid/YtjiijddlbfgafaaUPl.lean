/- The pattern-defeating quicksort, plain: what each of its parts must bring about, as relations between arrays. No program in sight. -/
import Derived.Sort.LotD3
import Derived.Sort.AssemblyPlain
set_option linter.unusedVariables false
namespace Go.Proofs.Ytjiijddlbfgafaa
open Go.Sort

section
variable {α : Type} [Inhabited α] {lt : α → α → Bool}

/-- The halves of a partition in the making: on the left of i less than p, on the right of j not. -/
structure Halves (lo hi : α → Bool) (a i j b : Nat) (d : Array α) : Prop where
  left : ∀ t, a < t → t < i → lo d[t]! = true
  right : ∀ t, j < t → t < b → hi d[t]! = true
theorem Halves.start {lo hi : α → Bool} {a b : Nat} {d : Array α} (h : a < b) : Halves lo hi a (a + 1) (b - 1) b d := ⟨fun t h1 h2 => by omega, fun t h1 h2 => by omega⟩
theorem Halves.up {lo hi : α → Bool} {a i j b : Nat} {d : Array α} (h : Halves lo hi a i j b d) (hl : lo d[i]! = true) : Halves lo hi a (i + 1) j b d :=
  ⟨fun t h1 h2 => by
    rcases Nat.lt_or_ge t i with h3 | h3
    · exact h.left t h1 h3
    · obtain rfl : t = i := by omega
      exact hl, h.right⟩
theorem Halves.down {lo hi : α → Bool} {a i j b : Nat} {d : Array α} (h : Halves lo hi a i (j + 1) b d) (hh : hi d[j + 1]! = true) : Halves lo hi a i j b d :=
  ⟨h.left, fun t h1 h2 => by
    rcases Nat.lt_or_ge (j + 1) t with h3 | h3
    · exact h.right t h3 h2
    · obtain rfl : t = j + 1 := by omega
      exact hh⟩
theorem Halves.swap {lo hi : α → Bool} {a i j b : Nat} {d : Array α} (h : Halves lo hi a i (j + 1) b d) (hij : i < j + 1) (hj : j + 1 < d.size) (h1 : lo d[j + 1]! = true) (h2 : hi d[i]! = true) (hai : a < i) :
    Halves lo hi a (i + 1) j b (swp d i (j + 1)) := by
  have g := swp_get d (show i < d.size by omega) hj
  constructor
  · intro t h3 h4
    rw [g]
    by_cases e : t = i
    · subst e
      rw [if_neg (by omega), if_pos rfl]
      exact h1
    · rw [if_neg (by omega), if_neg e]
      exact h.left t h3 (by omega)
  · intro t h3 h4
    rw [g]
    by_cases e : t = j + 1
    · subst e
      rw [if_pos rfl]
      exact h2
    · rw [if_neg e, if_neg (by omega)]
      exact h.right t (by omega) h4

theorem perm_swap {a b i j : Nat} {d e : Array α} (h : PermIn a b d e) (h1 : a ≤ i) (h2 : i < b) (h3 : a ≤ j) (h4 : j < b) (hb : b ≤ d.size) : PermIn a b d (swp e i j) :=
  permIn_trans _ _ _ a b h (swp_permIn e a b i j h1 h2 h3 h4 (by rw [h.1]; exact hb))

/-- What a partition brings about. -/
structure Parted (lt : α → α → Bool) (a b mid : Nat) (d e : Array α) : Prop where
  lo : a ≤ mid
  hi : mid < b
  perm : PermIn a b d e
  left : ∀ t, a ≤ t → t < mid → lt e[t]! e[mid]! = true
  right : ∀ t, mid < t → t < b → lt e[t]! e[mid]! = false

/-- The last exchange of a partition: dk is the array when i has passed j. -/
theorem Parted.last {a b i j : Nat} {d dk : Array α} (hO : SWO lt) (hp : PermIn a b d dk) (h : Halves (fun x => lt x dk[a]!) (fun x => !lt x dk[a]!) a i j b dk) (hij : j < i) (haj : a ≤ j) (hjb : j < b) (hb : b ≤ d.size) :
    Parted lt a b j d (swp dk j a) := by
  have hs : dk.size = d.size := hp.1
  have g := swp_get dk (show j < dk.size by omega) (show a < dk.size by omega)
  refine ⟨haj, hjb, perm_swap hp haj hjb (Nat.le_refl _) (by omega) hb, fun t h1 h2 => ?_, fun t h1 h2 => ?_⟩
  · have ej : (swp dk j a)[j]! = dk[a]! := by
      rw [g]; split
      · next e => rw [e]
      · rw [if_pos rfl]
    rw [ej, g]
    by_cases e : t = a
    · subst e
      rw [if_pos rfl]
      exact h.left j (by omega) hij
    · rw [if_neg e, if_neg (by omega)]
      exact h.left t (by omega) (by omega)
  · have ej : (swp dk j a)[j]! = dk[a]! := by
      rw [g]; split
      · next e => rw [e]
      · rw [if_pos rfl]
    rw [ej, g, if_neg (by omega), if_neg (by omega)]
    simpa using h.right t h1 h2

/-- What partitionEqual brings about. -/
structure PartedEq (lt : α → α → Bool) (a b mid : Nat) (p : α) (d e : Array α) : Prop where
  lo : a < mid
  hi : mid ≤ b
  perm : PermIn a b d e
  left : ∀ t, a ≤ t → t < mid → lt p e[t]! = false
  right : ∀ t, mid ≤ t → t < b → lt p e[t]! = true
theorem PartedEq.last {a b i j : Nat} {d dk : Array α} (hO : SWO lt) (hp : PermIn a b d dk) (h : Halves (fun x => !lt dk[a]! x) (fun x => lt dk[a]! x) a i j b dk) (hij : i = j + 1) (hai : a < i) (hjb : j < b) :
    PartedEq lt a b i dk[a]! d dk := by
  refine ⟨hai, by omega, hp, fun t h1 h2 => ?_, fun t h1 h2 => h.right t (by omega) h2⟩
  rcases Nat.eq_or_lt_of_le h1 with rfl | h3
  · exact hO.irrefl _
  · simpa using h.left t h3 h2

theorem Parted.last' {a b i j : Nat} {p : α} {d dk : Array α} (hO : SWO lt) (hp : PermIn a b d dk) (hA : dk[a]! = p) (h : Halves (fun x => lt x p) (fun x => !lt x p) a i j b dk) (hij : j < i) (haj : a ≤ j) (hjb : j < b) (hb : b ≤ d.size) :
    Parted lt a b j d (swp dk j a) := by
  subst hA
  exact Parted.last hO hp h hij haj hjb hb
theorem PartedEq.last' {a b i j : Nat} {p : α} {d dk : Array α} (hO : SWO lt) (hp : PermIn a b d dk) (hA : dk[a]! = p) (h : Halves (fun x => !lt p x) (fun x => lt p x) a i j b dk) (hij : i = j + 1) (hai : a < i) (hjb : j < b) :
    PartedEq lt a b i p d dk := by
  subst hA
  exact PartedEq.last hO hp h hij hai hjb
/-- What is owed: whoever sorts a .. b of dk has sorted a0 .. b0 of d. -/
def Owed (lt : α → α → Bool) (a0 b0 : Nat) (d : Array α) (a b : Nat) (dk : Array α) : Prop :=
  ∀ R, PermIn a b dk R → SortedIn lt a b R → PermIn a0 b0 d R ∧ SortedIn lt a0 b0 R
theorem Owed.start {a b : Nat} {d : Array α} : Owed lt a b d a b d := fun R h1 h2 => ⟨h1, h2⟩
theorem Owed.perm {a0 b0 a b : Nat} {d dk dj : Array α} (h : Owed lt a0 b0 d a b dk) (hp : PermIn a b dk dj) : Owed lt a0 b0 d a b dj :=
  fun R h1 h2 => h R (permIn_trans _ _ _ a b hp h1) h2

/-- A round by partitionEqual. -/
theorem Owed.eq (hO : SWO lt) {a0 b0 a b mid : Nat} {d dk e : Array α} (h : Owed lt a0 b0 d a b dk) (ha : 0 < a) (hab : a < b) (hb : b ≤ dk.size) (hB : Below lt a b dk) {p : α} (hp : ∀ t, a ≤ t → t < b → lt dk[t]! p = false)
    (hx : PartedEq lt a b mid p dk e) : Owed lt a0 b0 d mid b e ∧ Below lt mid b e := by
  have hbe : b ≤ e.size := by rw [hx.perm.1]; exact hb
  have hge := permIn_all dk e a b (fun x => lt x p = false) hb hx.perm hp
  have hlo := hx.lo
  have hhi := hx.hi
  refine ⟨fun R h1 h2 => h R (permIn_trans _ _ _ a b hx.perm (permIn_mono _ _ mid b a b (by omega) (Nat.le_refl _) hbe h1)) ?_, Or.inr fun i h1 h2 => ?_⟩
  · refine sorted_glue_eq hO p h2 (fun i h3 h4 => ?_) (fun i h3 h4 => ?_) (permIn_all e R mid b (fun x => lt p x = true) hbe h1 hx.right)
    · rw [h1.2.1 i (Or.inl h4)]; exact hx.left i h3 h4
    · rw [h1.2.1 i (Or.inl h4)]; exact hge i h3 (by omega)
  · cases hc : lt e[i]! e[mid - 1]! with
    | false => rfl
    | true =>
      have := hO.trans _ _ _ (hx.right i h1 h2) hc
      rw [hx.left (mid - 1) (by omega) (by omega)] at this
      cases this

/-- A round by partition, the left part sorted first. -/
theorem Owed.left (hO : SWO lt) {a0 b0 a b mid : Nat} {d dk e L : Array α} (h : Owed lt a0 b0 d a b dk) (hb : b ≤ dk.size) (hx : Parted lt a b mid dk e) (hL : PermIn a mid e L) (hsL : SortedIn lt a mid L) :
    Owed lt a0 b0 d (mid + 1) b L ∧ Below lt (mid + 1) b L := by
  have hbe : b ≤ e.size := by rw [hx.perm.1]; exact hb
  have hbL : b ≤ L.size := by rw [hL.1]; exact hbe
  have hlo := hx.lo
  have hhi := hx.hi
  have eL : ∀ i, mid ≤ i → L[i]! = e[i]! := fun i hi => hL.2.1 i (Or.inr hi)
  have hR : ∀ i, mid < i → i < b → lt L[i]! L[mid]! = false := fun i h1 h2 => by
    rw [eL i (by omega), eL mid (Nat.le_refl _)]; exact hx.right i h1 h2
  refine ⟨fun R h1 h2 => ?_, Or.inr fun i h1 h2 => by rw [Nat.add_sub_cancel]; exact hR i (by omega) h2⟩
  have eR : ∀ i, i ≤ mid → R[i]! = L[i]! := fun i hi => h1.2.1 i (Or.inl (by omega))
  refine h R (permIn_trans _ _ _ a b hx.perm (permIn_trans _ _ _ a b (permIn_mono _ _ a mid a b (Nat.le_refl _) (by omega) hbe hL) (permIn_mono _ _ (mid + 1) b a b (by omega) (Nat.le_refl _) hbL h1))) ?_
  refine sorted_glue hO (hsL.congr fun i _ hi' => eR i (by omega)) h2 (fun i hi hi' => ?_) (fun i hi hi' => ?_)
  · rw [eR i (by omega), eR mid (Nat.le_refl _), eL mid (Nat.le_refl _)]
    exact permIn_all e L a mid (fun x => lt x e[mid]! = true) (by omega) hL hx.left i hi hi'
  · rw [eR mid (Nat.le_refl _)]
    exact permIn_all L R (mid + 1) b (fun x => lt x L[mid]! = false) hbL h1 (fun k hk hk' => hR k (by omega) hk') i (by omega) hi'
/-- .. the right part first. -/
theorem Owed.right (hO : SWO lt) {a0 b0 a b mid : Nat} {d dk e L : Array α} (h : Owed lt a0 b0 d a b dk) (hb : b ≤ dk.size) (hB : Below lt a b dk) (hx : Parted lt a b mid dk e) (hL : PermIn (mid + 1) b e L) (hsL : SortedIn lt (mid + 1) b L) :
    Owed lt a0 b0 d a mid L ∧ Below lt a mid L := by
  have hbe : b ≤ e.size := by rw [hx.perm.1]; exact hb
  have hbL : b ≤ L.size := by rw [hL.1]; exact hbe
  have hlo := hx.lo
  have hhi := hx.hi
  have eL : ∀ i, i ≤ mid → L[i]! = e[i]! := fun i hi => hL.2.1 i (Or.inl (by omega))
  refine ⟨fun R h1 h2 => ?_, ?_⟩
  · have eR : ∀ i, mid ≤ i → R[i]! = L[i]! := fun i hi => h1.2.1 i (Or.inr hi)
    refine h R (permIn_trans _ _ _ a b hx.perm (permIn_trans _ _ _ a b (permIn_mono _ _ (mid + 1) b a b (by omega) (Nat.le_refl _) hbe hL) (permIn_mono _ _ a mid a b (Nat.le_refl _) (by omega) hbL h1))) ?_
    refine sorted_glue hO h2 (hsL.congr fun i hi _ => eR i (by omega)) (fun i hi hi' => ?_) (fun i hi hi' => ?_)
    · rw [eR mid (Nat.le_refl _), eL mid (Nat.le_refl _)]
      exact permIn_all L R a mid (fun x => lt x e[mid]! = true) (by omega) h1 (fun k hk hk' => by rw [eL k (by omega)]; exact hx.left k hk hk') i hi hi'
    · rw [eR i (by omega), eR mid (Nat.le_refl _), eL mid (Nat.le_refl _)]
      exact permIn_all e L (mid + 1) b (fun x => lt x e[mid]! = false) hbe hL (fun k hk hk' => hx.right k (by omega) hk') i (by omega) hi'
  · have hBe : Below lt a mid e := (hB.perm hb hx.perm).mono (by omega)
    rcases hBe with h0 | h1
    · exact Or.inl h0
    · rcases Nat.eq_zero_or_pos a with h0 | h0
      · exact Or.inl h0
      · exact Or.inr fun i hi hi' => by rw [eL i (by omega), eL (a - 1) (by omega)]; exact h1 i hi hi'

/-- The shift to the left stays above a. -/
theorem below_stop {a b : Nat} {d : Array α} (h : Below lt a b d) (ha : 0 < a) (hab : a < b) : lt d[a]! d[a - 1]! = false := by
  rcases h with h0 | h1
  · omega
  · exact h1 a (Nat.le_refl _) hab
end
end Go.Proofs.Ytjiijddlbfgafaa
