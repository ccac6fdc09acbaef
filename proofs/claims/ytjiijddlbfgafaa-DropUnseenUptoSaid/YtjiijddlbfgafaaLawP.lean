/- Plain laws of drop.Entries: no program in sight. -/
import Derived.Test.YtjiijddlbfgafaaDropC
set_option linter.unusedVariables false
set_option linter.unusedSimpArgs false
namespace Go.Proofs.Ytjiijddlbfgafaa
section
variable {p : Nat → Ent → Bool} {sl : List Ent}
theorem keptTo_all : ∀ n, n ≤ sl.length → (∀ i x, sl[i]? = some x → p i x = true) → keptTo p sl n = sl.take n
  | 0, _, _ => by simp [keptTo]
  | n + 1, hn, h => by
    have hx : sl[n]? = some sl[n] := List.getElem?_eq_getElem (by omega)
    rw [keptTo_yes hx (h n _ hx), keptTo_all n (by omega) h, List.take_add_one, hx]
    rfl
theorem keptTo_full (h : ∀ i x, sl[i]? = some x → p i x = true) : keptTo p sl sl.length = sl := by rw [keptTo_all _ (Nat.le_refl _) h, List.take_length]
theorem keptTo_step (n : Nat) : keptTo p sl n <+: keptTo p sl (n + 1) := by
  rw [show keptTo p sl (n + 1) = keptTo p sl n ++ _ from rfl]
  exact List.prefix_append _ _
theorem keptTo_prefix {j n : Nat} (h : j ≤ n) : keptTo p sl j <+: keptTo p sl n := by
  induction n with
  | zero => obtain rfl : j = 0 := by omega
            exact List.prefix_rfl
  | succ n ih =>
    rcases Nat.lt_or_ge n j with hj | hj
    · obtain rfl : j = n + 1 := by omega
      exact List.prefix_rfl
    · exact (ih hj).trans (keptTo_step n)
theorem keptTo_get : ∀ n i y, (keptTo p sl n)[i]? = some y → ∃ j, j < n ∧ sl[j]? = some y ∧ p j y = true ∧ (keptTo p sl j).length = i
  | 0, i, y, h => by simp [keptTo] at h
  | n + 1, i, y, h => by
    rcases Nat.lt_or_ge i (keptTo p sl n).length with hi | hi
    · rw [show keptTo p sl (n + 1) = keptTo p sl n ++ _ from rfl, List.getElem?_append_left hi] at h
      obtain ⟨j, h1, h2⟩ := keptTo_get n i y h
      exact ⟨j, by omega, h2⟩
    · unfold keptTo at h
      rw [List.getElem?_append_right hi] at h
      split at h
      · rename_i x hx
        split at h
        · rename_i hp
          have : i - (keptTo p sl n).length = 0 := by
            rcases Nat.eq_zero_or_pos (i - (keptTo p sl n).length) with e | e
            · exact e
            · obtain ⟨m, hm⟩ : ∃ m, i - (keptTo p sl n).length = m + 1 := ⟨i - (keptTo p sl n).length - 1, by omega⟩
              rw [hm] at h
              simp at h
          rw [this] at h
          simp at h
          subst h
          exact ⟨n, by omega, hx, hp, by omega⟩
        · simp at h
      · simp at h
theorem keptTo_sub : ∀ n, (keptTo p sl n).Sublist sl := fun n => by
  have : ∀ n, (keptTo p sl n).Sublist (sl.take n) := fun n => by
    induction n with
    | zero => simp [keptTo]
    | succ n ih =>
      unfold keptTo
      rw [List.take_add_one]
      refine List.Sublist.append ih ?_
      split
      · rename_i x hx
        split <;> simp [hx]
      · exact List.nil_sublist _
  exact (this n).trans (List.take_sublist _ _)
end
theorem strN_mono (S : List Int) {a b : Int} (h : a ≤ b) : strN S a ≤ strN S b := by
  unfold strN
  induction S with
  | nil => simp
  | cons x S ih =>
    simp only [List.filter_cons]
    by_cases h1 : x < a
    · have : x < b := by omega
      simp [h1, this, ih]
    · by_cases h2 : x < b
      · simp [h1, h2]; omega
      · simp [h1, h2, ih]
theorem sortedE_sorted (l : List Ent) : (sortedE l).Pairwise fun x y => eltB y x = false := (sortedE_stable l).sorted
theorem sortedE_id {x : List Ent} (h : x.Pairwise fun a b => eltB b a = false) : sortedE x = x := (StableOf.eq swo_elt (StableOf.refl h)).symm
theorem pair_get {α : Type} {R : α → α → Prop} {l : List α} (h : l.Pairwise R) {i j : Nat} {x y : α} (hij : i < j) (hx : l[i]? = some x) (hy : l[j]? = some y) : R x y := by
  obtain ⟨hi, rfl⟩ := List.getElem?_eq_some_iff.1 hx
  obtain ⟨hj, rfl⟩ := List.getElem?_eq_some_iff.1 hy
  exact List.pairwise_iff_getElem.1 h i j hi hj hij
/-- What lies between two of one key and one stripe is of that key and that stripe. -/
theorem between {S : List Int} {sl : List Ent} (h : sl.Pairwise fun a b => eltB b a = false) {i j k : Nat} {z u y : Ent} (hij : i ≤ j) (hjk : j < k) (hz : sl[i]? = some z) (hu : sl[j]? = some u) (hy : sl[k]? = some y)
    (hk : z.key = y.key) (hs : strN S z.seq = strN S y.seq) : u.key = y.key ∧ strN S u.seq = strN S y.seq := by
  rcases Nat.eq_or_lt_of_le hij with e | e
  · subst e
    obtain rfl : z = u := Option.some.inj (hz.symm.trans hu)
    exact ⟨hk, hs⟩
  · obtain ⟨a1, a2⟩ := (eltB_false_iff u z).1 (pair_get h e hz hu)
    obtain ⟨b1, b2⟩ := (eltB_false_iff y u).1 (pair_get h hjk hu hy)
    have huk : u.key = y.key := by
      rcases klt_total u.key y.key with c | c | c
      · rw [← hk, a1] at c; simp at c
      · exact c
      · rw [b1] at c; simp at c
    have h1 := (a2 (huk.trans hk.symm)).1
    have h2 := (b2 huk.symm).1
    have m1 := strN_mono S h1
    have m2 := strN_mono S h2
    exact ⟨huk, by omega⟩
theorem cover_sub {key : ByteArray} {q : Int} {l' l : List Tomb} (h : l'.Sublist l) : ∀ (a' a : Int × Bool), a'.1 ≤ a.1 → (a'.2 = true → a.2 = true) →
    (l'.foldl (coverStep key q) a').1 ≤ (l.foldl (coverStep key q) a).1 ∧ ((l'.foldl (coverStep key q) a').2 = true → (l.foldl (coverStep key q) a).2 = true) := by
  induction h with
  | slnil => intro a' a h1 h2; exact ⟨h1, h2⟩
  | cons x h ih =>
    intro a' a h1 h2
    simp only [List.foldl_cons]
    refine ih _ _ ?_ ?_
    · unfold coverStep; split
      · simp; omega
      · exact h1
    · unfold coverStep; split
      · simp
      · exact h2
  | cons_cons x h ih =>
    intro a' a h1 h2
    simp only [List.foldl_cons]
    refine ih _ _ ?_ ?_
    · unfold coverStep; split
      · simp; omega
      · exact h1
    · unfold coverStep; split
      · simp
      · exact h2
/-- The tombs that are kept. -/
def keptT (S : List Int) (bl : List File) (t : List Tomb) : List Tomb := (t.filter validB).filter (tombKeep S bl)
/-- The entries that are kept. -/
def keptE (S : List Int) (bl : List File) (t : List Tomb) (l : List Ent) : List Ent := keptTo (keepAt S bl (rowsOf S t) (sortedE l)) (sortedE l) (sortedE l).length
theorem rows_sub (S : List Int) (bl : List File) (t : List Tomb) (n : Nat) : (rowsOf S (keptT S bl t) n).Sublist (rowsOf S t n) := by
  have h : (keptT S bl t).Sublist t := (List.filter_sublist).trans (List.filter_sublist)
  unfold rowsOf
  split
  · exact h.filter _
  · exact (h.filter _).filter _
theorem keptE_sorted (S : List Int) (bl : List File) (t : List Tomb) (l : List Ent) : (keptE S bl t l).Pairwise fun a b => eltB b a = false := (sortedE_sorted l).sublist (keptTo_sub _)
theorem sorted_keptE (S : List Int) (bl : List File) (t : List Tomb) (l : List Ent) : sortedE (keptE S bl t l) = keptE S bl t l := sortedE_id (keptE_sorted S bl t l)
/-- P21.4: what was kept is kept again. -/
theorem again_e (S : List Int) (bl : List File) (t : List Tomb) (l : List Ent) : keptE S bl (keptT S bl t) (keptE S bl t l) = keptE S bl t l := by
  show keptTo (keepAt S bl (rowsOf S (keptT S bl t)) (sortedE (keptE S bl t l))) (sortedE (keptE S bl t l)) (sortedE (keptE S bl t l)).length = _
  rw [sorted_keptE]
  refine keptTo_full fun i y hy => ?_
  obtain ⟨j, hj, hjy, hp, hlen⟩ := keptTo_get _ i y hy
  unfold keepAt
  split
  · rfl
  rename_i hn
  unfold keepAt at hp
  rw [if_neg hn] at hp
  split at hp
  · simp at hp
  rename_i hprev
  split at hp
  · simp at hp
  rename_i hdel
  have hno : ¬ (0 < i ∧ ∃ z, (keptE S bl t l)[i - 1]? = some z ∧ z.key = y.key ∧ strN S z.seq = strN S y.seq) := by
    rintro ⟨hi, z, hz, hk, hs⟩
    have hz' : (keptTo (keepAt S bl (rowsOf S t) (sortedE l)) (sortedE l) j)[i - 1]? = some z := by
      have hpre := keptTo_prefix (p := keepAt S bl (rowsOf S t) (sortedE l)) (sl := sortedE l) (Nat.le_of_lt hj)
      obtain ⟨r, hr⟩ := hpre
      unfold keptE at hz
      rw [← hr, List.getElem?_append_left (by omega)] at hz
      exact hz
    obtain ⟨j', hj', hjz, _, _⟩ := keptTo_get _ _ _ hz'
    obtain ⟨u, hu⟩ : ∃ u, (sortedE l)[j - 1]? = some u := ⟨_, List.getElem?_eq_getElem (by omega)⟩
    have hb := between (S := S) (sortedE_sorted l) (show j' ≤ j - 1 by omega) (show j - 1 < j by omega) hjz hu hjy hk hs
    exact hprev ⟨by omega, u, hu, hb.1, hb.2⟩
  rw [if_neg hno, if_neg hdel]
  have hc := cover_sub (key := y.key) (q := 72057594037927935) (rows_sub S bl t (strN S y.seq)) (0, false) (0, false) (Int.le_refl _) (fun h => h)
  simp only [Bool.not_eq_true', Bool.and_eq_false_iff, decide_eq_false_iff_not] at hp ⊢
  unfold coverS at hp ⊢
  rcases hp with hp | hp
  · left
    rcases h : (List.foldl (coverStep y.key 72057594037927935) (0, false) (rowsOf S (keptT S bl t) (strN S y.seq))).2 with _ | _
    · rfl
    · rw [hc.2 h] at hp; simp at hp
  · right
    omega
theorem again_t (S : List Int) (bl : List File) (t : List Tomb) : keptT S bl (keptT S bl t) = keptT S bl t := by
  have h1 : (keptT S bl t).filter validB = keptT S bl t := List.filter_eq_self.2 fun x hx => (List.mem_filter.1 (List.mem_filter.1 hx).1).2
  show ((keptT S bl t).filter validB).filter (tombKeep S bl) = _
  rw [h1]
  exact List.filter_eq_self.2 fun x hx => (List.mem_filter.1 hx).2
/-- Without anybody who looks all is kept. -/
theorem all_e (bl : List File) (t : List Tomb) (l : List Ent) : keptE [] bl t l = sortedE l := by
  unfold keptE
  refine keptTo_full fun i x _ => ?_
  simp [keepAt, strN]
theorem all_t (bl : List File) (t : List Tomb) : keptT [] bl t = t.filter validB := by
  unfold keptT
  rw [List.filter_eq_self]
  intro x _
  simp [tombKeep]
theorem rising_nil {S : List Int} (h : Rising [] S) : S = [] := by
  rcases S with _ | ⟨x, S⟩
  · rfl
  · have := (h.2 x).1 (by simp)
    simp at this
end Go.Proofs.Ytjiijddlbfgafaa
