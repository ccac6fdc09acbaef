/- Exchanges of parts and rotations, plain; what symMerge's binary searches find. No program in sight. -/
import Derived.Test.YtjiijddlbfgafaaStab
set_option linter.unusedVariables false
namespace Go.Proofs.Ytjiijddlbfgafaa
open Go.Sort

section
variable {α : Type}
/-- n places from a on and n places from b on, exchanged. -/
def swF (a b n : Nat) (f : Nat → α) (t : Nat) : α :=
  if a ≤ t ∧ t < a + n then f (t - a + b) else if b ≤ t ∧ t < b + n then f (t - b + a) else f t
/-- The parts a .. m and m .. b, one behind the other the other way round. -/
def rotF (a m b : Nat) (f : Nat → α) (t : Nat) : α :=
  if a ≤ t ∧ t < a + (b - m) then f (t + (m - a)) else if a + (b - m) ≤ t ∧ t < b then f (t - (b - m)) else f t
/-- An exchange of two places, as a function of places. -/
def swpF (i j : Nat) (f : Nat → α) (t : Nat) : α := if t = j then f i else if t = i then f j else f t

theorem swF_zero (a b : Nat) (f : Nat → α) : swF a b 0 f = f := by
  funext t
  unfold swF
  repeat' split
  all_goals first | rfl | (congr 1; omega)
theorem swF_step (a b n : Nat) (f : Nat → α) (h : a + n < b) : swpF (a + n) (b + n) (swF a b n f) = swF a b (n + 1) f := by
  funext t
  unfold swpF swF
  repeat' split
  all_goals first | rfl | (congr 1; omega) | (exfalso; omega)
theorem rot_step1 (m i j : Nat) (f : Nat → α) (hi : i ≤ m) (hj : j < i) : rotF (m - (i - j)) m (m + j) (swF (m - i) m j f) = rotF (m - i) m (m + j) f := by
  funext t
  unfold rotF swF
  repeat' split
  all_goals first | rfl | (congr 1; omega) | (exfalso; omega)
theorem rot_step2 (m i j : Nat) (f : Nat → α) (hi : i ≤ m) (hj : i < j) : rotF (m - i) m (m + (j - i)) (swF (m - i) (m + j - i) i f) = rotF (m - i) m (m + j) f := by
  funext t
  unfold rotF swF
  repeat' split
  all_goals first | rfl | (congr 1; omega) | (exfalso; omega)
theorem rot_last (m i : Nat) (f : Nat → α) (hi : i ≤ m) : swF (m - i) m i f = rotF (m - i) m (m + i) f := by
  funext t
  unfold rotF swF
  repeat' split
  all_goals first | rfl | (congr 1; omega) | (exfalso; omega)
theorem rotF_left (m b : Nat) (f : Nat → α) : rotF m m b f = f := by
  funext t
  unfold rotF
  repeat' split
  all_goals first | rfl | (congr 1; omega) | (exfalso; omega)
theorem rotF_right (a b : Nat) (f : Nat → α) : rotF a b b f = f := by
  funext t
  unfold rotF
  repeat' split
  all_goals first | rfl | (congr 1; omega) | (exfalso; omega)
theorem rotF_up (a k : Nat) (f : Nat → α) (h : a ≤ k) : swpF k (k + 1) (rotF a (a + 1) (k + 1) f) = rotF a (a + 1) (k + 2) f := by
  funext t
  unfold swpF rotF
  repeat' split
  all_goals first | rfl | (congr 1; omega) | (exfalso; omega)
theorem rotF_down (k m : Nat) (f : Nat → α) (h : k + 1 ≤ m) : swpF (k + 1) k (rotF (k + 1) m (m + 1) f) = rotF k m (m + 1) f := by
  funext t
  unfold swpF rotF
  repeat' split
  all_goals first | rfl | (congr 1; omega) | (exfalso; omega)
theorem rotF_out (a m b : Nat) (f : Nat → α) (t : Nat) (h : t < a ∨ b ≤ t) (ham : a ≤ m) (hmb : m ≤ b) : rotF a m b f t = f t := by
  unfold rotF
  repeat' split
  all_goals first | rfl | (congr 1; omega) | (exfalso; omega)
theorem seg_rot1 (a m b : Nat) (f : Nat → α) (ham : a ≤ m) (hmb : m ≤ b) : seg (rotF a m b f) a (a + (b - m)) = seg f m b := by
  refine seg_at (by omega) fun i hi => ?_
  unfold rotF
  rw [if_pos (by omega)]
  congr 1
  omega
theorem seg_rot2 (a m b : Nat) (f : Nat → α) (ham : a ≤ m) (hmb : m ≤ b) : seg (rotF a m b f) (a + (b - m)) b = seg f a m := by
  refine seg_at (by omega) fun i hi => ?_
  unfold rotF
  rw [if_neg (by omega), if_pos (by omega)]
  congr 1
  omega
theorem seg_rot_out (a m b c d : Nat) (f : Nat → α) (ham : a ≤ m) (hmb : m ≤ b) (h : d ≤ a ∨ b ≤ c) : seg (rotF a m b f) c d = seg f c d :=
  seg_congr fun i h1 h2 => rotF_out a m b f i (by omega) ham hmb
end

section
variable {α : Type} {lt : α → α → Bool}
/-- The sorted parts a .. m and m .. b. -/
structure TwoSorted (lt : α → α → Bool) (f : Nat → α) (a m b : Nat) : Prop where
  ham : a < m
  hmb : m < b
  left : ∀ i j, a ≤ i → i ≤ j → j < m → lt (f j) (f i) = false
  right : ∀ i j, m ≤ i → i ≤ j → j < b → lt (f j) (f i) = false

theorem TwoSorted.of (hO : SWO lt) {f : Nat → α} {a m b : Nat} (ham : a < m) (hmb : m < b) (h1 : (seg f a m).Pairwise fun x y => lt y x = false) (h2 : (seg f m b).Pairwise fun x y => lt y x = false) : TwoSorted lt f a m b := by
  rw [pairwise_seg] at h1 h2
  refine ⟨ham, hmb, fun i j hi hij hj => ?_, fun i j hi hij hj => ?_⟩
  · rcases Nat.eq_or_lt_of_le hij with rfl | h
    · exact hO.irrefl _
    · exact h1 i j hi h hj
  · rcases Nat.eq_or_lt_of_le hij with rfl | h
    · exact hO.irrefl _
    · exact h2 i j hi h hj
theorem TwoSorted.pl {f : Nat → α} {a m b : Nat} (h : TwoSorted lt f a m b) {c d : Nat} (hc : a ≤ c) (hd : d ≤ m) : (seg f c d).Pairwise fun x y => lt y x = false := by
  rw [pairwise_seg]
  exact fun i j h1 h2 h3 => h.left i j (by omega) (by omega) (by omega)
theorem TwoSorted.pr {f : Nat → α} {a m b : Nat} (h : TwoSorted lt f a m b) {c d : Nat} (hc : m ≤ c) (hd : d ≤ b) : (seg f c d).Pairwise fun x y => lt y x = false := by
  rw [pairwise_seg]
  exact fun i j h1 h2 h3 => h.right i j (by omega) (by omega) (by omega)

/-- THE CUT: behind a rotation of s .. m .. e what stands ahead of s + (e - m) and what stands behind it may be merged for themselves. -/
theorem TwoSorted.cut (hO : SWO lt) {f : Nat → α} {a m b s e : Nat} (h : TwoSorted lt f a m b) (has : a ≤ s) (hsm : s ≤ m) (hme : m ≤ e) (heb : e ≤ b)
    (hlo : a < s → e < b → lt (f e) (f (s - 1)) = false) (hhi : s < m → m < e → lt (f (e - 1)) (f s) = true)
    {r1 r2 : List α} (h1 : StableOf lt r1 (seg f a s ++ seg f m e)) (h2 : StableOf lt r2 (seg f s m ++ seg f e b)) : StableOf lt (r1 ++ r2) (seg f a b) := by
  rw [seg_split f (Nat.le_of_lt h.ham) (Nat.le_of_lt h.hmb), seg_split f has hsm, seg_split f hme heb]
  refine StableOf.join hO h1 h2 ?_ ?_ ?_ ?_
  · rw [← seg_split f has hsm]; exact h.pl (Nat.le_refl _) (Nat.le_refl _)
  · rw [← seg_split f hme heb]; exact h.pr (Nat.le_refl _) (Nat.le_refl _)
  · intro x hx y hy
    obtain ⟨i, hi1, hi2, rfl⟩ := mem_seg.1 hx
    obtain ⟨j, hj1, hj2, rfl⟩ := mem_seg.1 hy
    exact hO.ntrans _ _ _ (hO.ntrans _ _ _ (h.right e j hme hj1 hj2) (hlo (by omega) (by omega))) (h.left i (s - 1) hi1 (by omega) (by omega))
  · intro y hy x hx
    obtain ⟨j, hj1, hj2, rfl⟩ := mem_seg.1 hy
    obtain ⟨i, hi1, hi2, rfl⟩ := mem_seg.1 hx
    cases hc : lt (f j) (f i)
    · have k1 := hO.ntrans _ _ _ (h.right j (e - 1) hj1 (by omega) (by omega)) hc
      have k2 := hO.ntrans _ _ _ k1 (h.left s i has hi1 hi2)
      rw [hhi (by omega) (by omega)] at k2
      cases k2
    · rfl

/-- One element on the left: it goes to its place. -/
theorem TwoSorted.one_left (hO : SWO lt) {f : Nat → α} {a b i : Nat} (h : TwoSorted lt f a (a + 1) b) (h1 : a + 1 ≤ i) (h2 : i ≤ b)
    (hlo : a + 1 < i → lt (f (i - 1)) (f a) = true) (hhi : i < b → lt (f i) (f a) = false) : StableOf lt (seg (rotF a (a + 1) i f) a b) (seg f a b) := by
  have e1 := seg_rot1 a (a + 1) i f (by omega) h1
  have e2 := seg_rot2 a (a + 1) i f (by omega) h1
  rw [seg_split (rotF a (a + 1) i f) (show a ≤ a + (i - (a + 1)) by omega) (show a + (i - (a + 1)) ≤ b by omega),
    seg_split (rotF a (a + 1) i f) (show a + (i - (a + 1)) ≤ i by omega) h2, e1, e2, seg_rot_out a (a + 1) i i b f (by omega) h1 (by omega)]
  refine h.cut hO (Nat.le_refl a) (by omega) h1 h2 (fun h => by omega) (fun _ hm => hlo hm) (StableOf.refl ?_ |>.trans fun x => ?_) (StableOf.refl ?_)
  · exact h.pr (Nat.le_refl _) h2
  · rw [seg_nil f (Nat.le_refl a)]; rfl
  · rw [seg_one, List.pairwise_append]
    refine ⟨by simp, h.pr h1 (Nat.le_refl _), fun x hx y hy => ?_⟩
    simp at hx; subst hx
    obtain ⟨j, hj1, hj2, rfl⟩ := mem_seg.1 hy
    exact hO.ntrans _ _ _ (h.right i j h1 hj1 hj2) (hhi (by omega))
/-- One element on the right. -/
theorem TwoSorted.one_right (hO : SWO lt) {f : Nat → α} {a m i : Nat} (h : TwoSorted lt f a m (m + 1)) (h1 : a ≤ i) (h2 : i ≤ m)
    (hlo : a < i → lt (f m) (f (i - 1)) = false) (hhi : i < m → lt (f m) (f i) = true) : StableOf lt (seg (rotF i m (m + 1) f) a (m + 1)) (seg f a (m + 1)) := by
  have e1 := seg_rot1 i m (m + 1) f h2 (by omega)
  have e2 := seg_rot2 i m (m + 1) f h2 (by omega)
  rw [show i + (m + 1 - m) = i + 1 by omega] at e1 e2
  rw [seg_split (rotF i m (m + 1) f) (show a ≤ i + 1 by omega) (show i + 1 ≤ m + 1 by omega), seg_split (rotF i m (m + 1) f) h1 (show i ≤ i + 1 by omega), e1, e2, seg_rot_out i m (m + 1) a i f h2 (by omega) (by omega)]
  refine h.cut hO h1 h2 (show m ≤ m + 1 by omega) (Nat.le_refl _) (fun _ h => by omega) (fun hm _ => by simpa using hhi hm) (StableOf.refl ?_) (StableOf.refl ?_ |>.trans fun x => ?_)
  · rw [seg_one, List.pairwise_append]
    refine ⟨h.pl (Nat.le_refl _) h2, by simp, fun x hx y hy => ?_⟩
    simp at hy; subst hy
    obtain ⟨j, hj1, hj2, rfl⟩ := mem_seg.1 hx
    exact hO.ntrans _ _ _ (hlo (by omega)) (h.left j (i - 1) hj1 (by omega) (by omega))
  · exact h.pl h1 (Nat.le_refl _)
  · rw [seg_nil f (Nat.le_refl (m + 1)), List.append_nil]

/-- symMerge's own step: g is f rotated at s .. m .. n - s; g1, g2: its two halves merged. -/
theorem TwoSorted.sym (hO : SWO lt) {f g1 h1 : Nat → α} {a m b s mid : Nat} (h : TwoSorted lt f a m b) (hmid : mid = (a + b) / 2) (has : a ≤ s) (hsm : s ≤ m) (hsmid : s ≤ mid) (he : mid + m - s ≤ b)
    (hlo : a < s → mid + m - s < b → lt (f (mid + m - s)) (f (s - 1)) = false) (hhi : s < m → s < mid → lt (f (mid + m - s - 1)) (f s) = true)
    (k1 : StableOf lt (seg g1 a mid) (seg (rotF s m (mid + m - s) f) a mid)) (o1 : ∀ t, t < a ∨ mid ≤ t → g1 t = rotF s m (mid + m - s) f t)
    (k2 : StableOf lt (seg h1 mid b) (seg g1 mid b)) (o2 : ∀ t, t < mid ∨ b ≤ t → h1 t = g1 t) : StableOf lt (seg h1 a b) (seg f a b) := by
  have ham := h.ham
  have hmb := h.hmb
  have e1 := seg_rot1 s m (mid + m - s) f hsm (by omega)
  have e2 := seg_rot2 s m (mid + m - s) f hsm (by omega)
  rw [show s + (mid + m - s - m) = mid by omega] at e1 e2
  have c1 : seg (rotF s m (mid + m - s) f) a mid = seg f a s ++ seg f m (mid + m - s) := by
    rw [seg_split _ has hsmid, e1, seg_rot_out s m (mid + m - s) a s f hsm (by omega) (by omega)]
  have c2 : seg g1 mid b = seg f s m ++ seg f (mid + m - s) b := by
    rw [seg_congr (g := rotF s m (mid + m - s) f) (fun i h1 _ => o1 i (.inr h1)), seg_split _ (show mid ≤ mid + m - s by omega) he, e2, seg_rot_out s m (mid + m - s) (mid + m - s) b f hsm (by omega) (by omega)]
  rw [seg_split h1 (show a ≤ mid by omega) (show mid ≤ b by omega), seg_congr (f := h1) (g := g1) (fun i _ h2 => o2 i (.inl h2))]
  refine h.cut hO has hsm (show m ≤ mid + m - s by omega) he (fun p q => hlo p q) (fun p q => hhi p (by omega)) ?_ ?_
  · rw [← c1]; exact k1
  · rw [← c2]; exact k2

theorem TwoSorted.congr {f g : Nat → α} {a m b : Nat} (h : TwoSorted lt f a m b) (e : ∀ t, a ≤ t → t < b → g t = f t) : TwoSorted lt g a m b :=
  ⟨h.ham, h.hmb, fun i j h1 h2 h3 => by
    have := h.hmb
    rw [e i h1 (by omega), e j (by omega) (by omega)]; exact h.left i j h1 h2 h3, fun i j h1 h2 h3 => by
    have := h.ham
    rw [e i (by omega) (by omega), e j (by omega) h3]; exact h.right i j h1 h2 h3⟩
theorem TwoSorted.rot1 {f : Nat → α} {a m b s mid : Nat} (h : TwoSorted lt f a m b) (has : a < s) (hsm : s ≤ m) (hsmid : s < mid) (he : mid + m - s ≤ b) : TwoSorted lt (rotF s m (mid + m - s) f) a s mid := by
  have ham := h.ham
  have hmb := h.hmb
  refine ⟨has, hsmid, fun i j h1 h2 h3 => ?_, fun i j h1 h2 h3 => ?_⟩
  · rw [rotF_out _ _ _ _ _ (by omega) hsm (by omega), rotF_out _ _ _ _ _ (by omega) hsm (by omega)]
    exact h.left i j h1 h2 (by omega)
  · unfold rotF
    rw [if_pos (by omega), if_pos (by omega)]
    exact h.right _ _ (by omega) (by omega) (by omega)
theorem TwoSorted.rot2 {f : Nat → α} {a m b s mid : Nat} (h : TwoSorted lt f a m b) (has : a ≤ s) (hsm : s < m) (hsmid : s ≤ mid) (he : mid + m - s < b) : TwoSorted lt (rotF s m (mid + m - s) f) mid (mid + m - s) b := by
  have ham := h.ham
  have hmb := h.hmb
  refine ⟨by omega, he, fun i j h1 h2 h3 => ?_, fun i j h1 h2 h3 => ?_⟩
  · unfold rotF
    rw [if_neg (by omega), if_pos (by omega), if_neg (by omega), if_pos (by omega)]
    exact h.left _ _ (by omega) (by omega) (by omega)
  · rw [rotF_out _ _ _ _ _ (by omega) (by omega) (by omega), rotF_out _ _ _ _ _ (by omega) (by omega) (by omega)]
    exact h.right i j (by omega) h2 h3
theorem TwoSorted.left_ok {f : Nat → α} {a m b s mid : Nat} (h : TwoSorted lt f a m b) (has : a ≤ s) (hsm : s ≤ m) (hsmid : s ≤ mid) (he : mid + m - s ≤ b) (hn : a = s ∨ s = mid) :
    StableOf lt (seg (rotF s m (mid + m - s) f) a mid) (seg (rotF s m (mid + m - s) f) a mid) := by
  refine StableOf.refl ?_
  rcases hn with rfl | rfl
  · have := seg_rot1 a m (mid + m - a) f hsm (by omega)
    rw [show a + (mid + m - a - m) = mid by omega] at this
    rw [this]
    exact h.pr (Nat.le_refl _) he
  · rw [seg_rot_out _ _ _ _ _ _ hsm (by omega) (by omega)]
    exact h.pl (Nat.le_refl _) hsm
theorem TwoSorted.right_ok {f g : Nat → α} {a m b s mid : Nat} (h : TwoSorted lt f a m b) (has : a ≤ s) (hsm : s ≤ m) (hsmid : s ≤ mid) (he : mid + m - s ≤ b) (hn : s = m ∨ mid + m - s = b)
    (o : ∀ t, mid ≤ t → t < b → g t = rotF s m (mid + m - s) f t) : StableOf lt (seg g mid b) (seg g mid b) := by
  have ham := h.ham
  have hmb := h.hmb
  refine StableOf.refl ?_
  rw [seg_congr o]
  have e2 := seg_rot2 s m (mid + m - s) f hsm (by omega)
  rw [show s + (mid + m - s - m) = mid by omega] at e2
  rcases hn with hn | hn
  · rw [seg_rot_out _ _ _ _ _ _ hsm (by omega) (by omega)]
    exact h.pr (by omega) (Nat.le_refl _)
  · rw [hn] at e2 ⊢
    rw [e2]
    exact h.pl has (Nat.le_refl _)
end

section
variable {α : Type} [Inhabited α] {lt : α → α → Bool}
def at_ (d : Array α) (t : Nat) : α := d[t]!
theorem at_swp (d : Array α) {i j : Nat} (hi : i < d.size) (hj : j < d.size) : at_ (swp d i j) = swpF i j (at_ d) := by
  funext t
  exact swp_get d hi hj t

/-- The insertion sort's inner loop: the element of place i has come to place j. -/
theorem insInner_rot (a i : Nat) (f : Nat → α) : ∀ (j : Nat) (d : Array α), a ≤ j → j ≤ i → i < d.size → at_ d = rotF j i (i + 1) f → (j < i → lt (f i) (f j) = true) →
    ∃ q, a ≤ q ∧ q ≤ i ∧ (a < q → lt (f i) (f (q - 1)) = false) ∧ (q < i → lt (f i) (f q) = true) ∧ (insInner lt a j d).size = d.size ∧ at_ (insInner lt a j d) = rotF q i (i + 1) f
  | 0, d, h1, h2, h3, h4, h5 => ⟨0, by omega, by omega, fun h => by omega, h5, rfl, h4⟩
  | j + 1, d, h1, h2, h3, h4, h5 => by
    have e1 : d[j + 1]! = f i := by
      have := congrFun h4 (j + 1)
      unfold at_ rotF at this
      rw [this, if_pos (by omega)]
      congr 1
      omega
    have e0 : d[j]! = f j := by
      have := congrFun h4 j
      rw [rotF_out _ _ _ _ _ (by omega) (by omega) (by omega)] at this
      exact this
    unfold insInner
    rw [e1, e0]
    by_cases c : a < j + 1 ∧ lt (f i) (f j) = true
    · rw [if_pos (by simp [c.1, c.2])]
      have hs : (swp d (j + 1) j).size = d.size := size_swp d _ _
      obtain ⟨q, q1, q2, q3, q4, q5, q6⟩ := insInner_rot a i f j (swp d (j + 1) j) (by omega) (by omega) (by rw [hs]; exact h3)
        (by rw [at_swp d (by omega) (by omega), h4]; exact rotF_down j i f h2) (fun _ => c.2)
      exact ⟨q, q1, q2, q3, q4, by rw [q5, hs], q6⟩
    · rw [if_neg (by simpa using c)]
      refine ⟨j + 1, h1, h2, fun h => ?_, h5, rfl, h4⟩
      cases hc : lt (f i) (f j)
      · exact hc
      · exact absurd ⟨h, hc⟩ c

theorem insOuter_stable (hO : SWO lt) (a b : Nat) (f : Nat → α) : ∀ (n i : Nat) (d : Array α), b - i = n → a < i → i ≤ b → b ≤ d.size → StableOf lt (seg (at_ d) a i) (seg f a i) → (∀ t, t < a ∨ i ≤ t → at_ d t = f t) →
    (insOuter lt a b i d).size = d.size ∧ StableOf lt (seg (at_ (insOuter lt a b i d)) a b) (seg f a b) ∧ ∀ t, t < a ∨ b ≤ t → at_ (insOuter lt a b i d) t = f t
  | 0, i, d, hn, hai, hib, hb, hst, hout => by
    obtain rfl : i = b := by omega
    unfold insOuter
    rw [if_neg (by omega)]
    exact ⟨rfl, hst, hout⟩
  | n + 1, i, d, hn, hai, hib, hb, hst, hout => by
    have hlt : i < b := by omega
    unfold insOuter
    rw [if_pos hlt]
    obtain ⟨q, q1, q2, q3, q4, q5, q6⟩ := insInner_rot (lt := lt) a i (at_ d) i d (by omega) (Nat.le_refl _) (by omega) (by rw [rotF_left]) (fun h => by omega)
    have two : TwoSorted lt (at_ d) a i (i + 1) := TwoSorted.of hO hai (by omega) hst.sorted (by rw [seg_one]; simp)
    have one := two.one_right hO q1 q2 q3 q4
    rw [← q6] at one
    have hs2 : StableOf lt (seg (at_ (insInner lt a i d)) a (i + 1)) (seg f a (i + 1)) := by
      rw [seg_split (at_ d) (show a ≤ i by omega) (show i ≤ i + 1 by omega), seg_one] at one
      rw [seg_split f (show a ≤ i by omega) (show i ≤ i + 1 by omega), seg_one, ← hout i (.inr (Nat.le_refl _))]
      exact one.parts hst (StableOf.refl (by simp))
    have := insOuter_stable hO a b f n (i + 1) (insInner lt a i d) (by omega) (by omega) (by omega) (by rw [q5]; exact hb) hs2 (fun t ht => by
      rw [q6, rotF_out _ _ _ _ _ (by omega) (by omega) (by omega)]
      exact hout t (by omega))
    rw [q5] at this
    exact this

/-- THE INSERTION SORT IS STABLE. -/
theorem insertionSort_stable (hO : SWO lt) (a b : Nat) (d : Array α) (hab : a ≤ b) (hb : b ≤ d.size) :
    (insertionSort lt d a b).size = d.size ∧ StableOf lt (seg (at_ (insertionSort lt d a b)) a b) (seg (at_ d) a b) ∧ ∀ t, t < a ∨ b ≤ t → at_ (insertionSort lt d a b) t = at_ d t := by
  unfold insertionSort
  rcases Nat.lt_or_ge a b with h | h
  · refine insOuter_stable hO a b (at_ d) (b - (a + 1)) (a + 1) d rfl (by omega) (by omega) hb (StableOf.refl ?_) (fun _ _ => rfl)
    rw [seg_one]; simp
  · unfold insOuter
    rw [if_neg (by omega)]
    refine ⟨rfl, StableOf.refl ?_, fun _ _ => rfl⟩
    rw [seg_nil _ h]; simp

/-- Each block of bs places is stably sorted. -/
def Blk (lt : α → α → Bool) (bs n : Nat) (g f : Nat → α) : Prop := ∀ s, bs ∣ s → s < n → StableOf lt (seg g s (min (s + bs) n)) (seg f s (min (s + bs) n))
end
end Go.Proofs.Ytjiijddlbfgafaa
