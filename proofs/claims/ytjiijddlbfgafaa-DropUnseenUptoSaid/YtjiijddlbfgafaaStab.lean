/- The stable sort, plain: rows as functions of their places ('seg'), what a merge of two sorted parts is, that a stable sorted list is one. No program in sight. -/
import Derived.Sort.LotA
set_option linter.unusedVariables false
namespace Go.Proofs.Ytjiijddlbfgafaa
open Go.Sort

section
variable {α : Type}
/-- f's values at a, a + 1, .., b - 1. -/
def seg (f : Nat → α) (a b : Nat) : List α := (List.range' a (b - a)).map f
theorem seg_len (f : Nat → α) (a b : Nat) : (seg f a b).length = b - a := by simp [seg]
theorem seg_nil (f : Nat → α) {a b : Nat} (h : b ≤ a) : seg f a b = [] := by simp [seg, Nat.sub_eq_zero_of_le h]
theorem seg_split (f : Nat → α) {a m b : Nat} (h1 : a ≤ m) (h2 : m ≤ b) : seg f a b = seg f a m ++ seg f m b := by
  unfold seg
  rw [show b - a = (m - a) + (b - m) by omega, ← List.range'_append_1, List.map_append, show a + (m - a) = m by omega]
theorem seg_congr {f g : Nat → α} {a b : Nat} (h : ∀ i, a ≤ i → i < b → f i = g i) : seg f a b = seg g a b := by
  unfold seg
  refine List.map_congr_left fun i hi => ?_
  rw [List.mem_range'_1] at hi
  exact h i hi.1 (by omega)
theorem seg_shift (f : Nat → α) (a b c : Nat) : seg (fun i => f (i + c)) a b = seg f (a + c) (b + c) := by
  unfold seg
  rw [show b + c - (a + c) = b - a by omega]
  apply List.ext_getElem
  · simp
  · intro i h1 h2
    simp
    congr 1
    omega
/-- A part that lies elsewhere. -/
theorem seg_at {f g : Nat → α} {a b c d : Nat} (hl : b - a = d - c) (h : ∀ i, i < b - a → f (a + i) = g (c + i)) : seg f a b = seg g c d := by
  unfold seg
  apply List.ext_getElem
  · simp [hl]
  · intro i h1 h2
    simp at h1 h2 ⊢
    exact h i (by omega)
theorem seg_one (f : Nat → α) (a : Nat) : seg f a (a + 1) = [f a] := by simp [seg]
theorem mem_seg {f : Nat → α} {a b : Nat} {x : α} : x ∈ seg f a b ↔ ∃ i, a ≤ i ∧ i < b ∧ f i = x := by
  unfold seg
  simp only [List.mem_map, List.mem_range'_1]
  constructor
  · rintro ⟨i, hi, rfl⟩
    exact ⟨i, hi.1, by omega, rfl⟩
  · rintro ⟨i, h1, h2, rfl⟩
    exact ⟨i, ⟨h1, by omega⟩, rfl⟩
theorem pairwise_seg {f : Nat → α} {R : α → α → Prop} {a b : Nat} : (seg f a b).Pairwise R ↔ ∀ i j, a ≤ i → i < j → j < b → R (f i) (f j) := by
  unfold seg
  rw [List.pairwise_iff_getElem]
  constructor
  · intro h i j h1 h2 h3
    have := h (i - a) (j - a) (by simp; omega) (by simp; omega) (by omega)
    simpa [show a + (i - a) = i by omega, show a + (j - a) = j by omega] using this
  · intro h i j h1 h2 h3
    simp at h1 h2 ⊢
    exact h (a + i) (a + j) (by omega) (by omega) (by omega)
end

section
variable {α : Type} (lt : α → α → Bool)
/-- Neither is less. -/
def eqv (x y : α) : Bool := !lt x y && !lt y x
/-- r is sorted, and has of each class what l has, in l's order. -/
structure StableOf (r l : List α) : Prop where
  sorted : r.Pairwise fun x y => lt y x = false
  same : ∀ x, r.filter (eqv lt x) = l.filter (eqv lt x)

variable {lt}
theorem StableOf.refl {l : List α} (h : l.Pairwise fun x y => lt y x = false) : StableOf lt l l := ⟨h, fun _ => rfl⟩
theorem StableOf.trans {r l k : List α} (h : StableOf lt r l) (hk : ∀ x, l.filter (eqv lt x) = k.filter (eqv lt x)) : StableOf lt r k := ⟨h.sorted, fun x => (h.same x).trans (hk x)⟩
theorem eqv_self (hO : SWO lt) (x : α) : eqv lt x x = true := by simp [eqv, hO.irrefl]

theorem StableOf.mem (hO : SWO lt) {r l : List α} (h : StableOf lt r l) {x : α} : x ∈ r ↔ x ∈ l := by
  have e := h.same x
  constructor
  · intro hx
    have : x ∈ r.filter (eqv lt x) := by simp [hx, eqv_self hO]
    rw [e] at this
    exact (List.mem_filter.1 this).1
  · intro hx
    have : x ∈ l.filter (eqv lt x) := by simp [hx, eqv_self hO]
    rw [← e] at this
    exact (List.mem_filter.1 this).1

/-- A STABLE SORTED LIST IS ONE. -/
theorem StableOf.unique (hO : SWO lt) : ∀ {r s : List α}, (r.Pairwise fun x y => lt y x = false) → (s.Pairwise fun x y => lt y x = false) → (∀ x, r.filter (eqv lt x) = s.filter (eqv lt x)) → r = s
  | [], [], _, _, _ => rfl
  | [], b :: s, _, _, h => by
    have := h b
    simp [eqv_self hO] at this
  | a :: r, [], _, _, h => by
    have := h a
    simp [eqv_self hO] at this
  | a :: r, b :: s, hr, hs, h => by
    have hab : a = b := by
      have ma : a ∈ b :: s := by
        have : a ∈ (a :: r).filter (eqv lt a) := by simp [eqv_self hO]
        rw [h a] at this
        exact (List.mem_filter.1 this).1
      have mb : b ∈ a :: r := by
        have : b ∈ (b :: s).filter (eqv lt b) := by simp [eqv_self hO]
        rw [← h b] at this
        exact (List.mem_filter.1 this).1
      have h1 : lt a b = false := by
        rcases List.mem_cons.1 ma with rfl | ma
        · exact hO.irrefl _
        · exact (List.pairwise_cons.1 hs).1 a ma
      have h2 : lt b a = false := by
        rcases List.mem_cons.1 mb with rfl | mb
        · exact hO.irrefl _
        · exact (List.pairwise_cons.1 hr).1 b mb
      have e := h a
      rw [List.filter_cons_of_pos (eqv_self hO a), List.filter_cons_of_pos (by simp [eqv, h1, h2])] at e
      exact (List.cons.inj e).1
    subst hab
    rw [StableOf.unique hO (List.pairwise_cons.1 hr).2 (List.pairwise_cons.1 hs).2 fun x => ?_]
    have e := h x
    by_cases c : eqv lt x a = true
    · rw [List.filter_cons_of_pos c, List.filter_cons_of_pos c] at e
      exact (List.cons.inj e).2
    · rwa [List.filter_cons_of_neg c, List.filter_cons_of_neg c] at e

/-- Lean's own sort is stable. -/
theorem stableOf_mergeSort (hO : SWO lt) (l : List α) : StableOf lt (l.mergeSort fun x y => !lt y x) l := by
  have htr : ∀ a b c : α, (!lt b a) = true → (!lt c b) = true → (!lt c a) = true := fun a b c h1 h2 => by
    simp at h1 h2 ⊢
    exact hO.ntrans _ _ _ h2 h1
  have hto : ∀ a b : α, ((!lt b a) || (!lt a b)) = true := fun a b => by
    cases h : lt b a
    · simp
    · cases h' : lt a b
      · simp
      · have := hO.trans _ _ _ h h'
        rw [hO.irrefl] at this
        cases this
  refine ⟨?_, fun x => ?_⟩
  · exact (List.pairwise_mergeSort htr hto l).imp fun h => by simpa using h
  · have hc : (l.filter (eqv lt x)).Pairwise fun a b => (!lt b a) = true := by
      rw [List.pairwise_iff_forall_sublist]
      intro a b hs
      have ha := hs.subset (show a ∈ [a, b] by simp)
      have hb := hs.subset (show b ∈ [a, b] by simp)
      simp [eqv] at ha hb
      simp
      exact hO.ntrans _ _ _ hb.2.2 ha.2.1
    have hsub := List.sublist_mergeSort htr hto hc (List.filter_sublist)
    have hs2 : (l.filter (eqv lt x)).Sublist ((l.mergeSort fun x y => !lt y x).filter (eqv lt x)) := by
      have := hsub.filter (eqv lt x)
      rwa [List.filter_filter, show (fun a => eqv lt x a && eqv lt x a) = eqv lt x from funext fun a => by simp] at this
    exact (hs2.eq_of_length (((List.mergeSort_perm l _).filter (eqv lt x)).length_eq).symm).symm
theorem StableOf.eq (hO : SWO lt) {r l : List α} (h : StableOf lt r l) : r = l.mergeSort fun x y => !lt y x :=
  StableOf.unique hO h.sorted (stableOf_mergeSort hO l).sorted fun x => (h.same x).trans ((stableOf_mergeSort hO l).same x).symm

/-- TWO SORTED PARTS, MERGED AS symMerge DOES: x1 ++ y1 and x2 ++ y2 merged for themselves. -/
theorem StableOf.join (hO : SWO lt) {x1 x2 y1 y2 r1 r2 : List α} (h1 : StableOf lt r1 (x1 ++ y1)) (h2 : StableOf lt r2 (x2 ++ y2))
    (hx : (x1 ++ x2).Pairwise fun x y => lt y x = false) (hy : (y1 ++ y2).Pairwise fun x y => lt y x = false)
    (hxy : ∀ x ∈ x1, ∀ y ∈ y2, lt y x = false) (hyx : ∀ y ∈ y1, ∀ x ∈ x2, lt y x = true) :
    StableOf lt (r1 ++ r2) (x1 ++ x2 ++ (y1 ++ y2)) := by
  have hyx' : ∀ y ∈ y1, ∀ x ∈ x2, lt x y = false := fun y hy x hx => by
    cases h : lt x y
    · rfl
    · have := hO.trans _ _ _ h (hyx y hy x hx)
      rw [hO.irrefl] at this
      cases this
  refine ⟨?_, fun z => ?_⟩
  · rw [List.pairwise_append]
    refine ⟨h1.sorted, h2.sorted, fun p hp q hq => ?_⟩
    rw [h1.mem hO, List.mem_append] at hp
    rw [h2.mem hO, List.mem_append] at hq
    rw [List.pairwise_append] at hx hy
    rcases hp with hp | hp <;> rcases hq with hq | hq
    · exact hx.2.2 p hp q hq
    · exact hxy p hp q hq
    · exact hyx' p hp q hq
    · exact hy.2.2 p hp q hq
  · rw [List.filter_append, h1.same, h2.same]
    simp only [List.filter_append]
    have key : y1.filter (eqv lt z) = [] ∨ x2.filter (eqv lt z) = [] := by
      rcases hA : y1.filter (eqv lt z) with _ | ⟨p, ps⟩
      · exact .inl rfl
      · rcases hB : x2.filter (eqv lt z) with _ | ⟨q, qs⟩
        · exact .inr rfl
        · exfalso
          have hp : p ∈ y1.filter (eqv lt z) := by rw [hA]; simp
          have hq : q ∈ x2.filter (eqv lt z) := by rw [hB]; simp
          simp [eqv] at hp hq
          have := hyx p hp.1 q hq.1
          have h3 := hO.ntrans _ _ _ hp.2.2 hq.2.1
          rw [h3] at this
          cases this
    rcases key with h | h <;> simp [h]
/-- A part that is merged stands for what it was merged of. -/
theorem StableOf.parts {r p q p0 q0 : List α} (h : StableOf lt r (p ++ q)) (hp : StableOf lt p p0) (hq : StableOf lt q q0) : StableOf lt r (p0 ++ q0) :=
  h.trans fun x => by rw [List.filter_append, List.filter_append, hp.same, hq.same]
end
end Go.Proofs.Ytjiijddlbfgafaa
