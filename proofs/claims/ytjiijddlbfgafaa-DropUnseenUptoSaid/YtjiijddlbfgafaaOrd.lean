/- The orders of keys and entries, plain. No program in sight. -/
import Derived.Test.YtjiijddlbfgafaaSpec
import Derived.Test.YtjiijddlbfgafaaStab
import Derived.Shelf.SlSortCmp.Insertion
set_option linter.unusedVariables false
set_option linter.unusedSimpArgs false
namespace Go.Proofs.Ytjiijddlbfgafaa
open Go.Sort

theorem bl_iff : ∀ (x y : List UInt8), Op.bytesLess x y = true ↔ x < y
  | [], [] => by simp [Op.bytesLess]
  | _ :: _, [] => by simp [Op.bytesLess]
  | [], _ :: _ => by simp [Op.bytesLess]
  | a :: x, b :: y => by
    rw [Op.bytesLess, List.cons_lt_cons_iff, ← bl_iff x y]
    simp
theorem klt_iff (a b : ByteArray) : klt a b = true ↔ a.data.toList < b.data.toList := by
  unfold klt
  rw [bl_iff, ByteArray.toList_eq, ByteArray.toList_eq]
theorem bytes_ext {a b : ByteArray} (h : a.data.toList = b.data.toList) : a = b := by
  cases a; cases b
  simp only at h
  congr 1
  exact Array.ext' h
theorem klt_false_iff (a b : ByteArray) : klt a b = false ↔ ¬ a.data.toList < b.data.toList := by
  rw [← klt_iff]; simp
theorem klt_irrefl (a : ByteArray) : klt a a = false := by
  rw [klt_false_iff]; exact List.lt_irrefl _
theorem klt_trans {a b c : ByteArray} (h1 : klt a b = true) (h2 : klt b c = true) : klt a c = true := by
  rw [klt_iff] at *
  exact List.lt_trans h1 h2
theorem klt_total (a b : ByteArray) : klt a b = true ∨ a = b ∨ klt b a = true := by
  rw [klt_iff, klt_iff]
  by_cases h : a.data.toList < b.data.toList
  · exact .inl h
  · by_cases h' : b.data.toList < a.data.toList
    · exact .inr (.inr h')
    · exact .inr (.inl (bytes_ext (List.le_antisymm (List.not_lt.1 h') (List.not_lt.1 h))))
theorem klt_asymm {a b : ByteArray} (h : klt a b = true) : klt b a = false := by
  cases h' : klt b a
  · rfl
  · have := klt_trans h h'
    rw [klt_irrefl] at this
    cases this
theorem klt_ne {a b : ByteArray} (h : klt a b = true) : a ≠ b := by
  rintro rfl
  rw [klt_irrefl] at h
  cases h
theorem klt_ntrans {a b c : ByteArray} (h1 : klt a b = false) (h2 : klt b c = false) : klt a c = false := by
  rcases klt_total b a with h | rfl | h
  · rcases klt_total c b with h' | rfl | h'
    · exact klt_asymm (klt_trans h' h)
    · exact h1
    · rw [h2] at h'; cases h'
  · exact h2
  · rw [h1] at h; cases h
theorem toList_inj {a b : ByteArray} : a.toList = b.toList ↔ a = b := by
  constructor
  · intro h
    rw [ByteArray.toList_eq, ByteArray.toList_eq] at h
    exact bytes_ext h
  · rintro rfl; rfl
theorem kle_eq (a b : ByteArray) : kle a b = !klt b a := by
  unfold kle
  rcases klt_total a b with h | rfl | h
  · rw [show Op.bytesLess a.toList b.toList = true from h, klt_asymm h]; rfl
  · rw [klt_irrefl]; simp
  · rw [h, show Op.bytesLess a.toList b.toList = false from klt_asymm h]
    have : a.toList ≠ b.toList := fun e => klt_ne h (toList_inj.1 e).symm
    simpa using this

theorem cmpB_neg : ∀ (x y : List UInt8), Lib.compareBytes x y < 0 ↔ x < y
  | [], [] => by simp [Lib.compareBytes]
  | [], _ :: _ => by simp [Lib.compareBytes]
  | _ :: _, [] => by simp [Lib.compareBytes]
  | a :: x, b :: y => by
    rw [Lib.compareBytes, List.cons_lt_cons_iff, ← cmpB_neg x y]
    by_cases h1 : a < b
    · simp [h1]
    · by_cases h2 : b < a
      · have : ¬ a = b := by rintro rfl; exact h1 h2
        simp [h1, h2, this]
      · have : a = b := UInt8.le_antisymm (UInt8.not_lt.1 h2) (UInt8.not_lt.1 h1)
        simp [h1, h2, this]
theorem cmpB_zero : ∀ (x y : List UInt8), Lib.compareBytes x y = 0 ↔ x = y
  | [], [] => by simp [Lib.compareBytes]
  | [], _ :: _ => by simp [Lib.compareBytes]
  | _ :: _, [] => by simp [Lib.compareBytes]
  | a :: x, b :: y => by
    rw [Lib.compareBytes, List.cons.injEq, ← cmpB_zero x y]
    by_cases h1 : a < b
    · have : ¬ a = b := by rintro rfl; exact UInt8.lt_irrefl _ h1
      simp [h1, this]
    · by_cases h2 : b < a
      · have : ¬ a = b := by rintro rfl; exact h1 h2
        simp [h1, h2, this]
      · have : a = b := UInt8.le_antisymm (UInt8.not_lt.1 h2) (UInt8.not_lt.1 h1)
        simp [h1, h2, this]
theorem cmpS_neg (a b : ByteArray) : cmpS a b < 0 ↔ klt a b = true := by
  unfold cmpS; rw [cmpB_neg, klt_iff]
theorem cmpS_zero (a b : ByteArray) : cmpS a b = 0 ↔ a = b := by
  unfold cmpS; rw [cmpB_zero]
  exact ⟨bytes_ext, fun h => by rw [h]⟩
theorem cmpI_neg (x y : Int) : cmpI x y < 0 ↔ x < y := by
  unfold cmpI
  split
  · simp_all
  · split <;> simp_all
theorem cmpI_zero (x y : Int) : cmpI x y = 0 ↔ x = y := by
  unfold cmpI
  split
  · simp; omega
  · split
    · simp; omega
    · simp; omega
theorem or3_neg (a b c : Int) : or3 a b c < 0 ↔ a < 0 ∨ a = 0 ∧ (b < 0 ∨ b = 0 ∧ c < 0) := by
  unfold or3
  repeat' split
  all_goals omega
theorem or3_zero (a b c : Int) : or3 a b c = 0 ↔ a = 0 ∧ b = 0 ∧ c = 0 := by
  unfold or3
  repeat' split
  all_goals omega
theorem cmpK_neg (a b : IKey) : cmpK a b < 0 ↔ klt a.key b.key = true ∨ a.key = b.key ∧ (b.seq < a.seq ∨ b.seq = a.seq ∧ b.kind < a.kind) := by
  unfold cmpK
  rw [or3_neg, cmpS_neg, cmpS_zero, cmpI_neg, cmpI_zero, cmpI_neg]
theorem cmpK_zero (a b : IKey) : cmpK a b = 0 ↔ a.key = b.key ∧ b.seq = a.seq ∧ b.kind = a.kind := by
  unfold cmpK
  rw [or3_zero, cmpS_zero, cmpI_zero, cmpI_zero]

/-- The order of entries. -/
def eltB (a b : Ent) : Bool := ltOf cmpE a b
theorem eltB_iff (a b : Ent) : eltB a b = true ↔ klt a.key b.key = true ∨ a.key = b.key ∧ (b.seq < a.seq ∨ b.seq = a.seq ∧ b.kind < a.kind) := by
  unfold eltB ltOf cmpE
  rw [decide_eq_true_eq, cmpK_neg]
  exact Iff.rfl
theorem eltB_false_iff (a b : Ent) : eltB a b = false ↔ klt a.key b.key = false ∧ (a.key = b.key → a.seq ≤ b.seq ∧ (b.seq = a.seq → a.kind ≤ b.kind)) := by
  rw [← Bool.not_eq_true, eltB_iff]
  cases h : klt a.key b.key
  · simp only [Bool.false_eq_true, false_or, not_and, true_and]
    constructor
    · intro h1 h2
      have := h1 h2
      omega
    · intro h1 h2
      have := h1 h2
      omega
  · simp
theorem swo_elt : SWO (ltOf cmpE) where
  irrefl x := by
    show eltB x x = false
    rw [eltB_false_iff]
    exact ⟨klt_irrefl _, fun _ => ⟨Int.le_refl _, fun _ => Int.le_refl _⟩⟩
  trans x y z h1 h2 := by
    show eltB x z = true
    have h1 : eltB x y = true := h1
    have h2 : eltB y z = true := h2
    rw [eltB_iff] at *
    rcases h1 with h1 | ⟨e1, h1⟩
    · rcases h2 with h2 | ⟨e2, h2⟩
      · exact .inl (klt_trans h1 h2)
      · exact .inl (by rw [← e2]; exact h1)
    · rcases h2 with h2 | ⟨e2, h2⟩
      · exact .inl (by rw [e1]; exact h2)
      · exact .inr ⟨e1.trans e2, by omega⟩
  ntrans x y z h1 h2 := by
    show eltB x z = false
    have h1 : eltB x y = false := h1
    have h2 : eltB y z = false := h2
    rw [eltB_false_iff] at *
    obtain ⟨a1, b1⟩ := h1
    obtain ⟨a2, b2⟩ := h2
    refine ⟨klt_ntrans a1 a2, fun e => ?_⟩
    have exy : x.key = y.key := by
      rcases klt_total x.key y.key with h | h | h
      · rw [a1] at h; cases h
      · exact h
      · rw [← e, h] at a2
        cases a2
    have eyz : y.key = z.key := exy.symm.trans e
    have k1 := b1 exy
    have k2 := b2 eyz
    exact ⟨by omega, fun e' => by
      have : y.seq = x.seq := by omega
      have t1 := k1.2 this
      have t2 := k2.2 (by omega)
      omega⟩
/-- ikey.Sorted -/
def sortedE (l : List Ent) : List Ent := l.mergeSort fun x y => !eltB y x
theorem sortedE_stable (l : List Ent) : StableOf (ltOf cmpE) (sortedE l) l := stableOf_mergeSort swo_elt l
end Go.Proofs.Ytjiijddlbfgafaa
