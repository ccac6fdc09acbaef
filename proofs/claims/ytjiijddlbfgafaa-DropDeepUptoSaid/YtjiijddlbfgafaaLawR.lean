/- The plain laws of DropDeep. -/
import Derived.Test.YtjiijddlbfgafaaLawQ
import Derived.Test.YtjiijddlbfgafaaOpen
set_option linter.unusedVariables false
set_option linter.unusedSimpArgs false
set_option linter.unusedSectionVars false
namespace Go.Proofs.Ytjiijddlbfgafaa
/-- The number above all. -/
abbrev maxU : Int := 18446744073709551615
theorem rising_one {S : List Int} {a : Int} (h : Rising [a] S) : S = [a] :=
  Rising.unique h ⟨by simp, fun x => Iff.rfl⟩
theorem strN_max {q : Int} (h : InU q) : strN [maxU] q = 0 := by
  have := h.2
  simp [strN]
  omega
theorem deep_t {t : List Tomb} (h : ∀ x ∈ t, InU x.seq) : keptT [maxU] [] t = [] := by
  unfold keptT
  rw [List.filter_eq_nil_iff]
  intro x hx
  have hu := h x (List.mem_filter.1 hx).1
  simp [tombKeep, strN_max hu, touchedS]
theorem cover_valid (t : List Tomb) (key : ByteArray) {q q' : Int} (hq : 72057594037927935 ≤ q) (hq' : 72057594037927935 ≤ q') : coverS (t.filter validB) key q = coverS t key q' := by
  unfold coverS
  rw [List.foldl_filter]
  congr 1
  funext acc x
  by_cases hv : validB x = true
  · have hs : x.seq ≤ 72057594037927935 := by
      unfold validB at hv
      simp only [Bool.and_eq_true, decide_eq_true_eq] at hv
      exact hv.2
    rw [if_pos hv]
    unfold coverStep
    have h1 : decide (x.seq ≤ q) = true := decide_eq_true (by omega)
    have h2 : decide (x.seq ≤ q') = true := decide_eq_true (by omega)
    rw [h1, h2]
  · rw [if_neg hv, coverStep_no (fun h => hv h.1)]
theorem deep_keep {t : List Tomb} {sl : List Ent} {i : Nat} {x : Ent} (ht : ∀ x ∈ t, InU x.seq) (hsl : ∀ x ∈ sl, InU x.seq) (hx : sl[i]? = some x) :
    keepAt [maxU] [] (rowsOf [maxU] t) sl i x = true ↔ ¬ (0 < i ∧ ∃ y, sl[i - 1]? = some y ∧ y.key = x.key) ∧ x.kind ≠ 0 ∧ ((coverS t x.key maxU).2 && decide ((coverS t x.key maxU).1 > x.seq)) = false := by
  have hxu := hsl x (List.mem_of_getElem? hx)
  have hr : rowsOf [maxU] t 0 = t.filter validB := by
    unfold rowsOf
    rw [if_neg (by simp)]
    exact List.filter_eq_self.2 fun y hy => by simp [strN_max (ht y (List.mem_filter.1 hy).1)]
  unfold keepAt
  rw [strN_max hxu, if_neg (by simp), hr, cover_valid t x.key (q' := maxU) (Int.le_refl _) (by decide)]
  have hp : (0 < i ∧ ∃ y, sl[i - 1]? = some y ∧ y.key = x.key ∧ strN [maxU] y.seq = 0) ↔ (0 < i ∧ ∃ y, sl[i - 1]? = some y ∧ y.key = x.key) := by
    constructor
    · rintro ⟨h, y, a, b, _⟩; exact ⟨h, y, a, b⟩
    · rintro ⟨h, y, a, b⟩; exact ⟨h, y, a, b, strN_max (hsl y (List.mem_of_getElem? a))⟩
  split
  · rename_i h
    simp only [Bool.false_eq_true, false_iff]
    exact fun g => g.1 (hp.1 h)
  rename_i h
  split
  · rename_i g
    simp only [Bool.false_eq_true, false_iff]
    exact fun k => k.2.1 g.2.1
  rename_i g
  have hb : x.kind ≠ 0 := fun e => g ⟨rfl, e, by simp [bearsS]⟩
  simp only [Bool.not_eq_true']
  exact ⟨fun k => ⟨fun g => h (hp.2 g), hb, k⟩, fun k => k.2.2⟩
/-- The entries that are kept of all. -/
abbrev deepE (t : List Tomb) (l : List Ent) : List Ent := keptE [maxU] [] t l
theorem keptTo_has {p : Nat → Ent → Bool} {sl : List Ent} {j : Nat} {y : Ent} (hj : sl[j]? = some y) (hp : p j y = true) {n : Nat} (hn : j < n) : y ∈ keptTo p sl n := by
  obtain ⟨r, hr⟩ := keptTo_prefix (p := p) (sl := sl) (show j + 1 ≤ n by omega)
  rw [← hr, keptTo_yes hj hp]
  simp
section
variable {t : List Tomb} {l : List Ent} (ht : ∀ x ∈ t, InU x.seq) (hl : ∀ x ∈ l, InU x.seq)
include ht hl
theorem deep_sl : ∀ x ∈ sortedE l, InU x.seq := fun x hx => hl x (((sortedE_stable l).mem swo_elt).1 hx)
theorem deep_first {j : Nat} {y : Ent} (hj : (sortedE l)[j]? = some y) (hno : ¬ (0 < j ∧ ∃ z, (sortedE l)[j - 1]? = some z ∧ z.key = y.key)) : newestS l y.key maxU = some y := by
  have hsu := deep_sl ht hl
  rw [newest_find, List.find?_eq_some_iff_getElem]
  obtain ⟨hlt, hjy⟩ := List.getElem?_eq_some_iff.1 hj
  refine ⟨looks_iff.2 ⟨rfl, (hsu y (List.mem_of_getElem? hj)).2⟩, j, hlt, hjy, fun i hi => ?_⟩
  rw [Bool.not_eq_true', Bool.eq_false_iff]
  intro hk
  obtain ⟨hk, _⟩ := looks_iff.1 hk
  have hz : (sortedE l)[i]? = some (sortedE l)[i] := List.getElem?_eq_getElem (by omega)
  obtain ⟨u, hu⟩ : ∃ u, (sortedE l)[j - 1]? = some u := ⟨_, List.getElem?_eq_getElem (by omega)⟩
  have hs : ∀ e, e ∈ sortedE l → strN [maxU] e.seq = 0 := fun e he => strN_max (hsu e he)
  have := between (S := [maxU]) (sortedE_sorted l) (show i ≤ j - 1 by omega) (show j - 1 < j by omega) hz hu hj hk ((hs _ (List.mem_of_getElem? hz)).trans (hs _ (List.mem_of_getElem? hj)).symm)
  exact hno ⟨by omega, u, hu, this.1⟩
theorem deep_get {i : Nat} {y : Ent} (h : (deepE t l)[i]? = some y) : ∃ j, (sortedE l)[j]? = some y ∧ (keptTo (keepAt [maxU] [] (rowsOf [maxU] t) (sortedE l)) (sortedE l) j).length = i ∧ j < (sortedE l).length ∧
    ¬ (0 < j ∧ ∃ z, (sortedE l)[j - 1]? = some z ∧ z.key = y.key) ∧ y.kind ≠ 0 ∧ ((coverS t y.key maxU).2 && decide ((coverS t y.key maxU).1 > y.seq)) = false := by
  obtain ⟨j, hj, hjy, hp, hlen⟩ := keptTo_get _ _ _ h
  exact ⟨j, hjy, hlen, hj, (deep_keep ht (deep_sl ht hl) hjy).1 hp⟩
theorem deep_kind {i : Nat} {y : Ent} (h : (deepE t l)[i]? = some y) : y.kind ≠ 0 := by
  obtain ⟨j, _, _, _, _, hk, _⟩ := deep_get ht hl h
  exact hk
theorem deep_rise {i : Nat} {y z : Ent} (hi : (deepE t l)[i]? = some z) (h : (deepE t l)[i + 1]? = some y) : klt z.key y.key = true := by
  obtain ⟨j, hjy, hlen, hj, hno, _⟩ := deep_get ht hl h
  have hz' : (keptTo (keepAt [maxU] [] (rowsOf [maxU] t) (sortedE l)) (sortedE l) j)[i]? = some z := by
    obtain ⟨r, hr⟩ := keptTo_prefix (p := keepAt [maxU] [] (rowsOf [maxU] t) (sortedE l)) (sl := sortedE l) (Nat.le_of_lt hj)
    have hi' := hi
    unfold deepE keptE at hi'
    rw [← hr, List.getElem?_append_left (by omega)] at hi'
    exact hi'
  obtain ⟨j', hj', hjz, _, _⟩ := keptTo_get _ _ _ hz'
  have hle := pair_get (sortedE_sorted l) hj' hjz hjy
  rcases klt_total z.key y.key with c | c | c
  · exact c
  · exfalso
    have hsu := deep_sl ht hl
    obtain ⟨u, hu⟩ : ∃ u, (sortedE l)[j - 1]? = some u := ⟨_, List.getElem?_eq_getElem (by omega)⟩
    have := between (S := [maxU]) (sortedE_sorted l) (show j' ≤ j - 1 by omega) (show j - 1 < j by omega) hjz hu hjy c ((strN_max (hsu _ (List.mem_of_getElem? hjz))).trans (strN_max (hsu _ (List.mem_of_getElem? hjy))).symm)
    exact hno ⟨by omega, u, hu, this.1⟩
  · rw [((eltB_false_iff y z).1 hle).1] at c
    cases c
theorem deep_seen {i : Nat} {y : Ent} (h : (deepE t l)[i]? = some y) (hk : y.kind = 1) : seenS l t y.key maxU = (y.val, true) := by
  obtain ⟨j, hjy, _, _, hno, _, hc⟩ := deep_get ht hl h
  unfold seenS
  rw [deep_first ht hl hjy hno]
  simp only
  rw [if_pos ⟨hk, hc⟩]
theorem deep_there {key : ByteArray} (hs : (seenS l t key maxU).2 = true) : ∃ y ∈ deepE t l, y.key = key := by
  unfold seenS at hs
  cases ho : newestS l key maxU with
  | none => rw [ho] at hs; cases hs
  | some e =>
    rw [ho] at hs
    simp only at hs
    split at hs
    · rename_i hc
      rw [newest_find, List.find?_eq_some_iff_getElem] at ho
      obtain ⟨h1, j, hlt, hje, hbef⟩ := ho
      obtain ⟨rfl, h2⟩ := looks_iff.1 h1
      have hje' : (sortedE l)[j]? = some e := by rw [List.getElem?_eq_getElem hlt, hje]
      have hsu := deep_sl ht hl
      refine ⟨e, keptTo_has hje' ((deep_keep ht hsu hje').2 ⟨?_, by omega, hc.2⟩) hlt, rfl⟩
      rintro ⟨hj0, z, hz, hzk⟩
      have hb := hbef (j - 1) (by omega)
      rw [List.getElem?_eq_getElem (by omega)] at hz
      cases hz
      rw [looks_iff.2 ⟨hzk, (hsu _ (List.getElem_mem _)).2⟩] at hb
      cases hb
    · cases hs
end
end Go.Proofs.Ytjiijddlbfgafaa
