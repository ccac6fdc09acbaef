/- Rows of the call's own whose elements have one cell, and the sort's worlds over them; what Compact leaves of a sorted row. -/
import Derived.Test.YtjiijddlbfgafaaOwnK
import Derived.Test.YtjiijddlbfgafaaSpec
import Derived.Lib.SlicesCompact
import Derived.Sort.LotA
set_option linter.unusedVariables false
set_option linter.unusedSimpArgs false
namespace Go.Proofs.Ytjiijddlbfgafaa
open Go.Shelf Go.RowKit Go.Lib Go.Sort
section
variable {α : Type} [Inhabited α] {enc : α → Value} {T : TypeId} {w W : World} {base g cap : Nat} {xs : List α} {d : Array α}
/-- One cell an element. -/
def en1 (enc : α → Value) (x : α) : List Value := [enc x]
omit [Inhabited α] in
theorem en1_len (enc : α → Value) (x : α) : (en1 enc x).length = 1 := rfl
omit [Inhabited α] in
theorem flat1 (enc : α → Value) (xs : List α) : xs.flatMap (en1 enc) = xs.map enc := by
  induction xs with
  | nil => rfl
  | cons x xs ih => rw [List.flatMap_cons, ih]; rfl
theorem Own.holds1 (h : Own (en1 enc) 1 T w base (.slice (some ⟨g, 0, none⟩) xs.length cap) xs) : Holds enc w g 0 xs.toArray ∧ base ≤ g ∧ g < w.heap.size := by
  have hb : base ≤ g ∧ g < w.heap.size := by
    rcases h.2 with ⟨e, _⟩ | ⟨g', cap', cur, e, hb, hg, _⟩
    · cases e
    · cases e; exact ⟨hb, by rw [Array.getElem?_eq_some_iff] at hg; exact hg.1⟩
  refine ⟨fun j hj => ?_, hb⟩
  have hj' : j < xs.length := by simpa using hj
  constructor
  · have := h.cells (g := g) rfl j (enc xs[j]) (by rw [flat1]; simp [hj'])
    rw [Addr.add_lit] at this
    rw [this, getElem!_pos xs.toArray j hj]
    simp
  · rcases h.2 with ⟨e, _⟩ | ⟨g', cap', cur, e, _, hg, _⟩
    · cases e
    · cases e
      simp only [World.frozen?, hg]
      simp
theorem SW.heap1 (h : SW enc w g 0 d W) (hg : g < w.heap.size) : W.heap[g]? = (w.heap[g]?).map (onCells (putCells enc 0 d)) := by
  obtain ⟨n, os, rfl⟩ := h
  unfold sortWorld
  rw [heap_grow_old _ _ (by rw [Sort.size_putRow]; exact hg)]
  simp [putRow, mapBlock, Array.getElem?_modify]
theorem SW.grownBy1 (h : SW enc w g 0 d W) : w.grownBy W (some g) := by
  obtain ⟨n, os, rfl⟩ := h
  refine ⟨rfl, rfl, rfl, ?_, fun i hi hne => ?_⟩
  · unfold sortWorld; rw [size_grow, Sort.size_putRow]; exact Nat.le_add_right _ _
  · unfold sortWorld
    rw [heap_grow_old _ _ (by rw [Sort.size_putRow]; exact hi)]
    have : i ≠ g := fun e => hne (by rw [e])
    simp [putRow, mapBlock, Array.getElem?_modify, Ne.symm this]
/-- A row of the call's own, its first m places read again behind what a sort or Compact does. -/
theorem Own.turned1 (h : Own (en1 enc) 1 T w base (.slice (some ⟨g, 0, none⟩) xs.length cap) xs) (hd : d.size = xs.length) (S : SW enc w g 0 d W) (m : Nat) (hm : m ≤ xs.length) :
    Own (en1 enc) 1 T W base (.slice (some ⟨g, 0, none⟩) m cap) (d.toList.take m) := by
  obtain ⟨_, hb, hg⟩ := h.holds1
  have hh := SW.heap1 S hg
  rcases h.2 with ⟨e, _⟩ | ⟨g', cap', cur, e, _, hc, h1, h2, h3, h4⟩
  · cases e
  · cases e
    rw [hc] at hh
    simp only [Option.map_some, onCells] at hh
    have hle : xs.length ≤ cur.size := by omega
    have hlen : (d.toList.take m).length = m := by simp [hd]; omega
    refine ⟨by rw [flat1]; simp [hd], .inr ⟨g, cap, _, by rw [hlen], hb, hh, by rw [hlen]; omega, h2, by simp [putCells, h3], ?_⟩⟩
    rw [hlen, flat1]
    apply List.ext_getElem?
    intro t
    rw [List.getElem?_take]
    split
    · next ht =>
      have htm : t < m := by omega
      have htc : t < cur.size := by omega
      have hF : t < d.size := by omega
      rw [Array.getElem?_toList]
      simp only [putCells, Array.getElem?_mapIdx, Array.getElem?_eq_getElem htc, Option.map_some]
      rw [if_pos ⟨Nat.zero_le _, by omega⟩]
      simp only [Nat.sub_zero]
      rw [getElem!_pos d t hF]
      simp [hF, htm]
    · next ht =>
      rw [List.getElem?_eq_none]
      simp; omega
end

section
variable {d : Array Int}
/-- What Compact leaves of a sorted row: each number once, rising. -/
theorem compact_sorted (hs : ∀ i j, i ≤ j → j < d.size → d[i]! ≤ d[j]!) : ∀ m, m ≤ d.size → (compactUpTo d m).Pairwise (· < ·) ∧ (∀ x, x ∈ compactUpTo d m ↔ ∃ j, j < m ∧ d[j]! = x)
  | 0, _ => by simp [compactUpTo]
  | m + 1, hm => by
    obtain ⟨h1, h2⟩ := compact_sorted hs m (by omega)
    rw [compactUpTo_succ]
    by_cases hk : keeps d m = true
    · rw [if_pos hk]
      have hk' : m = 0 ∨ d[m]! ≠ d[m - 1]! := by simpa [keeps] using hk
      constructor
      · rw [List.pairwise_append]
        refine ⟨h1, by simp, fun x hx y hy => ?_⟩
        simp at hy; subst hy
        obtain ⟨j, hj, rfl⟩ := (h2 x).1 hx
        have a := hs j (m - 1) (by omega) (by omega)
        have b := hs (m - 1) m (by omega) (by omega)
        rcases hk' with h0 | h0
        · omega
        · omega
      · intro x
        rw [List.mem_append, h2]
        constructor
        · rintro (⟨j, hj, e⟩ | h)
          · exact ⟨j, by omega, e⟩
          · exact ⟨m, by omega, (List.mem_singleton.1 h).symm⟩
        · rintro ⟨j, hj, e⟩
          rcases Nat.lt_or_ge j m with h | h
          · exact .inl ⟨j, h, e⟩
          · obtain rfl : j = m := by omega
            exact .inr (by simp [e])
    · rw [if_neg hk]
      have hk' : ¬ (m = 0 ∨ d[m]! ≠ d[m - 1]!) := by simpa [keeps] using hk
      refine ⟨by simpa using h1, fun x => ?_⟩
      rw [List.append_nil, h2]
      constructor
      · rintro ⟨j, hj, e⟩
        exact ⟨j, by omega, e⟩
      · rintro ⟨j, hj, e⟩
        rcases Nat.lt_or_ge j m with h | h
        · exact ⟨j, h, e⟩
        · obtain rfl : j = m := by omega
          refine ⟨j - 1, by omega, ?_⟩
          rw [← e]
          by_cases h0 : d[j]! = d[j - 1]!
          · exact h0.symm
          · exact absurd (Or.inr h0) hk'
/-- Two rising lists of the same numbers are one. -/
theorem rising_unique : ∀ {a b : List Int}, a.Pairwise (· < ·) → b.Pairwise (· < ·) → (∀ x, x ∈ a ↔ x ∈ b) → a = b
  | [], [], _, _, _ => rfl
  | [], y :: b, _, _, h => by have := (h y).2 (by simp); cases this
  | x :: a, [], _, _, h => by have := (h x).1 (by simp); cases this
  | x :: a, y :: b, ha, hb, h => by
    rw [List.pairwise_cons] at ha hb
    have e : x = y := by
      have h1 := (h x).1 (by simp)
      have h2 := (h y).2 (by simp)
      rcases List.mem_cons.1 h1 with e | h1
      · exact e
      · rcases List.mem_cons.1 h2 with e | h2
        · exact e.symm
        · have := ha.1 y h2; have := hb.1 x h1; omega
    subst e
    rw [rising_unique ha.2 hb.2 fun z => ?_]
    constructor
    · intro hz
      rcases List.mem_cons.1 ((h z).1 (by simp [hz])) with e | h'
      · have := ha.1 z hz; omega
      · exact h'
    · intro hz
      rcases List.mem_cons.1 ((h z).2 (by simp [hz])) with e | h'
      · have := hb.1 z hz; omega
      · exact h'
end
end Go.Proofs.Ytjiijddlbfgafaa
