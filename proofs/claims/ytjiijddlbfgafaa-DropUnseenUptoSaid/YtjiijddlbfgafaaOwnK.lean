/- Between a row of the call's own ('Own') and the sort's worlds ('SWK', 'UW'). Plain theorems over the model. -/
import Derived.Test.YtjiijddlbfgafaaRow
import Derived.Shelf.SlSortCmp.KitK
import Derived.Shelf.GgSortFunc.SW
set_option linter.unusedVariables false
set_option linter.unusedSimpArgs false
namespace Go.Proofs.Ytjiijddlbfgafaa
open Go.Shelf Go.RowKit Go.Lib Go.Sort

/-- w' is w with draws and new blocks. -/
def Grew (w w' : World) : Prop := ∃ q os, w' = grow (w.drewN q) os
theorem grow_drewN (w : World) (os : Array Obj) (q : Nat) : (grow w os).drewN q = grow (w.drewN q) os := rfl
theorem drewN_zero (w : World) : w.drewN 0 = w := rfl
theorem drewN_drewN (w : World) (a b : Nat) : (w.drewN a).drewN b = w.drewN (a + b) := by simp [World.drewN, Nat.add_assoc]
theorem Grew.refl (w : World) : Grew w w := ⟨0, #[], by rw [grow_empty]; rfl⟩
theorem Grew.alloc {w w1 : World} (h : Grew w w1) (o : Obj) : Grew w (w1.alloc o) := by
  obtain ⟨q, os, rfl⟩ := h
  exact ⟨q, os ++ #[o], by rw [alloc_eq_grow, grow_grow]⟩
theorem Grew.drewN {w w1 : World} (h : Grew w w1) (n : Nat) : Grew w (w1.drewN n) := by
  obtain ⟨q, os, rfl⟩ := h
  exact ⟨q + n, os, by rw [grow_drewN, drewN_drewN]⟩
theorem Grew.drew {w w1 : World} (h : Grew w w1) : Grew w w1.drew := h.drewN 1
theorem Grew.trans {w w1 w2 : World} (h : Grew w w1) (k : Grew w1 w2) : Grew w w2 := by
  obtain ⟨q, os, rfl⟩ := h
  obtain ⟨p, os', rfl⟩ := k
  exact ⟨q + p, os ++ os', by rw [grow_drewN, grow_grow, drewN_drewN]⟩
theorem Grew.below {w w1 : World} (h : Grew w w1) : Below w.heap.size w w1 := by
  obtain ⟨q, os, rfl⟩ := h
  exact ⟨rfl, rfl, rfl, by rw [size_grow]; exact Nat.le_add_right _ _, fun k hk => heap_grow_old (w.drewN q) os hk⟩

theorem flatK_eq {α : Type} [Inhabited α] {enc : α → List Value} {k : Nat} (hk : ∀ x, (enc x).length = k) (d : Array α) : (flatK enc k d).toList = d.toList.flatMap enc := by
  apply List.ext_getElem?
  intro t
  rcases Nat.lt_or_ge t (d.size * k) with h | h
  · have k0 : 0 < k := by rcases Nat.eq_zero_or_pos k with h' | h'; · subst h'; simp at h
                          · exact h'
    have hd : t / k < d.size := (Nat.div_lt_iff_lt_mul k0).2 h
    have e1 := get_flatK enc k d t h
    have e2 := flatMap_get hk d.toList (t / k) (t % k) d[t / k]! (by simp [hd]) (Nat.mod_lt _ k0)
    rw [show t / k * k + t % k = t from by rw [Nat.mul_comm]; exact Nat.div_add_mod t k] at e2
    have hF : t < (flatK enc k d).size := by rw [size_flatK]; exact h
    rw [e2, Array.getElem?_toList, Array.getElem?_eq_getElem hF]
    rw [getElem!_pos (flatK enc k d) t hF] at e1
    rw [e1]
    have hm : t % k < (enc d[t / k]!).length := by rw [hk]; exact Nat.mod_lt _ k0
    rw [List.getElem?_eq_getElem hm, getElem!_pos (enc d[t / k]!) (t % k) hm]
  · rw [List.getElem?_eq_none (by simp; exact h), List.getElem?_eq_none (by rw [flatMap_len hk]; simpa using h)]

section
variable {α : Type} [Inhabited α] {enc : α → List Value} {k : Nat} {T : TypeId} {w W : World} {base g cap : Nat} {xs : List α} {d : Array α}
theorem Own.holdsK (hk : ∀ x, (enc x).length = k) (h : Own enc k T w base (.slice (some ⟨g, 0, none⟩) xs.length cap) xs) : HoldsK enc k w g 0 xs.toArray ∧ base ≤ g ∧ g < w.heap.size := by
  have hl : (flatK enc k xs.toArray).toList = xs.flatMap enc := by rw [flatK_eq hk]
  have hs : (flatK enc k xs.toArray).size = (xs.flatMap enc).length := by rw [← hl]; simp
  have hb : base ≤ g ∧ g < w.heap.size := by
    rcases h.2 with ⟨e, _⟩ | ⟨g', cap', cur, e, hb, hg, _⟩
    · cases e
    · cases e; exact ⟨hb, by rw [Array.getElem?_eq_some_iff] at hg; exact hg.1⟩
  refine ⟨fun j hj => ?_, hb⟩
  have hj' : j < (xs.flatMap enc).length := by rw [← hs]; exact hj
  constructor
  · have := h.cells (g := g) rfl j (xs.flatMap enc)[j] (List.getElem?_eq_getElem hj')
    rw [Addr.add_lit] at this
    rw [this]
    simp only [id]
    rw [getElem!_pos (flatK enc k xs.toArray) j hj]
    congr 1
    have : (flatK enc k xs.toArray).toList[j]'(by simpa using hj) = (xs.flatMap enc)[j] := by simp only [hl]
    simpa using this.symm
  · rcases h.2 with ⟨e, _⟩ | ⟨g', cap', cur, e, _, hg, _⟩
    · cases e
    · cases e
      simp only [World.frozen?, hg]
      simp

theorem SWK.heap (h : SWK enc k w g 0 d W) (hg : g < w.heap.size) : W.heap[g]? = (w.heap[g]?).map (onCells (putCells id 0 (flatK enc k d))) := by
  obtain ⟨n, os, rfl⟩ := h
  unfold sortWorldK
  rw [heap_grow_old _ _ (by rw [size_putRowK]; exact hg)]
  simp [putRowK, putRow, mapBlock, Array.getElem?_modify]
theorem SWK.grownBy (h : SWK enc k w g 0 d W) : w.grownBy W (some g) := by
  obtain ⟨n, os, rfl⟩ := h
  refine ⟨rfl, rfl, rfl, ?_, fun i hi hne => ?_⟩
  · unfold sortWorldK; rw [size_grow, size_putRowK]; exact Nat.le_add_right _ _
  · unfold sortWorldK
    rw [heap_grow_old _ _ (by rw [size_putRowK]; exact hi)]
    have : i ≠ g := fun e => hne (by rw [e])
    simp [putRowK, putRow, mapBlock, Array.getElem?_modify, Ne.symm this]
/-- A row of the call's own, sorted. -/
theorem Own.sorted (hk : ∀ x, (enc x).length = k) (h : Own enc k T w base (.slice (some ⟨g, 0, none⟩) xs.length cap) xs) (hd : d.size = xs.length) (S : SWK enc k w g 0 d W) :
    Own enc k T W base (.slice (some ⟨g, 0, none⟩) xs.length cap) d.toList := by
  obtain ⟨_, hb, hg⟩ := Own.holdsK hk h
  have hh := SWK.heap S hg
  rcases h.2 with ⟨e, _⟩ | ⟨g', cap', cur, e, _, hc, h1, h2, h3, h4⟩
  · cases e
  · cases e
    rw [hc] at hh
    simp only [Option.map_some, onCells] at hh
    have hl : (d.toList.flatMap enc).length = xs.length * k := by rw [flatMap_len hk]; simp [hd]
    have hf : (flatK enc k d).size = xs.length * k := by rw [size_flatK, hd]
    have hle : xs.length * k ≤ cur.size := by rw [h3]; exact Nat.mul_le_mul_right k h1
    refine ⟨by rw [hl]; simp [hd], .inr ⟨g, cap, _, by simp [hd], hb, hh, by simp [hd]; exact h1, h2, by simp [putCells, h3], ?_⟩⟩
    rw [← flatK_eq hk d]
    apply List.ext_getElem?
    intro t
    rw [List.getElem?_take]
    split
    · next ht =>
      have ht' : t < xs.length * k := by simpa [hd] using ht
      have htc : t < cur.size := by omega
      rw [Array.getElem?_toList, Array.getElem?_toList]
      simp only [putCells, Array.getElem?_mapIdx, Array.getElem?_eq_getElem htc, Option.map_some]
      have hF : t < (flatK enc k d).size := by rw [hf]; exact ht'
      rw [if_pos ⟨Nat.zero_le _, by omega⟩, Array.getElem?_eq_getElem hF]
      simp only [id, Nat.sub_zero]
      rw [getElem!_pos (flatK enc k d) t hF]
    · next ht =>
      rw [Array.getElem?_toList, Array.getElem?_eq_none]
      rw [hf]; simpa [hd] using ht
end
end Go.Proofs.Ytjiijddlbfgafaa
