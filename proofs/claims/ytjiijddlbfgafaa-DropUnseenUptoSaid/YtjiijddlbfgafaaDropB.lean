/- drop.Entries: the matrix of the stripes' tombs. -/
import Derived.Test.YtjiijddlbfgafaaDropA
import Derived.Test.YtjiijddlbfgafaaIter
import Derived.Test.YtjiijddlbfgafaaT
import Derived.Deep.OwnRows
import Derived.RangeFuncBox
set_option linter.unusedVariables false
set_option linter.unusedSimpArgs false
namespace Go.Proofs.Ytjiijddlbfgafaa
open Go.RowKit Go.Lib Go.Shelf
theorem infoT : (Try.prog.info? 38).map (fun i => (i.zero, i.size, i.bytes)) = some (some (.agg #[.string ByteArray.empty, .string ByteArray.empty, .int .u64 0]), 3, 40) := by kernel_rfl
theorem Tomb.enc_len (x : Tomb) : (Tomb.enc x).length = 3 := rfl
theorem Tomb.enc_one (x : Tomb) : ∀ v ∈ Tomb.enc x, v.oneCell' = true := by
  intro v hv
  simp only [Tomb.enc, List.mem_cons, List.not_mem_nil, or_false] at hv
  rcases hv with rfl | rfl | rfl <;> rfl
/-- The matrix at block M, and the slice of the valid tombs (number last + 1). -/
structure Mat (w : World) (M last : Nat) (V : Nat → Value) (R : Nat → List Tomb) : Prop where
  row : w.rowIs M 23 (last + 1) V
  fam : Fam Tomb.enc 3 38 w (M + 1) (last + 2) V R
section
variable {w w1 : World} {M last : Nat} {V : Nat → Value} {R : Nat → List Tomb} {v : Value} {ys : List Tomb}
theorem Mat.later (h : Mat w M last V R) (hb : Below w.heap.size w w1) : Mat w1 M last V R :=
  ⟨h.row.of_block (hb.block M h.row.lt), h.fam.below hb⟩
theorem Mat.alloc (h : Mat w M last V R) (o : Obj) : Mat (w.alloc o) M last V R := h.later ((Below.refl _ _).alloc (Nat.le_refl _) _)
theorem Mat.far {i : Nat} (h : Mat w M last V R) (hi : i < last + 2) : some M ≠ (V i).ownBlock := fun e => by
  have := ((h.fam.own i hi).block_lt e.symm).1
  omega
theorem Mat.valid (h : Mat w M last V R) (hg : w.grownBy w1 (V (last + 1)).ownBlock) (ho : Own Tomb.enc 3 38 w1 (M + 1) v ys) (hl : v.ownBlock = (V (last + 1)).ownBlock ∨ v.ownBlock = some w.heap.size) :
    Mat w1 M last (setAt V (last + 1) v) (setAt R (last + 1) ys) :=
  ⟨(h.row.of_block (hg.block M h.row.lt (h.far (by omega)))).congr fun i hi => (setAt_other _ _ (by omega)).symm, h.fam.append (by omega) hg ho hl⟩
theorem Mat.put {i : Nat} (h : Mat w M last V R) (hi : i ≤ last) (hg : w.grownBy w1 (V i).ownBlock) (ho : Own Tomb.enc 3 38 w1 (M + 1) v ys) (hl : v.ownBlock = (V i).ownBlock ∨ v.ownBlock = some w.heap.size) :
    Mat (w1.setCell ⟨M, i, none⟩ v) M last (setAt V i v) (setAt R i ys) := by
  refine ⟨(h.row.of_block (hg.block M h.row.lt (h.far (by omega)))).set i v, ?_⟩
  have h2 := h.fam.append (by omega) hg ho hl
  refine ⟨fun j hj => ownsRow_setCell_below (h2.own j hj) (by simp) v, h2.apart⟩
end
/-- The tombs of each stripe; at the number behind the last all valid ones. -/
def rowsOf (S : List Int) (ts : List Tomb) (i : Nat) : List Tomb := if i = S.length + 1 then ts.filter validB else (ts.filter validB).filter fun x => strN S x.seq == i
theorem rowsOf_nil (S : List Int) : rowsOf S [] = fun _ => [] := by funext i; simp [rowsOf]
theorem rowsOf_len (S : List Int) (ts : List Tomb) (i : Nat) : (rowsOf S ts i).length ≤ ts.length := by
  unfold rowsOf
  split
  · exact List.length_filter_le _ _
  · exact Nat.le_trans (List.length_filter_le _ _) (List.length_filter_le _ _)
theorem rowsOf_skip {S : List Int} {ts : List Tomb} {x : Tomb} (h : validB x = false) : rowsOf S (ts ++ [x]) = rowsOf S ts := by
  funext i
  simp [rowsOf, List.filter_append, h]
theorem rowsOf_put {S : List Int} {ts : List Tomb} {x : Tomb} (h : validB x = true) :
    setAt (setAt (rowsOf S ts) (S.length + 1) (rowsOf S ts (S.length + 1) ++ [x])) (strN S x.seq) (setAt (rowsOf S ts) (S.length + 1) (rowsOf S ts (S.length + 1) ++ [x]) (strN S x.seq) ++ [x]) = rowsOf S (ts ++ [x]) := by
  have hle := strN_le S x.seq
  funext i
  unfold setAt
  by_cases h1 : i = strN S x.seq
  · subst h1
    rw [if_pos rfl, if_neg (by omega)]
    simp [rowsOf, List.filter_append, h, show strN S x.seq ≠ S.length + 1 by omega]
  · rw [if_neg h1]
    by_cases h2 : i = S.length + 1
    · rw [if_pos h2]; subst h2; simp [rowsOf, List.filter_append, h]
    · rw [if_neg h2]
      simp [rowsOf, List.filter_append, h, h2, Ne.symm h1]
end Go.Proofs.Ytjiijddlbfgafaa
