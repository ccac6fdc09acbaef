/- A row of uint64 that is sorted: 'UW w0 blk off n d W': W is a world of the sort's that began at w0; the row's n places hold d. Plain theorems over the model. -/
import Derived.Test.YtjiijddlbfgafaaProg
import Derived.Test.YtjiijddlbfgafaaUPl
import Derived.Test.YtjiijddlbfgafaaCmp
import Derived.Shelf.GgSortFunc.SW
import Derived.Sort.WalkB12
import Derived.BigQuiet
import Derived.BigRegion
import Derived.CellFam
import Derived.BigCall
import Derived.BigGuard
import Derived.Deep.LoopGhost
import Derived.Deep.DeepCutAuto
import Derived.Deep.DeepMust
import Derived.Lib.Hide
set_option linter.unusedVariables false
set_option linter.unusedSimpArgs false
namespace Go.Proofs.Ytjiijddlbfgafaa
open Go.Shelf Go.RowKit Go.Lib Go.Sort

structure UW (w0 : World) (blk off n : Nat) (d : Array Int) (W : World) : Prop where
  size : d.size = n
  sw : SW (Value.int .u64) w0 blk off d W
  row : ∃ d0 : Array Int, d0.size = n ∧ Holds (Value.int .u64) w0 blk off d0
  blk : blk < w0.heap.size
section
variable {w0 W : World} {blk off n : Nat} {d : Array Int}
theorem UW.start {d : Array Int} (h : Holds (Value.int .u64) w0 blk off d) (hb : blk < w0.heap.size) : UW w0 blk off d.size d w0 := ⟨rfl, SW.start h, ⟨d, rfl, h⟩, hb⟩
theorem UW.holds (h : UW w0 blk off n d W) : Holds (Value.int .u64) W blk off d := by
  obtain ⟨d0, h1, h2⟩ := h.row
  exact h.sw.holds h.blk h2 (by rw [h.size, h1])
theorem UW.cell (h : UW w0 blk off n d W) : ∀ t, t < n → W.cell? ⟨blk, off + t, none⟩ = some (.int .u64 d[t]!) := fun t ht => (h.holds t (by rw [h.size]; exact ht)).1
theorem UW.free (h : UW w0 blk off n d W) : ∀ t, t < n → W.frozen? ⟨blk, off + t, none⟩ = false := fun t ht => (h.holds t (by rw [h.size]; exact ht)).2
theorem UW.drewN (h : UW w0 blk off n d W) (q : Nat) : UW w0 blk off n d (W.drewN q) := ⟨h.size, h.sw.drewN q, h.row, h.blk⟩
theorem UW.drew (h : UW w0 blk off n d W) : UW w0 blk off n d W.drew := h.drewN 1
theorem UW.alloc (h : UW w0 blk off n d W) (o : Obj) : UW w0 blk off n d (W.alloc o) := ⟨h.size, h.sw.alloc o, h.row, h.blk⟩
theorem UW.setNew (h : UW w0 blk off n d W) (b o : Nat) (v : Value) (hb : w0.heap.size ≤ b) : UW w0 blk off n d (W.setCell ⟨b, o, none⟩ v) := ⟨h.size, h.sw.setCell_new b o v hb, h.row, h.blk⟩
theorem UW.le (h : UW w0 blk off n d W) : w0.heap.size ≤ W.heap.size := h.sw.le
theorem UW.swap (h : UW w0 blk off n d W) (i j : Nat) (hi : i < n) (hj : j < n) :
    UW w0 blk off n (swp d i j) ((W.setCell ⟨blk, off + i, none⟩ (.int .u64 d[j]!)).setCell ⟨blk, off + j, none⟩ (.int .u64 d[i]!)).drew :=
  UW.drew ⟨by rw [size_swp]; exact h.size, h.sw.swap h.blk i j (by rw [h.size]; exact hi) (by rw [h.size]; exact hj), h.row, h.blk⟩
end

/-- cmp.Less at uint64, by the sort's own word. -/
theorem lessL_any (a b : Int) (w : World) : Calls Try.prog 30 #[.int .u64 a, .int .u64 b] w fun e w' => e = .returned (.bool (ltInt a b)) ∧ w' = w :=
  (lessU_any a b w).mono fun _ _ h => ⟨h.1, h.2.symm⟩
/-- What a function that sorts a part leaves. -/
def SortedPart (w0 : World) (blk off n a b : Nat) (d : Array Int) (e : Ending) (W : World) : Prop :=
  e = .returned (.tuple #[]) ∧ ∃ d', UW w0 blk off n d' W ∧ PermIn a b d d' ∧ SortedIn ltInt a b d'
/-- What one that exchanges within a part leaves. -/
def MovedPart (w0 : World) (blk off n a b : Nat) (d : Array Int) (e : Ending) (W : World) : Prop :=
  e = .returned (.tuple #[]) ∧ ∃ d', UW w0 blk off n d' W ∧ PermIn a b d d'
end Go.Proofs.Ytjiijddlbfgafaa
