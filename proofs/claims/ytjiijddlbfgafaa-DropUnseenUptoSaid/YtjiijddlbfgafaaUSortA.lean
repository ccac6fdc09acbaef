/- slices.reverseRangeOrdered at uint64. PRINTED BY wip/tpl/SortU.py. -/
import Derived.Test.YtjiijddlbfgafaaUKit
set_option linter.unusedVariables false
set_option linter.unusedSimpArgs false
namespace Go.Proofs.Ytjiijddlbfgafaa
open Go.Shelf Go.RowKit Go.Lib Go.Sort
set_option maxHeartbeats 4000000 in
set_option maxRecDepth 1000000 in
theorem reverseU {w0 : World} {blk off n : Nat} (cap : Nat) (hn : n < 281474976710656) (a b : Nat) (d : Array Int) (w : World) (U : UW w0 blk off n d w) (hab : a ≤ b) (hb : b ≤ n) :
    Calls Try.prog 52 #[.slice (some ⟨blk, off, none⟩) n cap, .int .i64 a, .int .i64 b] w (MovedPart w0 blk off n a b d) := by
  have U0 : Aside (UW w0 blk off n d w) := U
  have HD := Lib.hid U.size
  clear U
  go_enter Try.func52, Try.ntmps52
  go_wp2
  go_loopg [6, 7] (b - a) (fun k s6 s7 wr => ∃ (i : Nat) (j : Int) (dk : Array Int), s6 = .int .i64 i ∧ s7 = .int .i64 j ∧ -1 ≤ j ∧ j < b ∧ a ≤ i ∧ (j - i).toNat ≤ k ∧ Aside (UW w0 blk off n dk wr) ∧ Aside (PermIn a b d dk))
  case atStart => exact ⟨a, (b : Int) - 1, d, rfl, rfl, by omega, by omega, Nat.le_refl _, by omega, U0, permIn_refl d a b⟩
  case round =>
    clear U0
    obtain ⟨i, j, dk, rfl, rfl, hj0, hjb, hai, hk, U1, HP⟩ := hrel
    by_cases hlt : (i : Int) < j
    · obtain ⟨j, rfl⟩ : ∃ t : Nat, j = t := ⟨j.toNat, by omega⟩
      have U2 : Aside (UW w0 blk off n (swp dk (i) (j)) (((wr.setCell ⟨blk, off + (i), none⟩ (.int .u64 dk[j]!)).setCell ⟨blk, off + (j), none⟩ (.int .u64 dk[i]!)).drew)) := U1.out.swap (i) (j) (by omega) (by omega)
      have hcw : ∀ t, t < n → wr.cell? ⟨blk, off + t, none⟩ = some (.int .u64 dk[t]!) := U1.out.cell
      have hfw : ∀ t, t < n → wr.frozen? ⟨blk, off + t, none⟩ = false := U1.out.free
      clear U1
      go_wp2_with fail
      go_region
      clear hcw hfw
      generalize ((wr.setCell ⟨blk, off + (i), none⟩ (.int .u64 dk[j]!)).setCell ⟨blk, off + (j), none⟩ (.int .u64 dk[i]!)).drew = w2 at U2 ⊢
      go_wp2
      go_roundg (((j : Int) - 1 - (i + 1)).toNat)
      case measure => omega
      case rel => exact ⟨i + 1, (j : Int) - 1, swp dk i j, by go_num, rfl, by omega, by omega, by omega, by omega, U2, show Aside _ from perm_swap HP.out hai (by omega) (by omega) (by omega) (by rw [HD.out]; exact hb)⟩
    · go_wp2
      go_end0
      exact ⟨rfl, dk, U1.out, HP.out⟩

end Go.Proofs.Ytjiijddlbfgafaa
