/- slices.siftDownOrdered at uint64. PRINTED BY wip/tpl/SortU.py. -/
import Derived.Test.YtjiijddlbfgafaaUKit
import Derived.Sort.WalkB2
set_option linter.unusedVariables false
set_option linter.unusedSimpArgs false
namespace Go.Proofs.Ytjiijddlbfgafaa
open Go.Shelf Go.RowKit Go.Lib Go.Sort
set_option maxHeartbeats 4000000 in
set_option maxRecDepth 1000000 in
theorem siftU {w0 : World} {blk off n : Nat} (cap : Nat) (hn : n < 281474976710656) (lo hi first : Nat) (d : Array Int) (w : World) (U : UW w0 blk off n d w) (hlo : lo ≤ hi) (hb : first + hi ≤ n) :
    Calls Try.prog 61 #[.slice (some ⟨blk, off, none⟩) n cap, .int .i64 lo, .int .i64 hi, .int .i64 first] w (fun e w' => e = .returned (.tuple #[]) ∧ ∃ d', UW w0 blk off n d' w' ∧ d' = siftDown ltInt hi first lo d) := by
  have U0 : Aside (UW w0 blk off n d w) := U
  have HD := Lib.hid U.size
  clear U
  go_enter Try.func61, Try.ntmps61
  go_wp2
  go_loopg [8] (hi - lo) (fun k s8 wr => ∃ (root : Nat) (dk : Array Int), s8 = .int .i64 root ∧ root ≤ hi ∧ hi - root ≤ k ∧ Aside (UW w0 blk off n dk wr) ∧ Aside (siftDown ltInt hi first root dk = siftDown ltInt hi first lo d))
  case atStart => exact ⟨lo, d, rfl, hlo, Nat.le_refl _, U0, (show Aside _ from rfl)⟩
  case round =>
    clear U0
    obtain ⟨root, dk, rfl, hr, hk, U1, HE⟩ := hrel
    by_cases h0 : hi ≤ 2 * root + 1
    · have h0z : (hi : Int) ≤ 2 * (root : Int) + 1 := by omega
      go_wp2
      go_end0
      exact ⟨rfl, dk, U1.out, by rw [← HE.out, sd_end ltInt dk h0]⟩
    · have h0z : ¬ ((hi : Int) ≤ 2 * (root : Int) + 1) := by omega
      by_cases h1 : 2 * root + 2 < hi
      · have h1z : 2 * (root : Int) + 1 + 1 < (hi : Int) := by omega
        cases hL : ltInt dk[first + 2 * root + 1]! dk[first + 2 * root + 2]! with
        | true =>
          have hcw : ∀ t, t < n → wr.cell? ⟨blk, off + t, none⟩ = some (.int .u64 dk[t]!) := U1.out.cell
          have hfw : ∀ t, t < n → wr.frozen? ⟨blk, off + t, none⟩ = false := U1.out.free
          go_wp2_with fail
          go_big_quiet (first | (go_at_call 30; refine Calls.quiet_of_same (lessL_any _ _ _)))
          have U2 : Aside (UW w0 blk off n dk (wr.drewN nq)) := U1.out.drewN nq
          clear hcw hfw U1
          generalize wr.drewN nq = w2 at U2 ⊢
          clear nq
          go_wp2_with fail
          cases hM : ltInt dk[first + root]! dk[first + 2 * root + 2]! with
          | true =>
            have hcw : ∀ t, t < n → w2.cell? ⟨blk, off + t, none⟩ = some (.int .u64 dk[t]!) := U2.out.cell
            have hfw : ∀ t, t < n → w2.frozen? ⟨blk, off + t, none⟩ = false := U2.out.free
            go_wp2_with fail
            go_big_quiet (first | (go_at_call 30; refine Calls.quiet_of_same (lessL_any _ _ _)))
            have U3 : Aside (UW w0 blk off n dk (w2.drewN nq)) := U2.out.drewN nq
            clear hcw hfw U2
            generalize w2.drewN nq = w3 at U3 ⊢
            clear nq
            go_wp2_with fail
            have U4 : Aside (UW w0 blk off n (swp dk (first + root) (first + (2 * root + 2))) (((w3.setCell ⟨blk, off + (first + root), none⟩ (.int .u64 dk[first + (2 * root + 2)]!)).setCell ⟨blk, off + (first + (2 * root + 2)), none⟩ (.int .u64 dk[first + root]!)).drew)) := U3.out.swap (first + root) (first + (2 * root + 2)) (by omega) (by omega)
            have hcw : ∀ t, t < n → w3.cell? ⟨blk, off + t, none⟩ = some (.int .u64 dk[t]!) := U3.out.cell
            have hfw : ∀ t, t < n → w3.frozen? ⟨blk, off + t, none⟩ = false := U3.out.free
            clear U3
            go_wp2_with fail
            go_region
            clear hcw hfw
            generalize ((w3.setCell ⟨blk, off + (first + root), none⟩ (.int .u64 dk[first + (2 * root + 2)]!)).setCell ⟨blk, off + (first + (2 * root + 2)), none⟩ (.int .u64 dk[first + root]!)).drew = w4 at U4 ⊢
            go_wp2
            go_roundg (hi - (2 * root + 2))
            case measure => omega
            case rel => exact ⟨2 * root + 2, swp dk (first + root) (first + (2 * root + 2)), by first | rfl | go_num | (congr 1; omega), by omega, Nat.le_refl _, U4, (show Aside _ from by rw [← HE.out]; exact (sd_right_go ltInt dk h1 hL hM).symm)⟩
          | false =>
            have hcw : ∀ t, t < n → w2.cell? ⟨blk, off + t, none⟩ = some (.int .u64 dk[t]!) := U2.out.cell
            have hfw : ∀ t, t < n → w2.frozen? ⟨blk, off + t, none⟩ = false := U2.out.free
            go_wp2_with fail
            go_big_quiet (first | (go_at_call 30; refine Calls.quiet_of_same (lessL_any _ _ _)))
            have U3 : Aside (UW w0 blk off n dk (w2.drewN nq)) := U2.out.drewN nq
            clear hcw hfw U2
            generalize w2.drewN nq = w3 at U3 ⊢
            clear nq
            go_wp2_with fail
            (try simp only [Exit.inBlock, Exit.then])
            refine bodyPost_ret (results_none rfl _ _ _) rfl ?_
            exact ⟨rfl, dk, U3.out, show dk = _ by rw [← HE.out]; exact (sd_right_stop ltInt dk h1 hL hM).symm⟩
        | false =>
          have hcw : ∀ t, t < n → wr.cell? ⟨blk, off + t, none⟩ = some (.int .u64 dk[t]!) := U1.out.cell
          have hfw : ∀ t, t < n → wr.frozen? ⟨blk, off + t, none⟩ = false := U1.out.free
          go_wp2_with fail
          go_big_quiet (first | (go_at_call 30; refine Calls.quiet_of_same (lessL_any _ _ _)))
          have U2 : Aside (UW w0 blk off n dk (wr.drewN nq)) := U1.out.drewN nq
          clear hcw hfw U1
          generalize wr.drewN nq = w2 at U2 ⊢
          clear nq
          go_wp2_with fail
          cases hM : ltInt dk[first + root]! dk[first + 2 * root + 1]! with
          | true =>
            have hcw : ∀ t, t < n → w2.cell? ⟨blk, off + t, none⟩ = some (.int .u64 dk[t]!) := U2.out.cell
            have hfw : ∀ t, t < n → w2.frozen? ⟨blk, off + t, none⟩ = false := U2.out.free
            go_wp2_with fail
            go_big_quiet (first | (go_at_call 30; refine Calls.quiet_of_same (lessL_any _ _ _)))
            have U3 : Aside (UW w0 blk off n dk (w2.drewN nq)) := U2.out.drewN nq
            clear hcw hfw U2
            generalize w2.drewN nq = w3 at U3 ⊢
            clear nq
            go_wp2_with fail
            have U4 : Aside (UW w0 blk off n (swp dk (first + root) (first + (2 * root + 1))) (((w3.setCell ⟨blk, off + (first + root), none⟩ (.int .u64 dk[first + (2 * root + 1)]!)).setCell ⟨blk, off + (first + (2 * root + 1)), none⟩ (.int .u64 dk[first + root]!)).drew)) := U3.out.swap (first + root) (first + (2 * root + 1)) (by omega) (by omega)
            have hcw : ∀ t, t < n → w3.cell? ⟨blk, off + t, none⟩ = some (.int .u64 dk[t]!) := U3.out.cell
            have hfw : ∀ t, t < n → w3.frozen? ⟨blk, off + t, none⟩ = false := U3.out.free
            clear U3
            go_wp2_with fail
            go_region
            clear hcw hfw
            generalize ((w3.setCell ⟨blk, off + (first + root), none⟩ (.int .u64 dk[first + (2 * root + 1)]!)).setCell ⟨blk, off + (first + (2 * root + 1)), none⟩ (.int .u64 dk[first + root]!)).drew = w4 at U4 ⊢
            go_wp2
            go_roundg (hi - (2 * root + 1))
            case measure => omega
            case rel => exact ⟨2 * root + 1, swp dk (first + root) (first + (2 * root + 1)), by first | rfl | go_num | (congr 1; omega), by omega, Nat.le_refl _, U4, (show Aside _ from by rw [← HE.out]; exact (sd_left_go ltInt dk (by omega) (fun _ => hL) hM).symm)⟩
          | false =>
            have hcw : ∀ t, t < n → w2.cell? ⟨blk, off + t, none⟩ = some (.int .u64 dk[t]!) := U2.out.cell
            have hfw : ∀ t, t < n → w2.frozen? ⟨blk, off + t, none⟩ = false := U2.out.free
            go_wp2_with fail
            go_big_quiet (first | (go_at_call 30; refine Calls.quiet_of_same (lessL_any _ _ _)))
            have U3 : Aside (UW w0 blk off n dk (w2.drewN nq)) := U2.out.drewN nq
            clear hcw hfw U2
            generalize w2.drewN nq = w3 at U3 ⊢
            clear nq
            go_wp2_with fail
            (try simp only [Exit.inBlock, Exit.then])
            refine bodyPost_ret (results_none rfl _ _ _) rfl ?_
            exact ⟨rfl, dk, U3.out, show dk = _ by rw [← HE.out]; exact (sd_left_stop ltInt dk (by omega) (fun _ => hL) hM).symm⟩
      · have h1z : decide (2 * (root : Int) + 1 + 1 < (hi : Int)) = false := decide_eq_false (by omega)
        have h1y : ¬ (2 * (root : Int) + 1 + 1 < (hi : Int)) := by omega
        go_wp2_with fail
        go_big_quiet (first | (go_at_call 30; refine Calls.quiet_of_same (lessL_any _ _ _)))
        have U2 : Aside (UW w0 blk off n dk (wr.drewN nq)) := U1.out.drewN nq
        clear U1
        generalize wr.drewN nq = w2 at U2 ⊢
        clear nq
        go_wp2_with fail
        cases hM : ltInt dk[first + root]! dk[first + 2 * root + 1]! with
        | true =>
          have hcw : ∀ t, t < n → w2.cell? ⟨blk, off + t, none⟩ = some (.int .u64 dk[t]!) := U2.out.cell
          have hfw : ∀ t, t < n → w2.frozen? ⟨blk, off + t, none⟩ = false := U2.out.free
          go_wp2_with fail
          go_big_quiet (first | (go_at_call 30; refine Calls.quiet_of_same (lessL_any _ _ _)))
          have U3 : Aside (UW w0 blk off n dk (w2.drewN nq)) := U2.out.drewN nq
          clear hcw hfw U2
          generalize w2.drewN nq = w3 at U3 ⊢
          clear nq
          go_wp2_with fail
          have U4 : Aside (UW w0 blk off n (swp dk (first + root) (first + (2 * root + 1))) (((w3.setCell ⟨blk, off + (first + root), none⟩ (.int .u64 dk[first + (2 * root + 1)]!)).setCell ⟨blk, off + (first + (2 * root + 1)), none⟩ (.int .u64 dk[first + root]!)).drew)) := U3.out.swap (first + root) (first + (2 * root + 1)) (by omega) (by omega)
          have hcw : ∀ t, t < n → w3.cell? ⟨blk, off + t, none⟩ = some (.int .u64 dk[t]!) := U3.out.cell
          have hfw : ∀ t, t < n → w3.frozen? ⟨blk, off + t, none⟩ = false := U3.out.free
          clear U3
          go_wp2_with fail
          go_region
          clear hcw hfw
          generalize ((w3.setCell ⟨blk, off + (first + root), none⟩ (.int .u64 dk[first + (2 * root + 1)]!)).setCell ⟨blk, off + (first + (2 * root + 1)), none⟩ (.int .u64 dk[first + root]!)).drew = w4 at U4 ⊢
          go_wp2
          go_roundg (hi - (2 * root + 1))
          case measure => omega
          case rel => exact ⟨2 * root + 1, swp dk (first + root) (first + (2 * root + 1)), by first | rfl | go_num | (congr 1; omega), by omega, Nat.le_refl _, U4, (show Aside _ from by rw [← HE.out]; exact (sd_left_go ltInt dk (by omega) (fun h => absurd h h1) hM).symm)⟩
        | false =>
          have hcw : ∀ t, t < n → w2.cell? ⟨blk, off + t, none⟩ = some (.int .u64 dk[t]!) := U2.out.cell
          have hfw : ∀ t, t < n → w2.frozen? ⟨blk, off + t, none⟩ = false := U2.out.free
          go_wp2_with fail
          go_big_quiet (first | (go_at_call 30; refine Calls.quiet_of_same (lessL_any _ _ _)))
          have U3 : Aside (UW w0 blk off n dk (w2.drewN nq)) := U2.out.drewN nq
          clear hcw hfw U2
          generalize w2.drewN nq = w3 at U3 ⊢
          clear nq
          go_wp2_with fail
          (try simp only [Exit.inBlock, Exit.then])
          refine bodyPost_ret (results_none rfl _ _ _) rfl ?_
          exact ⟨rfl, dk, U3.out, show dk = _ by rw [← HE.out]; exact (sd_left_stop ltInt dk (by omega) (fun h => absurd h h1) hM).symm⟩

end Go.Proofs.Ytjiijddlbfgafaa
