/- slices.insertionSortOrdered at uint64. PRINTED BY wip/tpl/SortU.py. -/
import Derived.Test.YtjiijddlbfgafaaUKit
set_option linter.unusedVariables false
set_option linter.unusedSimpArgs false
namespace Go.Proofs.Ytjiijddlbfgafaa
open Go.Shelf Go.RowKit Go.Lib Go.Sort
set_option maxHeartbeats 4000000 in
set_option maxRecDepth 1000000 in
theorem insertionU {w0 : World} {blk off n : Nat} (cap : Nat) (hn : n < 281474976710656) (a b : Nat) (d : Array Int) (w : World) (U : UW w0 blk off n d w) (hab : a ≤ b) (hb : b ≤ n) :
    Calls Try.prog 48 #[.slice (some ⟨blk, off, none⟩) n cap, .int .i64 a, .int .i64 b] w (SortedPart w0 blk off n a b d) := by
  have U0 : Aside (UW w0 blk off n d w) := U
  have HD := Lib.hid U.size
  clear U
  go_enter Try.func48, Try.ntmps48
  go_wp2
  go_loopg [6] (b - a) (fun k s6 wr => ∃ (i : Nat) (dk : Array Int), s6 = .int .i64 i ∧ a < i ∧ i ≤ b + 1 ∧ b + 1 - i ≤ k + 1 ∧ Aside (UW w0 blk off n dk wr) ∧ Aside (PermIn a b d dk) ∧ Aside (SortedIn ltInt a (min i b) dk))
  case atStart => exact ⟨a + 1, d, by go_num, by omega, by omega, by omega, U0, permIn_refl d a b, (show Aside _ from fun p q h1 h2 h3 => by omega)⟩
  case round =>
    clear U0
    obtain ⟨i, dk, rfl, hai, hib, hk, U1, HP, HS⟩ := hrel
    by_cases hlt : i < b
    · have hltz : (i : Int) < (b : Int) := by omega
      go_wp2
      go_loopg [7] i (fun k2 s7 wr2 => ∃ (j : Nat) (dj : Array Int), s7 = .int .i64 j ∧ a ≤ j ∧ j ≤ i ∧ j ≤ k2 ∧ Aside (UW w0 blk off n dj wr2) ∧ Aside (PermIn a b d dj) ∧ Aside (Ins ltInt a j i dj))
      case atStart => exact ⟨i, dk, rfl, by omega, Nat.le_refl _, Nat.le_refl _, U1, HP, (show Aside _ from ⟨fun p q h1 h2 h3 h4 h5 => HS.out p q h1 h2 (by omega), fun q h1 h2 => by omega⟩)⟩
      case round =>
        clear U1 HP HS
        obtain ⟨j, dj, rfl, haj, hji, hk2, U1, HP, HI⟩ := hrel
        by_cases hja : a < j
        · obtain ⟨r, rfl⟩ : ∃ r, j = r + 1 := ⟨j - 1, by omega⟩
          have hjz : (a : Int) < (r : Int) + 1 := by omega
          cases hL : ltInt dj[r + 1]! dj[r]! with
          | true =>
            have hcw : ∀ t, t < n → wr.cell? ⟨blk, off + t, none⟩ = some (.int .u64 dj[t]!) := U1.out.cell
            have hfw : ∀ t, t < n → wr.frozen? ⟨blk, off + t, none⟩ = false := U1.out.free
            go_wp2_with fail
            go_big_quiet (first | (go_at_call 30; refine Calls.quiet_of_same (lessL_any _ _ _)))
            have U2 : Aside (UW w0 blk off n dj (wr.drewN nq)) := U1.out.drewN nq
            clear hcw hfw U1
            generalize wr.drewN nq = w2 at U2 ⊢
            clear nq
            go_wp2_with fail
            have U3 : Aside (UW w0 blk off n (swp dj (r + 1) (r)) (((w2.setCell ⟨blk, off + (r + 1), none⟩ (.int .u64 dj[r]!)).setCell ⟨blk, off + (r), none⟩ (.int .u64 dj[r + 1]!)).drew)) := U2.out.swap (r + 1) (r) (by omega) (by omega)
            have hcw : ∀ t, t < n → w2.cell? ⟨blk, off + t, none⟩ = some (.int .u64 dj[t]!) := U2.out.cell
            have hfw : ∀ t, t < n → w2.frozen? ⟨blk, off + t, none⟩ = false := U2.out.free
            clear U2
            go_wp2_with fail
            go_region
            clear hcw hfw
            generalize ((w2.setCell ⟨blk, off + (r + 1), none⟩ (.int .u64 dj[r]!)).setCell ⟨blk, off + (r), none⟩ (.int .u64 dj[r + 1]!)).drew = w3 at U3 ⊢
            go_wp2
            go_roundg r
            case measure => omega
            case rel => exact ⟨r, swp dj (r + 1) r, by first | rfl | go_num | (congr 1; omega), by omega, by omega, Nat.le_refl _, U3, (show Aside _ from perm_swap HP.out haj (by omega) (by omega) (by omega) (by rw [HD.out]; exact hb)), (show Aside _ from HI.out.step hL (by omega) (by rw [HP.out.1, HD.out]; omega))⟩
          | false =>
            have hcw : ∀ t, t < n → wr.cell? ⟨blk, off + t, none⟩ = some (.int .u64 dj[t]!) := U1.out.cell
            have hfw : ∀ t, t < n → wr.frozen? ⟨blk, off + t, none⟩ = false := U1.out.free
            go_wp2_with fail
            go_big_quiet (first | (go_at_call 30; refine Calls.quiet_of_same (lessL_any _ _ _)))
            have U2 : Aside (UW w0 blk off n dj (wr.drewN nq)) := U1.out.drewN nq
            clear hcw hfw U1
            generalize wr.drewN nq = w2 at U2 ⊢
            clear nq
            go_wp2
            go_roundg (b - (i + 1))
            case measure => omega
            case rel => exact ⟨i + 1, dj, by go_num, by omega, by omega, by omega, U2, HP, (show Aside _ from by rw [show min (i + 1) b = i + 1 by omega]; exact HI.out.stop swo_ltInt (Or.inr hL))⟩
        · have hjz : decide ((j : Int) > (a : Int)) = false := decide_eq_false (by omega)
          have hjz' : ¬ (a : Int) < (j : Int) := by omega
          have U2 : Aside (UW w0 blk off n dj wr.drew) := U1.out.drew
          clear U1
          go_wp2_with fail
          go_region
          all_goals go_wp2
          go_roundg (b - (i + 1))
          case measure => omega
          case rel => exact ⟨i + 1, dj, by go_num, by omega, by omega, by omega, U2, HP, (show Aside _ from by rw [show min (i + 1) b = i + 1 by omega]; exact HI.out.stop swo_ltInt (Or.inl (by omega)))⟩
    · have hltz : ¬ (i : Int) < (b : Int) := by omega
      go_wp2
      go_end0
      exact ⟨rfl, dk, U1.out, HP.out, by have := HS.out; rwa [show min i b = b by omega] at this⟩

end Go.Proofs.Ytjiijddlbfgafaa
