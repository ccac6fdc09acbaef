/- slices.partialInsertionSortOrdered at uint64. PRINTED BY wip/tpl/SortU.py. -/
import Derived.Test.YtjiijddlbfgafaaUKit
set_option linter.unusedVariables false
set_option linter.unusedSimpArgs false
namespace Go.Proofs.Ytjiijddlbfgafaa
open Go.Shelf Go.RowKit Go.Lib Go.Sort
/-- What partialInsertionSort leaves. -/
def PInPost (w0 : World) (blk off n a b : Nat) (d : Array Int) (e : Ending) (W : World) : Prop :=
  ∃ (r : Bool) (d' : Array Int), e = .returned (.bool r) ∧ UW w0 blk off n d' W ∧ PermIn a b d d' ∧ (r = true → SortedIn ltInt a b d')
set_option maxHeartbeats 16000000 in
set_option maxRecDepth 1000000 in
theorem pinsU {w0 : World} {blk off n : Nat} (cap : Nat) (hn : n < 281474976710656) (a b : Nat) (d : Array Int) (w : World) (U : UW w0 blk off n d w) (hab : a < b) (hb : b ≤ n) (hB : Sort.Below ltInt a b d) :
    Calls Try.prog 53 #[.slice (some ⟨blk, off, none⟩) n cap, .int .i64 a, .int .i64 b] w (PInPost w0 blk off n a b d) := by
  have HB := Lib.hid hB
  have U0 : Aside (UW w0 blk off n d w) := U
  have HD := Lib.hid U.size
  clear U hB
  go_enter Try.func53, Try.ntmps53
  go_wp2
  go_loopg [7, 8] 5 (fun k s7 s8 wr => ∃ (i s : Nat) (dk : Array Int), s7 = .int .i64 i ∧ s8 = .int .i64 s ∧ s ≤ 5 ∧ a < i ∧ i ≤ b ∧ 5 - s ≤ k ∧ Aside (UW w0 blk off n dk wr) ∧ Aside (PermIn a b d dk) ∧ Aside (SortedIn ltInt a i dk))
  case atStart => exact ⟨a + 1, 0, d, by go_num, rfl, by omega, by omega, by omega, by omega, U0, permIn_refl d a b, (show Aside _ from fun x y h1 h2 h3 => by omega)⟩
  case round =>
    clear U0
    obtain ⟨i, s, dk, rfl, rfl, hs5, hai, hib, hk, U1, HP, HS⟩ := hrel
    by_cases hs : s < 5
    · have hsz : (s : Int) < 5 := by omega
      go_wp2_with fail
      go_loopg [7] (b - i) (fun k1 s7 wr1 => ∃ i' : Nat, s7 = .int .i64 i' ∧ i ≤ i' ∧ i' ≤ b ∧ b - i' ≤ k1 ∧ Aside (UW w0 blk off n dk wr1) ∧ Aside (SortedIn ltInt a i' dk))
      case atStart => exact ⟨i, rfl, Nat.le_refl _, hib, Nat.le_refl _, U1, HS⟩
      case round =>
        clear U1 HS
        obtain ⟨i', rfl, hii, hib', hk1, U1, HS⟩ := hrel
        by_cases hc : i' < b
        · obtain ⟨t, ht⟩ : ∃ t, i' = t + 1 := ⟨i' - 1, by omega⟩
          have hcz : (i' : Int) < (b : Int) := by omega
          clear ht
          cases hL : ltInt dk[i']! dk[i' - 1]! with
          | true =>
            have hcw : ∀ t, t < n → wr.cell? ⟨blk, off + t, none⟩ = some (.int .u64 dk[t]!) := U1.out.cell
            have hfw : ∀ t, t < n → wr.frozen? ⟨blk, off + t, none⟩ = false := U1.out.free
            go_wp2_with fail
            go_big_quiet (first | (go_at_call 30; refine Calls.quiet_of_same (lessL_any _ _ _)))
            have U2 : Aside (UW w0 blk off n dk (wr.drewN nq)) := U1.out.drewN nq
            clear hcw hfw U1
            generalize wr.drewN nq = w2 at U2 ⊢
            clear nq
            have hbz : ((i' : Int) == (b : Int)) = false := by rw [beq_eq_false_iff_ne]; omega
            by_cases h50 : b - a < 50
            · have h50z : (b : Int) - (a : Int) < 50 := by omega
              go_wp2_with fail
              go_ret
              exact ⟨false, dk, rfl, U2.out, HP.out, fun h => by cases h⟩
            · have h50z : ¬ (b : Int) - (a : Int) < 50 := by omega
              obtain ⟨q, rfl⟩ : ∃ q, i' = q + 1 := ⟨i' - 1, by omega⟩
              have U3 : Aside (UW w0 blk off n (swp dk (q + 1) (q)) (((w2.setCell ⟨blk, off + (q + 1), none⟩ (.int .u64 dk[q]!)).setCell ⟨blk, off + (q), none⟩ (.int .u64 dk[q + 1]!)).drew)) := U2.out.swap (q + 1) (q) (by omega) (by omega)
              have hcw : ∀ t, t < n → w2.cell? ⟨blk, off + t, none⟩ = some (.int .u64 dk[t]!) := U2.out.cell
              have hfw : ∀ t, t < n → w2.frozen? ⟨blk, off + t, none⟩ = false := U2.out.free
              clear U2
              go_wp2_with fail
              go_region
              clear hcw hfw
              generalize ((w2.setCell ⟨blk, off + (q + 1), none⟩ (.int .u64 dk[q]!)).setCell ⟨blk, off + (q), none⟩ (.int .u64 dk[q + 1]!)).drew = w3 at U3 ⊢
              obtain ⟨d1, hd1⟩ : ∃ d1, d1 = swp dk (q + 1) q := ⟨_, rfl⟩
              rw [← hd1] at U3
              have HP1 : Aside (PermIn a b d d1) := by rw [hd1]; exact perm_swap HP.out (by omega) (by omega) (by omega) (by omega) (by rw [HD.out]; exact hb)
              have HI : Aside (Ins ltInt a q q d1) := ⟨fun x y h1 h2 h3 h4 h5 => by
                rw [hd1, swp_other dk (q + 1) q x (by omega) (by omega), swp_other dk (q + 1) q y (by omega) (by omega)]
                exact HS.out x y h1 h2 (by omega), fun y h1 h2 => by omega⟩
              clear hd1 HP HS hL
              have HP := HP1
              clear HP1
              obtain ⟨i', hi'⟩ : ∃ i', i' = q + 1 := ⟨_, rfl⟩
              have hq1 : i' ≤ q + 1 := by omega
              have hq2 : q + 1 ≤ i' := by omega
              rw [show ((q : Int) + 1) = (i' : Int) by omega]
              clear hi'
              go_upto_if 61 with (fail)
              go_cut [] (fun wx => ∃ d2 : Array Int, Aside (UW w0 blk off n d2 wx) ∧ Aside (PermIn a b d d2) ∧ Aside (SortedIn ltInt a i' d2))
              case first =>
                by_cases h2 : a + 2 ≤ i'
                · have h2z : (2 : Int) ≤ (i' : Int) - (a : Int) := by omega
                  go_wp2_with fail
                  go_loopg [9] q (fun k2 v2 wr2 => ∃ (j : Nat) (dj : Array Int), v2 = .int .i64 j ∧ a ≤ j ∧ j ≤ q ∧ j ≤ k2 ∧ Aside (UW w0 blk off n dj wr2) ∧ Aside (PermIn a b d dj) ∧ Aside (Ins ltInt a j q dj))
                  case atStart => exact ⟨q, d1, by first | rfl | go_num | (congr 1; omega), by omega, Nat.le_refl _, Nat.le_refl _, U3, HP, HI⟩
                  case round =>
                    clear U3 HP HI
                    obtain ⟨j, dj, rfl, haj, hjq, hk2, U1, HP, HI⟩ := hrel
                    by_cases hj1 : 1 ≤ j
                    · obtain ⟨r, rfl⟩ : ∃ r, j = r + 1 := ⟨j - 1, by omega⟩
                      have hjz : (1 : Int) ≤ (r : Int) + 1 := by omega
                      go_wp2_with fail
                      cases hL : ltInt dj[r + 1]! dj[r]! with
                      | true =>
                        have hcw : ∀ t, t < n → wr.cell? ⟨blk, off + t, none⟩ = some (.int .u64 dj[t]!) := U1.out.cell
                        have hfw : ∀ t, t < n → wr.frozen? ⟨blk, off + t, none⟩ = false := U1.out.free
                        go_wp2_with fail
                        go_big_quiet (first | (go_at_call 30; refine Calls.quiet_of_same (lessL_any _ _ _)))
                        have U2 : Aside (UW w0 blk off n dj (wr.drewN nq)) := U1.out.drewN nq
                        clear hcw hfw U1
                        generalize wr.drewN nq = w2 at U2 ⊢
                        clear nq
                        have har : a ≤ r := by
                          rcases Nat.lt_or_ge r a with h | h
                          · exfalso
                            obtain rfl : a = r + 1 := by omega
                            have := below_stop (HB.out.perm (by rw [HD.out]; exact hb) HP.out) (by omega) (by omega)
                            rw [Nat.add_sub_cancel, hL] at this
                            cases this
                          · exact h
                        rw [hL]
                        go_wp2_with fail
                        have U3 : Aside (UW w0 blk off n (swp dj (r + 1) (r)) (((w2.setCell ⟨blk, off + (r + 1), none⟩ (.int .u64 dj[r]!)).setCell ⟨blk, off + (r), none⟩ (.int .u64 dj[r + 1]!)).drew)) := U2.out.swap (r + 1) (r) (by omega) (by omega)
                        have hcw : ∀ t, t < n → w2.cell? ⟨blk, off + t, none⟩ = some (.int .u64 dj[t]!) := U2.out.cell
                        have hfw : ∀ t, t < n → w2.frozen? ⟨blk, off + t, none⟩ = false := U2.out.free
                        clear U2
                        go_wp2_with fail
                        go_region
                        clear hcw hfw
                        generalize ((w2.setCell ⟨blk, off + (r + 1), none⟩ (.int .u64 dj[r]!)).setCell ⟨blk, off + (r), none⟩ (.int .u64 dj[r + 1]!)).drew = w3 at U3 ⊢
                        go_wp2
                        go_roundg r
                        case measure => omega
                        case rel => exact ⟨r, swp dj (r + 1) r, by first | rfl | go_num | (congr 1; omega), har, by omega, Nat.le_refl _, U3, (show Aside _ from perm_swap HP.out haj (by omega) har (by omega) (by rw [HD.out]; exact hb)), (show Aside _ from HI.out.step hL har (by rw [HP.out.1, HD.out]; omega))⟩
                      | false =>
                        have hcw : ∀ t, t < n → wr.cell? ⟨blk, off + t, none⟩ = some (.int .u64 dj[t]!) := U1.out.cell
                        have hfw : ∀ t, t < n → wr.frozen? ⟨blk, off + t, none⟩ = false := U1.out.free
                        go_wp2_with fail
                        go_big_quiet (first | (go_at_call 30; refine Calls.quiet_of_same (lessL_any _ _ _)))
                        have U2 : Aside (UW w0 blk off n dj (wr.drewN nq)) := U1.out.drewN nq
                        clear hcw hfw U1
                        generalize wr.drewN nq = w2 at U2 ⊢
                        clear nq
                        rw [hL]
                        go_wp2_with fail
                        go_meet
                        exact ⟨dj, U2, HP, (show Aside _ from by rw [show i' = q + 1 by omega]; exact HI.out.stop swo_ltInt (Or.inr hL))⟩
                    · have hjz : ¬ (1 : Int) ≤ (j : Int) := by omega
                      go_wp2_with fail
                      go_meet
                      exact ⟨dj, U1, HP, (show Aside _ from by rw [show i' = q + 1 by omega]; exact HI.out.stop swo_ltInt (Or.inl (by omega)))⟩
                · have h2z : ¬ (2 : Int) ≤ (i' : Int) - (a : Int) := by omega
                  go_wp2_with fail
                  go_meet
                  exact ⟨d1, U3, HP, (show Aside _ from fun x y h1 h2 h3 => by omega)⟩
              case rest =>
                clear U3 HP HI
                obtain ⟨d2, U4, HP, HS⟩ := hcut
                by_cases h3 : i' + 2 ≤ b
                · have h3z : (2 : Int) ≤ (b : Int) - (i' : Int) := by omega
                  go_wp2_with fail
                  go_loopg [10] (b - i') (fun k2 v2 wr2 => ∃ (j : Nat) (dj : Array Int), v2 = .int .i64 j ∧ i' + 1 ≤ j ∧ j ≤ b ∧ b - j ≤ k2 ∧ Aside (UW w0 blk off n dj wr2) ∧ Aside (PermIn a b d dj) ∧ Aside (SortedIn ltInt a i' dj))
                  case atStart => exact ⟨i' + 1, d2, by go_num, Nat.le_refl _, by omega, by omega, U4, HP, HS⟩
                  case round =>
                    clear U4 HP HS
                    obtain ⟨j, dj, rfl, hij, hjb, hk2, U1, HP, HS⟩ := hrel
                    by_cases hj1 : j < b
                    · obtain ⟨r, rfl⟩ : ∃ r, j = r + 1 := ⟨j - 1, by omega⟩
                      have hjz : (r : Int) + 1 < (b : Int) := by omega
                      go_wp2_with fail
                      cases hL : ltInt dj[r + 1]! dj[r]! with
                      | true =>
                        have hcw : ∀ t, t < n → wr.cell? ⟨blk, off + t, none⟩ = some (.int .u64 dj[t]!) := U1.out.cell
                        have hfw : ∀ t, t < n → wr.frozen? ⟨blk, off + t, none⟩ = false := U1.out.free
                        go_wp2_with fail
                        go_big_quiet (first | (go_at_call 30; refine Calls.quiet_of_same (lessL_any _ _ _)))
                        have U2 : Aside (UW w0 blk off n dj (wr.drewN nq)) := U1.out.drewN nq
                        clear hcw hfw U1
                        generalize wr.drewN nq = w2 at U2 ⊢
                        clear nq
                        rw [hL]
                        go_wp2_with fail
                        have U3 : Aside (UW w0 blk off n (swp dj (r + 1) (r)) (((w2.setCell ⟨blk, off + (r + 1), none⟩ (.int .u64 dj[r]!)).setCell ⟨blk, off + (r), none⟩ (.int .u64 dj[r + 1]!)).drew)) := U2.out.swap (r + 1) (r) (by omega) (by omega)
                        have hcw : ∀ t, t < n → w2.cell? ⟨blk, off + t, none⟩ = some (.int .u64 dj[t]!) := U2.out.cell
                        have hfw : ∀ t, t < n → w2.frozen? ⟨blk, off + t, none⟩ = false := U2.out.free
                        clear U2
                        go_wp2_with fail
                        go_region
                        clear hcw hfw
                        generalize ((w2.setCell ⟨blk, off + (r + 1), none⟩ (.int .u64 dj[r]!)).setCell ⟨blk, off + (r), none⟩ (.int .u64 dj[r + 1]!)).drew = w3 at U3 ⊢
                        go_wp2
                        go_roundg (b - (r + 1 + 1))
                        case measure => omega
                        case rel => exact ⟨r + 1 + 1, swp dj (r + 1) r, by first | rfl | go_num | (congr 1; omega), by omega, by omega, Nat.le_refl _, U3, (show Aside _ from perm_swap HP.out (by omega) (by omega) (by omega) (by omega) (by rw [HD.out]; exact hb)), (show Aside _ from HS.out.congrA (fun p hp => swp_other dj (r + 1) r p (by omega) (by omega)))⟩
                      | false =>
                        have hcw : ∀ t, t < n → wr.cell? ⟨blk, off + t, none⟩ = some (.int .u64 dj[t]!) := U1.out.cell
                        have hfw : ∀ t, t < n → wr.frozen? ⟨blk, off + t, none⟩ = false := U1.out.free
                        go_wp2_with fail
                        go_big_quiet (first | (go_at_call 30; refine Calls.quiet_of_same (lessL_any _ _ _)))
                        have U2 : Aside (UW w0 blk off n dj (wr.drewN nq)) := U1.out.drewN nq
                        clear hcw hfw U1
                        generalize wr.drewN nq = w2 at U2 ⊢
                        clear nq
                        rw [hL]
                        go_wp2_with fail
                        go_roundg (5 - (s + 1))
                        case measure => omega
                        case rel => exact ⟨i', s + 1, dj, rfl, by go_num, by omega, by omega, by omega, Nat.le_refl _, U2, HP, HS⟩
                    · have hjz : ¬ (j : Int) < (b : Int) := by omega
                      go_wp2_with fail
                      go_roundg (5 - (s + 1))
                      case measure => omega
                      case rel => exact ⟨i', s + 1, dj, rfl, by go_num, by omega, by omega, by omega, Nat.le_refl _, U1, HP, HS⟩
                · have h3z : ¬ (2 : Int) ≤ (b : Int) - (i' : Int) := by omega
                  go_wp2_with fail
                  go_roundg (5 - (s + 1))
                  case measure => omega
                  case rel => exact ⟨i', s + 1, d2, rfl, by go_num, by omega, by omega, by omega, Nat.le_refl _, U4, HP, HS⟩
          | false =>
            have hcw : ∀ t, t < n → wr.cell? ⟨blk, off + t, none⟩ = some (.int .u64 dk[t]!) := U1.out.cell
            have hfw : ∀ t, t < n → wr.frozen? ⟨blk, off + t, none⟩ = false := U1.out.free
            go_wp2_with fail
            go_big_quiet (first | (go_at_call 30; refine Calls.quiet_of_same (lessL_any _ _ _)))
            have U2 : Aside (UW w0 blk off n dk (wr.drewN nq)) := U1.out.drewN nq
            clear hcw hfw U1
            generalize wr.drewN nq = w2 at U2 ⊢
            clear nq
            go_wp2
            go_roundg (b - (i' + 1))
            case measure => omega
            case rel => exact ⟨i' + 1, by go_num, by omega, by omega, Nat.le_refl _, U2, (show Aside _ from HS.out.snoc swo_ltInt hL)⟩
        · have hcz : decide ((i' : Int) < (b : Int)) = false := decide_eq_false (by omega)
          have hcy : ¬ (i' : Int) < (b : Int) := by omega
          have hbz : ((i' : Int) == (b : Int)) = true := by rw [beq_iff_eq]; omega
          go_wp2_with fail
          go_big_quiet (first | (go_at_call 30; refine Calls.quiet_of_same (lessL_any _ _ _)))
          have U2 : Aside (UW w0 blk off n dk (wr.drewN nq)) := U1.out.drewN nq
          clear U1
          generalize wr.drewN nq = w2 at U2 ⊢
          clear nq
          go_wp2_with fail
          go_ret
          exact ⟨true, dk, rfl, U2.out, HP.out, fun _ => by have := HS.out; rwa [show i' = b by omega] at this⟩
    · have hsz : ¬ (s : Int) < 5 := by omega
      go_wp2_with fail
      go_ret
      exact ⟨false, dk, rfl, U1.out, HP.out, fun h => by cases h⟩

end Go.Proofs.Ytjiijddlbfgafaa
