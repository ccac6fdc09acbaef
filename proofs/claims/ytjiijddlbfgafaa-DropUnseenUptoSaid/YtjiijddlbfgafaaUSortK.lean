/- slices.pdqsortOrdered at uint64. PRINTED BY wip/tpl/SortU.py. -/
import Derived.Test.YtjiijddlbfgafaaUSortA
import Derived.Test.YtjiijddlbfgafaaUSortB
import Derived.Test.YtjiijddlbfgafaaUSortD
import Derived.Test.YtjiijddlbfgafaaUSortF
import Derived.Test.YtjiijddlbfgafaaUSortG
import Derived.Test.YtjiijddlbfgafaaUSortH
import Derived.Test.YtjiijddlbfgafaaUSortI
import Derived.Test.YtjiijddlbfgafaaUSortJ
set_option linter.unusedVariables false
set_option linter.unusedSimpArgs false
namespace Go.Proofs.Ytjiijddlbfgafaa
open Go.Shelf Go.RowKit Go.Lib Go.Sort
set_option maxHeartbeats 16000000 in
set_option maxRecDepth 1000000 in
theorem pdqU_step {w0 : World} {blk off n : Nat} (cap : Nat) (hn : n < 281474976710656) (N a b limit : Nat) (d : Array Int) (w : World) (ih : ∀ (a b limit : Nat) (d : Array Int) (w : World), b - a < N → UW w0 blk off n d w → a ≤ b → b ≤ n → limit < 281474976710656 → Sort.Below ltInt a b d →
    Calls Try.prog 38 #[.slice (some ⟨blk, off, none⟩) n cap, .int .i64 a, .int .i64 b, .int .i64 limit] w (SortedPart w0 blk off n a b d)) (hN : b - a < N + 1) (U : UW w0 blk off n d w) (hab : a ≤ b) (hb : b ≤ n) (hlim : limit < 281474976710656) (hB : Sort.Below ltInt a b d) :
    Calls Try.prog 38 #[.slice (some ⟨blk, off, none⟩) n cap, .int .i64 a, .int .i64 b, .int .i64 limit] w (SortedPart w0 blk off n a b d) := by
    have IH := Lib.hid ih
    clear ih
    have INS := Lib.hid (@insertionU w0 blk off n cap hn)
    have HEAP := Lib.hid (@heapU w0 blk off n cap hn)
    have BRK := Lib.hid (@breakU w0 blk off n cap hn)
    have PIV := Lib.hid (@pivotU w0 blk off n cap hn)
    have REV := Lib.hid (@reverseU w0 blk off n cap hn)
    have PIN := Lib.hid (@pinsU w0 blk off n cap hn)
    have PEQ := Lib.hid (@partEqU w0 blk off n cap hn)
    have PRT := Lib.hid (@partU w0 blk off n cap hn)
    have U0 : Aside (UW w0 blk off n d w) := U
    have HB : Aside (Sort.Below ltInt a b d) := hB
    clear U hB
    go_enter Try.func38, Try.ntmps38
    go_wp2_with fail
    go_loopg [1, 2, 3, 8, 9] (b - a) (fun k s1 s2 s3 s8 s9 wr => ∃ (a' b' lim : Nat) (wb wp : Bool) (dk : Array Int), s1 = .int .i64 a' ∧ s2 = .int .i64 b' ∧ s3 = .int .i64 lim ∧ s8 = .bool wb ∧ s9 = .bool wp ∧
      a' ≤ b' ∧ b' ≤ n ∧ b' - a' ≤ b - a ∧ b' - a' ≤ k ∧ lim < 281474976710656 ∧ Aside (UW w0 blk off n dk wr) ∧ Aside (Owed ltInt a b d a' b' dk) ∧ Aside (Sort.Below ltInt a' b' dk))
    case atStart => exact ⟨a, b, limit, true, true, d, rfl, rfl, rfl, rfl, rfl, hab, hb, Nat.le_refl _, Nat.le_refl _, hlim, U0, (show Aside _ from Owed.start), HB⟩
    case round =>
      clear U0 HB
      obtain ⟨a', b', lim, wb, wp, dk, rfl, rfl, rfl, rfl, rfl, hab', hbn', hba, hbk, hlim', U1, HO, HB⟩ := hrel
      by_cases h12 : b' ≤ a' + 12
      · have h12z : (b' : Int) - (a' : Int) ≤ 12 := by omega
        go_wp2_with fail
        refine (INS.out a' b' dk wr U1.out hab' hbn').mono ?_
        rintro e w2 ⟨rfl, d2, U2, hp, hs⟩
        have HF := Lib.hid (HO.out d2 hp hs)
        clear hp hs
        go_wp2_with fail
        (try simp only [Exit.inBlock, Exit.then])
        refine bodyPost_ret (results_none rfl _ _ _) rfl ?_
        exact ⟨rfl, d2, U2, HF.out.1, HF.out.2⟩
      · have h12z : ¬ (b' : Int) - (a' : Int) ≤ 12 := by omega
        by_cases hl0 : lim = 0
        · have hlz : ((lim : Int) == 0) = true := by rw [beq_iff_eq]; omega
          clear hl0
          go_wp2_with fail
          refine (HEAP.out a' b' dk wr U1.out hab' hbn').mono ?_
          rintro e w2 ⟨rfl, d2, U2, hp, hs⟩
          have HF := Lib.hid (HO.out d2 hp hs)
          clear hp hs
          go_wp2_with fail
          (try simp only [Exit.inBlock, Exit.then])
          refine bodyPost_ret (results_none rfl _ _ _) rfl ?_
          exact ⟨rfl, d2, U2, HF.out.1, HF.out.2⟩
        · have hlz : ((lim : Int) == 0) = false := by rw [beq_eq_false_iff_ne]; omega
          have hl1 : 1 ≤ lim := by omega
          clear hl0
          go_upto_if 35 with (fail)
          go_cut [3] from 19 (fun s3 wx => ∃ (lim' : Nat) (d1 : Array Int), s3 = .int .i64 lim' ∧ lim' < 281474976710656 ∧ Aside (UW w0 blk off n d1 wx) ∧ Aside (PermIn a' b' dk d1))
          case first =>
            cases wb with
            | false =>
              go_wp2_with fail
              refine (BRK.out a' b' dk wr U1.out hab' hbn').mono ?_
              rintro e w2 ⟨rfl, d2, U2, hp⟩
              have HP := Lib.hid hp
              clear hp
              go_wp2_with fail
              go_meet
              exact ⟨lim - 1, d2, by first | rfl | (congr 1; omega), by omega, U2, HP.out⟩
            | true =>
              go_wp2_with fail
              go_meet
              exact ⟨lim, dk, rfl, hlim', U1, (show Aside _ from permIn_refl dk a' b')⟩
          case rest =>
            obtain ⟨lim', d1, rfl, hlim2, U2, HP1⟩ := hcut
            have HO1 : Aside (Owed ltInt a b d a' b' d1) := HO.out.perm HP1.out
            have HB1 : Aside (Sort.Below ltInt a' b' d1) := HB.out.perm (by rw [U1.out.size]; exact hbn') HP1.out
            clear HO HB HP1 U1 hlz hl1 hlim'
            go_wp2_with fail
            refine (PIV.out a' b' d1 _ U2.out (by omega) hbn').mono ?_
            rintro e w2 ⟨p, h, rfl, hp1, hp2, U3⟩
            have U3 : Aside (UW w0 blk off n d1 w2) := U3
            clear U2
            go_upto_if 50 with (fail)
            go_cut [11, 12] from 19 (fun s11 s12 wx => ∃ (p' h' : Nat) (d2 : Array Int), s11 = .int .i64 p' ∧ s12 = .int .i64 h' ∧ a' ≤ p' ∧ p' < b' ∧ Aside (UW w0 blk off n d2 wx) ∧ Aside (PermIn a' b' d1 d2))
            case first =>
              by_cases hh : h = 2
              · have hhz : ((h : Int) == 2) = true := by rw [beq_iff_eq]; omega
                go_wp2_with fail
                refine (REV.out a' b' d1 _ U3.out hab' hbn').mono ?_
                rintro e w3 ⟨rfl, d2, U4, hp⟩
                have HP := Lib.hid hp
                clear hp
                go_wp2_with fail
                go_meet
                exact ⟨b' - 1 - (p - a'), 1, d2, by congr 1; omega, rfl, by omega, by omega, U4, HP.out⟩
              · have hhz : ((h : Int) == 2) = false := by rw [beq_eq_false_iff_ne]; omega
                go_wp2_with fail
                go_meet
                exact ⟨p, h, d1, rfl, rfl, hp1, hp2, U3, (show Aside _ from permIn_refl d1 a' b')⟩
            case rest =>
              obtain ⟨p', h', d2, rfl, rfl, hp1', hp2', U4, HP2⟩ := hcut
              have HO2 : Aside (Owed ltInt a b d a' b' d2) := HO1.out.perm HP2.out
              have HB2 : Aside (Sort.Below ltInt a' b' d2) := HB1.out.perm (by rw [U3.out.size]; exact hbn') HP2.out
              clear HO1 HB1 HP2 U3 hp1 hp2
              go_upto_region 15 with (fail)
              go_cut [68] from 19 (fun s68 wx => ∃ c : Bool, s68 = .bool c ∧ Aside (UW w0 blk off n d2 wx))
              case first =>
                cases wb with
                | false =>
                  go_wp2_with fail
                  go_meet
                  exact ⟨_, rfl, U4⟩
                | true =>
                  cases wp with
                  | false =>
                    go_wp2_with fail
                    go_meet
                    exact ⟨_, rfl, U4⟩
                  | true =>
                    go_wp2_with fail
                    go_meet
                    exact ⟨_, rfl, U4⟩
              case rest =>
                clear U4
                obtain ⟨c, rfl, U4⟩ := hcut
                go_upto_if 68 with (fail)
                go_cut [] from 19 (fun wx => ∃ d3 : Array Int, Aside (UW w0 blk off n d3 wx) ∧ Aside (PermIn a' b' d2 d3))
                case first =>
                  cases c with
                  | false =>
                    go_wp2_with fail
                    go_meet
                    exact ⟨d2, U4, (show Aside _ from permIn_refl d2 a' b')⟩
                  | true =>
                    go_wp2_with fail
                    refine (PIN.out a' b' d2 _ U4.out (by omega) hbn' HB2.out).mono ?_
                    rintro e w3 ⟨r, d3, rfl, U5, hp, hs⟩
                    have HP := Lib.hid hp
                    have HS := Lib.hid hs
                    clear hp hs
                    cases r with
                    | true =>
                      go_wp2_with fail
                      (try simp only [Exit.inBlock, Exit.then])
                      refine bodyPost_ret (results_none rfl _ _ _) rfl ?_
                      have HF := HO2.out d3 HP.out (by first | exact HS.out rfl | exact HS.out trivial)
                      exact ⟨rfl, d3, U5, HF.1, HF.2⟩
                    | false =>
                      go_wp2_with fail
                      go_meet
                      exact ⟨d3, U5, HP.out⟩
                case rest =>
                  obtain ⟨d3, U5, HP3⟩ := hcut
                  have HO3 : Aside (Owed ltInt a b d a' b' d3) := HO2.out.perm HP3.out
                  have HB3 : Aside (Sort.Below ltInt a' b' d3) := HB2.out.perm (by rw [U4.out.size]; exact hbn') HP3.out
                  clear HO2 HB2 HP3 U4
                  have HB2 := HB3
                  clear HB3
                  go_upto_region 17 with (fail)
                  go_cut [87] from 19 (fun s87 wx => ∃ c : Bool, s87 = .bool c ∧ Aside (c = true → 0 < a' ∧ ltInt d3[a' - 1]! d3[p']! = false) ∧ Aside (UW w0 blk off n d3 wx))
                  case first =>
                    rcases Nat.eq_zero_or_pos a' with ha0 | ha0
                    · have haz : decide ((a' : Int) > 0) = false := decide_eq_false (by omega)
                      have hay : ¬ 0 < a' := by omega
                      have hax : decide (0 < a') = false := decide_eq_false hay
                      clear ha0
                      go_wp2_with fail
                      go_big_quiet (first | (go_at_call 30; refine Calls.quiet_of_same (lessL_any _ _ _)))
                      have U6 : Aside (UW w0 blk off n d3 _) := U5.out.drewN nq
                      go_wp2_with fail
                      go_meet
                      exact ⟨false, rfl, (show Aside _ from fun h => by cases h), U6⟩
                    · have haz : 0 < (a' : Int) := by omega
                      obtain ⟨u, hu⟩ : ∃ u, a' = u + 1 := ⟨a' - 1, by omega⟩
                      cases hL : ltInt d3[a' - 1]! d3[p']! with
                      | true =>
                        have hcw : ∀ t, t < n → wc.cell? ⟨blk, off + t, none⟩ = some (.int .u64 d3[t]!) := U5.out.cell
                        have hfw : ∀ t, t < n → wc.frozen? ⟨blk, off + t, none⟩ = false := U5.out.free
                        clear hu
                        go_wp2_with fail
                        go_big_quiet (first | (go_at_call 30; refine Calls.quiet_of_same (lessL_any _ _ _)))
                        have U6 : Aside (UW w0 blk off n d3 _) := U5.out.drewN nq
                        go_wp2_with fail
                        go_meet
                        exact ⟨false, by first | rfl | (rw [hL]; rfl), (show Aside _ from fun h => by cases h), U6⟩
                      | false =>
                        have hcw : ∀ t, t < n → wc.cell? ⟨blk, off + t, none⟩ = some (.int .u64 d3[t]!) := U5.out.cell
                        have hfw : ∀ t, t < n → wc.frozen? ⟨blk, off + t, none⟩ = false := U5.out.free
                        clear hu
                        go_wp2_with fail
                        go_big_quiet (first | (go_at_call 30; refine Calls.quiet_of_same (lessL_any _ _ _)))
                        have U6 : Aside (UW w0 blk off n d3 _) := U5.out.drewN nq
                        go_wp2_with fail
                        go_meet
                        exact ⟨true, by first | rfl | (rw [hL]; rfl), (show Aside _ from fun _ => ⟨ha0, hL⟩), U6⟩
                  case rest =>
                    clear U5
                    obtain ⟨c, rfl, HC, U3⟩ := hcut
                    cases c with
                    | true =>
                      obtain ⟨ha0, hL⟩ := HC.out rfl
                      have HL := Lib.hid hL
                      clear hL HC
                      go_wp2_with fail
                      refine (PEQ.out a' b' p' d3 _ U3.out hp1' hp2' hbn').mono ?_
                      rintro e w4 ⟨mid, d4, rfl, U4, hx⟩
                      have U4 : Aside (UW w0 blk off n d4 w4) := U4
                      have HQ := Lib.hid (Owed.eq swo_ltInt HO3.out ha0 (by omega) (by rw [U3.out.size]; exact hbn') HB2.out (fun t h1 h2 => by
                        rcases HB2.out with h0 | h0
                        · omega
                        · exact swo_ltInt.ntrans _ _ _ (h0 t h1 h2) HL.out) hx)
                      have hm1 := hx.lo
                      have hm2 := hx.hi
                      clear hx
                      go_wp2_with fail
                      go_roundg (b' - mid)
                      case measure => omega
                      case rel => exact ⟨mid, b', lim', _, _, d4, rfl, rfl, rfl, rfl, rfl, hm2, hbn', by omega, Nat.le_refl _, hlim2, U4, (show Aside _ from HQ.out.1), (show Aside _ from HQ.out.2)⟩
                    | false =>
                      clear HC
                      go_wp2_with fail
                      refine (PRT.out a' b' p' d3 _ U3.out hp1' hp2' hbn').mono ?_
                      rintro e w4 ⟨mid, ap, d4, rfl, U4, hx⟩
                      have U4 : Aside (UW w0 blk off n d4 w4) := U4
                      have HX := Lib.hid hx
                      have hm1 := hx.lo
                      have hm2 := hx.hi
                      clear hx
                      by_cases hlr : mid - a' < b' - mid
                      · have hlz : (mid : Int) - (a' : Int) < (b' : Int) - (mid : Int) := by omega
                        go_wp2_with fail
                        refine (IH.out a' mid lim' d4 w4 (by omega) U4.out (by omega) (by omega) (by omega) ((HB2.out.perm (by rw [U3.out.size]; omega) HX.out.perm).mono (by omega))).mono ?_
                        rintro e w5 ⟨rfl, d5, U5, hp5, hs5⟩
                        have U5 : Aside (UW w0 blk off n d5 w5) := U5
                        have HO5 := Owed.left swo_ltInt HO3.out (by rw [U3.out.size]; omega) HX.out hp5 hs5
                        have HQ := Lib.hid HO5
                        clear hp5 hs5 HO5
                        go_wp2_with fail
                        go_roundg (b' - (mid + 1))
                        case measure => omega
                        case rel => exact ⟨mid + 1, b', lim', _, _, d5, by go_num, rfl, rfl, rfl, rfl, by omega, by omega, by omega, by omega, by omega, U5, (show Aside _ from HQ.out.1), (show Aside _ from HQ.out.2)⟩
                      · have hlz : ¬ (mid : Int) - (a' : Int) < (b' : Int) - (mid : Int) := by omega
                        have hc := IH.out (mid + 1) b' lim' d4 w4 (by omega) U4.out (by omega) (by omega) (by omega) (Or.inr (fun i h1 h2 => by rw [Nat.add_sub_cancel]; exact HX.out.right i (by omega) h2))
                        rw [show ((mid + 1 : Nat) : Int) = (mid : Int) + 1 by omega] at hc
                        have HC := Lib.hid hc
                        clear hc
                        go_wp2_with fail
                        refine (HC.out).mono ?_
                        rintro e w5 ⟨rfl, d5, U5, hp5, hs5⟩
                        have U5 : Aside (UW w0 blk off n d5 w5) := U5
                        have HO5 := Owed.right swo_ltInt HO3.out (by rw [U3.out.size]; omega) HB2.out HX.out hp5 hs5
                        have HQ := Lib.hid HO5
                        clear hp5 hs5 HO5
                        go_wp2_with fail
                        go_roundg (mid - a')
                        case measure => omega
                        case rel => exact ⟨a', mid, lim', _, _, d5, rfl, rfl, rfl, rfl, rfl, by omega, by omega, by omega, by omega, by omega, U5, (show Aside _ from HQ.out.1), (show Aside _ from HQ.out.2)⟩

theorem pdqU {w0 : World} {blk off n : Nat} (cap : Nat) (hn : n < 281474976710656) : ∀ (N a b limit : Nat) (d : Array Int) (w : World), b - a < N → UW w0 blk off n d w → a ≤ b → b ≤ n → limit < 281474976710656 → Sort.Below ltInt a b d →
    Calls Try.prog 38 #[.slice (some ⟨blk, off, none⟩) n cap, .int .i64 a, .int .i64 b, .int .i64 limit] w (SortedPart w0 blk off n a b d)
  | 0, a, b, limit, d, w, hN, _, _, _, _, _ => by omega
  | N + 1, a, b, limit, d, w, hN, U, hab, hb, hlim, hB => pdqU_step cap hn N a b limit d w (pdqU cap hn N) hN U hab hb hlim hB

end Go.Proofs.Ytjiijddlbfgafaa
