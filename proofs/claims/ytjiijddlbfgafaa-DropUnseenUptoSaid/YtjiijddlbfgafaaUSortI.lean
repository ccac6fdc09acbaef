/- slices.partitionOrdered at uint64. PRINTED BY wip/tpl/SortU.py. -/
import Derived.Test.YtjiijddlbfgafaaUKit
set_option linter.unusedVariables false
set_option linter.unusedSimpArgs false
namespace Go.Proofs.Ytjiijddlbfgafaa
open Go.Shelf Go.RowKit Go.Lib Go.Sort
/-- What partition leaves. -/
def PartPost (w0 : World) (blk off n a b : Nat) (d : Array Int) (e : Ending) (W : World) : Prop :=
  ∃ (mid : Nat) (ap : Bool) (d' : Array Int), e = .returned (.tuple #[.int .i64 mid, .bool ap]) ∧ UW w0 blk off n d' W ∧ Parted ltInt a b mid d d'
set_option maxHeartbeats 16000000 in
set_option maxRecDepth 1000000 in
theorem partU {w0 : World} {blk off n : Nat} (cap : Nat) (hn : n < 281474976710656) (a b pivot : Nat) (d : Array Int) (w : World) (U : UW w0 blk off n d w) (hap : a ≤ pivot) (hpb : pivot < b) (hb : b ≤ n) :
    Calls Try.prog 55 #[.slice (some ⟨blk, off, none⟩) n cap, .int .i64 a, .int .i64 b, .int .i64 pivot] w (PartPost w0 blk off n a b d) := by
  have U0 : Aside (UW w0 blk off n d w) := U
  have HD := Lib.hid U.size
  clear U
  go_enter Try.func55, Try.ntmps55
  go_upto_region 1 with (fail)
  go_cut [] (fun wx => ∃ de : Array Int, Aside (UW w0 blk off n de wx) ∧ Aside (de = swp d (a) (pivot)))
  case first =>
    by_cases hxy : a = pivot
    · subst hxy
      have U9 : Aside (UW w0 blk off n (swp d (a) (a)) (((w.setCell ⟨blk, off + (a), none⟩ (.int .u64 d[a]!)).setCell ⟨blk, off + (a), none⟩ (.int .u64 d[a]!)).drew)) := U0.out.swap (a) (a) (by omega) (by omega)
      have hcw : ∀ t, t < n → w.cell? ⟨blk, off + t, none⟩ = some (.int .u64 d[t]!) := U0.out.cell
      have hfw : ∀ t, t < n → w.frozen? ⟨blk, off + t, none⟩ = false := U0.out.free
      clear U0
      go_wp2_with fail
      go_region
      clear hcw hfw
      generalize ((w.setCell ⟨blk, off + (a), none⟩ (.int .u64 d[a]!)).setCell ⟨blk, off + (a), none⟩ (.int .u64 d[a]!)).drew = w9 at U9 ⊢
      go_wp2_with fail
      go_meet
      exact ⟨swp d (a) (a), U9, (show Aside _ from rfl)⟩
    · have hxz : ¬ (a : Int) = (pivot : Int) := by omega
      have hyz : ¬ (pivot : Int) = (a : Int) := by omega
      have U9 : Aside (UW w0 blk off n (swp d (a) (pivot)) (((w.setCell ⟨blk, off + (a), none⟩ (.int .u64 d[pivot]!)).setCell ⟨blk, off + (pivot), none⟩ (.int .u64 d[a]!)).drew)) := U0.out.swap (a) (pivot) (by omega) (by omega)
      have hcw : ∀ t, t < n → w.cell? ⟨blk, off + t, none⟩ = some (.int .u64 d[t]!) := U0.out.cell
      have hfw : ∀ t, t < n → w.frozen? ⟨blk, off + t, none⟩ = false := U0.out.free
      clear U0
      go_wp2_with fail
      go_region
      clear hcw hfw
      generalize ((w.setCell ⟨blk, off + (a), none⟩ (.int .u64 d[pivot]!)).setCell ⟨blk, off + (pivot), none⟩ (.int .u64 d[a]!)).drew = w9 at U9 ⊢
      go_wp2_with fail
      go_meet
      exact ⟨swp d (a) (pivot), U9, (show Aside _ from rfl)⟩
  case rest =>
    clear U0
    obtain ⟨de, U9, HDE⟩ := hcut
    have HP : Aside (PermIn a b d de) := by rw [HDE.out]; exact swp_permIn d a b a pivot (Nat.le_refl _) (by omega) (by omega) (by omega) (by rw [HD.out]; exact hb)
    have HPV : Aside (de[a]! = d[pivot]!) := by
      show de[a]! = d[pivot]!
      rw [HDE.out, swp_get d (show a < d.size by rw [HD.out]; omega) (show pivot < d.size by rw [HD.out]; omega)]
      split
      · next h => rw [h]
      · rw [if_pos rfl]
    clear HDE
    obtain ⟨p, hp⟩ : ∃ p, p = de[a]! := ⟨_, rfl⟩
    have HA : Aside (de[a]! = p) := hp.symm
    have HPD : Aside (p = d[pivot]!) := hp.trans HPV.out
    clear hp HPV
    clear HPD
    go_wp2_with fail
    obtain ⟨i, hi⟩ : ∃ i, i = a + 1 := ⟨_, rfl⟩
    obtain ⟨j, hj⟩ : ∃ j, j = b - 1 := ⟨_, rfl⟩
    obtain ⟨dk, hdk⟩ : ∃ dk, dk = de := ⟨_, rfl⟩
    rw [← hdk] at U9 HP HA
    have HH : Aside (Halves (fun x => ltInt x p) (fun x => !ltInt x p) a i j b dk) := by rw [hi, hj]; exact Halves.start (by omega)
    have hai : a < i := by omega
    have hij : i ≤ j + 1 := by omega
    have hjb : j < b := by omega
    have hjz0 : (j : Int) = (b : Int) - 1 := by omega
    rw [show ((a : Int) + 1) = (i : Int) by omega, show ((b : Int) - 1) = (j : Int) by omega]
    clear hi hj hdk hjz0
    have hjz0 : True := trivial
    have U1 := U9
    clear U9
    go_loopg [10] (j + 1 - i) (fun k1 v1 wr1 => ∃ i' : Nat, v1 = .int .i64 i' ∧ i ≤ i' ∧ i' ≤ j + 1 ∧ j + 1 - i' ≤ k1 ∧ Aside (UW w0 blk off n dk wr1) ∧ Aside (Halves (fun x => ltInt x p) (fun x => !ltInt x p) a i' j b dk))
    case atStart => exact ⟨i, rfl, Nat.le_refl _, hij, Nat.le_refl _, U1, HH⟩
    case round =>
      clear U1 HH
      obtain ⟨i', rfl, h1, h2, hk1, U1, HH⟩ := hrel
      by_cases hc : i' ≤ j
      · have hcz : (i' : Int) ≤ (j : Int) := by omega
        cases hL : ltInt dk[i']! dk[a]! with
        | true =>
          have hcw : ∀ t, t < n → wr.cell? ⟨blk, off + t, none⟩ = some (.int .u64 dk[t]!) := U1.out.cell
          have hfw : ∀ t, t < n → wr.frozen? ⟨blk, off + t, none⟩ = false := U1.out.free
          go_wp2_with fail
          go_big_quiet (first | (go_at_call 30; refine Calls.quiet_of_same (lessL_any _ _ _)))
          have U2 : Aside (UW w0 blk off n dk (wr.drewN nq)) := U1.out.drewN nq
          clear hcw hfw U1
          generalize wr.drewN nq = w2 at U2 ⊢
          clear nq
          go_wp2
          go_roundg (j + 1 - (i' + 1))
          case measure => omega
          case rel => exact ⟨i' + 1, by go_num, by omega, by omega, Nat.le_refl _, U2, (show Aside _ from HH.out.up (by rw [HA.out] at hL; simp [hL]))⟩
        | false =>
          have hcw : ∀ t, t < n → wr.cell? ⟨blk, off + t, none⟩ = some (.int .u64 dk[t]!) := U1.out.cell
          have hfw : ∀ t, t < n → wr.frozen? ⟨blk, off + t, none⟩ = false := U1.out.free
          go_wp2_with fail
          go_big_quiet (first | (go_at_call 30; refine Calls.quiet_of_same (lessL_any _ _ _)))
          have U2 : Aside (UW w0 blk off n dk (wr.drewN nq)) := U1.out.drewN nq
          clear hcw hfw U1
          generalize wr.drewN nq = w2 at U2 ⊢
          clear nq
          go_wp2_with fail
          go_loopg [11] j (fun k2 v2 wr2 => ∃ j' : Nat, v2 = .int .i64 j' ∧ j' ≤ j ∧ i' ≤ j' + 1 ∧ j' ≤ k2 ∧ Aside (UW w0 blk off n dk wr2) ∧ Aside (Halves (fun x => ltInt x p) (fun x => !ltInt x p) a i' j' b dk))
          case atStart => exact ⟨j, rfl, Nat.le_refl _, by omega, Nat.le_refl _, U2, HH⟩
          case round =>
            clear U2 HH
            obtain ⟨j', rfl, h3, h4, hk2, U1, HH⟩ := hrel
            by_cases hd : i' ≤ j'
            · obtain ⟨r, rfl⟩ : ∃ r, j' = r + 1 := ⟨j' - 1, by omega⟩
              have hdz : (i' : Int) ≤ (r : Int) + 1 := by omega
              cases hM : ltInt dk[r + 1]! dk[a]! with
              | false =>
                have hcw : ∀ t, t < n → wr.cell? ⟨blk, off + t, none⟩ = some (.int .u64 dk[t]!) := U1.out.cell
                have hfw : ∀ t, t < n → wr.frozen? ⟨blk, off + t, none⟩ = false := U1.out.free
                go_wp2_with fail
                go_big_quiet (first | (go_at_call 30; refine Calls.quiet_of_same (lessL_any _ _ _)))
                have U2 : Aside (UW w0 blk off n dk (wr.drewN nq)) := U1.out.drewN nq
                clear hcw hfw U1
                generalize wr.drewN nq = w2 at U2 ⊢
                clear nq
                go_wp2
                go_roundg r
                case measure => omega
                case rel => exact ⟨r, by first | rfl | go_num | (congr 1; omega), by omega, by omega, Nat.le_refl _, U2, (show Aside _ from HH.out.down (by rw [HA.out] at hM; simp [hM]))⟩
              | true =>
                have hne : i' ≠ r + 1 := by
                  rintro rfl
                  rw [hL] at hM
                  cases hM
                have hrz : ¬ (r : Int) + 1 < (i' : Int) := by omega
                have hcw : ∀ t, t < n → wr.cell? ⟨blk, off + t, none⟩ = some (.int .u64 dk[t]!) := U1.out.cell
                have hfw : ∀ t, t < n → wr.frozen? ⟨blk, off + t, none⟩ = false := U1.out.free
                go_wp2_with fail
                go_big_quiet (first | (go_at_call 30; refine Calls.quiet_of_same (lessL_any _ _ _)))
                have U2 : Aside (UW w0 blk off n dk (wr.drewN nq)) := U1.out.drewN nq
                clear hcw hfw U1
                generalize wr.drewN nq = w2 at U2 ⊢
                clear nq
                go_wp2_with fail
                have U3 : Aside (UW w0 blk off n (swp dk (i') (r + 1)) (((w2.setCell ⟨blk, off + (i'), none⟩ (.int .u64 dk[r + 1]!)).setCell ⟨blk, off + (r + 1), none⟩ (.int .u64 dk[i']!)).drew)) := U2.out.swap (i') (r + 1) (by omega) (by omega)
                have hcw : ∀ t, t < n → w2.cell? ⟨blk, off + t, none⟩ = some (.int .u64 dk[t]!) := U2.out.cell
                have hfw : ∀ t, t < n → w2.frozen? ⟨blk, off + t, none⟩ = false := U2.out.free
                clear U2
                go_wp2_with fail
                go_region
                clear hcw hfw
                generalize ((w2.setCell ⟨blk, off + (i'), none⟩ (.int .u64 dk[r + 1]!)).setCell ⟨blk, off + (r + 1), none⟩ (.int .u64 dk[i']!)).drew = w3 at U3 ⊢
                have HP2 : Aside (PermIn a b d (swp dk i' (r + 1))) := perm_swap HP.out (by omega) (by omega) (by omega) (by omega) (by rw [HD.out]; exact hb)
                have HA2 : Aside ((swp dk i' (r + 1))[a]! = p) := (swp_other dk i' (r + 1) a (by omega) (by omega)).trans HA.out
                have HH2 : Aside (Halves (fun x => ltInt x p) (fun x => !ltInt x p) a (i' + 1) r b (swp dk i' (r + 1))) := HH.out.swap (by omega) (by rw [HP.out.1, HD.out]; omega) (by rw [HA.out] at hM; simp [hM]) (by rw [HA.out] at hL; simp [hL]) (by omega)
                go_wp2_with fail
                go_loopg [10, 11] (b - a) (fun k s10 s11 wr => ∃ (i j : Nat) (dk : Array Int), s10 = .int .i64 i ∧ s11 = .int .i64 j ∧ a < i ∧ i ≤ j + 1 ∧ j < b ∧ j + 1 - i ≤ k ∧ Aside (UW w0 blk off n dk wr) ∧ Aside (PermIn a b d dk) ∧ Aside (dk[a]! = p) ∧ Aside (Halves (fun x => ltInt x p) (fun x => !ltInt x p) a i j b dk))
                case atStart => exact ⟨i' + 1, r, swp dk i' (r + 1), by go_num, by first | rfl | go_num | (congr 1; omega), by omega, by omega, by omega, by omega, U3, HP2, HA2, HH2⟩
                case round =>
                  clear U3 HP HA HH HP2 HA2 HH2 hL hM hne hrz hc hcz hd hdz h1 h2 h3 h4 hk1 hk2 hij hai hjb hjz0
                  obtain ⟨i, j, dk, rfl, rfl, hai, hij, hjb, hk, U1, HP, HA, HH⟩ := hrel
                  go_wp2_with fail
                  go_loopg [10] (j + 1 - i) (fun k1 v1 wr1 => ∃ i' : Nat, v1 = .int .i64 i' ∧ i ≤ i' ∧ i' ≤ j + 1 ∧ j + 1 - i' ≤ k1 ∧ Aside (UW w0 blk off n dk wr1) ∧ Aside (Halves (fun x => ltInt x p) (fun x => !ltInt x p) a i' j b dk))
                  case atStart => exact ⟨i, rfl, Nat.le_refl _, hij, Nat.le_refl _, U1, HH⟩
                  case round =>
                    clear U1 HH
                    obtain ⟨i', rfl, h1, h2, hk1, U1, HH⟩ := hrel
                    by_cases hc : i' ≤ j
                    · have hcz : (i' : Int) ≤ (j : Int) := by omega
                      cases hL : ltInt dk[i']! dk[a]! with
                      | true =>
                        have hcw : ∀ t, t < n → wr.cell? ⟨blk, off + t, none⟩ = some (.int .u64 dk[t]!) := U1.out.cell
                        have hfw : ∀ t, t < n → wr.frozen? ⟨blk, off + t, none⟩ = false := U1.out.free
                        go_wp2_with fail
                        go_big_quiet (first | (go_at_call 30; refine Calls.quiet_of_same (lessL_any _ _ _)))
                        have U2 : Aside (UW w0 blk off n dk (wr.drewN nq)) := U1.out.drewN nq
                        clear hcw hfw U1
                        generalize wr.drewN nq = w2 at U2 ⊢
                        clear nq
                        go_wp2
                        go_roundg (j + 1 - (i' + 1))
                        case measure => omega
                        case rel => exact ⟨i' + 1, by go_num, by omega, by omega, Nat.le_refl _, U2, (show Aside _ from HH.out.up (by rw [HA.out] at hL; simp [hL]))⟩
                      | false =>
                        have hcw : ∀ t, t < n → wr.cell? ⟨blk, off + t, none⟩ = some (.int .u64 dk[t]!) := U1.out.cell
                        have hfw : ∀ t, t < n → wr.frozen? ⟨blk, off + t, none⟩ = false := U1.out.free
                        go_wp2_with fail
                        go_big_quiet (first | (go_at_call 30; refine Calls.quiet_of_same (lessL_any _ _ _)))
                        have U2 : Aside (UW w0 blk off n dk (wr.drewN nq)) := U1.out.drewN nq
                        clear hcw hfw U1
                        generalize wr.drewN nq = w2 at U2 ⊢
                        clear nq
                        go_wp2_with fail
                        go_loopg [11] j (fun k2 v2 wr2 => ∃ j' : Nat, v2 = .int .i64 j' ∧ j' ≤ j ∧ i' ≤ j' + 1 ∧ j' ≤ k2 ∧ Aside (UW w0 blk off n dk wr2) ∧ Aside (Halves (fun x => ltInt x p) (fun x => !ltInt x p) a i' j' b dk))
                        case atStart => exact ⟨j, rfl, Nat.le_refl _, by omega, Nat.le_refl _, U2, HH⟩
                        case round =>
                          clear U2 HH
                          obtain ⟨j', rfl, h3, h4, hk2, U1, HH⟩ := hrel
                          by_cases hd : i' ≤ j'
                          · obtain ⟨r, rfl⟩ : ∃ r, j' = r + 1 := ⟨j' - 1, by omega⟩
                            have hdz : (i' : Int) ≤ (r : Int) + 1 := by omega
                            cases hM : ltInt dk[r + 1]! dk[a]! with
                            | false =>
                              have hcw : ∀ t, t < n → wr.cell? ⟨blk, off + t, none⟩ = some (.int .u64 dk[t]!) := U1.out.cell
                              have hfw : ∀ t, t < n → wr.frozen? ⟨blk, off + t, none⟩ = false := U1.out.free
                              go_wp2_with fail
                              go_big_quiet (first | (go_at_call 30; refine Calls.quiet_of_same (lessL_any _ _ _)))
                              have U2 : Aside (UW w0 blk off n dk (wr.drewN nq)) := U1.out.drewN nq
                              clear hcw hfw U1
                              generalize wr.drewN nq = w2 at U2 ⊢
                              clear nq
                              go_wp2
                              go_roundg r
                              case measure => omega
                              case rel => exact ⟨r, by first | rfl | go_num | (congr 1; omega), by omega, by omega, Nat.le_refl _, U2, (show Aside _ from HH.out.down (by rw [HA.out] at hM; simp [hM]))⟩
                            | true =>
                              have hne : i' ≠ r + 1 := by
                                rintro rfl
                                rw [hL] at hM
                                cases hM
                              have hrz : ¬ (r : Int) + 1 < (i' : Int) := by omega
                              have hcw : ∀ t, t < n → wr.cell? ⟨blk, off + t, none⟩ = some (.int .u64 dk[t]!) := U1.out.cell
                              have hfw : ∀ t, t < n → wr.frozen? ⟨blk, off + t, none⟩ = false := U1.out.free
                              go_wp2_with fail
                              go_big_quiet (first | (go_at_call 30; refine Calls.quiet_of_same (lessL_any _ _ _)))
                              have U2 : Aside (UW w0 blk off n dk (wr.drewN nq)) := U1.out.drewN nq
                              clear hcw hfw U1
                              generalize wr.drewN nq = w2 at U2 ⊢
                              clear nq
                              go_wp2_with fail
                              have U3 : Aside (UW w0 blk off n (swp dk (i') (r + 1)) (((w2.setCell ⟨blk, off + (i'), none⟩ (.int .u64 dk[r + 1]!)).setCell ⟨blk, off + (r + 1), none⟩ (.int .u64 dk[i']!)).drew)) := U2.out.swap (i') (r + 1) (by omega) (by omega)
                              have hcw : ∀ t, t < n → w2.cell? ⟨blk, off + t, none⟩ = some (.int .u64 dk[t]!) := U2.out.cell
                              have hfw : ∀ t, t < n → w2.frozen? ⟨blk, off + t, none⟩ = false := U2.out.free
                              clear U2
                              go_wp2_with fail
                              go_region
                              clear hcw hfw
                              generalize ((w2.setCell ⟨blk, off + (i'), none⟩ (.int .u64 dk[r + 1]!)).setCell ⟨blk, off + (r + 1), none⟩ (.int .u64 dk[i']!)).drew = w3 at U3 ⊢
                              have HP2 : Aside (PermIn a b d (swp dk i' (r + 1))) := perm_swap HP.out (by omega) (by omega) (by omega) (by omega) (by rw [HD.out]; exact hb)
                              have HA2 : Aside ((swp dk i' (r + 1))[a]! = p) := (swp_other dk i' (r + 1) a (by omega) (by omega)).trans HA.out
                              have HH2 : Aside (Halves (fun x => ltInt x p) (fun x => !ltInt x p) a (i' + 1) r b (swp dk i' (r + 1))) := HH.out.swap (by omega) (by rw [HP.out.1, HD.out]; omega) (by rw [HA.out] at hM; simp [hM]) (by rw [HA.out] at hL; simp [hL]) (by omega)
                              go_wp2_with fail
                              go_roundg (r - i')
                              case measure => omega
                              case rel => exact ⟨i' + 1, r, swp dk i' (r + 1), by go_num, by first | rfl | go_num | (congr 1; omega), by omega, by omega, by omega, by omega, U3, HP2, HA2, HH2⟩
                          · have hdz : decide ((i' : Int) ≤ (j' : Int)) = false := decide_eq_false (by omega)
                            have hdy : ¬ (i' : Int) ≤ (j' : Int) := by omega
                            have hjz : (j' : Int) < (i' : Int) := by omega
                            go_wp2_with fail
                            go_big_quiet (first | (go_at_call 30; refine Calls.quiet_of_same (lessL_any _ _ _)))
                            have U2 : Aside (UW w0 blk off n dk (wr.drewN nq)) := U1.out.drewN nq
                            clear U1
                            generalize wr.drewN nq = w2 at U2 ⊢
                            clear nq
                            go_wp2_with fail
                            go_upto_region 21 with (fail)
                            go_cut [] (fun wx => ∃ de : Array Int, Aside (UW w0 blk off n de wx) ∧ Aside (de = swp dk (j') (a)))
                            case first =>
                              by_cases hxy : j' = a
                              · subst hxy
                                have U9 : Aside (UW w0 blk off n (swp dk (j') (j')) (((w2.setCell ⟨blk, off + (j'), none⟩ (.int .u64 dk[j']!)).setCell ⟨blk, off + (j'), none⟩ (.int .u64 dk[j']!)).drew)) := U2.out.swap (j') (j') (by omega) (by omega)
                                have hcw : ∀ t, t < n → w2.cell? ⟨blk, off + t, none⟩ = some (.int .u64 dk[t]!) := U2.out.cell
                                have hfw : ∀ t, t < n → w2.frozen? ⟨blk, off + t, none⟩ = false := U2.out.free
                                clear U2
                                go_wp2_with fail
                                go_region
                                clear hcw hfw
                                generalize ((w2.setCell ⟨blk, off + (j'), none⟩ (.int .u64 dk[j']!)).setCell ⟨blk, off + (j'), none⟩ (.int .u64 dk[j']!)).drew = w9 at U9 ⊢
                                go_wp2_with fail
                                go_meet
                                exact ⟨swp dk (j') (j'), U9, (show Aside _ from rfl)⟩
                              · have hxz : ¬ (j' : Int) = (a : Int) := by omega
                                have hyz : ¬ (a : Int) = (j' : Int) := by omega
                                have U9 : Aside (UW w0 blk off n (swp dk (j') (a)) (((w2.setCell ⟨blk, off + (j'), none⟩ (.int .u64 dk[a]!)).setCell ⟨blk, off + (a), none⟩ (.int .u64 dk[j']!)).drew)) := U2.out.swap (j') (a) (by omega) (by omega)
                                have hcw : ∀ t, t < n → w2.cell? ⟨blk, off + t, none⟩ = some (.int .u64 dk[t]!) := U2.out.cell
                                have hfw : ∀ t, t < n → w2.frozen? ⟨blk, off + t, none⟩ = false := U2.out.free
                                clear U2
                                go_wp2_with fail
                                go_region
                                clear hcw hfw
                                generalize ((w2.setCell ⟨blk, off + (j'), none⟩ (.int .u64 dk[a]!)).setCell ⟨blk, off + (a), none⟩ (.int .u64 dk[j']!)).drew = w9 at U9 ⊢
                                go_wp2_with fail
                                go_meet
                                exact ⟨swp dk (j') (a), U9, (show Aside _ from rfl)⟩
                            case rest =>
                              clear U2
                              obtain ⟨de, U9, HDE⟩ := hcut
                              go_wp2_with fail
                              go_ret2
                              exact ⟨j', false, de, rfl, U9.out, by rw [HDE.out]; exact Parted.last' swo_ltInt HP.out HA.out HH.out (by omega) (by omega) (by omega) (by rw [HD.out]; exact hb)⟩
                    · have hcz : decide ((i' : Int) ≤ (j : Int)) = false := decide_eq_false (by omega)
                      have hcy : ¬ (i' : Int) ≤ (j : Int) := by omega
                      go_wp2_with fail
                      go_big_quiet (first | (go_at_call 30; refine Calls.quiet_of_same (lessL_any _ _ _)))
                      have U2 : Aside (UW w0 blk off n dk (wr.drewN nq)) := U1.out.drewN nq
                      clear U1
                      generalize wr.drewN nq = w2 at U2 ⊢
                      clear nq
                      go_wp2_with fail
                      go_loopg [11] j (fun k2 v2 wr2 => ∃ j' : Nat, v2 = .int .i64 j' ∧ j' ≤ j ∧ i' ≤ j' + 1 ∧ j' ≤ k2 ∧ Aside (UW w0 blk off n dk wr2) ∧ Aside (Halves (fun x => ltInt x p) (fun x => !ltInt x p) a i' j' b dk))
                      case atStart => exact ⟨j, rfl, Nat.le_refl _, by omega, Nat.le_refl _, U2, HH⟩
                      case round =>
                        clear U2 HH
                        obtain ⟨j', rfl, h3, h4, hk2, U1, HH⟩ := hrel
                        by_cases hd : i' ≤ j'
                        · exfalso
                          omega
                        · have hdz : decide ((i' : Int) ≤ (j' : Int)) = false := decide_eq_false (by omega)
                          have hdy : ¬ (i' : Int) ≤ (j' : Int) := by omega
                          have hjz : (j' : Int) < (i' : Int) := by omega
                          go_wp2_with fail
                          go_big_quiet (first | (go_at_call 30; refine Calls.quiet_of_same (lessL_any _ _ _)))
                          have U2 : Aside (UW w0 blk off n dk (wr.drewN nq)) := U1.out.drewN nq
                          clear U1
                          generalize wr.drewN nq = w2 at U2 ⊢
                          clear nq
                          go_wp2_with fail
                          go_upto_region 21 with (fail)
                          go_cut [] (fun wx => ∃ de : Array Int, Aside (UW w0 blk off n de wx) ∧ Aside (de = swp dk (j') (a)))
                          case first =>
                            by_cases hxy : j' = a
                            · subst hxy
                              have U9 : Aside (UW w0 blk off n (swp dk (j') (j')) (((w2.setCell ⟨blk, off + (j'), none⟩ (.int .u64 dk[j']!)).setCell ⟨blk, off + (j'), none⟩ (.int .u64 dk[j']!)).drew)) := U2.out.swap (j') (j') (by omega) (by omega)
                              have hcw : ∀ t, t < n → w2.cell? ⟨blk, off + t, none⟩ = some (.int .u64 dk[t]!) := U2.out.cell
                              have hfw : ∀ t, t < n → w2.frozen? ⟨blk, off + t, none⟩ = false := U2.out.free
                              clear U2
                              go_wp2_with fail
                              go_region
                              clear hcw hfw
                              generalize ((w2.setCell ⟨blk, off + (j'), none⟩ (.int .u64 dk[j']!)).setCell ⟨blk, off + (j'), none⟩ (.int .u64 dk[j']!)).drew = w9 at U9 ⊢
                              go_wp2_with fail
                              go_meet
                              exact ⟨swp dk (j') (j'), U9, (show Aside _ from rfl)⟩
                            · have hxz : ¬ (j' : Int) = (a : Int) := by omega
                              have hyz : ¬ (a : Int) = (j' : Int) := by omega
                              have U9 : Aside (UW w0 blk off n (swp dk (j') (a)) (((w2.setCell ⟨blk, off + (j'), none⟩ (.int .u64 dk[a]!)).setCell ⟨blk, off + (a), none⟩ (.int .u64 dk[j']!)).drew)) := U2.out.swap (j') (a) (by omega) (by omega)
                              have hcw : ∀ t, t < n → w2.cell? ⟨blk, off + t, none⟩ = some (.int .u64 dk[t]!) := U2.out.cell
                              have hfw : ∀ t, t < n → w2.frozen? ⟨blk, off + t, none⟩ = false := U2.out.free
                              clear U2
                              go_wp2_with fail
                              go_region
                              clear hcw hfw
                              generalize ((w2.setCell ⟨blk, off + (j'), none⟩ (.int .u64 dk[a]!)).setCell ⟨blk, off + (a), none⟩ (.int .u64 dk[j']!)).drew = w9 at U9 ⊢
                              go_wp2_with fail
                              go_meet
                              exact ⟨swp dk (j') (a), U9, (show Aside _ from rfl)⟩
                          case rest =>
                            clear U2
                            obtain ⟨de, U9, HDE⟩ := hcut
                            go_wp2_with fail
                            go_ret2
                            exact ⟨j', false, de, rfl, U9.out, by rw [HDE.out]; exact Parted.last' swo_ltInt HP.out HA.out HH.out (by omega) (by omega) (by omega) (by rw [HD.out]; exact hb)⟩
            · have hdz : decide ((i' : Int) ≤ (j' : Int)) = false := decide_eq_false (by omega)
              have hdy : ¬ (i' : Int) ≤ (j' : Int) := by omega
              have hjz : (j' : Int) < (i' : Int) := by omega
              go_wp2_with fail
              go_big_quiet (first | (go_at_call 30; refine Calls.quiet_of_same (lessL_any _ _ _)))
              have U2 : Aside (UW w0 blk off n dk (wr.drewN nq)) := U1.out.drewN nq
              clear U1
              generalize wr.drewN nq = w2 at U2 ⊢
              clear nq
              go_wp2_with fail
              go_upto_region 8 with (fail)
              go_cut [] (fun wx => ∃ de : Array Int, Aside (UW w0 blk off n de wx) ∧ Aside (de = swp dk (j') (a)))
              case first =>
                by_cases hxy : j' = a
                · subst hxy
                  have U9 : Aside (UW w0 blk off n (swp dk (j') (j')) (((w2.setCell ⟨blk, off + (j'), none⟩ (.int .u64 dk[j']!)).setCell ⟨blk, off + (j'), none⟩ (.int .u64 dk[j']!)).drew)) := U2.out.swap (j') (j') (by omega) (by omega)
                  have hcw : ∀ t, t < n → w2.cell? ⟨blk, off + t, none⟩ = some (.int .u64 dk[t]!) := U2.out.cell
                  have hfw : ∀ t, t < n → w2.frozen? ⟨blk, off + t, none⟩ = false := U2.out.free
                  clear U2
                  go_wp2_with fail
                  go_region
                  clear hcw hfw
                  generalize ((w2.setCell ⟨blk, off + (j'), none⟩ (.int .u64 dk[j']!)).setCell ⟨blk, off + (j'), none⟩ (.int .u64 dk[j']!)).drew = w9 at U9 ⊢
                  go_wp2_with fail
                  go_meet
                  exact ⟨swp dk (j') (j'), U9, (show Aside _ from rfl)⟩
                · have hxz : ¬ (j' : Int) = (a : Int) := by omega
                  have hyz : ¬ (a : Int) = (j' : Int) := by omega
                  have U9 : Aside (UW w0 blk off n (swp dk (j') (a)) (((w2.setCell ⟨blk, off + (j'), none⟩ (.int .u64 dk[a]!)).setCell ⟨blk, off + (a), none⟩ (.int .u64 dk[j']!)).drew)) := U2.out.swap (j') (a) (by omega) (by omega)
                  have hcw : ∀ t, t < n → w2.cell? ⟨blk, off + t, none⟩ = some (.int .u64 dk[t]!) := U2.out.cell
                  have hfw : ∀ t, t < n → w2.frozen? ⟨blk, off + t, none⟩ = false := U2.out.free
                  clear U2
                  go_wp2_with fail
                  go_region
                  clear hcw hfw
                  generalize ((w2.setCell ⟨blk, off + (j'), none⟩ (.int .u64 dk[a]!)).setCell ⟨blk, off + (a), none⟩ (.int .u64 dk[j']!)).drew = w9 at U9 ⊢
                  go_wp2_with fail
                  go_meet
                  exact ⟨swp dk (j') (a), U9, (show Aside _ from rfl)⟩
              case rest =>
                clear U2
                obtain ⟨de, U9, HDE⟩ := hcut
                go_wp2_with fail
                go_ret2
                exact ⟨j', true, de, rfl, U9.out, by rw [HDE.out]; exact Parted.last' swo_ltInt HP.out HA.out HH.out (by omega) (by omega) (by omega) (by rw [HD.out]; exact hb)⟩
      · have hcz : decide ((i' : Int) ≤ (j : Int)) = false := decide_eq_false (by omega)
        have hcy : ¬ (i' : Int) ≤ (j : Int) := by omega
        go_wp2_with fail
        go_big_quiet (first | (go_at_call 30; refine Calls.quiet_of_same (lessL_any _ _ _)))
        have U2 : Aside (UW w0 blk off n dk (wr.drewN nq)) := U1.out.drewN nq
        clear U1
        generalize wr.drewN nq = w2 at U2 ⊢
        clear nq
        go_wp2_with fail
        go_loopg [11] j (fun k2 v2 wr2 => ∃ j' : Nat, v2 = .int .i64 j' ∧ j' ≤ j ∧ i' ≤ j' + 1 ∧ j' ≤ k2 ∧ Aside (UW w0 blk off n dk wr2) ∧ Aside (Halves (fun x => ltInt x p) (fun x => !ltInt x p) a i' j' b dk))
        case atStart => exact ⟨j, rfl, Nat.le_refl _, by omega, Nat.le_refl _, U2, HH⟩
        case round =>
          clear U2 HH
          obtain ⟨j', rfl, h3, h4, hk2, U1, HH⟩ := hrel
          by_cases hd : i' ≤ j'
          · exfalso
            omega
          · have hdz : decide ((i' : Int) ≤ (j' : Int)) = false := decide_eq_false (by omega)
            have hdy : ¬ (i' : Int) ≤ (j' : Int) := by omega
            have hjz : (j' : Int) < (i' : Int) := by omega
            go_wp2_with fail
            go_big_quiet (first | (go_at_call 30; refine Calls.quiet_of_same (lessL_any _ _ _)))
            have U2 : Aside (UW w0 blk off n dk (wr.drewN nq)) := U1.out.drewN nq
            clear U1
            generalize wr.drewN nq = w2 at U2 ⊢
            clear nq
            go_wp2_with fail
            go_upto_region 8 with (fail)
            go_cut [] (fun wx => ∃ de : Array Int, Aside (UW w0 blk off n de wx) ∧ Aside (de = swp dk (j') (a)))
            case first =>
              by_cases hxy : j' = a
              · subst hxy
                have U9 : Aside (UW w0 blk off n (swp dk (j') (j')) (((w2.setCell ⟨blk, off + (j'), none⟩ (.int .u64 dk[j']!)).setCell ⟨blk, off + (j'), none⟩ (.int .u64 dk[j']!)).drew)) := U2.out.swap (j') (j') (by omega) (by omega)
                have hcw : ∀ t, t < n → w2.cell? ⟨blk, off + t, none⟩ = some (.int .u64 dk[t]!) := U2.out.cell
                have hfw : ∀ t, t < n → w2.frozen? ⟨blk, off + t, none⟩ = false := U2.out.free
                clear U2
                go_wp2_with fail
                go_region
                clear hcw hfw
                generalize ((w2.setCell ⟨blk, off + (j'), none⟩ (.int .u64 dk[j']!)).setCell ⟨blk, off + (j'), none⟩ (.int .u64 dk[j']!)).drew = w9 at U9 ⊢
                go_wp2_with fail
                go_meet
                exact ⟨swp dk (j') (j'), U9, (show Aside _ from rfl)⟩
              · have hxz : ¬ (j' : Int) = (a : Int) := by omega
                have hyz : ¬ (a : Int) = (j' : Int) := by omega
                have U9 : Aside (UW w0 blk off n (swp dk (j') (a)) (((w2.setCell ⟨blk, off + (j'), none⟩ (.int .u64 dk[a]!)).setCell ⟨blk, off + (a), none⟩ (.int .u64 dk[j']!)).drew)) := U2.out.swap (j') (a) (by omega) (by omega)
                have hcw : ∀ t, t < n → w2.cell? ⟨blk, off + t, none⟩ = some (.int .u64 dk[t]!) := U2.out.cell
                have hfw : ∀ t, t < n → w2.frozen? ⟨blk, off + t, none⟩ = false := U2.out.free
                clear U2
                go_wp2_with fail
                go_region
                clear hcw hfw
                generalize ((w2.setCell ⟨blk, off + (j'), none⟩ (.int .u64 dk[a]!)).setCell ⟨blk, off + (a), none⟩ (.int .u64 dk[j']!)).drew = w9 at U9 ⊢
                go_wp2_with fail
                go_meet
                exact ⟨swp dk (j') (a), U9, (show Aside _ from rfl)⟩
            case rest =>
              clear U2
              obtain ⟨de, U9, HDE⟩ := hcut
              go_wp2_with fail
              go_ret2
              exact ⟨j', true, de, rfl, U9.out, by rw [HDE.out]; exact Parted.last' swo_ltInt HP.out HA.out HH.out (by omega) (by omega) (by omega) (by rw [HD.out]; exact hb)⟩

end Go.Proofs.Ytjiijddlbfgafaa
