/- symMerge, one element on the right. PRINTED BY wip/tpl/SortC.py. -/
import Derived.Test.YtjiijddlbfgafaaSortC
set_option linter.unusedVariables false
set_option linter.unusedSimpArgs false
namespace Go.Proofs.Ytjiijddlbfgafaa
open Go.Shelf Go.RowKit Go.Lib Go.Sort
variable {P : Program} {α : Type} [Inhabited α] {k : Nat}
set_option maxHeartbeats 8000000 in
set_option maxRecDepth 1000000 in
theorem symMerge_right (L : SortP P k) (enc : α → List Value) (cf : α → α → Int) (hO : SWO (ltOf cf)) (g : Nat) (cb : Array Value) (blk off cap : Nat) (d0 : Array α) (w0 : World)
    (eg : ∀ args w, (callFunc g args).run P w = .ok (.enter g args) w) (hcmp : CmpLays P g cb enc k cf blk off d0.size w0) (R : RowK enc k w0 blk off d0)
    (a m b : Nat) (d : Array α) (w : World) (hs : d0.size = d.size) (S : SWK enc k w0 blk off d w) (two : TwoSorted (ltOf cf) (at_ d) a m b) (hb : b ≤ d.size) (hsz : d.size < 281474976710656) (hm : m ≠ a + 1) (hm2 : b = m + 1) :
    Calls P 43 #[.slice (some ⟨blk, off, none⟩) d.size cap, .int .i64 a, .int .i64 m, .int .i64 b, .func (.func g) #[] cb] w fun e w' => e = .returned (.tuple #[]) ∧ Rowed enc k w0 blk off d.size (fun f => StableOf (ltOf cf) (seg f a b) (seg (at_ d) a b) ∧ ∀ t, t < a ∨ b ≤ t → f t = at_ d t) w' := by
  have mixed := L.mixed; have aE := L.aE; have zE := L.zE; have t0 := L.t0; have a0 := L.a0; have z0 := L.z0; have v0 := L.v0; have t3 := L.t3; have a3 := L.a3; have z3 := L.z3; have v3 := L.v3; have t4 := L.t4; have a4 := L.a4; have z4 := L.z4; have v4 := L.v4; have tS := L.tS; have aS := L.aS; have zS := L.zS; have vS := L.vS; have tF := L.tF; have aF := L.aF; have zF := L.zF; have vF := L.vF; have tU := L.tU; have aU := L.aU; have zU := L.zU; have vU := L.vU
  have ham := two.ham
  have hmb := two.hmb
  have TW := Lib.hid two
  have HC : Aside _ := hcmp
  have S0 : Aside (SWK enc k w0 blk off d w) := S
  have HM := Lib.hid hm2
  have hb1 : ((m : Int) - (a : Int) == 1) = false := by rw [beq_eq_false_iff_ne]; omega
  have hb2 : ((b : Int) - (m : Int) == 1) = true := by rw [beq_iff_eq]; omega
  have hbm1 : b ≤ m + 1 := by omega
  clear S hcmp two hm hm2
  go_enter L.fsym, Try.ntmps43
  go_wp2
  go_loopg [14, 15, 16] (m - a) (fun kx s14 s15 s16 wr => ∃ (i j : Nat), s14 = .int .i64 i ∧ s15 = .int .i64 j ∧ a ≤ i ∧ i ≤ j ∧ j ≤ m ∧ j - i ≤ kx ∧ Aside (SWK enc k w0 blk off d wr) ∧
    Aside (a < i → ltOf cf (at_ d m) (at_ d (i - 1)) = false) ∧ Aside (j < m → ltOf cf (at_ d m) (at_ d j) = true))
  case atStart => exact ⟨a, m, rfl, rfl, Nat.le_refl _, by omega, Nat.le_refl _, Nat.le_refl _, S0, (show Aside _ from fun h => by omega), (show Aside _ from fun h => by omega)⟩
  case round =>
    clear S0
    obtain ⟨i, j, rfl, rfl, hmi, hij, hjb, hkx, S1, H1, H2⟩ := hrel
    by_cases hlt : i < j
    · have hltz : (i : Int) < (j : Int) := by omega
      cases hL1 : ltOf cf d[m]! d[(i + j) / 2]! with
      | true =>
        have ea1 : ((m : Int)).toNat = m := by omega
        have pa1 : (0 : Int) ≤ (m : Int) := by omega
        have ba1 : (m : Int) < (d.size : Int) := by omega
        have ra1 : IntKind.i64.wrap ((m : Int)) = (m : Int) := by rw [IntKind.wrap_i64]; omega
        have ec1 : (((i : Int) + (j : Int)) / 2).toNat = (i + j) / 2 := by omega
        have pc1 : (0 : Int) ≤ ((i : Int) + (j : Int)) / 2 := by omega
        have bc1 : ((i : Int) + (j : Int)) / 2 < (d.size : Int) := by omega
        have rc1 : IntKind.i64.wrap (((i : Int) + (j : Int)) / 2) = ((i : Int) + (j : Int)) / 2 := by rw [IntKind.wrap_i64]; omega
        obtain ⟨x1, hx1⟩ : ∃ x, x = d[m]! := ⟨_, rfl⟩
        obtain ⟨y1, hy1⟩ : ∃ x, x = d[(i + j) / 2]! := ⟨_, rfl⟩
        have l1a := S1.out.ld R (by omega) P (m) (by omega)
        have l1b := S1.out.ld R (by omega) P ((i + j) / 2) (by omega)
        rw [← hx1] at l1a
        rw [← hy1] at l1b
        have hc1 := S1.out.cmp HC.out (by omega) x1 y1
        have hv1 : cf x1 y1 < 0 := by rw [hx1, hy1]; exact of_decide_eq_true hL1
        have hd1 : decide (cf x1 y1 < 0) = true := decide_eq_true hv1
        clear hx1 hy1
        go_wp2_with fail
        go_quiet_grown (first | (go_at_fn g; refine Calls.grown_of (hc1 _ _)))
        have S2 : Aside (SWK enc k w0 blk off d (grow (wr.drewN nq) osq)) := S1.out.grown nq osq
        clear l1a l1b hc1 S1
        generalize grow (wr.drewN nq) osq = w2 at S2 ⊢
        clear nq osq
        go_wp2
        go_roundg ((i + j) / 2 - i)
        case measure => omega
        case rel => exact ⟨i, (i + j) / 2, rfl, by rw [show ((i : Int) + (j : Int)) / 2 = (((i + j) / 2 : Nat) : Int) by omega], hmi, by omega, by omega, Nat.le_refl _, S2, H1, (show Aside _ from fun _ => hL1)⟩
      | false =>
        have ea1n : ((m : Int)).toNat = m := by omega
        have pa1n : (0 : Int) ≤ (m : Int) := by omega
        have ba1n : (m : Int) < (d.size : Int) := by omega
        have ra1n : IntKind.i64.wrap ((m : Int)) = (m : Int) := by rw [IntKind.wrap_i64]; omega
        have ec1n : (((i : Int) + (j : Int)) / 2).toNat = (i + j) / 2 := by omega
        have pc1n : (0 : Int) ≤ ((i : Int) + (j : Int)) / 2 := by omega
        have bc1n : ((i : Int) + (j : Int)) / 2 < (d.size : Int) := by omega
        have rc1n : IntKind.i64.wrap (((i : Int) + (j : Int)) / 2) = ((i : Int) + (j : Int)) / 2 := by rw [IntKind.wrap_i64]; omega
        obtain ⟨x1n, hx1n⟩ : ∃ x, x = d[m]! := ⟨_, rfl⟩
        obtain ⟨y1n, hy1n⟩ : ∃ x, x = d[(i + j) / 2]! := ⟨_, rfl⟩
        have l1na := S1.out.ld R (by omega) P (m) (by omega)
        have l1nb := S1.out.ld R (by omega) P ((i + j) / 2) (by omega)
        rw [← hx1n] at l1na
        rw [← hy1n] at l1nb
        have hc1n := S1.out.cmp HC.out (by omega) x1n y1n
        have hv1n : ¬ cf x1n y1n < 0 := by rw [hx1n, hy1n]; exact of_decide_eq_false hL1
        have hd1n : decide (cf x1n y1n < 0) = false := decide_eq_false hv1n
        clear hx1n hy1n
        go_wp2_with fail
        go_quiet_grown (first | (go_at_fn g; refine Calls.grown_of (hc1n _ _)))
        have S2 : Aside (SWK enc k w0 blk off d (grow (wr.drewN nq) osq)) := S1.out.grown nq osq
        clear l1na l1nb hc1n S1
        generalize grow (wr.drewN nq) osq = w2 at S2 ⊢
        clear nq osq
        go_wp2
        go_roundg (j - ((i + j) / 2 + 1))
        case measure => omega
        case rel => exact ⟨(i + j) / 2 + 1, j, by rw [show ((i : Int) + (j : Int)) / 2 + 1 = (((i + j) / 2 + 1 : Nat) : Int) by omega], rfl, by omega, by omega, hjb, Nat.le_refl _, S2, (show Aside _ from fun _ => hL1), H2⟩
    · have hltz : ¬ (i : Int) < (j : Int) := by omega
      obtain rfl : i = j := by omega
      clear hij hlt
      go_wp2
      go_loopg [17] (m - i) (fun kx s17 wr2 => ∃ (q : Nat) (dk : Array α), s17 = .int .i64 q ∧ i ≤ q ∧ q ≤ m ∧ q - i ≤ kx ∧ dk.size = d.size ∧ Aside (SWK enc k w0 blk off dk wr2) ∧ Aside (at_ dk = rotF q m (m + 1) (at_ d)))
      case atStart => exact ⟨m, d, rfl, hjb, Nat.le_refl _, Nat.le_refl _, rfl, S1, (show Aside _ from (rotF_left m (m + 1) (at_ d)).symm)⟩
      case round =>
        clear S1
        obtain ⟨q, dk, rfl, haq, hqi, hkq, hds, S3, HE⟩ := hrel
        by_cases hq : i < q
        · obtain ⟨r, rfl⟩ : ∃ r, q = r + 1 := ⟨q - 1, by omega⟩
          have hqz : (i : Int) < (r : Int) + 1 := by omega
          go_wp2_with fail
          have ea2 : ((r : Int) + 1).toNat = r + 1 := by omega
          have pa2 : (0 : Int) ≤ (r : Int) + 1 := by omega
          have ba2 : (r : Int) + 1 < (d.size : Int) := by omega
          have ra2 : IntKind.i64.wrap ((r : Int) + 1) = (r : Int) + 1 := by rw [IntKind.wrap_i64]; omega
          have ec2 : ((r : Int)).toNat = r := by omega
          have pc2 : (0 : Int) ≤ (r : Int) := by omega
          have bc2 : (r : Int) < (d.size : Int) := by omega
          have rc2 : IntKind.i64.wrap ((r : Int)) = (r : Int) := by rw [IntKind.wrap_i64]; omega
          have S4 : Aside (SWK enc k w0 blk off (swp dk (r + 1) (r)) ((wr.drew.setCells blk (off + (r + 1) * k) (enc dk[r]!)).setCells blk (off + (r) * k) (enc dk[r + 1]!))) := S3.out.swapped R (r + 1) (r) (by omega) (by omega)
          have l2a := S3.out.ld1 R (by omega) P (r + 1) (by omega)
          have l2b := S3.out.ld1 R (by omega) P (r) (by omega)
          have s2a := S3.out.st1 R (by omega) P (r + 1) (by omega) dk[r]!
          have s2b := S3.out.st2 R (by omega) P (r + 1) (r) (by omega) (by omega) dk[r]! dk[r + 1]!
          have n2a : (enc dk[r + 1]!).length = k := R.hk _
          have n2b : (enc dk[r]!).length = k := R.hk _
          generalize enc dk[r + 1]! = cI2 at S4 l2a s2b n2a
          generalize enc dk[r]! = cJ2 at S4 l2b s2a s2b n2b
          clear S3
          go_wp2_with fail
          go_big_region_o
          clear l2a l2b s2a s2b
          generalize (wr.drew.setCells blk (off + (r + 1) * k) cJ2).setCells blk (off + (r) * k) cI2 = w4 at S4 ⊢
          go_wp2
          go_roundg (r - i)
          case measure => omega
          case rel => exact ⟨r, swp dk (r + 1) r, by first | rfl | go_num | (congr 1; omega), by omega, by omega, Nat.le_refl _, by rw [size_swp]; exact hds, S4, (show Aside _ from (at_swp dk (by omega) (by omega)).trans (by rw [HE.out]; exact rotF_down r m (at_ d) (by omega)))⟩
        · have hqz : ¬ (i : Int) < (q : Int) := by omega
          obtain rfl : q = i := by omega
          go_wp2
          refine bodyPost_ret (results_none rfl _ _ _) rfl ?_
          refine ⟨rfl, dk, S3.out, hds, ?_⟩
          show StableOf _ (seg (at_ dk) a b) _ ∧ ∀ t, t < a ∨ b ≤ t → at_ dk t = at_ d t
          rw [HE.out]
          have two := TW.out
          have hm := HM.out
          subst hm
          exact ⟨two.one_right hO hmi hjb (fun h => H1.out h) (fun h => H2.out h), fun t ht => rotF_out _ _ _ _ _ (by omega) (by omega) (by omega)⟩

end Go.Proofs.Ytjiijddlbfgafaa
