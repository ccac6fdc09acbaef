/- symMerge, the general case, and all of it. PRINTED BY wip/tpl/SortC.py. -/
import Derived.Test.YtjiijddlbfgafaaSortD
import Derived.Deep.DeepCutAuto
set_option linter.unusedVariables false
set_option linter.unusedSimpArgs false
namespace Go.Proofs.Ytjiijddlbfgafaa
open Go.Shelf Go.RowKit Go.Lib Go.Sort
variable {P : Program} {α : Type} [Inhabited α] {k : Nat}
set_option maxHeartbeats 16000000 in
set_option maxRecDepth 1000000 in
theorem symMerge_general (L : SortP P k) (enc : α → List Value) (cf : α → α → Int) (hO : SWO (ltOf cf)) (g : Nat) (cb : Array Value) (blk off cap : Nat) (d0 : Array α) (w0 : World)
    (eg : ∀ args w, (callFunc g args).run P w = .ok (.enter g args) w) (hcmp : CmpLays P g cb enc k cf blk off d0.size w0) (R : RowK enc k w0 blk off d0)
    (a m b : Nat) (d : Array α) (w : World) (hs : d0.size = d.size) (S : SWK enc k w0 blk off d w) (two : TwoSorted (ltOf cf) (at_ d) a m b) (hb : b ≤ d.size) (hsz : d.size < 281474976710656) (hm : m ≠ a + 1) (hm2 : b ≠ m + 1)
    (ih : ∀ (a' m' b' : Nat) (d' : Array α) (w' : World), b' - a' < b - a → d0.size = d'.size → SWK enc k w0 blk off d' w' → TwoSorted (ltOf cf) (at_ d') a' m' b' → b' ≤ d'.size → Calls P 43 #[.slice (some ⟨blk, off, none⟩) d'.size cap, .int .i64 a', .int .i64 m', .int .i64 b', .func (.func g) #[] cb] w' fun e w'' => e = .returned (.tuple #[]) ∧
      Rowed enc k w0 blk off d'.size (fun f => StableOf (ltOf cf) (seg f a' b') (seg (at_ d') a' b') ∧ ∀ t, t < a' ∨ b' ≤ t → f t = at_ d' t) w'') :
    Calls P 43 #[.slice (some ⟨blk, off, none⟩) d.size cap, .int .i64 a, .int .i64 m, .int .i64 b, .func (.func g) #[] cb] w fun e w' => e = .returned (.tuple #[]) ∧ Rowed enc k w0 blk off d.size (fun f => StableOf (ltOf cf) (seg f a b) (seg (at_ d) a b) ∧ ∀ t, t < a ∨ b ≤ t → f t = at_ d t) w' := by
  have mixed := L.mixed; have aE := L.aE; have zE := L.zE; have t0 := L.t0; have a0 := L.a0; have z0 := L.z0; have v0 := L.v0; have t3 := L.t3; have a3 := L.a3; have z3 := L.z3; have v3 := L.v3; have t4 := L.t4; have a4 := L.a4; have z4 := L.z4; have v4 := L.v4; have tS := L.tS; have aS := L.aS; have zS := L.zS; have vS := L.vS; have tF := L.tF; have aF := L.aF; have zF := L.zF; have vF := L.vF; have tU := L.tU; have aU := L.aU; have zU := L.zU; have vU := L.vU
  have e_rot : ∀ args w, (callFunc 58 args).run P w = .ok (.enter 58 args) w := enters_of L.frot (by kernel_rfl) rfl
  have e_sym : ∀ args w, (callFunc 43 args).run P w = .ok (.enter 43 args) w := enters_of L.fsym (by kernel_rfl) rfl
  have ham := two.ham
  have hmb := two.hmb
  have TW := Lib.hid two
  have IH := Lib.hid ih
  have HC : Aside _ := hcmp
  have S0 : Aside (SWK enc k w0 blk off d w) := S
  have hb1 : ((m : Int) - (a : Int) == 1) = false := by rw [beq_eq_false_iff_ne]; omega
  have hb2 : ((b : Int) - (m : Int) == 1) = false := by rw [beq_eq_false_iff_ne]; omega
  obtain ⟨mid, hmid⟩ : ∃ mid, mid = (a + b) / 2 := ⟨_, rfl⟩
  have hmz : ((a : Int) + (b : Int)) / 2 = (mid : Int) := by omega
  have mid1 : a + b ≤ 2 * mid + 1 := by omega
  have mid2 : 2 * mid ≤ a + b := by omega
  have hma3 : a + 2 ≤ m := by omega
  have hmb3 : m + 2 ≤ b := by omega
  have HMID := Lib.hid hmid
  clear S hcmp two ih hmid hm hm2
  go_enter L.fsym, Try.ntmps43
  go_upto_if 140 with (fail)
  go_cut [20, 21] (fun s20 s21 wx => ∃ lo hi : Nat, s20 = .int .i64 lo ∧ s21 = .int .i64 hi ∧ a ≤ lo ∧ lo ≤ hi ∧ hi ≤ mid ∧ hi ≤ m ∧ mid + m ≤ b + lo ∧ Aside (lo = a ∨ b + lo = mid + m) ∧ Aside (hi = m ∨ hi = mid) ∧ Aside (SWK enc k w0 blk off d wx))
  case first =>
    by_cases hgt : mid < m
    · have hgtz : (mid : Int) < (m : Int) := by omega
      go_wp2_with fail
      go_meet
      exact ⟨mid + m - b, mid, by rw [show ((mid : Int) + (m : Int) - (b : Int)) = ((mid + m - b : Nat) : Int) by omega], rfl, by omega, by omega, Nat.le_refl _, by omega, by omega, (show Aside _ from .inr (by omega)), (show Aside _ from .inr rfl), S0⟩
    · have hgtz : ¬ (mid : Int) < (m : Int) := by omega
      go_wp2_with fail
      go_meet
      exact ⟨a, m, rfl, rfl, Nat.le_refl _, by omega, by omega, Nat.le_refl _, by omega, (show Aside _ from .inl rfl), (show Aside _ from .inl rfl), S0⟩
  case rest =>
    clear S0
    obtain ⟨lo, hi, rfl, rfl, hl1, hl2, hl3, hl4, hl5, LO, HI, S0⟩ := hcut
    go_wp2_with fail
    go_loopg [20, 21, 23] (hi - lo) (fun kx s20 s21 s23 wr => ∃ (s r : Nat), s20 = .int .i64 s ∧ s21 = .int .i64 r ∧ lo ≤ s ∧ s ≤ r ∧ r ≤ hi ∧ r - s ≤ kx ∧ Aside (SWK enc k w0 blk off d wr) ∧
      Aside (lo < s → ltOf cf (at_ d (mid + m - s)) (at_ d (s - 1)) = false) ∧ Aside (r < hi → ltOf cf (at_ d (mid + m - 1 - r)) (at_ d r) = true))
    case atStart => exact ⟨lo, hi, rfl, rfl, Nat.le_refl _, hl2, Nat.le_refl _, Nat.le_refl _, S0, (show Aside _ from fun h => by omega), (show Aside _ from fun h => by omega)⟩
    case round =>
      clear S0
      obtain ⟨s, r, rfl, rfl, hls, hsr, hrh, hkx, S1, H1, H2⟩ := hrel
      by_cases hlt : s < r
      · have hltz : (s : Int) < (r : Int) := by omega
        have hpc : ((s : Int) + (r : Int)) / 2 ≤ (mid : Int) + (m : Int) - 1 := by omega
        cases hL1 : ltOf cf d[mid + m - 1 - (s + r) / 2]! d[(s + r) / 2]! with
        | true =>
          have ea1 : ((mid : Int) + (m : Int) - 1 - ((s : Int) + (r : Int)) / 2).toNat = mid + m - 1 - (s + r) / 2 := by omega
          have pa1 : (0 : Int) ≤ (mid : Int) + (m : Int) - 1 - ((s : Int) + (r : Int)) / 2 := by omega
          have ba1 : (mid : Int) + (m : Int) - 1 - ((s : Int) + (r : Int)) / 2 < (d.size : Int) := by omega
          have ra1 : IntKind.i64.wrap ((mid : Int) + (m : Int) - 1 - ((s : Int) + (r : Int)) / 2) = (mid : Int) + (m : Int) - 1 - ((s : Int) + (r : Int)) / 2 := by rw [IntKind.wrap_i64]; omega
          have ec1 : (((s : Int) + (r : Int)) / 2).toNat = (s + r) / 2 := by omega
          have pc1 : (0 : Int) ≤ ((s : Int) + (r : Int)) / 2 := by omega
          have bc1 : ((s : Int) + (r : Int)) / 2 < (d.size : Int) := by omega
          have rc1 : IntKind.i64.wrap (((s : Int) + (r : Int)) / 2) = ((s : Int) + (r : Int)) / 2 := by rw [IntKind.wrap_i64]; omega
          obtain ⟨x1, hx1⟩ : ∃ x, x = d[mid + m - 1 - (s + r) / 2]! := ⟨_, rfl⟩
          obtain ⟨y1, hy1⟩ : ∃ x, x = d[(s + r) / 2]! := ⟨_, rfl⟩
          have l1a := S1.out.ld R (by omega) P (mid + m - 1 - (s + r) / 2) (by omega)
          have l1b := S1.out.ld R (by omega) P ((s + r) / 2) (by omega)
          rw [← hx1] at l1a
          rw [← hy1] at l1b
          have hc1 := S1.out.cmp HC.out (by omega) x1 y1
          have hv1 : cf x1 y1 < 0 := by rw [hx1, hy1]; exact of_decide_eq_true hL1
          have hd1 : decide (cf x1 y1 < 0) = true := decide_eq_true hv1
          clear hx1 hy1
          go_wp2_with fail
          go_quiet_grown (first | (go_at_fn g; refine Calls.grown_of (hc1 _ _)))
          have S2 : Aside (SWK enc k w0 blk off d (grow (wr.drewN nq) osq)) := S1.out.grown nq osq
          clear l1a l1b hc1 S1
          generalize grow (wr.drewN nq) osq = w2 at S2 ⊢
          clear nq osq
          go_wp2
          go_roundg ((s + r) / 2 - s)
          case measure => omega
          case rel => exact ⟨s, (s + r) / 2, rfl, by rw [show ((s : Int) + (r : Int)) / 2 = (((s + r) / 2 : Nat) : Int) by omega], hls, by omega, by omega, Nat.le_refl _, S2, H1, (show Aside _ from fun _ => hL1)⟩
        | false =>
          have ea1n : ((mid : Int) + (m : Int) - 1 - ((s : Int) + (r : Int)) / 2).toNat = mid + m - 1 - (s + r) / 2 := by omega
          have pa1n : (0 : Int) ≤ (mid : Int) + (m : Int) - 1 - ((s : Int) + (r : Int)) / 2 := by omega
          have ba1n : (mid : Int) + (m : Int) - 1 - ((s : Int) + (r : Int)) / 2 < (d.size : Int) := by omega
          have ra1n : IntKind.i64.wrap ((mid : Int) + (m : Int) - 1 - ((s : Int) + (r : Int)) / 2) = (mid : Int) + (m : Int) - 1 - ((s : Int) + (r : Int)) / 2 := by rw [IntKind.wrap_i64]; omega
          have ec1n : (((s : Int) + (r : Int)) / 2).toNat = (s + r) / 2 := by omega
          have pc1n : (0 : Int) ≤ ((s : Int) + (r : Int)) / 2 := by omega
          have bc1n : ((s : Int) + (r : Int)) / 2 < (d.size : Int) := by omega
          have rc1n : IntKind.i64.wrap (((s : Int) + (r : Int)) / 2) = ((s : Int) + (r : Int)) / 2 := by rw [IntKind.wrap_i64]; omega
          obtain ⟨x1n, hx1n⟩ : ∃ x, x = d[mid + m - 1 - (s + r) / 2]! := ⟨_, rfl⟩
          obtain ⟨y1n, hy1n⟩ : ∃ x, x = d[(s + r) / 2]! := ⟨_, rfl⟩
          have l1na := S1.out.ld R (by omega) P (mid + m - 1 - (s + r) / 2) (by omega)
          have l1nb := S1.out.ld R (by omega) P ((s + r) / 2) (by omega)
          rw [← hx1n] at l1na
          rw [← hy1n] at l1nb
          have hc1n := S1.out.cmp HC.out (by omega) x1n y1n
          have hv1n : ¬ cf x1n y1n < 0 := by rw [hx1n, hy1n]; exact of_decide_eq_false hL1
          have hd1n : decide (cf x1n y1n < 0) = false := decide_eq_false hv1n
          clear hx1n hy1n
          go_wp2_with fail
          go_quiet_grown (first | (go_at_fn g; refine Calls.grown_of (hc1n _ _)))
          have S2 : Aside (SWK enc k w0 blk off d (grow (wr.drewN nq) osq)) := S1.out.grown nq osq
          clear l1na l1nb hc1n S1
          generalize grow (wr.drewN nq) osq = w2 at S2 ⊢
          clear nq osq
          go_wp2
          go_roundg (r - ((s + r) / 2 + 1))
          case measure => omega
          case rel => exact ⟨(s + r) / 2 + 1, r, by rw [show ((s : Int) + (r : Int)) / 2 + 1 = (((s + r) / 2 + 1 : Nat) : Int) by omega], rfl, by omega, by omega, hrh, Nat.le_refl _, S2, (show Aside _ from fun _ => by rw [show mid + m - ((s + r) / 2 + 1) = mid + m - 1 - (s + r) / 2 by omega]; exact hL1), H2⟩
      · have hltz : ¬ (s : Int) < (r : Int) := by omega
        obtain rfl : s = r := by omega
        clear hsr hlt
        have two := TW.out
        have hs1 : s ≤ m := by omega
        have hs2 : s ≤ mid := by omega
        have hs3 : mid + m - s ≤ b := by omega
        have hs4 : a ≤ s := by omega
        have TS := Lib.hid (fun g1 h1 k1 o1 k2 o2 => TwoSorted.sym (g1 := g1) (h1 := h1) hO two HMID.out hs4 hs1 hs2 hs3 (fun p q => H1.out (by rcases LO.out with h | h <;> omega)) (fun p q => by
          have := H2.out (by rcases HI.out with h | h <;> omega)
          rwa [show mid + m - 1 - s = mid + m - s - 1 by omega] at this) k1 o1 k2 o2)
        clear H1 H2 LO HI HMID hkx hls hrh
        by_cases hA : s < m
        · by_cases hB : s < mid
          · by_cases hC : a < s
            · by_cases hD : mid + m < b + s
              · have zA : ((s : Int) < (m : Int)) := by omega
                have zB : ((m : Int) < (mid : Int) + (m : Int) - (s : Int)) := by omega
                have zC : ((a : Int) < (s : Int)) := by omega
                have zE : ((s : Int) < (mid : Int)) := by omega
                have zF : ((mid : Int) < (mid : Int) + (m : Int) - (s : Int)) := by omega
                have zD : ((mid : Int) + (m : Int) - (s : Int) < (b : Int)) := by omega
                have hc := rotate_any L enc g cb blk off cap s m (mid + m - s) d0 d w0 wr R hs S1.out hA (by omega) (by omega) (by omega)
                rw [show ((mid + m - s : Nat) : Int) = (mid : Int) + (m : Int) - (s : Int) by omega] at hc
                have HR := Lib.hid hc
                clear hc
                go_wp2_with fail
                refine HR.out.mono ?_
                rintro e w2 ⟨rfl, hr⟩
                obtain ⟨d1, S2, hd1, q1⟩ := hr
                have Q1 := Lib.hid (show at_ d1 = rotF s m (mid + m - s) (at_ d) from q1)
                have S2 : Aside (SWK enc k w0 blk off d1 w2) := S2
                have HD1 := Lib.hid hd1
                clear q1 hd1 HR S1
                have hc := IH.out a s mid d1 w2 (by omega) (by rw [HD1.out]; exact hs) S2.out (by rw [Q1.out]; exact two.rot1 hC hs1 hB hs3) (by rw [HD1.out]; omega)
                rw [HD1.out] at hc
                have HR := Lib.hid hc
                clear hc
                go_wp2_with fail
                refine HR.out.mono ?_
                rintro e w3 ⟨rfl, hr⟩
                obtain ⟨d2, S3, hd2, q2⟩ := hr
                have K1 := Lib.hid (show StableOf (ltOf cf) (seg (at_ d2) a mid) (seg (rotF s m (mid + m - s) (at_ d)) a mid) ∧ ∀ t, t < a ∨ mid ≤ t → at_ d2 t = rotF s m (mid + m - s) (at_ d) t by rw [← Q1.out]; exact q2)
                have S3 : Aside (SWK enc k w0 blk off d2 w3) := S3
                have HD2 := Lib.hid hd2
                clear q2 hd2 HR S2
                have hc := IH.out mid (mid + m - s) b d2 w3 (by omega) (by rw [HD2.out]; exact hs) S3.out ((two.rot2 hs4 hA hs2 (by omega)).congr fun t h1 _ => K1.out.2 t (.inr h1)) (by rw [HD2.out]; omega)
                rw [HD2.out, show ((mid + m - s : Nat) : Int) = (mid : Int) + (m : Int) - (s : Int) by omega] at hc
                have HR := Lib.hid hc
                clear hc
                go_wp2_with fail
                refine HR.out.mono ?_
                rintro e w4 ⟨rfl, hr⟩
                go_wp2_with fail
                go_end0
                obtain ⟨d3, S4, hd3, q3⟩ := hr
                refine ⟨rfl, d3, S4, hd3, TS.out (at_ d2) (at_ d3) K1.out.1 K1.out.2 q3.1 q3.2, fun t ht => ?_⟩
                show at_ d3 t = at_ d t
                have e3 : at_ d3 t = at_ d2 t := q3.2 t (by omega)
                rw [e3, K1.out.2 t (by omega), rotF_out _ _ _ _ _ (by omega) hs1 (by omega)]
              · have zA : ((s : Int) < (m : Int)) := by omega
                have zB : ((m : Int) < (mid : Int) + (m : Int) - (s : Int)) := by omega
                have zC : ((a : Int) < (s : Int)) := by omega
                have zE : ((s : Int) < (mid : Int)) := by omega
                have zF : ((mid : Int) < (mid : Int) + (m : Int) - (s : Int)) := by omega
                have zD : ¬ ((mid : Int) + (m : Int) - (s : Int) < (b : Int)) := by omega
                have hc := rotate_any L enc g cb blk off cap s m (mid + m - s) d0 d w0 wr R hs S1.out hA (by omega) (by omega) (by omega)
                rw [show ((mid + m - s : Nat) : Int) = (mid : Int) + (m : Int) - (s : Int) by omega] at hc
                have HR := Lib.hid hc
                clear hc
                go_wp2_with fail
                refine HR.out.mono ?_
                rintro e w2 ⟨rfl, hr⟩
                obtain ⟨d1, S2, hd1, q1⟩ := hr
                have Q1 := Lib.hid (show at_ d1 = rotF s m (mid + m - s) (at_ d) from q1)
                have S2 : Aside (SWK enc k w0 blk off d1 w2) := S2
                have HD1 := Lib.hid hd1
                clear q1 hd1 HR S1
                have hc := IH.out a s mid d1 w2 (by omega) (by rw [HD1.out]; exact hs) S2.out (by rw [Q1.out]; exact two.rot1 hC hs1 hB hs3) (by rw [HD1.out]; omega)
                rw [HD1.out] at hc
                have HR := Lib.hid hc
                clear hc
                go_wp2_with fail
                refine HR.out.mono ?_
                rintro e w3 ⟨rfl, hr⟩
                obtain ⟨d2, S3, hd2, q2⟩ := hr
                have K1 := Lib.hid (show StableOf (ltOf cf) (seg (at_ d2) a mid) (seg (rotF s m (mid + m - s) (at_ d)) a mid) ∧ ∀ t, t < a ∨ mid ≤ t → at_ d2 t = rotF s m (mid + m - s) (at_ d) t by rw [← Q1.out]; exact q2)
                have S3 : Aside (SWK enc k w0 blk off d2 w3) := S3
                have HD2 := Lib.hid hd2
                clear q2 hd2 HR S2
                go_wp2_with fail
                go_end0
                refine ⟨rfl, d2, S3.out, HD2.out, TS.out (at_ d2) (at_ d2) K1.out.1 K1.out.2 (two.right_ok hs4 hs1 hs2 hs3 (by omega) (fun t h1 _ => K1.out.2 t (.inr h1))) (fun _ _ => rfl), fun t ht => ?_⟩
                show at_ d2 t = at_ d t
                rw [K1.out.2 t (by omega), rotF_out _ _ _ _ _ (by omega) hs1 (by omega)]
            · by_cases hD : mid + m < b + s
              · have zA : ((s : Int) < (m : Int)) := by omega
                have zB : ((m : Int) < (mid : Int) + (m : Int) - (s : Int)) := by omega
                have zC : ¬ ((a : Int) < (s : Int)) := by omega
                have zE : ((s : Int) < (mid : Int)) := by omega
                have zF : ((mid : Int) < (mid : Int) + (m : Int) - (s : Int)) := by omega
                have zD : ((mid : Int) + (m : Int) - (s : Int) < (b : Int)) := by omega
                have hc := rotate_any L enc g cb blk off cap s m (mid + m - s) d0 d w0 wr R hs S1.out hA (by omega) (by omega) (by omega)
                rw [show ((mid + m - s : Nat) : Int) = (mid : Int) + (m : Int) - (s : Int) by omega] at hc
                have HR := Lib.hid hc
                clear hc
                go_wp2_with fail
                refine HR.out.mono ?_
                rintro e w2 ⟨rfl, hr⟩
                obtain ⟨d1, S2, hd1, q1⟩ := hr
                have Q1 := Lib.hid (show at_ d1 = rotF s m (mid + m - s) (at_ d) from q1)
                have S2 : Aside (SWK enc k w0 blk off d1 w2) := S2
                have HD1 := Lib.hid hd1
                clear q1 hd1 HR S1
                obtain ⟨d2, w3, S3, HD2, K1, hww⟩ : ∃ (d2 : Array α) (w3 : World), Aside (SWK enc k w0 blk off d2 w3) ∧ Hid (d2.size = d.size) ∧ Hid (StableOf (ltOf cf) (seg (at_ d2) a mid) (seg (rotF s m (mid + m - s) (at_ d)) a mid) ∧ ∀ t, t < a ∨ mid ≤ t → at_ d2 t = rotF s m (mid + m - s) (at_ d) t) ∧ w3 = w2 :=
                  ⟨d1, w2, S2, HD1, Lib.hid (by rw [Q1.out]; exact ⟨two.left_ok hs4 hs1 hs2 hs3 (by omega), fun _ _ => rfl⟩), rfl⟩
                subst hww
                clear S2
                have hc := IH.out mid (mid + m - s) b d2 w3 (by omega) (by rw [HD2.out]; exact hs) S3.out ((two.rot2 hs4 hA hs2 (by omega)).congr fun t h1 _ => K1.out.2 t (.inr h1)) (by rw [HD2.out]; omega)
                rw [HD2.out, show ((mid + m - s : Nat) : Int) = (mid : Int) + (m : Int) - (s : Int) by omega] at hc
                have HR := Lib.hid hc
                clear hc
                go_wp2_with fail
                refine HR.out.mono ?_
                rintro e w4 ⟨rfl, hr⟩
                go_wp2_with fail
                go_end0
                obtain ⟨d3, S4, hd3, q3⟩ := hr
                refine ⟨rfl, d3, S4, hd3, TS.out (at_ d2) (at_ d3) K1.out.1 K1.out.2 q3.1 q3.2, fun t ht => ?_⟩
                show at_ d3 t = at_ d t
                have e3 : at_ d3 t = at_ d2 t := q3.2 t (by omega)
                rw [e3, K1.out.2 t (by omega), rotF_out _ _ _ _ _ (by omega) hs1 (by omega)]
              · have zA : ((s : Int) < (m : Int)) := by omega
                have zB : ((m : Int) < (mid : Int) + (m : Int) - (s : Int)) := by omega
                have zC : ¬ ((a : Int) < (s : Int)) := by omega
                have zE : ((s : Int) < (mid : Int)) := by omega
                have zF : ((mid : Int) < (mid : Int) + (m : Int) - (s : Int)) := by omega
                have zD : ¬ ((mid : Int) + (m : Int) - (s : Int) < (b : Int)) := by omega
                have hc := rotate_any L enc g cb blk off cap s m (mid + m - s) d0 d w0 wr R hs S1.out hA (by omega) (by omega) (by omega)
                rw [show ((mid + m - s : Nat) : Int) = (mid : Int) + (m : Int) - (s : Int) by omega] at hc
                have HR := Lib.hid hc
                clear hc
                go_wp2_with fail
                refine HR.out.mono ?_
                rintro e w2 ⟨rfl, hr⟩
                obtain ⟨d1, S2, hd1, q1⟩ := hr
                have Q1 := Lib.hid (show at_ d1 = rotF s m (mid + m - s) (at_ d) from q1)
                have S2 : Aside (SWK enc k w0 blk off d1 w2) := S2
                have HD1 := Lib.hid hd1
                clear q1 hd1 HR S1
                obtain ⟨d2, w3, S3, HD2, K1, hww⟩ : ∃ (d2 : Array α) (w3 : World), Aside (SWK enc k w0 blk off d2 w3) ∧ Hid (d2.size = d.size) ∧ Hid (StableOf (ltOf cf) (seg (at_ d2) a mid) (seg (rotF s m (mid + m - s) (at_ d)) a mid) ∧ ∀ t, t < a ∨ mid ≤ t → at_ d2 t = rotF s m (mid + m - s) (at_ d) t) ∧ w3 = w2 :=
                  ⟨d1, w2, S2, HD1, Lib.hid (by rw [Q1.out]; exact ⟨two.left_ok hs4 hs1 hs2 hs3 (by omega), fun _ _ => rfl⟩), rfl⟩
                subst hww
                clear S2
                go_wp2_with fail
                go_end0
                refine ⟨rfl, d2, S3.out, HD2.out, TS.out (at_ d2) (at_ d2) K1.out.1 K1.out.2 (two.right_ok hs4 hs1 hs2 hs3 (by omega) (fun t h1 _ => K1.out.2 t (.inr h1))) (fun _ _ => rfl), fun t ht => ?_⟩
                show at_ d2 t = at_ d t
                rw [K1.out.2 t (by omega), rotF_out _ _ _ _ _ (by omega) hs1 (by omega)]
          · by_cases hC : a < s
            · by_cases hD : mid + m < b + s
              · have zA : ((s : Int) < (m : Int)) := by omega
                have zB : ¬ ((m : Int) < (mid : Int) + (m : Int) - (s : Int)) := by omega
                have zC : ((a : Int) < (s : Int)) := by omega
                have zE : ¬ ((s : Int) < (mid : Int)) := by omega
                have zF : ((mid : Int) < (mid : Int) + (m : Int) - (s : Int)) := by omega
                have zD : ((mid : Int) + (m : Int) - (s : Int) < (b : Int)) := by omega
                obtain ⟨d1, w2, S2, HD1, Q1, hww⟩ : ∃ (d1 : Array α) (w2 : World), Aside (SWK enc k w0 blk off d1 w2) ∧ Hid (d1.size = d.size) ∧ Hid (at_ d1 = rotF s m (mid + m - s) (at_ d)) ∧ w2 = wr := ⟨d, wr, S1, Lib.hid rfl, Lib.hid (by
                  have : s = m ∨ mid + m - s = m := by omega
                  rcases this with h | h
                  · rw [h, rotF_left]
                  · rw [h, rotF_right]), rfl⟩
                subst hww
                clear S1
                obtain ⟨d2, w3, S3, HD2, K1, hww⟩ : ∃ (d2 : Array α) (w3 : World), Aside (SWK enc k w0 blk off d2 w3) ∧ Hid (d2.size = d.size) ∧ Hid (StableOf (ltOf cf) (seg (at_ d2) a mid) (seg (rotF s m (mid + m - s) (at_ d)) a mid) ∧ ∀ t, t < a ∨ mid ≤ t → at_ d2 t = rotF s m (mid + m - s) (at_ d) t) ∧ w3 = w2 :=
                  ⟨d1, w2, S2, HD1, Lib.hid (by rw [Q1.out]; exact ⟨two.left_ok hs4 hs1 hs2 hs3 (by omega), fun _ _ => rfl⟩), rfl⟩
                subst hww
                clear S2
                have hc := IH.out mid (mid + m - s) b d2 w3 (by omega) (by rw [HD2.out]; exact hs) S3.out ((two.rot2 hs4 hA hs2 (by omega)).congr fun t h1 _ => K1.out.2 t (.inr h1)) (by rw [HD2.out]; omega)
                rw [HD2.out, show ((mid + m - s : Nat) : Int) = (mid : Int) + (m : Int) - (s : Int) by omega] at hc
                have HR := Lib.hid hc
                clear hc
                go_wp2_with fail
                refine HR.out.mono ?_
                rintro e w4 ⟨rfl, hr⟩
                go_wp2_with fail
                go_end0
                obtain ⟨d3, S4, hd3, q3⟩ := hr
                refine ⟨rfl, d3, S4, hd3, TS.out (at_ d2) (at_ d3) K1.out.1 K1.out.2 q3.1 q3.2, fun t ht => ?_⟩
                show at_ d3 t = at_ d t
                have e3 : at_ d3 t = at_ d2 t := q3.2 t (by omega)
                rw [e3, K1.out.2 t (by omega), rotF_out _ _ _ _ _ (by omega) hs1 (by omega)]
              · exfalso
                omega
            · by_cases hD : mid + m < b + s
              · exfalso
                omega
              · exfalso
                omega
        · by_cases hB : s < mid
          · by_cases hC : a < s
            · by_cases hD : mid + m < b + s
              · have zA : ¬ ((s : Int) < (m : Int)) := by omega
                have zB : ((m : Int) < (mid : Int) + (m : Int) - (s : Int)) := by omega
                have zC : ((a : Int) < (s : Int)) := by omega
                have zE : ((s : Int) < (mid : Int)) := by omega
                have zF : ¬ ((mid : Int) < (mid : Int) + (m : Int) - (s : Int)) := by omega
                have zD : ((mid : Int) + (m : Int) - (s : Int) < (b : Int)) := by omega
                obtain ⟨d1, w2, S2, HD1, Q1, hww⟩ : ∃ (d1 : Array α) (w2 : World), Aside (SWK enc k w0 blk off d1 w2) ∧ Hid (d1.size = d.size) ∧ Hid (at_ d1 = rotF s m (mid + m - s) (at_ d)) ∧ w2 = wr := ⟨d, wr, S1, Lib.hid rfl, Lib.hid (by
                  have : s = m ∨ mid + m - s = m := by omega
                  rcases this with h | h
                  · rw [h, rotF_left]
                  · rw [h, rotF_right]), rfl⟩
                subst hww
                clear S1
                have hc := IH.out a s mid d1 w2 (by omega) (by rw [HD1.out]; exact hs) S2.out (by rw [Q1.out]; exact two.rot1 hC hs1 hB hs3) (by rw [HD1.out]; omega)
                rw [HD1.out] at hc
                have HR := Lib.hid hc
                clear hc
                go_wp2_with fail
                refine HR.out.mono ?_
                rintro e w3 ⟨rfl, hr⟩
                obtain ⟨d2, S3, hd2, q2⟩ := hr
                have K1 := Lib.hid (show StableOf (ltOf cf) (seg (at_ d2) a mid) (seg (rotF s m (mid + m - s) (at_ d)) a mid) ∧ ∀ t, t < a ∨ mid ≤ t → at_ d2 t = rotF s m (mid + m - s) (at_ d) t by rw [← Q1.out]; exact q2)
                have S3 : Aside (SWK enc k w0 blk off d2 w3) := S3
                have HD2 := Lib.hid hd2
                clear q2 hd2 HR S2
                go_wp2_with fail
                go_end0
                refine ⟨rfl, d2, S3.out, HD2.out, TS.out (at_ d2) (at_ d2) K1.out.1 K1.out.2 (two.right_ok hs4 hs1 hs2 hs3 (by omega) (fun t h1 _ => K1.out.2 t (.inr h1))) (fun _ _ => rfl), fun t ht => ?_⟩
                show at_ d2 t = at_ d t
                rw [K1.out.2 t (by omega), rotF_out _ _ _ _ _ (by omega) hs1 (by omega)]
              · exfalso
                omega
            · by_cases hD : mid + m < b + s
              · exfalso
                omega
              · exfalso
                omega
          · by_cases hC : a < s
            · by_cases hD : mid + m < b + s
              · have zA : ¬ ((s : Int) < (m : Int)) := by omega
                have zB : ¬ ((m : Int) < (mid : Int) + (m : Int) - (s : Int)) := by omega
                have zC : ((a : Int) < (s : Int)) := by omega
                have zE : ¬ ((s : Int) < (mid : Int)) := by omega
                have zF : ¬ ((mid : Int) < (mid : Int) + (m : Int) - (s : Int)) := by omega
                have zD : ((mid : Int) + (m : Int) - (s : Int) < (b : Int)) := by omega
                obtain ⟨d1, w2, S2, HD1, Q1, hww⟩ : ∃ (d1 : Array α) (w2 : World), Aside (SWK enc k w0 blk off d1 w2) ∧ Hid (d1.size = d.size) ∧ Hid (at_ d1 = rotF s m (mid + m - s) (at_ d)) ∧ w2 = wr := ⟨d, wr, S1, Lib.hid rfl, Lib.hid (by
                  have : s = m ∨ mid + m - s = m := by omega
                  rcases this with h | h
                  · rw [h, rotF_left]
                  · rw [h, rotF_right]), rfl⟩
                subst hww
                clear S1
                obtain ⟨d2, w3, S3, HD2, K1, hww⟩ : ∃ (d2 : Array α) (w3 : World), Aside (SWK enc k w0 blk off d2 w3) ∧ Hid (d2.size = d.size) ∧ Hid (StableOf (ltOf cf) (seg (at_ d2) a mid) (seg (rotF s m (mid + m - s) (at_ d)) a mid) ∧ ∀ t, t < a ∨ mid ≤ t → at_ d2 t = rotF s m (mid + m - s) (at_ d) t) ∧ w3 = w2 :=
                  ⟨d1, w2, S2, HD1, Lib.hid (by rw [Q1.out]; exact ⟨two.left_ok hs4 hs1 hs2 hs3 (by omega), fun _ _ => rfl⟩), rfl⟩
                subst hww
                clear S2
                go_wp2_with fail
                go_end0
                refine ⟨rfl, d2, S3.out, HD2.out, TS.out (at_ d2) (at_ d2) K1.out.1 K1.out.2 (two.right_ok hs4 hs1 hs2 hs3 (by omega) (fun t h1 _ => K1.out.2 t (.inr h1))) (fun _ _ => rfl), fun t ht => ?_⟩
                show at_ d2 t = at_ d t
                rw [K1.out.2 t (by omega), rotF_out _ _ _ _ _ (by omega) hs1 (by omega)]
              · exfalso
                omega
            · by_cases hD : mid + m < b + s
              · exfalso
                omega
              · exfalso
                omega

end Go.Proofs.Ytjiijddlbfgafaa
