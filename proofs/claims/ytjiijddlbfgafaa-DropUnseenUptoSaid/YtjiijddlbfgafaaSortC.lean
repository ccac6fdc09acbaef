/- slices.SortStableFunc's own functions at elements of k cells: walks over any program that bears their bodies. PRINTED BY wip/tpl/SortC.py. -/
import Derived.Test.YtjiijddlbfgafaaProg
import Derived.Test.YtjiijddlbfgafaaRot
import Derived.Shelf.SlSortCmp.KitK
import Derived.Sort.WalkB2
import Derived.Sort.WalkB12
import Derived.Deep.LoopGhost
import Derived.Deep.DeepMust
import Derived.Lib.Hide
set_option linter.unusedVariables false
set_option linter.unusedSimpArgs false
namespace Go.Proofs.Ytjiijddlbfgafaa
open Go.Shelf Go.RowKit Go.Lib Go.Sort

/-- What the walks ask of a program. -/
structure SortP (P : Program) (k : Nat) : Prop where
  mixed : P.follows .mixedOrders = true
  fswap : P.funcs[66]? = some Try.f66
  frot : P.funcs[58]? = some Try.f58
  fsym : P.funcs[43]? = some Try.f43
  fins : P.funcs[42]? = some Try.f42
  fstab : P.funcs[35]? = some Try.f35
  t0 : P.underlying 0 = some (TypeDesc.tuple #[])
  a0 : ∀ w, (isAgg 0).run P w = .ok false w
  z0 : ∀ w, (Go.sizeOf 0).run P w = .ok 1 w
  v0 : ∀ w, (zeroValue 0).run P w = .ok (Value.tuple #[]) w
  t3 : P.underlying 3 = some (TypeDesc.int IntKind.i64)
  a3 : ∀ w, (isAgg 3).run P w = .ok false w
  z3 : ∀ w, (Go.sizeOf 3).run P w = .ok 1 w
  v3 : ∀ w, (zeroValue 3).run P w = .ok (Value.int IntKind.i64 0) w
  t4 : P.underlying 4 = some (TypeDesc.bool)
  a4 : ∀ w, (isAgg 4).run P w = .ok false w
  z4 : ∀ w, (Go.sizeOf 4).run P w = .ok 1 w
  v4 : ∀ w, (zeroValue 4).run P w = .ok (Value.bool false) w
  tS : P.underlying 22 = some (TypeDesc.slice 48)
  aS : ∀ w, (isAgg 22).run P w = .ok false w
  zS : ∀ w, (Go.sizeOf 22).run P w = .ok 1 w
  vS : ∀ w, (zeroValue 22).run P w = .ok (Value.slice none 0 0) w
  tF : P.underlying 65 = some (TypeDesc.func #[48, 48] #[3] false)
  aF : ∀ w, (isAgg 65).run P w = .ok false w
  zF : ∀ w, (Go.sizeOf 65).run P w = .ok 1 w
  vF : ∀ w, (zeroValue 65).run P w = .ok (Value.nilFunc) w
  tU : P.underlying 70 = some (TypeDesc.int IntKind.u64)
  aU : ∀ w, (isAgg 70).run P w = .ok false w
  zU : ∀ w, (Go.sizeOf 70).run P w = .ok 1 w
  vU : ∀ w, (zeroValue 70).run P w = .ok (Value.int IntKind.u64 0) w
  aE : ∀ w, (isAgg 48).run P w = .ok true w
  zE : ∀ w, (Go.sizeOf 48).run P w = .ok k w

theorem sortP : SortP Try.prog 4 where
  mixed := by kernel_rfl
  fswap := Try.func66
  frot := Try.func58
  fsym := Try.func43
  fins := Try.func42
  fstab := Try.func35
  t0 := Try.underlying0
  a0 := Try.isAgg0
  z0 := Try.sizeOf0
  v0 := Try.zeroValue0
  t3 := Try.underlying3
  a3 := Try.isAgg3
  z3 := Try.sizeOf3
  v3 := Try.zeroValue3
  t4 := Try.underlying4
  a4 := Try.isAgg4
  z4 := Try.sizeOf4
  v4 := Try.zeroValue4
  tS := Try.underlying22
  aS := Try.isAgg22
  zS := Try.sizeOf22
  vS := Try.zeroValue22
  tF := Try.underlying65
  aF := Try.isAgg65
  zF := Try.sizeOf65
  vF := Try.zeroValue65
  tU := Try.underlying70
  aU := Try.isAgg70
  zU := Try.sizeOf70
  vU := Try.zeroValue70
  aE := Try.isAgg48
  zE := Try.sizeOf48

variable {P : Program} {α : Type} [Inhabited α] {k : Nat}
/-- W is a world of the sort's; the row holds n elements, of which Q. -/
def Rowed (enc : α → List Value) (k : Nat) (w0 : World) (blk off n : Nat) (Q : (Nat → α) → Prop) (W : World) : Prop := ∃ d : Array α, SWK enc k w0 blk off d W ∧ d.size = n ∧ Q fun t => d[t]!
set_option maxHeartbeats 4000000 in
set_option maxRecDepth 1000000 in
theorem swapRange_any (L : SortP P k) (enc : α → List Value) (g : Nat) (cb : Array Value) (blk off cap a b n : Nat) (d0 d : Array α) (w0 w : World)
    (R : RowK enc k w0 blk off d0) (hs : d0.size = d.size) (S : SWK enc k w0 blk off d w) (hab : a + n ≤ b) (hb : b + n ≤ d.size) (hsz : d.size < 4611686018427387904) :
    Calls P 66 #[.slice (some ⟨blk, off, none⟩) d.size cap, .int .i64 a, .int .i64 b, .int .i64 n, .func (.func g) #[] cb] w fun e w' => e = .returned (.tuple #[]) ∧ Rowed enc k w0 blk off d.size (fun f => f = swF a b n (at_ d)) w' := by
  have mixed := L.mixed; have aE := L.aE; have zE := L.zE; have t0 := L.t0; have a0 := L.a0; have z0 := L.z0; have v0 := L.v0; have t3 := L.t3; have a3 := L.a3; have z3 := L.z3; have v3 := L.v3; have t4 := L.t4; have a4 := L.a4; have z4 := L.z4; have v4 := L.v4; have tS := L.tS; have aS := L.aS; have zS := L.zS; have vS := L.vS; have tF := L.tF; have aF := L.aF; have zF := L.zF; have vF := L.vF; have tU := L.tU; have aU := L.aU; have zU := L.zU; have vU := L.vU
  have S0 : Aside (SWK enc k w0 blk off d w) := S
  clear S
  go_enter L.fswap, Try.ntmps66
  go_wp2
  go_loopg [10] n (fun kx s10 wr => ∃ (i : Nat) (dk : Array α), s10 = .int .i64 i ∧ i ≤ n ∧ n - i ≤ kx ∧ dk.size = d.size ∧ Aside (SWK enc k w0 blk off dk wr) ∧ Aside (at_ dk = swF a b i (at_ d)))
  case atStart => exact ⟨0, d, rfl, Nat.zero_le _, Nat.le_refl _, rfl, S0, (swF_zero a b (at_ d)).symm⟩
  case round =>
    clear S0
    obtain ⟨i, dk, rfl, hin, hkx, hds, S1, HE⟩ := hrel
    by_cases hlt : i < n
    · have hltz : (i : Int) < (n : Int) := by omega
      go_wp2_with fail
      have ea1 : ((a : Int) + (i : Int)).toNat = a + i := by omega
      have pa1 : (0 : Int) ≤ (a : Int) + (i : Int) := by omega
      have ba1 : (a : Int) + (i : Int) < (d.size : Int) := by omega
      have ra1 : IntKind.i64.wrap ((a : Int) + (i : Int)) = (a : Int) + (i : Int) := by rw [IntKind.wrap_i64]; omega
      have ec1 : ((b : Int) + (i : Int)).toNat = b + i := by omega
      have pc1 : (0 : Int) ≤ (b : Int) + (i : Int) := by omega
      have bc1 : (b : Int) + (i : Int) < (d.size : Int) := by omega
      have rc1 : IntKind.i64.wrap ((b : Int) + (i : Int)) = (b : Int) + (i : Int) := by rw [IntKind.wrap_i64]; omega
      have S2 : Aside (SWK enc k w0 blk off (swp dk (a + i) (b + i)) ((wr.drew.setCells blk (off + (a + i) * k) (enc dk[b + i]!)).setCells blk (off + (b + i) * k) (enc dk[a + i]!))) := S1.out.swapped R (a + i) (b + i) (by omega) (by omega)
      have l1a := S1.out.ld1 R (by omega) P (a + i) (by omega)
      have l1b := S1.out.ld1 R (by omega) P (b + i) (by omega)
      have s1a := S1.out.st1 R (by omega) P (a + i) (by omega) dk[b + i]!
      have s1b := S1.out.st2 R (by omega) P (a + i) (b + i) (by omega) (by omega) dk[b + i]! dk[a + i]!
      have n1a : (enc dk[a + i]!).length = k := R.hk _
      have n1b : (enc dk[b + i]!).length = k := R.hk _
      generalize enc dk[a + i]! = cI1 at S2 l1a s1b n1a
      generalize enc dk[b + i]! = cJ1 at S2 l1b s1a s1b n1b
      clear S1
      go_wp2_with fail
      go_big_region_o
      clear l1a l1b s1a s1b
      generalize (wr.drew.setCells blk (off + (a + i) * k) cJ1).setCells blk (off + (b + i) * k) cI1 = w2 at S2 ⊢
      go_wp2
      go_roundg (n - (i + 1))
      case measure => omega
      case rel =>
        exact ⟨i + 1, swp dk (a + i) (b + i), by go_num, by omega, Nat.le_refl _, by rw [size_swp]; exact hds, S2, (at_swp dk (by omega) (by omega)).trans (by rw [HE.out]; exact swF_step a b i (at_ d) (by omega))⟩
    · have hltz : ¬ (i : Int) < (n : Int) := by omega
      go_wp2
      go_end0
      obtain rfl : i = n := by omega
      exact ⟨rfl, dk, S1.out, hds, HE.out⟩

set_option maxHeartbeats 4000000 in
set_option maxRecDepth 1000000 in
theorem rotate_any (L : SortP P k) (enc : α → List Value) (g : Nat) (cb : Array Value) (blk off cap a m b : Nat) (d0 d : Array α) (w0 w : World)
    (R : RowK enc k w0 blk off d0) (hs : d0.size = d.size) (S : SWK enc k w0 blk off d w) (ham : a < m) (hmb : m < b) (hb : b ≤ d.size) (hsz : d.size < 4611686018427387904) :
    Calls P 58 #[.slice (some ⟨blk, off, none⟩) d.size cap, .int .i64 a, .int .i64 m, .int .i64 b, .func (.func g) #[] cb] w fun e w' => e = .returned (.tuple #[]) ∧ Rowed enc k w0 blk off d.size (fun f => f = rotF a m b (at_ d)) w' := by
  have mixed := L.mixed; have aE := L.aE; have zE := L.zE; have t0 := L.t0; have a0 := L.a0; have z0 := L.z0; have v0 := L.v0; have t3 := L.t3; have a3 := L.a3; have z3 := L.z3; have v3 := L.v3; have t4 := L.t4; have a4 := L.a4; have z4 := L.z4; have v4 := L.v4; have tS := L.tS; have aS := L.aS; have zS := L.zS; have vS := L.vS; have tF := L.tF; have aF := L.aF; have zF := L.zF; have vF := L.vF; have tU := L.tU; have aU := L.aU; have zU := L.zU; have vU := L.vU
  have e_swap : ∀ args w, (callFunc 66 args).run P w = .ok (.enter 66 args) w := enters_of L.fswap (by kernel_rfl) rfl
  have S0 : Aside (SWK enc k w0 blk off d w) := S
  clear S
  go_enter L.frot, Try.ntmps58
  go_wp2
  go_loopg [10, 11] (m + b) (fun kx s10 s11 wr => ∃ (i j : Nat) (dk : Array α), s10 = .int .i64 i ∧ s11 = .int .i64 j ∧ 0 < i ∧ 0 < j ∧ a + i ≤ m ∧ m + j ≤ b ∧ i + j ≤ kx ∧ dk.size = d.size ∧ Aside (SWK enc k w0 blk off dk wr) ∧ Aside (rotF (m - i) m (m + j) (at_ dk) = rotF a m b (at_ d)))
  case atStart => exact ⟨m - a, b - m, d, by rw [show ((m : Int) - (a : Int)) = ((m - a : Nat) : Int) by omega], by rw [show ((b : Int) - (m : Int)) = ((b - m : Nat) : Int) by omega], by omega, by omega, by omega, by omega, by omega, rfl, S0, by rw [show m - (m - a) = a by omega, show m + (b - m) = b by omega]; exact rfl⟩
  case round =>
    clear S0
    obtain ⟨i, j, dk, rfl, rfl, hi0, hj0, hai, hmj, hkx, hds, S1, HE⟩ := hrel
    rcases Nat.lt_trichotomy i j with hij | hij | hij
    · have hc := swapRange_any L enc g cb blk off cap (m - i) (m + j - i) i d0 dk w0 wr R (by omega) S1.out (by omega) (by omega) (by omega)
      rw [hds, show ((m - i : Nat) : Int) = (m : Int) - (i : Int) by omega, show ((m + j - i : Nat) : Int) = (m : Int) + (j : Int) - (i : Int) by omega] at hc
      have hne : ((i : Int) != (j : Int)) = true := by rw [bne_iff_ne]; omega
      have hgt : ¬ (j : Int) < (i : Int) := by omega
      have HC := Lib.hid hc
      clear hc
      go_wp2_with (go_at_fn 66; go_must (refine HC.out.mono ?_); rintro e w2 ⟨rfl, hr⟩)
      obtain ⟨d2, S2, hs2, h2⟩ := hr
      have h2 : at_ d2 = swF (m - i) (m + j - i) i (at_ dk) := h2
      go_roundg (i + (j - i))
      case measure => omega
      case rel => exact ⟨i, j - i, d2, rfl, by rw [show ((j : Int) - (i : Int)) = ((j - i : Nat) : Int) by omega], hi0, by omega, hai, by omega, Nat.le_refl _, hs2, S2, by rw [h2, ← HE.out]; exact rot_step2 m i j (at_ dk) (by omega) hij⟩
    · subst hij
      have hc := swapRange_any L enc g cb blk off cap (m - i) m i d0 dk w0 wr R (by omega) S1.out (by omega) (by omega) (by omega)
      rw [hds, show ((m - i : Nat) : Int) = (m : Int) - (i : Int) by omega] at hc
      have HC := Lib.hid hc
      clear hc
      go_wp2_with (go_at_fn 66; go_must (refine HC.out.mono ?_); rintro e w2 ⟨rfl, hr⟩)
      go_end0
      obtain ⟨d2, S2, hs2, h2⟩ := hr
      have h2 : at_ d2 = swF (m - i) m i (at_ dk) := h2
      exact ⟨rfl, d2, S2, hs2, show at_ d2 = _ by rw [h2, ← HE.out]; exact rot_last m i (at_ dk) (by omega)⟩
    · have hc := swapRange_any L enc g cb blk off cap (m - i) m j d0 dk w0 wr R (by omega) S1.out (by omega) (by omega) (by omega)
      rw [hds, show ((m - i : Nat) : Int) = (m : Int) - (i : Int) by omega] at hc
      have hne : ((i : Int) != (j : Int)) = true := by rw [bne_iff_ne]; omega
      have hgt : (j : Int) < (i : Int) := by omega
      have HC := Lib.hid hc
      clear hc
      go_wp2_with (go_at_fn 66; go_must (refine HC.out.mono ?_); rintro e w2 ⟨rfl, hr⟩)
      obtain ⟨d2, S2, hs2, h2⟩ := hr
      have h2 : at_ d2 = swF (m - i) m j (at_ dk) := h2
      go_roundg (i - j + j)
      case measure => omega
      case rel => exact ⟨i - j, j, d2, by rw [show ((i : Int) - (j : Int)) = ((i - j : Nat) : Int) by omega], rfl, by omega, hj0, by omega, hmj, Nat.le_refl _, hs2, S2, by rw [h2, ← HE.out]; exact rot_step1 m i j (at_ dk) (by omega) hij⟩

set_option maxHeartbeats 8000000 in
set_option maxRecDepth 1000000 in
theorem symMerge_left (L : SortP P k) (enc : α → List Value) (cf : α → α → Int) (hO : SWO (ltOf cf)) (g : Nat) (cb : Array Value) (blk off cap : Nat) (d0 : Array α) (w0 : World)
    (eg : ∀ args w, (callFunc g args).run P w = .ok (.enter g args) w) (hcmp : CmpLays P g cb enc k cf blk off d0.size w0) (R : RowK enc k w0 blk off d0)
    (a m b : Nat) (d : Array α) (w : World) (hs : d0.size = d.size) (S : SWK enc k w0 blk off d w) (two : TwoSorted (ltOf cf) (at_ d) a m b) (hb : b ≤ d.size) (hsz : d.size < 281474976710656) (hm : m = a + 1) :
    Calls P 43 #[.slice (some ⟨blk, off, none⟩) d.size cap, .int .i64 a, .int .i64 m, .int .i64 b, .func (.func g) #[] cb] w fun e w' => e = .returned (.tuple #[]) ∧ Rowed enc k w0 blk off d.size (fun f => StableOf (ltOf cf) (seg f a b) (seg (at_ d) a b) ∧ ∀ t, t < a ∨ b ≤ t → f t = at_ d t) w' := by
  have mixed := L.mixed; have aE := L.aE; have zE := L.zE; have t0 := L.t0; have a0 := L.a0; have z0 := L.z0; have v0 := L.v0; have t3 := L.t3; have a3 := L.a3; have z3 := L.z3; have v3 := L.v3; have t4 := L.t4; have a4 := L.a4; have z4 := L.z4; have v4 := L.v4; have tS := L.tS; have aS := L.aS; have zS := L.zS; have vS := L.vS; have tF := L.tF; have aF := L.aF; have zF := L.zF; have vF := L.vF; have tU := L.tU; have aU := L.aU; have zU := L.zU; have vU := L.vU
  have ham := two.ham
  have hmb := two.hmb
  have TW := Lib.hid two
  have HC : Aside _ := hcmp
  have S0 : Aside (SWK enc k w0 blk off d w) := S
  have HM := Lib.hid hm
  have hb1 : ((m : Int) - (a : Int) == 1) = true := by rw [beq_iff_eq]; omega
  have hma1 : m ≤ a + 1 := by omega
  clear S hcmp two hm
  go_enter L.fsym, Try.ntmps43
  go_wp2
  go_loopg [10, 11, 12] (b - m) (fun kx s10 s11 s12 wr => ∃ (i j : Nat), s10 = .int .i64 i ∧ s11 = .int .i64 j ∧ m ≤ i ∧ i ≤ j ∧ j ≤ b ∧ j - i ≤ kx ∧ Aside (SWK enc k w0 blk off d wr) ∧
    Aside (m < i → ltOf cf (at_ d (i - 1)) (at_ d a) = true) ∧ Aside (j < b → ltOf cf (at_ d j) (at_ d a) = false))
  case atStart => exact ⟨m, b, rfl, rfl, Nat.le_refl _, by omega, Nat.le_refl _, Nat.le_refl _, S0, (show Aside _ from fun h => by omega), (show Aside _ from fun h => by omega)⟩
  case round =>
    clear S0
    obtain ⟨i, j, rfl, rfl, hmi, hij, hjb, hkx, S1, H1, H2⟩ := hrel
    by_cases hlt : i < j
    · have hltz : (i : Int) < (j : Int) := by omega
      cases hL1 : ltOf cf d[(i + j) / 2]! d[a]! with
      | true =>
        have ea1 : (((i : Int) + (j : Int)) / 2).toNat = (i + j) / 2 := by omega
        have pa1 : (0 : Int) ≤ ((i : Int) + (j : Int)) / 2 := by omega
        have ba1 : ((i : Int) + (j : Int)) / 2 < (d.size : Int) := by omega
        have ra1 : IntKind.i64.wrap (((i : Int) + (j : Int)) / 2) = ((i : Int) + (j : Int)) / 2 := by rw [IntKind.wrap_i64]; omega
        have ec1 : ((a : Int)).toNat = a := by omega
        have pc1 : (0 : Int) ≤ (a : Int) := by omega
        have bc1 : (a : Int) < (d.size : Int) := by omega
        have rc1 : IntKind.i64.wrap ((a : Int)) = (a : Int) := by rw [IntKind.wrap_i64]; omega
        obtain ⟨x1, hx1⟩ : ∃ x, x = d[(i + j) / 2]! := ⟨_, rfl⟩
        obtain ⟨y1, hy1⟩ : ∃ x, x = d[a]! := ⟨_, rfl⟩
        have l1a := S1.out.ld R (by omega) P ((i + j) / 2) (by omega)
        have l1b := S1.out.ld R (by omega) P (a) (by omega)
        rw [← hx1] at l1a
        rw [← hy1] at l1b
        have hc1 := S1.out.cmp HC.out (by omega) x1 y1
        have hv1 : cf x1 y1 < 0 := by rw [hx1, hy1]; exact of_decide_eq_true hL1
        have hd1 : decide (cf x1 y1 < 0) = true := decide_eq_true hv1
        clear hx1 hy1
        go_wp2_with fail
        go_quiet_grown (first | (go_at_fn g; refine Calls.grown_of (hc1 _ _)))
        have S2 : Aside (SWK enc k w0 blk off d (grow (wr.drewN nq) osq)) := S1.out.grown nq osq
        clear l1a l1b hc1 S1
        generalize grow (wr.drewN nq) osq = w2 at S2 ⊢
        clear nq osq
        go_wp2
        go_roundg (j - ((i + j) / 2 + 1))
        case measure => omega
        case rel => exact ⟨(i + j) / 2 + 1, j, by rw [show ((i : Int) + (j : Int)) / 2 + 1 = (((i + j) / 2 + 1 : Nat) : Int) by omega], rfl, by omega, by omega, hjb, Nat.le_refl _, S2, (show Aside _ from fun _ => hL1), H2⟩
      | false =>
        have ea1n : (((i : Int) + (j : Int)) / 2).toNat = (i + j) / 2 := by omega
        have pa1n : (0 : Int) ≤ ((i : Int) + (j : Int)) / 2 := by omega
        have ba1n : ((i : Int) + (j : Int)) / 2 < (d.size : Int) := by omega
        have ra1n : IntKind.i64.wrap (((i : Int) + (j : Int)) / 2) = ((i : Int) + (j : Int)) / 2 := by rw [IntKind.wrap_i64]; omega
        have ec1n : ((a : Int)).toNat = a := by omega
        have pc1n : (0 : Int) ≤ (a : Int) := by omega
        have bc1n : (a : Int) < (d.size : Int) := by omega
        have rc1n : IntKind.i64.wrap ((a : Int)) = (a : Int) := by rw [IntKind.wrap_i64]; omega
        obtain ⟨x1n, hx1n⟩ : ∃ x, x = d[(i + j) / 2]! := ⟨_, rfl⟩
        obtain ⟨y1n, hy1n⟩ : ∃ x, x = d[a]! := ⟨_, rfl⟩
        have l1na := S1.out.ld R (by omega) P ((i + j) / 2) (by omega)
        have l1nb := S1.out.ld R (by omega) P (a) (by omega)
        rw [← hx1n] at l1na
        rw [← hy1n] at l1nb
        have hc1n := S1.out.cmp HC.out (by omega) x1n y1n
        have hv1n : ¬ cf x1n y1n < 0 := by rw [hx1n, hy1n]; exact of_decide_eq_false hL1
        have hd1n : decide (cf x1n y1n < 0) = false := decide_eq_false hv1n
        clear hx1n hy1n
        go_wp2_with fail
        go_quiet_grown (first | (go_at_fn g; refine Calls.grown_of (hc1n _ _)))
        have S2 : Aside (SWK enc k w0 blk off d (grow (wr.drewN nq) osq)) := S1.out.grown nq osq
        clear l1na l1nb hc1n S1
        generalize grow (wr.drewN nq) osq = w2 at S2 ⊢
        clear nq osq
        go_wp2
        go_roundg ((i + j) / 2 - i)
        case measure => omega
        case rel => exact ⟨i, (i + j) / 2, rfl, by rw [show ((i : Int) + (j : Int)) / 2 = (((i + j) / 2 : Nat) : Int) by omega], hmi, by omega, by omega, Nat.le_refl _, S2, H1, (show Aside _ from fun _ => hL1)⟩
    · have hltz : ¬ (i : Int) < (j : Int) := by omega
      obtain rfl : i = j := by omega
      clear hij hlt
      go_wp2
      go_loopg [13] (i - a) (fun kx s13 wr2 => ∃ (q : Nat) (dk : Array α), s13 = .int .i64 q ∧ a ≤ q ∧ q + 1 ≤ i ∧ i - 1 - q ≤ kx ∧ dk.size = d.size ∧ Aside (SWK enc k w0 blk off dk wr2) ∧ Aside (at_ dk = rotF a (a + 1) (q + 1) (at_ d)))
      case atStart => exact ⟨a, d, rfl, Nat.le_refl _, by omega, by omega, rfl, S1, (show Aside _ from (rotF_right a (a + 1) (at_ d)).symm)⟩
      case round =>
        clear S1
        obtain ⟨q, dk, rfl, haq, hqi, hkq, hds, S3, HE⟩ := hrel
        by_cases hq : q + 1 < i
        · have hqz : (q : Int) < (i : Int) - 1 := by omega
          go_wp2_with fail
          have ea2 : ((q : Int)).toNat = q := by omega
          have pa2 : (0 : Int) ≤ (q : Int) := by omega
          have ba2 : (q : Int) < (d.size : Int) := by omega
          have ra2 : IntKind.i64.wrap ((q : Int)) = (q : Int) := by rw [IntKind.wrap_i64]; omega
          have ec2 : ((q : Int) + 1).toNat = q + 1 := by omega
          have pc2 : (0 : Int) ≤ (q : Int) + 1 := by omega
          have bc2 : (q : Int) + 1 < (d.size : Int) := by omega
          have rc2 : IntKind.i64.wrap ((q : Int) + 1) = (q : Int) + 1 := by rw [IntKind.wrap_i64]; omega
          have S4 : Aside (SWK enc k w0 blk off (swp dk (q) (q + 1)) ((wr.drew.setCells blk (off + (q) * k) (enc dk[q + 1]!)).setCells blk (off + (q + 1) * k) (enc dk[q]!))) := S3.out.swapped R (q) (q + 1) (by omega) (by omega)
          have l2a := S3.out.ld1 R (by omega) P (q) (by omega)
          have l2b := S3.out.ld1 R (by omega) P (q + 1) (by omega)
          have s2a := S3.out.st1 R (by omega) P (q) (by omega) dk[q + 1]!
          have s2b := S3.out.st2 R (by omega) P (q) (q + 1) (by omega) (by omega) dk[q + 1]! dk[q]!
          have n2a : (enc dk[q]!).length = k := R.hk _
          have n2b : (enc dk[q + 1]!).length = k := R.hk _
          generalize enc dk[q]! = cI2 at S4 l2a s2b n2a
          generalize enc dk[q + 1]! = cJ2 at S4 l2b s2a s2b n2b
          clear S3
          go_wp2_with fail
          go_big_region_o
          clear l2a l2b s2a s2b
          generalize (wr.drew.setCells blk (off + (q) * k) cJ2).setCells blk (off + (q + 1) * k) cI2 = w4 at S4 ⊢
          go_wp2
          go_roundg (i - 1 - (q + 1))
          case measure => omega
          case rel => exact ⟨q + 1, swp dk q (q + 1), by go_num, by omega, by omega, Nat.le_refl _, by rw [size_swp]; exact hds, S4, (show Aside _ from (at_swp dk (by omega) (by omega)).trans (by rw [HE.out]; exact rotF_up a q (at_ d) haq))⟩
        · have hqz : ¬ (q : Int) < (i : Int) - 1 := by omega
          obtain rfl : i = q + 1 := by omega
          go_wp2
          refine bodyPost_ret (results_none rfl _ _ _) rfl ?_
          refine ⟨rfl, dk, S3.out, hds, ?_⟩
          show StableOf _ (seg (at_ dk) a b) _ ∧ ∀ t, t < a ∨ b ≤ t → at_ dk t = at_ d t
          rw [HE.out]
          have two := TW.out
          have hm := HM.out
          subst hm
          exact ⟨two.one_left hO hmi hjb (fun h => H1.out h) (fun h => H2.out h), fun t ht => rotF_out _ _ _ _ _ (by omega) (by omega) (by omega)⟩

end Go.Proofs.Ytjiijddlbfgafaa
