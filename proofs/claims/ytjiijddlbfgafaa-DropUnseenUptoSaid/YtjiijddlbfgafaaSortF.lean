/- insertionSort, symMerge whole, the stable sort. PRINTED BY wip/tpl/SortC.py. -/
import Derived.Test.YtjiijddlbfgafaaSortE
import Derived.Test.YtjiijddlbfgafaaBlk
import Derived.Sort.WalkA
set_option linter.unusedVariables false
set_option linter.unusedSimpArgs false
namespace Go.Proofs.Ytjiijddlbfgafaa
open Go.Shelf Go.RowKit Go.Lib Go.Sort
variable {P : Program} {α : Type} [Inhabited α] {k : Nat}
set_option maxHeartbeats 4000000 in
set_option maxRecDepth 1000000 in
theorem insertion_any (L : SortP P k) (enc : α → List Value) (cf : α → α → Int) (hO : SWO (ltOf cf)) (g : Nat) (cb : Array Value) (blk off cap : Nat) (d0 : Array α) (w0 : World)
    (eg : ∀ args w, (callFunc g args).run P w = .ok (.enter g args) w) (hcmp : CmpLays P g cb enc k cf blk off d0.size w0) (R : RowK enc k w0 blk off d0)
    (a b : Nat) (d : Array α) (w : World) (hs : d0.size = d.size) (S : SWK enc k w0 blk off d w) (hab : a ≤ b) (hb : b ≤ d.size) (hsz : d.size < 281474976710656) :
    Calls P 42 #[.slice (some ⟨blk, off, none⟩) d.size cap, .int .i64 a, .int .i64 b, .func (.func g) #[] cb] w fun e w' => e = .returned (.tuple #[]) ∧ Rowed enc k w0 blk off d.size (fun f => f = at_ (insertionSort (ltOf cf) d a b)) w' := by
  have mixed := L.mixed; have aE := L.aE; have zE := L.zE; have t0 := L.t0; have a0 := L.a0; have z0 := L.z0; have v0 := L.v0; have t3 := L.t3; have a3 := L.a3; have z3 := L.z3; have v3 := L.v3; have t4 := L.t4; have a4 := L.a4; have z4 := L.z4; have v4 := L.v4; have tS := L.tS; have aS := L.aS; have zS := L.zS; have vS := L.vS; have tF := L.tF; have aF := L.aF; have zF := L.zF; have vF := L.vF; have tU := L.tU; have aU := L.aU; have zU := L.zU; have vU := L.vU
  have HC : Aside _ := hcmp
  have S0 : Aside (SWK enc k w0 blk off d w) := S
  clear S hcmp
  go_enter L.fins, Try.ntmps42
  go_wp2
  go_loopg [8] (b - a) (fun g1 s8 wr => ∃ (i : Nat) (dk : Array α), s8 = .int .i64 i ∧ a < i ∧ i ≤ b + 1 ∧ b + 1 - i ≤ g1 + 1 ∧ dk.size = d.size ∧ Aside (SWK enc k w0 blk off dk wr) ∧ Aside (insOuter (ltOf cf) a b i dk = insOuter (ltOf cf) a b (a + 1) d))
  case atStart => exact ⟨a + 1, d, by go_num, by omega, by omega, by omega, rfl, S0, (show Aside _ from rfl)⟩
  case round =>
    clear S0
    obtain ⟨i, dk, rfl, hai, hib, hg1, hds, S1, HO⟩ := hrel
    by_cases hlt : i < b
    · have hltz : (i : Int) < (b : Int) := by omega
      go_wp2
      go_loopg [9] i (fun g2 s9 wr2 => ∃ (j : Nat) (dj : Array α), s9 = .int .i64 j ∧ a ≤ j ∧ j ≤ i ∧ j ≤ g2 ∧ dj.size = d.size ∧ Aside (SWK enc k w0 blk off dj wr2) ∧ Aside (insInner (ltOf cf) a j dj = insInner (ltOf cf) a i dk))
      case atStart => exact ⟨i, dk, rfl, by omega, Nat.le_refl _, Nat.le_refl _, hds, S1, (show Aside _ from rfl)⟩
      case round =>
        clear S1
        obtain ⟨j, dj, rfl, haj, hji, hg2, hdj, S3, HI⟩ := hrel
        have OUT : Aside (j ≤ a ∨ ltOf cf dj[j]! dj[j - 1]! = false → insOuter (ltOf cf) a b (i + 1) dj = insOuter (ltOf cf) a b (a + 1) d) := fun hst => by
          rw [← HO.out, insOuter_go _ _ _ _ _ hlt, ← HI.out, insInner_stop _ _ _ _ hst]
        by_cases hja : a < j
        · obtain ⟨r, rfl⟩ : ∃ r, j = r + 1 := ⟨j - 1, by omega⟩
          have hjz : (a : Int) < (r : Int) + 1 := by omega
          cases hL1 : ltOf cf dj[r + 1]! dj[r]! with
          | true =>
            have ea1 : ((r : Int) + 1).toNat = r + 1 := by omega
            have pa1 : (0 : Int) ≤ (r : Int) + 1 := by omega
            have ba1 : (r : Int) + 1 < (d.size : Int) := by omega
            have ra1 : IntKind.i64.wrap ((r : Int) + 1) = (r : Int) + 1 := by rw [IntKind.wrap_i64]; omega
            have ec1 : ((r : Int)).toNat = r := by omega
            have pc1 : (0 : Int) ≤ (r : Int) := by omega
            have bc1 : (r : Int) < (d.size : Int) := by omega
            have rc1 : IntKind.i64.wrap ((r : Int)) = (r : Int) := by rw [IntKind.wrap_i64]; omega
            obtain ⟨x1, hx1⟩ : ∃ x, x = dj[r + 1]! := ⟨_, rfl⟩
            obtain ⟨y1, hy1⟩ : ∃ x, x = dj[r]! := ⟨_, rfl⟩
            have l1a := S3.out.ld R (by omega) P (r + 1) (by omega)
            have l1b := S3.out.ld R (by omega) P (r) (by omega)
            rw [← hx1] at l1a
            rw [← hy1] at l1b
            have hc1 := S3.out.cmp HC.out (by omega) x1 y1
            have hv1 : cf x1 y1 < 0 := by rw [hx1, hy1]; exact of_decide_eq_true hL1
            have hd1 : decide (cf x1 y1 < 0) = true := decide_eq_true hv1
            clear hx1 hy1
            go_wp2_with fail
            go_quiet_grown (first | (go_at_fn g; refine Calls.grown_of (hc1 _ _)))
            have S4 : Aside (SWK enc k w0 blk off dj (grow (wr.drewN nq) osq)) := S3.out.grown nq osq
            clear l1a l1b hc1 S3
            generalize grow (wr.drewN nq) osq = w4 at S4 ⊢
            clear nq osq
            go_wp2_with fail
            have ea2 : ((r : Int) + 1).toNat = r + 1 := by omega
            have pa2 : (0 : Int) ≤ (r : Int) + 1 := by omega
            have ba2 : (r : Int) + 1 < (d.size : Int) := by omega
            have ra2 : IntKind.i64.wrap ((r : Int) + 1) = (r : Int) + 1 := by rw [IntKind.wrap_i64]; omega
            have ec2 : ((r : Int)).toNat = r := by omega
            have pc2 : (0 : Int) ≤ (r : Int) := by omega
            have bc2 : (r : Int) < (d.size : Int) := by omega
            have rc2 : IntKind.i64.wrap ((r : Int)) = (r : Int) := by rw [IntKind.wrap_i64]; omega
            have S5 : Aside (SWK enc k w0 blk off (swp dj (r + 1) (r)) ((w4.drew.setCells blk (off + (r + 1) * k) (enc dj[r]!)).setCells blk (off + (r) * k) (enc dj[r + 1]!))) := S4.out.swapped R (r + 1) (r) (by omega) (by omega)
            have l2a := S4.out.ld1 R (by omega) P (r + 1) (by omega)
            have l2b := S4.out.ld1 R (by omega) P (r) (by omega)
            have s2a := S4.out.st1 R (by omega) P (r + 1) (by omega) dj[r]!
            have s2b := S4.out.st2 R (by omega) P (r + 1) (r) (by omega) (by omega) dj[r]! dj[r + 1]!
            have n2a : (enc dj[r + 1]!).length = k := R.hk _
            have n2b : (enc dj[r]!).length = k := R.hk _
            generalize enc dj[r + 1]! = cI2 at S5 l2a s2b n2a
            generalize enc dj[r]! = cJ2 at S5 l2b s2a s2b n2b
            clear S4
            go_wp2_with fail
            go_big_region_o
            clear l2a l2b s2a s2b
            generalize (w4.drew.setCells blk (off + (r + 1) * k) cJ2).setCells blk (off + (r) * k) cI2 = w5 at S5 ⊢
            go_wp2
            go_roundg r
            case measure => omega
            case rel => exact ⟨r, swp dj (r + 1) r, by first | rfl | go_num | (congr 1; omega), by omega, by omega, Nat.le_refl _, by rw [size_swp]; exact hdj, S5, (show Aside _ from by rw [← HI.out, insInner_go (ltOf cf) a (r + 1) dj hja hL1]; rfl)⟩
          | false =>
            have ea1n : ((r : Int) + 1).toNat = r + 1 := by omega
            have pa1n : (0 : Int) ≤ (r : Int) + 1 := by omega
            have ba1n : (r : Int) + 1 < (d.size : Int) := by omega
            have ra1n : IntKind.i64.wrap ((r : Int) + 1) = (r : Int) + 1 := by rw [IntKind.wrap_i64]; omega
            have ec1n : ((r : Int)).toNat = r := by omega
            have pc1n : (0 : Int) ≤ (r : Int) := by omega
            have bc1n : (r : Int) < (d.size : Int) := by omega
            have rc1n : IntKind.i64.wrap ((r : Int)) = (r : Int) := by rw [IntKind.wrap_i64]; omega
            obtain ⟨x1n, hx1n⟩ : ∃ x, x = dj[r + 1]! := ⟨_, rfl⟩
            obtain ⟨y1n, hy1n⟩ : ∃ x, x = dj[r]! := ⟨_, rfl⟩
            have l1na := S3.out.ld R (by omega) P (r + 1) (by omega)
            have l1nb := S3.out.ld R (by omega) P (r) (by omega)
            rw [← hx1n] at l1na
            rw [← hy1n] at l1nb
            have hc1n := S3.out.cmp HC.out (by omega) x1n y1n
            have hv1n : ¬ cf x1n y1n < 0 := by rw [hx1n, hy1n]; exact of_decide_eq_false hL1
            have hd1n : decide (cf x1n y1n < 0) = false := decide_eq_false hv1n
            clear hx1n hy1n
            go_wp2_with fail
            go_quiet_grown (first | (go_at_fn g; refine Calls.grown_of (hc1n _ _)))
            have S4 : Aside (SWK enc k w0 blk off dj (grow (wr.drewN nq) osq)) := S3.out.grown nq osq
            clear l1na l1nb hc1n S3
            generalize grow (wr.drewN nq) osq = w4 at S4 ⊢
            clear nq osq
            go_wp2
            go_roundg (b - (i + 1))
            case measure => omega
            case rel => exact ⟨i + 1, dj, by go_num, by omega, by omega, by omega, hdj, S4, (show Aside _ from OUT.out (.inr hL1))⟩
        · have hjz : decide ((j : Int) > (a : Int)) = false := decide_eq_false (by omega)
          have hjz' : ¬ (a : Int) < (j : Int) := by omega
          have S4 : Aside (SWK enc k w0 blk off dj wr.drew) := S3.out.drew
          clear S3
          go_wp2_with fail
          go_big_region_o
          all_goals go_wp2
          go_roundg (b - (i + 1))
          case measure => omega
          case rel => exact ⟨i + 1, dj, by go_num, by omega, by omega, by omega, hdj, S4, (show Aside _ from OUT.out (.inl (by omega)))⟩
    · have hltz : ¬ (i : Int) < (b : Int) := by omega
      go_wp2
      go_end0
      exact ⟨rfl, dk, S1.out, hds, show at_ dk = at_ _ by unfold insertionSort; rw [← HO.out, insOuter_stop _ _ _ _ _ hlt]⟩

theorem symMerge_any (L : SortP P k) (enc : α → List Value) (cf : α → α → Int) (hO : SWO (ltOf cf)) (g : Nat) (cb : Array Value) (blk off cap : Nat) (d0 : Array α) (w0 : World)
    (eg : ∀ args w, (callFunc g args).run P w = .ok (.enter g args) w) (hcmp : CmpLays P g cb enc k cf blk off d0.size w0) (R : RowK enc k w0 blk off d0) : ∀ (N a m b : Nat) (d : Array α) (w : World), b - a < N → d0.size = d.size → SWK enc k w0 blk off d w → TwoSorted (ltOf cf) (at_ d) a m b → b ≤ d.size → d.size < 281474976710656 →
    Calls P 43 #[.slice (some ⟨blk, off, none⟩) d.size cap, .int .i64 a, .int .i64 m, .int .i64 b, .func (.func g) #[] cb] w fun e w' => e = .returned (.tuple #[]) ∧ Rowed enc k w0 blk off d.size (fun f => StableOf (ltOf cf) (seg f a b) (seg (at_ d) a b) ∧ ∀ t, t < a ∨ b ≤ t → f t = at_ d t) w'
  | 0, a, m, b, d, w, hN, _, _, _, _, _ => by omega
  | N + 1, a, m, b, d, w, hN, hs, S, two, hb, hsz => by
    by_cases hm : m = a + 1
    · exact symMerge_left L enc cf hO g cb blk off cap d0 w0 eg hcmp R a m b d w hs S two hb hsz hm
    · by_cases hm2 : b = m + 1
      · exact symMerge_right L enc cf hO g cb blk off cap d0 w0 eg hcmp R a m b d w hs S two hb hsz hm hm2
      · exact symMerge_general L enc cf hO g cb blk off cap d0 w0 eg hcmp R a m b d w hs S two hb hsz hm hm2 fun a' m' b' d' w' h1 h2 h3 h4 h5 =>
          symMerge_any L enc cf hO g cb blk off cap d0 w0 eg hcmp R N a' m' b' d' w' (by omega) h2 h3 h4 h5 (by omega)
end Go.Proofs.Ytjiijddlbfgafaa
