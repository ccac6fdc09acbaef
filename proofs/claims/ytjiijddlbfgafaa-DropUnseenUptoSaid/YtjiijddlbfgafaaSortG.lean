/- The stable sort, whole. PRINTED BY wip/tpl/SortC.py. -/
import Derived.Test.YtjiijddlbfgafaaSortF
set_option linter.unusedVariables false
set_option linter.unusedSimpArgs false
namespace Go.Proofs.Ytjiijddlbfgafaa
open Go.Shelf Go.RowKit Go.Lib Go.Sort
variable {P : Program} {α : Type} [Inhabited α] {k : Nat}
set_option maxHeartbeats 8000000 in
set_option maxRecDepth 1000000 in
theorem stable_any (L : SortP P k) (enc : α → List Value) (cf : α → α → Int) (hO : SWO (ltOf cf)) (g : Nat) (cb : Array Value) (blk off cap : Nat) (d0 : Array α) (w0 : World)
    (eg : ∀ args w, (callFunc g args).run P w = .ok (.enter g args) w) (hcmp : CmpLays P g cb enc k cf blk off d0.size w0) (R : RowK enc k w0 blk off d0)
    (d : Array α) (w : World) (hs : d0.size = d.size) (S : SWK enc k w0 blk off d w) (hsz : d.size < 281474976710656) :
    Calls P 35 #[.slice (some ⟨blk, off, none⟩) d.size cap, .int .i64 d.size, .func (.func g) #[] cb] w fun e w' => e = .returned (.tuple #[]) ∧ Rowed enc k w0 blk off d.size (fun f => StableOf (ltOf cf) (seg f 0 d.size) (seg (at_ d) 0 d.size)) w' := by
  have mixed := L.mixed; have aE := L.aE; have zE := L.zE; have t0 := L.t0; have a0 := L.a0; have z0 := L.z0; have v0 := L.v0; have t3 := L.t3; have a3 := L.a3; have z3 := L.z3; have v3 := L.v3; have t4 := L.t4; have a4 := L.a4; have z4 := L.z4; have v4 := L.v4; have tS := L.tS; have aS := L.aS; have zS := L.zS; have vS := L.vS; have tF := L.tF; have aF := L.aF; have zF := L.zF; have vF := L.vF; have tU := L.tU; have aU := L.aU; have zU := L.zU; have vU := L.vU
  have e_ins : ∀ args w, (callFunc 42 args).run P w = .ok (.enter 42 args) w := enters_of L.fins (by kernel_rfl) rfl
  have e_sym : ∀ args w, (callFunc 43 args).run P w = .ok (.enter 43 args) w := enters_of L.fsym (by kernel_rfl) rfl
  have HC : Aside _ := hcmp
  have HS := Lib.hid hs
  have S0 : Aside (SWK enc k w0 blk off d w) := S
  have INS := Lib.hid (insertion_any L enc cf hO g cb blk off cap d0 w0 eg hcmp R)
  have SYM := Lib.hid (symMerge_any L enc cf hO g cb blk off cap d0 w0 eg hcmp R)
  clear S hcmp hs
  go_enter L.fstab, Try.ntmps35
  go_wp2
  go_loopg [7, 8] d.size (fun k1 s7 s8 wr => ∃ (a b : Nat) (dk : Array α), s7 = .int .i64 a ∧ s8 = .int .i64 b ∧ b ≤ a + 20 ∧ a + 20 ≤ b ∧ a ≤ d.size ∧ d.size - a ≤ k1 ∧ Aside (20 ∣ a) ∧ Aside (dk.size = d.size) ∧ Aside (SWK enc k w0 blk off dk wr) ∧
    Aside (Done (ltOf cf) 20 a d.size (at_ dk) (at_ d)) ∧ Aside (∀ t, a ≤ t → at_ dk t = at_ d t))
  case atStart => exact ⟨0, 20, d, rfl, rfl, by omega, by omega, by omega, by omega, (show Aside _ from Nat.dvd_zero 20), (show Aside _ from rfl), S0, (show Aside _ from Done.start), (show Aside _ from fun t _ => rfl)⟩
  case round =>
    clear S0
    obtain ⟨a, b, dk, rfl, rfl, hb1, hb2, had, hk1, HA, HD, S1, H1, H2⟩ := hrel
    by_cases hlt : b ≤ d.size
    · have hltz : (b : Int) ≤ (d.size : Int) := by omega
      have hc := INS.out a b dk wr (by rw [HD.out]; exact HS.out) S1.out (by omega) (by rw [HD.out]; exact hlt) (by rw [HD.out]; exact hsz)
      rw [HD.out] at hc
      have HR := Lib.hid hc
      clear hc S1
      go_wp2_with fail
      refine HR.out.mono ?_
      rintro e w2 ⟨rfl, hr⟩
      obtain ⟨dj, S2, hdj, q2⟩ := hr
      have S2 : Aside (SWK enc k w0 blk off dj w2) := S2
      have HD2 := Lib.hid hdj
      have q2 : at_ dj = at_ (insertionSort (ltOf cf) dk a b) := q2
      have Q := Lib.hid q2
      clear hdj q2 HR
      go_wp2_with fail
      go_roundg (d.size - b)
      case measure => omega
      case rel =>
        have st := insertionSort_stable hO a b dk (by omega) (by rw [HD.out]; exact hlt)
        rw [← Q.out] at st
        have est : seg (at_ dk) a b = seg (at_ d) a b := seg_congr fun i h _ => H2.out i h
        rw [est] at st
        have D := H1.out.step HA.out (show b = min (a + 20) d.size by omega) st.2.2 st.2.1
        rw [show a + 20 = b by omega] at D
        exact ⟨b, b + 20, dj, rfl, by go_num, by omega, by omega, hlt, by omega, (show Aside (20 ∣ b) from by rw [show b = a + 20 by omega]; exact Nat.dvd_add HA.out (Nat.dvd_refl 20)), HD2.out, S2, D, (show Aside _ from fun t ht => by rw [st.2.2 t (.inr ht)]; exact H2.out t (by omega))⟩
    · have hltz : ¬ (b : Int) ≤ (d.size : Int) := by omega
      have hc := INS.out a d.size dk wr (by rw [HD.out]; exact HS.out) S1.out had (by rw [HD.out]; exact Nat.le_refl _) (by rw [HD.out]; exact hsz)
      rw [HD.out] at hc
      have HR := Lib.hid hc
      clear hc S1
      go_wp2_with fail
      refine HR.out.mono ?_
      rintro e w2 ⟨rfl, hr⟩
      obtain ⟨dj, S2, hdj, q2⟩ := hr
      have S2 : Aside (SWK enc k w0 blk off dj w2) := S2
      have HD2 := Lib.hid hdj
      have q2 : at_ dj = at_ (insertionSort (ltOf cf) dk a d.size) := q2
      have B0 : Aside (Done (ltOf cf) 20 d.size d.size (at_ dj) (at_ d)) := by
        have st := insertionSort_stable hO a d.size dk had (by rw [HD.out]; exact Nat.le_refl _)
        rw [← q2] at st
        have est : seg (at_ dk) a d.size = seg (at_ d) a d.size := seg_congr fun i h _ => H2.out i h
        rw [est] at st
        exact (H1.out.step HA.out (show d.size = min (a + 20) d.size by omega) st.2.2 st.2.1).mono (by omega)
      clear hdj q2 HR H1 H2 HA HD hb1 hb2 had hlt hltz hk1
      go_wp2_with fail
      go_loopg [6] d.size (fun k2 s6 wx => ∃ (bs : Nat) (dm : Array α), s6 = .int .i64 bs ∧ 0 < bs ∧ bs ≤ 2 * d.size + 20 ∧ d.size - bs ≤ k2 ∧ Aside (dm.size = d.size) ∧ Aside (SWK enc k w0 blk off dm wx) ∧ Aside (Done (ltOf cf) bs d.size d.size (at_ dm) (at_ d)))
      case atStart => exact ⟨20, dj, rfl, by omega, by omega, by omega, HD2.out, S2, B0⟩
      case round =>
        clear S2 B0 HD2
        obtain ⟨bs, dm, rfl, hbs0, hbs1, hk2, HD3, S3, B3⟩ := hrel
        by_cases hlt : bs < d.size
        · have hltz : (bs : Int) < (d.size : Int) := by omega
          go_wp2_with fail
          go_loopg [7, 8] d.size (fun k3 s7 s8 wy => ∃ (a b : Nat) (dn : Array α), s7 = .int .i64 a ∧ s8 = .int .i64 b ∧ b ≤ a + 2 * bs ∧ a + 2 * bs ≤ b ∧ a ≤ d.size ∧ d.size - a ≤ k3 ∧ Aside (2 * bs ∣ a) ∧ Aside (dn.size = d.size) ∧ Aside (SWK enc k w0 blk off dn wy) ∧
            Aside (Done (ltOf cf) (2 * bs) a d.size (at_ dn) (at_ d)) ∧ Aside (Still (ltOf cf) bs a d.size (at_ dn) (at_ d)))
          case atStart => exact ⟨0, 2 * bs, dm, rfl, by first | rfl | go_num | (congr 1; omega), by omega, by omega, by omega, by omega, (show Aside _ from Nat.dvd_zero _), HD3.out, S3, (show Aside _ from Done.start), (show Aside _ from B3.out.still)⟩
          case round =>
            clear S3 B3 HD3
            obtain ⟨a, b, dn, rfl, rfl, hb1, hb2, had, hk3, HA, HD4, S4, D4, T4⟩ := hrel
            by_cases hlt2 : b ≤ d.size
            · have hltz2 : (b : Int) ≤ (d.size : Int) := by omega
              have two := T4.out.two hO (two_dvd HA.out) hbs0 (show a + bs < d.size by omega)
              rw [show min (a + 2 * bs) d.size = b by omega] at two
              have hc := SYM.out (b - a + 1) a (a + bs) b dn wr (by omega) (by rw [HD4.out]; exact HS.out) S4.out two (by rw [HD4.out]; exact hlt2) (by rw [HD4.out]; exact hsz)
              rw [HD4.out, show ((a + bs : Nat) : Int) = (a : Int) + (bs : Int) by omega] at hc
              have HR := Lib.hid hc
              clear hc S4 two
              go_wp2_with fail
              refine HR.out.mono ?_
              rintro e w5 ⟨rfl, hr⟩
              obtain ⟨dO, S5, hdo, q5⟩ := hr
              have S5 : Aside (SWK enc k w0 blk off dO w5) := S5
              have HD5 := Lib.hid hdo
              have q5 : StableOf (ltOf cf) (seg (at_ dO) a b) (seg (at_ dn) a b) ∧ ∀ t, t < a ∨ b ≤ t → at_ dO t = at_ dn t := q5
              have Q5 := Lib.hid q5
              clear hdo q5 HR
              go_wp2_with fail
              go_roundg (d.size - b)
              case measure => omega
              case rel =>
                have D := D4.out.step HA.out (show b = min (a + 2 * bs) d.size by omega) Q5.out.2 (T4.out.merge hO (two_dvd HA.out) hbs0 (show a + bs < d.size by omega) (show b = min (a + 2 * bs) d.size by omega) Q5.out.1)
                rw [show a + 2 * bs = b by omega] at D
                exact ⟨b, b + 2 * bs, dO, rfl, by first | rfl | go_num | (congr 1; omega), by omega, by omega, hlt2, by omega, (show Aside (2 * bs ∣ b) from by rw [show b = a + 2 * bs by omega]; exact Nat.dvd_add HA.out (Nat.dvd_refl _)), HD5.out, S5, D, (show Aside _ from T4.out.step (by omega) fun t ht => Q5.out.2 t (.inr ht))⟩
            · have hltz2 : ¬ (b : Int) ≤ (d.size : Int) := by omega
              by_cases hm : a + bs < d.size
              · have hmz : (a : Int) + (bs : Int) < (d.size : Int) := by omega
                have two := T4.out.two hO (two_dvd HA.out) hbs0 hm
                rw [show min (a + 2 * bs) d.size = d.size by omega] at two
                have hc := SYM.out (d.size - a + 1) a (a + bs) d.size dn wr (by omega) (by rw [HD4.out]; exact HS.out) S4.out two (by rw [HD4.out]; exact Nat.le_refl _) (by rw [HD4.out]; exact hsz)
                rw [HD4.out, show ((a + bs : Nat) : Int) = (a : Int) + (bs : Int) by omega] at hc
                have HR := Lib.hid hc
                clear hc S4 two
                go_wp2_with fail
                refine HR.out.mono ?_
                rintro e w5 ⟨rfl, hr⟩
                obtain ⟨dO, S5, hdo, q5⟩ := hr
                have S5 : Aside (SWK enc k w0 blk off dO w5) := S5
                have HD5 := Lib.hid hdo
                have q5 : StableOf (ltOf cf) (seg (at_ dO) a d.size) (seg (at_ dn) a d.size) ∧ ∀ t, t < a ∨ d.size ≤ t → at_ dO t = at_ dn t := q5
                have Q5 := Lib.hid q5
                clear hdo q5 HR
                go_wp2_with fail
                go_roundg (d.size - 2 * bs)
                case measure => omega
                case rel =>
                  have D := D4.out.step HA.out (show d.size = min (a + 2 * bs) d.size by omega) Q5.out.2 (T4.out.merge hO (two_dvd HA.out) hbs0 hm (show d.size = min (a + 2 * bs) d.size by omega) Q5.out.1)
                  exact ⟨2 * bs, dO, by first | rfl | go_num | (congr 1; omega), by omega, by omega, by omega, HD5.out, S5, (show Aside _ from D.mono (by omega))⟩
              · have hmz : ¬ (a : Int) + (bs : Int) < (d.size : Int) := by omega
                go_wp2_with fail
                go_roundg (d.size - 2 * bs)
                case measure => omega
                case rel =>
                  have D : Done (ltOf cf) (2 * bs) d.size d.size (at_ dn) (at_ d) := by
                    rcases Nat.eq_or_lt_of_le had with h | h
                    · exact fun s h1 h2 => D4.out s h1 (by omega)
                    · exact (D4.out.step HA.out (show d.size = min (a + 2 * bs) d.size by omega) (fun t _ => rfl) (T4.out.lone (two_dvd HA.out) h (by omega))).mono (by omega)
                  exact ⟨2 * bs, dn, by first | rfl | go_num | (congr 1; omega), by omega, by omega, by omega, HD4.out, S4, (show Aside _ from D)⟩
        · have hltz : ¬ (bs : Int) < (d.size : Int) := by omega
          go_wp2_with fail
          go_end0
          exact ⟨rfl, dm, S3.out, HD3.out, B3.out.all (by omega)⟩
end Go.Proofs.Ytjiijddlbfgafaa
