/- morainelaw21.DropDeep walked. -/
import Derived.Test.YtjiijddlbfgafaaLawD
import Derived.Test.YtjiijddlbfgafaaLawR
import Derived.BigQuiet
import Derived.Deep.LoopGhost
import Derived.Deep.QuietTactic
import Derived.Deep.DeepCutAuto
import Derived.Deep.CutBlock
set_option linter.unusedVariables false
set_option linter.unusedSimpArgs false
namespace Go.Proofs.Ytjiijddlbfgafaa
open Go.RowKit Go.Lib Go.Shelf
theorem Own.lit1 {w : World} {base B : Nat} {q : Int} (hB : base ≤ B) (h : w.heap[B]? = some (.cells #[.int .u64 q] 36 (0, 0))) : Own (en1 (Value.int .u64)) 1 36 w base (.slice (some ⟨B, 0, none⟩) 1 1) [q] :=
  ⟨by simp [en1], .inr ⟨B, 1, #[.int .u64 q], rfl, hB, h, Nat.le_refl _, by decide, by simp, by simp [en1]⟩⟩
/-- seen over the whole, as the law calls it. -/
def SeenAt (A B : Option Addr) (ca cb : Nat) (l : List Ent) (t : List Tomb) (w : World) : Prop :=
  ∀ (key : ByteArray) (W : World), Below w.heap.size w W → Calls Try.prog 14 #[.slice A l.length ca, .slice B t.length cb, .string key, .int .u64 18446744073709551615] W fun e w' => e = .returned (.tuple #[.string (seenS l t key maxU).1, .bool (seenS l t key maxU).2]) ∧ Below W.heap.size W w'
set_option maxHeartbeats 4000000 in
set_option maxRecDepth 100000 in
theorem deep_any (Al At : Option Addr) (cl ct : Nat) (l : List Ent) (t : List Tomb) (w : World)
    (hl : Rds Ent.enc 4 w Al l) (ht : Rds Tomb.enc 3 w At t) (hct : t.length ≤ ct) (hul : ∀ x ∈ l, InU x.seq) (hut : ∀ x ∈ t, InU x.seq)
    (ml : l.length ≤ 1099511627776) (mt : t.length ≤ 1099511627776) :
    Calls Try.prog 5 #[.slice Al l.length cl, .slice At t.length ct] w fun e w' => e = .returned (.bool true) ∧ Below w.heap.size w w' := by
  have HSE : Aside (SeenAt Al At cl ct l t w) := fun key W hW => seen_any Al At cl ct l t key maxU W (hl.below hW) (ht.below hW) hct ml mt
  have HL := Lib.hid hl
  have HT := Lib.hid ht
  have HUL := Lib.hid hul
  have HUT := Lib.hid hut
  clear hl ht hul hut
  go_enter Try.func5, Try.ntmps5
  go_wp2_with fail
  refine (probe_any _).mono ?_
  rintro e w1 ⟨rfl, hB1⟩
  have HB1 := Lib.hid hB1
  clear hB1
  go_wp2_with fail
  refine (entries_kept Al At cl ct (.slice (some ⟨w1.heap.size, 0, none⟩) 1 1) (.slice none 0 0) l t [maxU] [] w1.heap.size _ ((HL.out.below HB1.out).below ((Below.refl _ _).alloc (Nat.le_refl _) _)) ((HT.out.below HB1.out).below ((Below.refl _ _).alloc (Nat.le_refl _) _))
    (Own.lit1 (Nat.le_refl _) (heap_alloc_new _ _)) (Own.nil _ _ _) ml mt (by simp) (by simp)).mono ?_
  rintro e w2 ⟨S, A3, k3, A4, k4, rfl, hS, hx, hy, hB2⟩
  obtain rfl := rising_one hS
  have hy0 : (keptT [maxU] [] t).length = 0 := by rw [deep_t HUT.out]; rfl
  have HX := Lib.hid hx
  have HB2 : Aside (Below w.heap.size w w2) := HB1.out.next (((Below.refl w1.heap.size w1).alloc (Nat.le_refl _) _).next hB2)
  clear hx hy hB2 hS HB1
  generalize hE : keptE [maxU] [] t l = xs at HX ⊢
  have hxl : xs.length ≤ 1099511627776 := by have := keptE_len [maxU] [] t l; rw [hE] at this; omega
  have HE := Lib.hid hE
  clear hE
  go_wp2_with fail
  go_loopg [7, 8, 9] xs.length (fun k s7 s8 s9 wr => ∃ i : Nat, s7 = .int .i64 i ∧ i ≤ xs.length ∧ xs.length - i ≤ k ∧ Aside (Below w2.heap.size w2 wr))
  case atStart => exact ⟨0, rfl, Nat.zero_le _, Nat.le_refl _, (show Aside _ from Below.refl _ _)⟩
  case round =>
    obtain ⟨i, rfl, hi, hk, HBr⟩ := hrel
    have hbr : Below w.heap.size w wr := HB2.out.trans (HBr.out.mono HB2.out.size)
    have HBw := Lib.hid hbr
    clear hbr
    by_cases hlt : i < xs.length
    · have hltz : (i : Int) < (xs.length : Int) := by omega
      have hi0 : (0 : Int) ≤ (i : Int) := by omega
      obtain ⟨y, hy⟩ : ∃ y, xs[i]? = some y := ⟨xs[i], List.getElem?_eq_getElem hlt⟩
      obtain ⟨ad, rfl, c0, c1, c2, c3⟩ := Rds.at4 (HX.out.below HBr.out) hy rfl
      have hyE : (deepE t l)[i]? = some y := by unfold deepE; rw [HE.out]; exact hy
      have hkd : y.kind ≠ 0 := deep_kind HUT.out HUL.out hyE
      have hkd1 : (y.kind == 0) = false := by rw [beq_eq_false_iff_ne]; exact hkd
      have HY := Lib.hid hyE
      clear hyE hkd
      go_upto_region 9 with (fail)
      go_cut [57] from 34 to 57 (fun s57 wx => s57 = .bool false ∧ ∃ nq, wx = wr.drewN nq)
      case first =>
        rcases Nat.eq_zero_or_pos i with hz | hz
        · subst hz
          have hi1 : decide (((0 : Nat) : Int) > 0) = false := by decide
          have hi2 : decide ((0 : Int) > 0) = false := by decide
          have cz : wr.cell? ⟨ad.block, ad.off + 2, none⟩ = some (.int .i64 y.kind) := by simpa [Addr.add] using c2
          have cz2 : wr.cell? ad = some (.string y.key) := by simpa [Addr.add] using c0
          go_quiet (fail)
          go_wp2_with fail
          go_meet
          exact ⟨by simp, nq, rfl⟩
        · obtain ⟨r, rfl⟩ : ∃ r, i = r + 1 := ⟨i - 1, by omega⟩
          obtain ⟨z, hzx⟩ : ∃ z, xs[r]? = some z := ⟨xs[r], List.getElem?_eq_getElem (by omega)⟩
          obtain ⟨ad', e', d0, d1, d2, d3⟩ := Rds.at4 (HX.out.below HBr.out) hzx rfl
          cases e'
          have hri : klt z.key y.key = true := deep_rise HUT.out HUL.out (by unfold deepE; rw [HE.out]; exact hzx) HY.out
          have g1 : Op.bytesLess z.key.toList y.key.toList = true := hri
          have g2 : Op.bytesLess y.key.toList z.key.toList = false := klt_asymm hri
          have g3 : (z.key.toList == y.key.toList) = false := by rw [beq_eq_false_iff_ne]; exact fun e => klt_ne hri (toList_inj.1 e)
          have g4 : (y.key.toList == z.key.toList) = false := by rw [beq_eq_false_iff_ne]; exact fun e => klt_ne hri (toList_inj.1 e).symm
          clear hri hzx
          have hi1 : (0 : Int) < (r : Int) + 1 := by omega
          have hi2 : decide ((r : Int) + 1 > 0) = true := decide_eq_true hi1
          have hi3 : decide (((r + 1 : Nat) : Int) > 0) = true := decide_eq_true (by omega)
          have pa : (0 : Int) ≤ (r : Int) := by omega
          have ba : (r : Int) < (xs.length : Int) := by omega
          have ra : IntKind.i64.wrap (r : Int) = (r : Int) := by rw [IntKind.wrap_i64]; omega
          have rb : IntKind.i64.wrap ((r : Int) + 1 - 1) = (r : Int) := by rw [IntKind.wrap_i64]; omega
          go_quiet (fail)
          go_wp2_with fail
          go_meet
          exact ⟨by simp [*], nq, rfl⟩
      case rest =>
        obtain ⟨rfl, nq, rfl⟩ := hcut
        have HBx : Aside (Below w.heap.size w (wr.drewN nq)) := HBw.out.drewN nq
        have HBy : Aside (Below w2.heap.size w2 (wr.drewN nq)) := HBr.out.drewN nq
        have c0' : (wr.drewN nq).cell? (ad.add (i * 4)) = some (.string y.key) := c0
        have c2' : (wr.drewN nq).cell? ⟨(ad.add (i * 4)).block, (ad.add (i * 4)).off + 2, none⟩ = some (.int .i64 y.kind) := c2
        have c3' : (wr.drewN nq).cell? ⟨(ad.add (i * 4)).block, (ad.add (i * 4)).off + 3, none⟩ = some (.string y.val) := c3
        clear c0 c1 c2 c3 HBr HBw
        generalize wr.drewN nq = w3 at HBx HBy c0' c2' c3' ⊢
        clear nq
        have HC := Lib.hid (HSE.out y.key w3 HBx.out)
        by_cases hk1 : y.kind = 1
        · have hk2 : (y.kind == 1) = true := by rw [beq_iff_eq]; exact hk1
          rw [deep_seen HUT.out HUL.out HY.out hk1] at HC
          clear hk1
          go_wp2_with fail
          refine HC.out.mono ?_
          rintro e w4 ⟨rfl, hB4⟩
          have d0 := cell_below hB4 c0'
          have d2 := cell_below hB4 c2'
          have d3 := cell_below hB4 c3'
          have HB4 : Aside (Below w2.heap.size w2 w4) := HBy.out.next hB4
          clear hB4 c0' c2' c3' HC
          go_wp2_with fail
          go_roundg (xs.length - (i + 1))
          case measure => omega
          case rel => exact ⟨i + 1, by go_num, by omega, Nat.le_refl _, HB4⟩
        · have hk2 : (y.kind == 1) = false := by rw [beq_eq_false_iff_ne]; exact hk1
          clear hk1
          go_wp2_with fail
          refine HC.out.mono ?_
          rintro e w4 ⟨rfl, hB4⟩
          have d0 := cell_below hB4 c0'
          have d2 := cell_below hB4 c2'
          have d3 := cell_below hB4 c3'
          have HB4 : Aside (Below w2.heap.size w2 w4) := HBy.out.next hB4
          clear hB4 c0' c2' c3' HC
          go_wp2_with fail
          go_roundg (xs.length - (i + 1))
          case measure => omega
          case rel => exact ⟨i + 1, by go_num, by omega, Nat.le_refl _, HB4⟩
    · have hltz : ¬ (i : Int) < (xs.length : Int) := by omega
      clear HBw
      rename World => wa
      have HBw : Aside (Below w.heap.size w wa) := HB2.out.trans (HBr.out.mono HB2.out.size)
      go_wp2_with fail
      go_loopg [10, 11, 12, 13, 14] l.length (fun k s10 s11 s12 s13 s14 wq => ∃ j : Nat, s10 = .int .i64 j ∧ j ≤ l.length ∧ l.length - j ≤ k ∧ Aside (Below wa.heap.size wa wq))
      case atStart => exact ⟨0, rfl, Nat.zero_le _, Nat.le_refl _, (show Aside _ from Below.refl _ _)⟩
      case round =>
        obtain ⟨j, rfl, hj, hkj, HBq⟩ := hrel
        rename World => wq
        have HBl : Aside (Below w.heap.size w wq) := HBw.out.trans (HBq.out.mono HBw.out.size)
        by_cases hltj : j < l.length
        · have hltjz : (j : Int) < (l.length : Int) := by omega
          have hj0 : (0 : Int) ≤ (j : Int) := by omega
          obtain ⟨x, hx⟩ : ∃ x, l[j]? = some x := ⟨l[j], List.getElem?_eq_getElem hltj⟩
          obtain ⟨al, rfl, c0, c1, c2, c3⟩ := Rds.at4 (HL.out.below HBl.out) hx rfl
          clear hx c1 c2 c3
          have HC := Lib.hid (HSE.out x.key wq HBl.out)
          have HTh := Lib.hid (show (seenS l t x.key maxU).2 = true → ∃ y ∈ xs, y.key = x.key from fun h => by rw [← HE.out]; exact deep_there HUT.out HUL.out h)
          generalize seenS l t x.key maxU = sv at HC HTh
          obtain ⟨sv1, sv2⟩ := sv
          go_wp2_with fail
          refine HC.out.mono ?_
          rintro e w5 ⟨rfl, hB5⟩
          have d0 := cell_below hB5 c0
          have HB5 : Aside (Below wa.heap.size wa w5) := HBq.out.next hB5
          have HX5 := Lib.hid (HX.out.below (HBr.out.next HB5.out))
          clear hB5 c0 HC HBl HBq
          go_wp2_with fail
          go_loopg [13, 14] xs.length (fun k s13 s14 wz => ∃ (m : Nat) (bb : Bool), s14 = .int .i64 m ∧ s13 = .bool bb ∧ Hid (bb = (xs.take m).any fun y => decide (y.key = x.key)) ∧ m ≤ xs.length ∧ xs.length - m ≤ k ∧ Aside (Below w5.heap.size w5 wz))
          case atStart => exact ⟨0, false, rfl, rfl, Lib.hid (by simp), Nat.zero_le _, Nat.le_refl _, (show Aside _ from Below.refl _ _)⟩
          case round =>
            obtain ⟨m, bb, rfl, rfl, HBB, hm, hkm, HBz⟩ := hrel
            rename World => wz
            have e0 := cell_below HBz.out d0
            by_cases hltm : m < xs.length
            · have hltmz : (m : Int) < (xs.length : Int) := by omega
              have hm0 : (0 : Int) ≤ (m : Int) := by omega
              obtain ⟨y, hy⟩ : ∃ y, xs[m]? = some y := ⟨xs[m], List.getElem?_eq_getElem hltm⟩
              obtain ⟨ad, rfl, g0, g1, g2, g3⟩ := Rds.at4 (HX5.out.below HBz.out) hy rfl
              have HNX := Lib.hid (show ((xs.take (m + 1)).any fun y => decide (y.key = x.key)) = (bb || decide (y.key = x.key)) by rw [List.take_add_one, hy, List.any_append, ← HBB.out]; simp)
              clear hy g1 g2 g3
              cases bb with
              | true =>
                go_wp2_with fail
                go_quiet (fail)
                go_wp2_with fail
                go_roundg (xs.length - (m + 1))
                case measure => omega
                case rel => exact ⟨m + 1, true, by go_num, by simp, Lib.hid (by rw [HNX.out]; rfl), by omega, Nat.le_refl _, (show Aside _ from HBz.out.drewN _)⟩
              | false =>
                by_cases hky : y.key = x.key
                · have k1 : decide (y.key = x.key) = true := decide_eq_true hky
                  have k2 : (y.key.toList == x.key.toList) = true := by rw [hky]; simp
                  have HKY := Lib.hid hky
                  clear hky
                  go_wp2_with fail
                  go_quiet (fail)
                  go_wp2_with fail
                  go_roundg (xs.length - (m + 1))
                  case measure => omega
                  case rel => exact ⟨m + 1, true, by go_num, by simp [*], Lib.hid (by rw [HNX.out, k1]; rfl), by omega, Nat.le_refl _, (show Aside _ from HBz.out.drewN _)⟩
                · have k1 : decide (y.key = x.key) = false := decide_eq_false hky
                  have k2 : (y.key.toList == x.key.toList) = false := by rw [beq_eq_false_iff_ne]; exact fun e => hky (toList_inj.1 e)
                  have HKY := Lib.hid hky
                  clear hky
                  go_wp2_with fail
                  go_quiet (fail)
                  go_wp2_with fail
                  go_roundg (xs.length - (m + 1))
                  case measure => omega
                  case rel => exact ⟨m + 1, false, by go_num, by simp [*], Lib.hid (by rw [HNX.out, k1]; rfl), by omega, Nat.le_refl _, (show Aside _ from HBz.out.drewN _)⟩
            · have hltmz : ¬ (m : Int) < (xs.length : Int) := by omega
              obtain rfl : m = xs.length := by omega
              have hbx : sv2 = true → bb = true := fun h => by
                obtain ⟨y, hy, hk⟩ := HTh.out h
                rw [HBB.out, List.take_length]
                exact List.any_eq_true.2 ⟨y, hy, by simp [hk]⟩
              have HB6 : Aside (Below wa.heap.size wa wz) := HB5.out.next HBz.out
              cases sv2 with
              | true =>
                obtain rfl := hbx rfl
                clear hbx
                go_wp2_with fail
                go_roundg (l.length - (j + 1))
                case measure => omega
                case rel => exact ⟨j + 1, by go_num, by omega, Nat.le_refl _, HB6⟩
              | false =>
                clear hbx
                go_wp2_with fail
                go_roundg (l.length - (j + 1))
                case measure => omega
                case rel => exact ⟨j + 1, by go_num, by omega, Nat.le_refl _, HB6⟩
        · have hltjz : ¬ (j : Int) < (l.length : Int) := by omega
          go_wp2_with fail
          go_ret
          exact ⟨rfl, HBl.out⟩
end Go.Proofs.Ytjiijddlbfgafaa
