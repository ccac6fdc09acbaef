/- morainelaw21.DropAgain walked. -/
import Derived.Test.YtjiijddlbfgafaaLawC
import Derived.BigQuiet
import Derived.Deep.LoopGhost
import Derived.Deep.DeepCutAuto
set_option linter.unusedVariables false
set_option linter.unusedSimpArgs false
namespace Go.Proofs.Ytjiijddlbfgafaa
open Go.RowKit Go.Lib Go.Shelf
theorem keptE_len (S : List Int) (bl : List File) (t : List Tomb) (l : List Ent) : (keptE S bl t l).length ≤ l.length := by
  have h : (sortedE l).length = l.length := by simp [sortedE]
  have := keptTo_len (p := keepAt S bl (rowsOf S t) (sortedE l)) (sl := sortedE l) (sortedE l).length
  unfold keptE
  omega
theorem keptT_len (S : List Int) (bl : List File) (t : List Tomb) : (keptT S bl t).length ≤ t.length := Nat.le_trans (List.length_filter_le _ _) (List.length_filter_le _ _)
set_option maxHeartbeats 4000000 in
set_option maxRecDepth 100000 in
theorem again_any (Al At As Ab : Option Addr) (cl ct cs cb : Nat) (l : List Ent) (t : List Tomb) (sn : List Int) (bl : List File) (w : World)
    (hl : Rds Ent.enc 4 w Al l) (ht : Rds Tomb.enc 3 w At t) (hs : Rds (en1 (Value.int .u64)) 1 w As sn) (hb : Rds File.enc 6 w Ab bl)
    (ml : l.length ≤ 1099511627776) (mt : t.length ≤ 1099511627776) (ms : sn.length ≤ 1099511627776) (mb : bl.length ≤ 1099511627776) :
    Calls Try.prog 3 #[.slice Al l.length cl, .slice At t.length ct, .agg #[.slice As sn.length cs, .slice Ab bl.length cb]] w fun e w' => e = .returned (.bool true) ∧ Below w.heap.size w w' := by
  have HL := Lib.hid hl
  have HT := Lib.hid ht
  have HS := Lib.hid hs
  have HBl := Lib.hid hb
  clear hl ht hs hb
  go_enter Try.func3, Try.ntmps3
  go_wp2_with fail
  refine (probe_any _).mono ?_
  rintro e w1 ⟨rfl, hB1⟩
  have HB1 : Aside (Below w.heap.size w w1) := ((Below.refl _ _).alloc (Nat.le_refl _) _).next hB1
  have hz1 : w.heap.size < w1.heap.size := by have := hB1.size; simp at this; omega
  have b0 : w1.cell? ⟨w.heap.size, 0, none⟩ = some (.slice As sn.length cs) := (hB1.cell (p := ⟨w.heap.size, 0, none⟩) (by simp)).trans (by simp)
  have b1 : w1.cell? ⟨w.heap.size, 1, none⟩ = some (.slice Ab bl.length cb) := (hB1.cell (p := ⟨w.heap.size, 1, none⟩) (by simp)).trans (by simp)
  have f0 : w1.frozen? ⟨w.heap.size, 0, none⟩ = false := (hB1.frozen (p := ⟨w.heap.size, 0, none⟩) (by simp)).trans (by simp)
  have HZ1 := Lib.hid hz1
  clear hB1 hz1
  go_wp2_with fail
  refine (rule_any As Ab cs cb sn bl w1 (HS.out.below HB1.out) (HBl.out.below HB1.out) ms mb).mono ?_
  rintro e w2 ⟨r1, r2, rfl, ho1, ho2, hB2⟩
  have hl2 := HL.out.below (HB1.out.trans (hB2.mono (by have := HZ1.out; omega)))
  have ht2 := HT.out.below (HB1.out.trans (hB2.mono (by have := HZ1.out; omega)))
  have HC := Lib.hid (entries_kept Al At cl ct r1 r2 l t sn bl w1.heap.size w2 hl2 ht2 ho1 ho2 ml mt ms mb)
  have HB2 := Lib.hid hB2
  clear hl2 ht2 ho1 ho2 hB2
  go_wp2_with fail
  refine HC.out.mono ?_
  rintro e w3 ⟨S, A3, k3, A4, k4, rfl, hS, hx, hy, hB3⟩
  have HSx := Lib.hid hS
  have HX := Lib.hid hx
  have HY := Lib.hid hy
  have hB13 : Below w1.heap.size w1 w3 := HB2.out.next hB3
  have HB3 := Lib.hid hB13
  have c0 : w3.cell? ⟨w.heap.size, 0, none⟩ = some (.slice As sn.length cs) := (hB13.cell (p := ⟨w.heap.size, 0, none⟩) HZ1.out).trans b0
  have c1 : w3.cell? ⟨w.heap.size, 1, none⟩ = some (.slice Ab bl.length cb) := (hB13.cell (p := ⟨w.heap.size, 1, none⟩) HZ1.out).trans b1
  clear HC hS hx hy hB3 hB13 HB2
  go_wp2_with fail
  have hxl : (keptE S bl t l).length ≤ l.length := keptE_len S bl t l
  have hyl : (keptT S bl t).length ≤ t.length := keptT_len S bl t
  have hz3 := HB3.out.size
  refine (rule_any As Ab cs cb sn bl w3 (HS.out.below (HB1.out.trans (HB3.out.mono (by have := HZ1.out; omega)))) (HBl.out.below (HB1.out.trans (HB3.out.mono (by have := HZ1.out; omega)))) ms mb).mono ?_
  rintro e w4 ⟨q1, q2, rfl, ho1, ho2, hB4⟩
  have HC := Lib.hid (entries_kept A3 A4 k3 k4 q1 q2 (keptE S bl t l) (keptT S bl t) sn bl w3.heap.size w4 (HX.out.below hB4) (HY.out.below hB4) ho1 ho2 (by omega) (by omega) ms mb)
  have HB4 := Lib.hid hB4
  clear ho1 ho2 hB4
  go_wp2_with fail
  refine HC.out.mono ?_
  rintro e w5 ⟨S', A5, k5, A6, k6, rfl, hS', hv, hw, hB5⟩
  obtain rfl := hS'.unique HSx.out
  have hB35 : Below w3.heap.size w3 w5 := HB4.out.next hB5
  rw [again_e] at hv
  rw [again_t] at hw
  rw [again_e, again_t]
  have HV := Lib.hid hv
  have HW := Lib.hid hw
  have HB5 := Lib.hid hB35
  clear HC hS' hv hw hB5 hB35 HB4
  go_wp2_with fail
  refine (same_any A5 A3 k5 k3 (keptE S' bl t l) w5 HV.out (HX.out.below HB5.out) (by omega)).mono ?_
  rintro e w6 ⟨rfl, hB6⟩
  have HCT := Lib.hid (sameT_any A6 A4 k6 k4 (keptT S' bl t) w6 (HW.out.below hB6) (HY.out.below (HB5.out.next hB6)) (by omega))
  have HB6 := Lib.hid hB6
  clear hB6
  go_wp2_with fail
  refine HCT.out.mono ?_
  rintro e w7 ⟨rfl, hB7⟩
  have hB17 : Below w1.heap.size w1 w7 := HB3.out.next (HB5.out.next (HB6.out.next hB7))
  have d0 : w7.cell? ⟨w.heap.size, 0, none⟩ = some (.slice As sn.length cs) := (hB17.cell (p := ⟨w.heap.size, 0, none⟩) HZ1.out).trans b0
  have d1 : w7.cell? ⟨w.heap.size, 1, none⟩ = some (.slice Ab bl.length cb) := (hB17.cell (p := ⟨w.heap.size, 1, none⟩) HZ1.out).trans b1
  have d2 : w7.frozen? ⟨w.heap.size, 0, none⟩ = false := (hB17.frozen (p := ⟨w.heap.size, 0, none⟩) HZ1.out).trans f0
  have HB7 : Aside (Below w.heap.size w w7) := HB1.out.trans (hB17.mono (by have := HZ1.out; omega))
  have HZ7 := Lib.hid (show w.heap.size < w7.heap.size by have := HZ1.out; have := hB17.size; omega)
  clear HCT HX HY HV HW HB3 HB5 HB6 hB7 hB17 hxl hyl hz3 b0 b1 f0 c0 c1 HSx HB1 HZ1
  go_wp2_with fail
  have HB8 : Aside (Below w.heap.size w (w7.setCell ⟨w.heap.size, 0, none⟩ (.slice none 0 0))) := HB7.out.setCell (Nat.le_refl _) _
  have hz8 : w.heap.size < (w7.setCell ⟨w.heap.size, 0, none⟩ (.slice none 0 0)).heap.size := by have := HZ7.out; simp; omega
  clear HB7 HZ7 d0 d1 d2
  generalize (w7.setCell ⟨w.heap.size, 0, none⟩ (.slice none 0 0)) = w8 at HB8 hz8 ⊢
  refine (rule_any none Ab 0 cb [] bl w8 Rds.nil (HBl.out.below HB8.out) (by simp) mb).mono ?_
  rintro e w9 ⟨p1, p2, rfl, ho1, ho2, hB9⟩
  have HB9 : Aside (Below w.heap.size w w9) := HB8.out.trans (hB9.mono (by omega))
  have HC := Lib.hid (entries_kept Al At cl ct p1 p2 l t [] bl w8.heap.size w9 (HL.out.below HB9.out) (HT.out.below HB9.out) ho1 ho2 ml mt (by simp) mb)
  have HZ9 := Lib.hid (show w.heap.size < w9.heap.size by have := hB9.size; omega)
  clear ho1 ho2 hB9 hz8 HB8
  go_wp2_with fail
  refine HC.out.mono ?_
  rintro e w10 ⟨S, A1, k1, A2, k2, rfl, hS, hx, hy, hB10⟩
  obtain rfl := rising_nil hS
  rw [all_e] at hx
  rw [all_t] at hy
  rw [all_e, all_t]
  have HX := Lib.hid hx
  have HB10 : Aside (Below w.heap.size w w10) := HB9.out.trans (hB10.mono (by have := HZ9.out; omega))
  have HZ10 := Lib.hid (show w.heap.size < w10.heap.size by have := HZ9.out; have := hB10.size; omega)
  clear HC hS hx hy hB10 HB9 HZ9
  go_wp2_with fail
  go_loopg [13, 14] t.length (fun k s13 s14 wr => ∃ i : Nat, s14 = .int .i64 i ∧ s13 = .int .i64 ((t.take i).filter validB).length ∧ i ≤ t.length ∧ t.length - i ≤ k ∧ Aside (Below w10.heap.size w10 wr))
  case atStart => exact ⟨0, rfl, rfl, Nat.zero_le _, Nat.le_refl _, (show Aside _ from Below.refl _ _)⟩
  case round =>
    obtain ⟨i, rfl, rfl, hi, hk, HBr⟩ := hrel
    have hbr : Below w.heap.size w wr := HB10.out.trans (HBr.out.mono (by have := HZ10.out; omega))
    by_cases hlt : i < t.length
    · obtain ⟨x, hx⟩ : ∃ x, t[i]? = some x := ⟨t[i], List.getElem?_eq_getElem hlt⟩
      obtain ⟨ad, rfl, c0, c1, c2⟩ := Rds.at3 (HT.out.below hbr) hx rfl
      have HXi := Lib.hid hx
      clear hx
      go_wp2_with fail
      refine (valid_any x _).mono ?_
      rintro e wv ⟨rfl, hv⟩
      have hfl : ((t.take i).filter validB).length ≤ i := Nat.le_trans (List.length_filter_le _ _) (by simp; omega)
      cases hval : validB x with
      | false =>
        go_wp2_with fail
        go_roundg (t.length - (i + 1))
        case measure => omega
        case rel => exact ⟨i + 1, by go_num, by rw [List.take_add_one, HXi.out]; simp [List.filter_append, hval], by omega, Nat.le_refl _, (show Aside _ from HBr.out.next hv)⟩
      | true =>
        go_wp2_with fail
        go_roundg (t.length - (i + 1))
        case measure => omega
        case rel =>
          refine ⟨i + 1, by go_num, ?_, by omega, Nat.le_refl _, (show Aside _ from HBr.out.next hv)⟩
          have : ((t.take (i + 1)).filter validB).length = ((t.take i).filter validB).length + 1 := by rw [List.take_add_one, HXi.out]; simp [List.filter_append, hval]
          rw [this]
          go_num
    · obtain rfl : i = t.length := by omega
      rw [List.take_length]
      go_wp2_with fail
      refine (sorted_any Al cl l wr (HL.out.below hbr) ml).mono ?_
      rintro e w11 ⟨v11, rfl, ho11, hB11⟩
      obtain ⟨A11, k11, rfl, _, _, hr11, _⟩ := Own.rds Ent.enc_len ho11
      have hsl : (sortedE l).length = l.length := by simp [sortedE]
      have HCS := Lib.hid (same_any A1 A11 k1 k11 (sortedE l) w11 (HX.out.below (HBr.out.next hB11)) hr11 (by omega))
      have HB11 := Lib.hid (hbr.trans (hB11.mono (by have := HZ10.out; have := HBr.out.size; omega)))
      have hz11 : w.heap.size ≤ w11.heap.size := by have := hbr.size; have := hB11.size; omega
      clear ho11 hr11 hsl hB11 hbr
      go_wp2_with fail
      refine HCS.out.mono ?_
      rintro e w12 ⟨rfl, hB12⟩
      have hB := HB11.out.trans (hB12.mono hz11)
      clear hB12
      go_wp2_with fail
      go_ret
      exact ⟨rfl, hB⟩
end Go.Proofs.Ytjiijddlbfgafaa
