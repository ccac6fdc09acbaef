/- morainelaw21.older walked. -/
import Derived.Test.YtjiijddlbfgafaaDropB
import Derived.Test.YtjiijddlbfgafaaDropC
import Derived.Test.YtjiijddlbfgafaaApp
import Derived.BigQuiet
import Derived.Deep.LoopGhost
import Derived.Deep.QuietTactic
import Derived.Deep.DeepCutAuto
import Derived.Deep.CutBlock
set_option linter.unusedVariables false
set_option linter.unusedSimpArgs false
namespace Go.Proofs.Ytjiijddlbfgafaa
open Go.RowKit Go.Lib Go.Shelf
def minE (l : List Ent) (a : Int) : Int := l.foldl (fun a x => min a x.seq) a
def minT (t : List Tomb) (a : Int) : Int := t.foldl (fun a x => min a x.seq) a
/-- The least number of all. -/
def leastS (l : List Ent) (t : List Tomb) : Int := minT t (minE l 72057594037927935)
def oldE (bl : List File) (m : Int) (oe : List Ent) : List Ent := oe.filter fun e => decide (e.seq < m) && bearsS bl e.key
def oldT (m : Int) (ot : List Tomb) : List Tomb := ot.filter fun d => decide (d.seq < m)
theorem infoE' : (Try.prog.info? 48).map (fun i => (i.zero, i.size, i.bytes)) = some (some (.agg #[.string ByteArray.empty, .int .u64 0, .int .i64 0, .string ByteArray.empty]), 4, 48) := by kernel_rfl
def OlderPost (l : List Ent) (t : List Tomb) (bl : List File) (oe : List Ent) (ot : List Tomb) (w : World) (e : Ending) (w' : World) : Prop :=
  ∃ v1 v2, e = .returned (.tuple #[v1, v2]) ∧ Own Ent.enc 4 48 w' w.heap.size v1 (oldE bl (leastS l t) oe) ∧ Own Tomb.enc 3 38 w' w.heap.size v2 (oldT (leastS l t) ot) ∧ Below w.heap.size w w'
set_option maxHeartbeats 4000000 in
set_option maxRecDepth 100000 in
theorem older_any (As Ab Ae Ao Al At : Option Addr) (cs cb ce co cl ct : Nat) (sn : List Int) (bl : List File) (oe : List Ent) (ot : List Tomb) (l : List Ent) (t : List Tomb) (w : World)
    (hb : Rds File.enc 6 w Ab bl) (he : Rds Ent.enc 4 w Ae oe) (ho : Rds Tomb.enc 3 w Ao ot) (hl : Rds Ent.enc 4 w Al l) (ht : Rds Tomb.enc 3 w At t)
    (mb : bl.length ≤ 1099511627776) (me : oe.length ≤ 1099511627776) (mo : ot.length ≤ 1099511627776) (ml : l.length ≤ 1099511627776) (mt : t.length ≤ 1099511627776) :
    Calls Try.prog 13 #[.agg #[.slice As sn.length cs, .slice Ab bl.length cb], .agg #[.slice Ae oe.length ce, .slice Ao ot.length co], .slice Al l.length cl, .slice At t.length ct] w (OlderPost l t bl oe ot w) := by
  obtain ⟨iT, hiT, zT0, zT1, zT2⟩ := info_parts infoT
  obtain ⟨iE, hiE, zE0, zE1, zE2⟩ := info_parts infoE'
  have HBL := Lib.hid hb
  have HOE := Lib.hid he
  have HOT := Lib.hid ho
  have HL := Lib.hid hl
  have HT := Lib.hid ht
  clear hb he ho hl ht
  go_enter Try.func13, Try.ntmps13
  go_wp2_with fail
  have hz0 : ((w.alloc (Obj.cells #[Value.slice As sn.length cs, Value.slice Ab bl.length cb] 27)).alloc (Obj.cells #[Value.slice Ae oe.length ce, Value.slice Ao ot.length co] 43)).heap.size = w.heap.size + 2 := by simp
  have HW : Aside (Below w.heap.size w ((w.alloc (Obj.cells #[Value.slice As sn.length cs, Value.slice Ab bl.length cb] 27)).alloc (Obj.cells #[Value.slice Ae oe.length ce, Value.slice Ao ot.length co] 43))) := ((Below.refl _ _).alloc (Nat.le_refl _) _).alloc (by simp) _
  have b1 : ((w.alloc (Obj.cells #[Value.slice As sn.length cs, Value.slice Ab bl.length cb] 27)).alloc (Obj.cells #[Value.slice Ae oe.length ce, Value.slice Ao ot.length co] 43)).cell? ⟨w.heap.size, 1, none⟩ = some (.slice Ab bl.length cb) := by simp
  have b2 : ((w.alloc (Obj.cells #[Value.slice As sn.length cs, Value.slice Ab bl.length cb] 27)).alloc (Obj.cells #[Value.slice Ae oe.length ce, Value.slice Ao ot.length co] 43)).cell? ⟨w.heap.size + 1, 0, none⟩ = some (.slice Ae oe.length ce) := by simp
  have b3 : ((w.alloc (Obj.cells #[Value.slice As sn.length cs, Value.slice Ab bl.length cb] 27)).alloc (Obj.cells #[Value.slice Ae oe.length ce, Value.slice Ao ot.length co] 43)).cell? ⟨w.heap.size + 1, 1, none⟩ = some (.slice Ao ot.length co) := by simp
  generalize ((w.alloc (Obj.cells #[Value.slice As sn.length cs, Value.slice Ab bl.length cb] 27)).alloc (Obj.cells #[Value.slice Ae oe.length ce, Value.slice Ao ot.length co] 43)) = W0 at hz0 HW b1 b2 b3 ⊢
  have HZ := Lib.hid hz0
  have HB := Lib.hid (And.intro b1 (And.intro b2 b3))
  clear hz0 b1 b2 b3
  go_loopg [10, 11] l.length (fun k s10 s11 wr => ∃ (i : Nat) (m : Int), s11 = .int .i64 i ∧ s10 = .int .u64 m ∧ Hid (m = minE (l.take i) 72057594037927935) ∧ i ≤ l.length ∧ l.length - i ≤ k ∧ wr = W0)
  case atStart => exact ⟨0, _, rfl, rfl, Lib.hid rfl, Nat.zero_le _, Nat.le_refl _, rfl⟩
  case round =>
    obtain ⟨i, m, rfl, rfl, HM, hi, hk, rfl⟩ := hrel
    by_cases hlt : i < l.length
    · have hltz : (i : Int) < (l.length : Int) := by omega
      have hi0 : (0 : Int) ≤ (i : Int) := by omega
      obtain ⟨x, hx⟩ : ∃ x, l[i]? = some x := ⟨l[i], List.getElem?_eq_getElem hlt⟩
      obtain ⟨ad, rfl, c0, c1, c2, c3⟩ := Rds.at4 (HL.out.below HW.out) hx rfl
      have HMN := Lib.hid (show min m x.seq = minE (l.take (i + 1)) 72057594037927935 by rw [List.take_add_one, hx, HM.out]; simp [minE, List.foldl_append])
      clear hx c0 c2 c3
      go_wp2_with fail
      go_roundg (l.length - (i + 1))
      case measure => omega
      case rel => exact ⟨i + 1, _, by go_num, rfl, HMN, by omega, Nat.le_refl _, rfl⟩
    · have hltz : ¬ (i : Int) < (l.length : Int) := by omega
      obtain rfl : i = l.length := by omega
      have HM1 := Lib.hid (show m = minE l 72057594037927935 by have := HM.out; rw [List.take_length] at this; exact this)
      clear HM
      rename World => W1
      go_wp2_with fail
      go_loopg [10, 12] t.length (fun k s10 s12 wr => ∃ (i : Nat) (m' : Int), s12 = .int .i64 i ∧ s10 = .int .u64 m' ∧ Hid (m' = minT (t.take i) m) ∧ i ≤ t.length ∧ t.length - i ≤ k ∧ wr = W1)
      case atStart => exact ⟨0, _, rfl, rfl, Lib.hid rfl, Nat.zero_le _, Nat.le_refl _, rfl⟩
      case round =>
        obtain ⟨i, m', rfl, rfl, HM, hi, hk, rfl⟩ := hrel
        by_cases hlt : i < t.length
        · have hltz : (i : Int) < (t.length : Int) := by omega
          have hi0 : (0 : Int) ≤ (i : Int) := by omega
          obtain ⟨x, hx⟩ : ∃ x, t[i]? = some x := ⟨t[i], List.getElem?_eq_getElem hlt⟩
          obtain ⟨ad, rfl, c0, c1, c2⟩ := Rds.at3 (HT.out.below HW.out) hx rfl
          have HMN := Lib.hid (show min m' x.seq = minT (t.take (i + 1)) m by rw [List.take_add_one, hx, HM.out]; simp [minT, List.foldl_append])
          clear hx c0 c1
          go_wp2_with fail
          go_roundg (t.length - (i + 1))
          case measure => omega
          case rel => exact ⟨i + 1, _, by go_num, rfl, HMN, by omega, Nat.le_refl _, rfl⟩
        · have hltz : ¬ (i : Int) < (t.length : Int) := by omega
          obtain rfl : i = t.length := by omega
          have HM2 := Lib.hid (show m' = leastS l t by have := HM.out; rw [List.take_length, HM1.out] at this; exact this)
          clear HM HM1
          rename World => W2
          go_wp2_with fail
          go_loopg [13, 14, 15] oe.length (fun k s13 s14 s15 wr => ∃ i : Nat, s14 = .int .i64 i ∧ i ≤ oe.length ∧ oe.length - i ≤ k ∧ Aside (Below W2.heap.size W2 wr) ∧ Aside (Own Ent.enc 4 48 wr W2.heap.size s13 (oldE bl m' (oe.take i))))
          case atStart => exact ⟨0, rfl, Nat.zero_le _, Nat.le_refl _, (show Aside _ from Below.refl _ _), (show Aside _ from Own.nil _ _ _)⟩
          case round =>
            obtain ⟨i, rfl, hi, hk, HBr, HOr⟩ := hrel
            have hbw : Below w.heap.size w wr := HW.out.trans (HBr.out.mono (by have := HZ.out; omega))
            have y1 : wr.cell? ⟨w.heap.size, 1, none⟩ = some (.slice Ab bl.length cb) := (HBr.out.cell (p := ⟨w.heap.size, 1, none⟩) (by have := HZ.out; simp; omega)).trans HB.out.1
            have y2 : wr.cell? ⟨w.heap.size + 1, 0, none⟩ = some (.slice Ae oe.length ce) := (HBr.out.cell (p := ⟨w.heap.size + 1, 0, none⟩) (by have := HZ.out; simp; omega)).trans HB.out.2.1
            have HBW := Lib.hid hbw
            clear hbw
            rename World => w3
            by_cases hlt : i < oe.length
            · have hltz : (i : Int) < (oe.length : Int) := by omega
              have hi0 : (0 : Int) ≤ (i : Int) := by omega
              obtain ⟨x, hx⟩ : ∃ x, oe[i]? = some x := ⟨oe[i], List.getElem?_eq_getElem hlt⟩
              obtain ⟨ad, rfl, c0, c1, c2, c3⟩ := Rds.at4 (HOE.out.below HBW.out) hx rfl
              have hsx : oldE bl m' (oe.take (i + 1)) = oldE bl m' (oe.take i) ++ (if decide (x.seq < m') && bearsS bl x.key then [x] else []) := by
                rw [List.take_add_one, hx]
                unfold oldE
                rw [List.filter_append]
                simp only [Option.toList_some, List.filter_cons, List.filter_nil]
              have hol : (oldE bl m' (oe.take i)).length ≤ i := Nat.le_trans (List.length_filter_le _ _) (by simp; omega)
              have HSX := Lib.hid hsx
              have HOL := Lib.hid hol
              clear hx hsx hol
              have y1' : (w3.alloc (.cells #[.string x.key, .int .u64 x.seq, .int .i64 x.kind, .string x.val] 48)).cell? ⟨w.heap.size, 1, none⟩ = some (.slice Ab bl.length cb) := Lib.cell?_alloc_some _ y1
              by_cases hs : x.seq < m'
              · have hs1 : decide (x.seq < m') = true := decide_eq_true hs
                have HBC := Lib.hid (fun (W : World) (h : Below w3.heap.size w3 W) => bears_any Ab cb bl x.key W (HBL.out.below (HBW.out.next h)) mb)
                go_wp2_with fail
                refine (HBC.out _ ((Below.refl _ _).alloc (Nat.le_refl _) _)).mono ?_
                rintro e w4 ⟨rfl, hB4⟩
                have HB4 : Aside (Below w3.heap.size w3 w4) := ((Below.refl _ _).alloc (Nat.le_refl _) _).next hB4
                have x0 : w4.cell? ⟨w3.heap.size, 0, none⟩ = some (.string x.key) := (hB4.cell (p := ⟨w3.heap.size, 0, none⟩) (by simp)).trans (by simp)
                have x1 : w4.cell? ⟨w3.heap.size, 1, none⟩ = some (.int .u64 x.seq) := (hB4.cell (p := ⟨w3.heap.size, 1, none⟩) (by simp)).trans (by simp)
                have x2 : w4.cell? ⟨w3.heap.size, 2, none⟩ = some (.int .i64 x.kind) := (hB4.cell (p := ⟨w3.heap.size, 2, none⟩) (by simp)).trans (by simp)
                have x3 : w4.cell? ⟨w3.heap.size, 3, none⟩ = some (.string x.val) := (hB4.cell (p := ⟨w3.heap.size, 3, none⟩) (by simp)).trans (by simp)
                have HB5 : Aside (Below W2.heap.size W2 w4) := HBr.out.next HB4.out
                have HO5 : Aside (Own Ent.enc 4 48 w4 W2.heap.size u13 (oldE bl m' (oe.take i))) := HOr.out.below HB4.out
                have HXb := Lib.hid (show w3.heap.size < w4.heap.size by have := hB4.size; simp at this; omega)
                clear hB4 c0 c1 c2 c3 HBC HB4 HBr HOr y1 y1' y2
                generalize w3.heap.size = Xb at x0 x1 x2 x3 HXb ⊢
                cases hbe : bearsS bl x.key with
                | true =>
                  have HE := Lib.hid (show oldE bl m' (oe.take (i + 1)) = oldE bl m' (oe.take i) ++ [x] by rw [HSX.out, hs1, hbe]; rfl)
                  go_wp2_with (at_builtin; refine wpList_append_own _ rfl _ _ 22 rfl W2.heap.size 48 iE (.agg #[.string ByteArray.empty, .int .u64 0, .int .i64 0, .string ByteArray.empty]) 4 48 Try.underlying22 hiE zE0 zE1 zE2 rfl (by decide) _ _ _ rfl (HO5.out.alloc _) ⟨w4.heap.size, 0, none⟩ 1 1 (Ent.enc x) rfl rfl (World.news_of_block (heap_alloc_new w4 _)) (Ent.enc_one x) (by have := HOL.out; unfold maxLen; omega) (by have := HOL.out; omega) (by simp; have := HB5.out.size; omega) ?_)
                  intro v8 w8 hown8 hgrow8 hnil8
                  have HB8 : Aside (Below W2.heap.size W2 w8) := (HB5.out.alloc HB5.out.size _).grown hgrow8 (by simp; have := HB5.out.size; omega) (fun b e => (HO5.out.block_lt e).1)
                  have HO8 : Aside (Own Ent.enc 4 48 w8 W2.heap.size v8 (oldE bl m' (oe.take (i + 1)))) := by
                    show Own _ _ _ _ _ _ _
                    rw [HE.out]
                    unfold Own
                    rw [List.length_append, List.flatMap_append]
                    simpa using hown8
                  clear hown8 hgrow8 hnil8
                  go_wp2_with fail
                  go_roundg (oe.length - (i + 1))
                  case measure => omega
                  case rel => exact ⟨i + 1, by go_num, by omega, Nat.le_refl _, HB8, HO8⟩
                | false =>
                  have HE := Lib.hid (show oldE bl m' (oe.take (i + 1)) = oldE bl m' (oe.take i) by rw [HSX.out, hs1, hbe]; simp)
                  go_wp2_with fail
                  go_roundg (oe.length - (i + 1))
                  case measure => omega
                  case rel => exact ⟨i + 1, by go_num, by omega, Nat.le_refl _, HB5, by rw [HE.out]; exact HO5⟩
              · have hs1 : decide (x.seq < m') = false := decide_eq_false hs
                have HE := Lib.hid (show oldE bl m' (oe.take (i + 1)) = oldE bl m' (oe.take i) by rw [HSX.out, hs1]; simp)
                have HB5 : Aside (Below W2.heap.size W2 (w3.alloc (.cells #[.string x.key, .int .u64 x.seq, .int .i64 x.kind, .string x.val] 48))) := HBr.out.alloc HBr.out.size _
                have HO5 : Aside (Own Ent.enc 4 48 (w3.alloc (.cells #[.string x.key, .int .u64 x.seq, .int .i64 x.kind, .string x.val] 48)) W2.heap.size u13 (oldE bl m' (oe.take i))) := HOr.out.alloc _
                clear HBr HOr
                go_wp2_with fail
                go_roundg (oe.length - (i + 1))
                case measure => omega
                case rel => exact ⟨i + 1, by go_num, by omega, Nat.le_refl _, HB5, by rw [HE.out]; exact HO5⟩
            · have hltz : ¬ (i : Int) < (oe.length : Int) := by omega
              obtain rfl : i = oe.length := by omega
              have HO3 : Aside (Own Ent.enc 4 48 w3 W2.heap.size u13 (oldE bl m' oe)) := by
                show Own _ _ _ _ _ _ _
                have := HOr.out
                rwa [List.take_length] at this
              have HZ3 := Lib.hid (show w.heap.size + 2 ≤ w3.heap.size by have := HZ.out; have := HBr.out.size; omega)
              have y3 : w3.cell? ⟨w.heap.size + 1, 1, none⟩ = some (.slice Ao ot.length co) := (HBr.out.cell (p := ⟨w.heap.size + 1, 1, none⟩) (by have := HZ.out; simp; omega)).trans HB.out.2.2
              have HY3 := Lib.hid y3
              clear HOr
              go_wp2_with fail
              clear y1 y2 y3
              go_loopg [16, 17] ot.length (fun k s16 s17 wr => ∃ i : Nat, s17 = .int .i64 i ∧ i ≤ ot.length ∧ ot.length - i ≤ k ∧ Aside (Below w3.heap.size w3 wr) ∧ Aside (Own Tomb.enc 3 38 wr w3.heap.size s16 (oldT m' (ot.take i))))
              case atStart => exact ⟨0, rfl, Nat.zero_le _, Nat.le_refl _, (show Aside _ from Below.refl _ _), (show Aside _ from Own.nil _ _ _)⟩
              case round =>
                obtain ⟨i, rfl, hi, hk, HBq, HOq⟩ := hrel
                rename World => w4
                have hbw : Below w.heap.size w w4 := HBW.out.trans (HBq.out.mono (by have := HZ3.out; omega))
                have z3 : w4.cell? ⟨w.heap.size + 1, 1, none⟩ = some (.slice Ao ot.length co) := (HBq.out.cell (p := ⟨w.heap.size + 1, 1, none⟩) (by have := HZ3.out; simp; omega)).trans HY3.out
                have HBW4 := Lib.hid hbw
                clear hbw
                by_cases hlt : i < ot.length
                · have hltz : (i : Int) < (ot.length : Int) := by omega
                  have hi0 : (0 : Int) ≤ (i : Int) := by omega
                  obtain ⟨x, hx⟩ : ∃ x, ot[i]? = some x := ⟨ot[i], List.getElem?_eq_getElem hlt⟩
                  obtain ⟨ad, rfl, c0, c1, c2⟩ := Rds.at3 (HOT.out.below HBW4.out) hx rfl
                  have hsx : oldT m' (ot.take (i + 1)) = oldT m' (ot.take i) ++ (if decide (x.seq < m') then [x] else []) := by
                    rw [List.take_add_one, hx]
                    unfold oldT
                    rw [List.filter_append]
                    simp only [Option.toList_some, List.filter_cons, List.filter_nil]
                  have hol : (oldT m' (ot.take i)).length ≤ i := Nat.le_trans (List.length_filter_le _ _) (by simp; omega)
                  have HSX := Lib.hid hsx
                  have HOL := Lib.hid hol
                  clear hx hsx hol
                  by_cases hs : x.seq < m'
                  · have hs1 : decide (x.seq < m') = true := decide_eq_true hs
                    have HE := Lib.hid (show oldT m' (ot.take (i + 1)) = oldT m' (ot.take i) ++ [x] by rw [HSX.out, hs1]; rfl)
                    go_wp2_with (at_builtin; refine wpList_append_own _ rfl _ _ 23 rfl w3.heap.size 38 iT (.agg #[.string ByteArray.empty, .string ByteArray.empty, .int .u64 0]) 3 40 Try.underlying23 hiT zT0 zT1 zT2 rfl (by decide) _ _ _ rfl (HOq.out.alloc _) ⟨w4.heap.size, 0, none⟩ 1 1 (Tomb.enc x) rfl rfl (World.news_of_block (heap_alloc_new w4 _)) (Tomb.enc_one x) (by have := HOL.out; unfold maxLen; omega) (by have := HOL.out; omega) (by simp; have := HBq.out.size; omega) ?_)
                    intro v8 w8 hown8 hgrow8 hnil8
                    have HB8 : Aside (Below w3.heap.size w3 w8) := (HBq.out.alloc HBq.out.size _).grown hgrow8 (by simp; have := HBq.out.size; omega) (fun b e => (HOq.out.block_lt e).1)
                    have HO8 : Aside (Own Tomb.enc 3 38 w8 w3.heap.size v8 (oldT m' (ot.take (i + 1)))) := by
                      show Own _ _ _ _ _ _ _
                      rw [HE.out]
                      unfold Own
                      rw [List.length_append, List.flatMap_append]
                      simpa using hown8
                    clear hown8 hgrow8 hnil8
                    go_wp2_with fail
                    go_roundg (ot.length - (i + 1))
                    case measure => omega
                    case rel => exact ⟨i + 1, by go_num, by omega, Nat.le_refl _, HB8, HO8⟩
                  · have hs1 : decide (x.seq < m') = false := decide_eq_false hs
                    have HE := Lib.hid (show oldT m' (ot.take (i + 1)) = oldT m' (ot.take i) by rw [HSX.out, hs1]; simp)
                    go_wp2_with fail
                    go_roundg (ot.length - (i + 1))
                    case measure => omega
                    case rel => exact ⟨i + 1, by go_num, by omega, Nat.le_refl _, HBq, by rw [HE.out]; exact HOq⟩
                · have hltz : ¬ (i : Int) < (ot.length : Int) := by omega
                  obtain rfl : i = ot.length := by omega
                  have ho4 : Own Tomb.enc 3 38 w4 w3.heap.size u16 (oldT m' ot) := by
                    have := HOq.out
                    rwa [List.take_length] at this
                  have HO4 := Lib.hid ho4
                  have HO5 := Lib.hid (HO3.out.below HBq.out)
                  clear ho4 HOq HBq
                  go_wp2_with fail
                  go_ret2
                  refine ⟨_, _, rfl, ?_, ?_, HBW4.out⟩
                  · have h := HO5.out
                    rw [HM2.out] at h
                    exact Own.mono h (by have := HZ.out; omega)
                  · have h := HO4.out
                    rw [HM2.out] at h
                    exact Own.mono h (by have := HZ3.out; omega)
end Go.Proofs.Ytjiijddlbfgafaa
