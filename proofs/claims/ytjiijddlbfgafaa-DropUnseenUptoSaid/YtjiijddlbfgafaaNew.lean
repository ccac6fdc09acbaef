/- ikey.Newest walked. -/
import Derived.Test.YtjiijddlbfgafaaCmp
import Derived.Test.YtjiijddlbfgafaaOrd
import Derived.Test.YtjiijddlbfgafaaRow
import Derived.BigQuiet
import Derived.Deep.LoopGhost
import Derived.Deep.QuietTactic
import Derived.Deep.RegionHeld3
import Derived.Deep.CutBlock
import Derived.Deep.DeepCutAuto
import Derived.Lib.Hide
set_option linter.unusedVariables false
set_option linter.unusedSimpArgs false
namespace Go.Proofs.Ytjiijddlbfgafaa
open Go.RowKit
/-- A round of ikey.Newest. -/
def newStep (key : ByteArray) (q : Int) (acc : Option Ent) (e : Ent) : Option Ent :=
  if e.key = key ∧ e.seq ≤ q ∧ (∀ b, acc = some b → cmpE e b < 0) then some e else acc
/-- ikey.Newest -/
def newestS (l : List Ent) (key : ByteArray) (q : Int) : Option Ent := l.foldl (newStep key q) none
/-- The entry with nothing in it. -/
def ent0 : Ent := ⟨ByteArray.empty, 0, 0, ByteArray.empty⟩
/-- Where the best one lies. -/
def Lies (l : List Ent) (i : Nat) (o : Option Ent) (b : Int) : Prop := (o = none ∧ b = -1) ∨ ∃ (j : Nat) (x : Ent), j < i ∧ l[j]? = some x ∧ o = some x ∧ b = j
set_option maxHeartbeats 4000000 in
set_option maxRecDepth 100000 in
theorem newest_any (A : Option Addr) (c : Nat) (l : List Ent) (key : ByteArray) (q : Int) (w : World) (hl : Rds Ent.enc 4 w A l) (hm : l.length ≤ 1099511627776) :
    Calls Try.prog 26 #[.slice A l.length c, .string key, .int .u64 q] w fun e w' => e = .returned (.tuple #[.agg ((newestS l key q).getD ent0).enc.toArray, .bool (newestS l key q).isSome]) ∧ Below w.heap.size w w' := by
  have HL := Lib.hid hl
  clear hl
  go_enter Try.func26, Try.ntmps26
  go_wp2_with fail
  have hz0 : (w.alloc (Obj.cells #[Value.string { data := #[] }, Value.int IntKind.u64 0, Value.int IntKind.i64 0, Value.string { data := #[] }] 48)).heap.size = w.heap.size + 1 := by simp
  have HW : Aside (Below w.heap.size w (w.alloc (Obj.cells #[Value.string { data := #[] }, Value.int IntKind.u64 0, Value.int IntKind.i64 0, Value.string { data := #[] }] 48))) := (Below.refl _ _).alloc (Nat.le_refl _) _
  have r0 : (w.alloc (Obj.cells #[Value.string { data := #[] }, Value.int IntKind.u64 0, Value.int IntKind.i64 0, Value.string { data := #[] }] 48)).cell? ⟨w.heap.size, 0, none⟩ = some (.string { data := #[] }) := by simp
  have r1 : (w.alloc (Obj.cells #[Value.string { data := #[] }, Value.int IntKind.u64 0, Value.int IntKind.i64 0, Value.string { data := #[] }] 48)).cell? ⟨w.heap.size, 1, none⟩ = some (.int .u64 0) := by simp
  have r2 : (w.alloc (Obj.cells #[Value.string { data := #[] }, Value.int IntKind.u64 0, Value.int IntKind.i64 0, Value.string { data := #[] }] 48)).cell? ⟨w.heap.size, 2, none⟩ = some (.int .i64 0) := by simp
  have r3 : (w.alloc (Obj.cells #[Value.string { data := #[] }, Value.int IntKind.u64 0, Value.int IntKind.i64 0, Value.string { data := #[] }] 48)).cell? ⟨w.heap.size, 3, none⟩ = some (.string { data := #[] }) := by simp
  have f0 : (w.alloc (Obj.cells #[Value.string { data := #[] }, Value.int IntKind.u64 0, Value.int IntKind.i64 0, Value.string { data := #[] }] 48)).frozen? ⟨w.heap.size, 0, none⟩ = false := by simp
  have f1 : (w.alloc (Obj.cells #[Value.string { data := #[] }, Value.int IntKind.u64 0, Value.int IntKind.i64 0, Value.string { data := #[] }] 48)).frozen? ⟨w.heap.size, 1, none⟩ = false := by simp
  have f2 : (w.alloc (Obj.cells #[Value.string { data := #[] }, Value.int IntKind.u64 0, Value.int IntKind.i64 0, Value.string { data := #[] }] 48)).frozen? ⟨w.heap.size, 2, none⟩ = false := by simp
  have f3 : (w.alloc (Obj.cells #[Value.string { data := #[] }, Value.int IntKind.u64 0, Value.int IntKind.i64 0, Value.string { data := #[] }] 48)).frozen? ⟨w.heap.size, 3, none⟩ = false := by simp
  generalize (w.alloc (Obj.cells #[Value.string { data := #[] }, Value.int IntKind.u64 0, Value.int IntKind.i64 0, Value.string { data := #[] }] 48)) = W0 at hz0 HW r0 r1 r2 r3 f0 f1 f2 f3 ⊢
  have HR := Lib.hid (And.intro r0 (And.intro r1 (And.intro r2 r3)))
  have HF := Lib.hid (And.intro f0 (And.intro f1 (And.intro f2 f3)))
  have HZ := Lib.hid hz0
  have HL0 := Lib.hid (HL.out.below HW.out)
  clear r0 r1 r2 r3 f0 f1 f2 f3 hz0 HL
  go_loopg [8, 13] l.length (fun k s8 s13 wr => ∃ (i : Nat) (o : Option Ent) (b : Int), s13 = .int .i64 i ∧ s8 = .int .i64 b ∧ i ≤ l.length ∧ l.length - i ≤ k ∧ Hid (Lies l i o b) ∧ Hid ((l.take i).foldl (newStep key q) none = o) ∧ Aside (Below W0.heap.size W0 wr))
  case atStart => exact ⟨0, none, -1, rfl, rfl, Nat.zero_le _, Nat.le_refl _, Lib.hid (.inl ⟨rfl, rfl⟩), Lib.hid rfl, (show Aside _ from Below.refl _ _)⟩
  case round =>
    obtain ⟨i, o, b, rfl, rfl, hi, hk, HLi, HFo, HBr⟩ := hrel
    by_cases hlt : i < l.length
    · have hltz : (i : Int) < (l.length : Int) := by omega
      obtain ⟨x, hx⟩ : ∃ x, l[i]? = some x := ⟨l[i], List.getElem?_eq_getElem hlt⟩
      obtain ⟨ad, rfl, c0, c1, c2, c3⟩ := Rds.at4 (HL0.out.below HBr.out) hx rfl
      have HX := Lib.hid hx
      clear hx
      go_upto_region 5 with (fail)
      have x0 : (wr.alloc (Obj.cells #[Value.string x.key, Value.int IntKind.u64 x.seq, Value.int IntKind.i64 x.kind, Value.string x.val] 48)).cell? ⟨wr.heap.size, 0, none⟩ = some (.string x.key) := by simp
      have x1 : (wr.alloc (Obj.cells #[Value.string x.key, Value.int IntKind.u64 x.seq, Value.int IntKind.i64 x.kind, Value.string x.val] 48)).cell? ⟨wr.heap.size, 1, none⟩ = some (.int .u64 x.seq) := by simp
      have x2 : (wr.alloc (Obj.cells #[Value.string x.key, Value.int IntKind.u64 x.seq, Value.int IntKind.i64 x.kind, Value.string x.val] 48)).cell? ⟨wr.heap.size, 2, none⟩ = some (.int .i64 x.kind) := by simp
      have x3 : (wr.alloc (Obj.cells #[Value.string x.key, Value.int IntKind.u64 x.seq, Value.int IntKind.i64 x.kind, Value.string x.val] 48)).cell? ⟨wr.heap.size, 3, none⟩ = some (.string x.val) := by simp
      have HB6 : Aside (Below W0.heap.size W0 (wr.alloc (Obj.cells #[Value.string x.key, Value.int IntKind.u64 x.seq, Value.int IntKind.i64 x.kind, Value.string x.val] 48))) := HBr.out.alloc HBr.out.size _
      clear HBr c0 c1 c2 c3
      generalize (wr.alloc (Obj.cells #[Value.string x.key, Value.int IntKind.u64 x.seq, Value.int IntKind.i64 x.kind, Value.string x.val] 48)) = w6 at x0 x1 x2 x3 HB6 ⊢
      generalize wr.heap.size = Xb at x0 x1 x2 x3 ⊢
      go_cut [40] from 18 to 40 (fun s40 wx => ∃ bb : Bool, s40 = .bool bb ∧ Hid (newStep key q o x = if bb then some x else o) ∧ Aside (Below w6.heap.size w6 wx))
      case first =>
        by_cases hk : x.key = key
        · by_cases hs : x.seq ≤ q
          · have hk1 : decide (x.key = key) = true := decide_eq_true hk
            have hk2 : (x.key.toList == key.toList) = true := by rw [hk]; simp
            have hs1 : decide (x.seq ≤ q) = true := decide_eq_true hs
            have HK := Lib.hid hk
            have HS := Lib.hid hs
            clear hk hs
            rcases HLi.out with ⟨rfl, rfl⟩ | ⟨j, y, hj, hy, rfl, rfl⟩
            · have hb0 : decide ((-1 : Int) < 0) = true := by decide
              go_quiet (fail)
              go_wp2_with fail
              go_meet
              exact ⟨true, by simp [*], Lib.hid (by unfold newStep; rw [if_pos ⟨HK.out, HS.out, by simp⟩]; rfl), (show Aside _ from (Below.refl _ _).drewN _)⟩
            · have hjl : j < l.length := by omega
              have hb0 : decide ((j : Int) < 0) = false := decide_eq_false (by omega)
              have hj0 : (0 : Int) ≤ (j : Int) := by omega
              have hj1 : (j : Int) < (l.length : Int) := by omega
              obtain ⟨ad', e', d0, d1, d2, d3⟩ := Rds.at4 (HL0.out.below HB6.out) hy rfl
              cases e'
              clear hy
              go_region_held3 (fun w' => w'.cell? ⟨Xb, 0, none⟩ = some (.string x.key) ∧ w'.cell? ⟨Xb, 1, none⟩ = some (.int .u64 x.seq) ∧ w'.cell? ⟨Xb, 2, none⟩ = some (.int .i64 x.kind) ∧ w'.cell? ⟨Xb, 3, none⟩ = some (.string x.val) ∧
                w'.cell? (ad.add (j * 4)) = some (.string y.key) ∧ w'.cell? ⟨(ad.add (j * 4)).block, (ad.add (j * 4)).off + 1, none⟩ = some (.int .u64 y.seq) ∧ w'.cell? ⟨(ad.add (j * 4)).block, (ad.add (j * 4)).off + 2, none⟩ = some (.int .i64 y.kind) ∧ w'.cell? ⟨(ad.add (j * 4)).block, (ad.add (j * 4)).off + 3, none⟩ = some (.string y.val)) (go_keep)
                (first
                  | (go_at_call 25; refine (cmpE_any x y _).mono ?_; rintro e w' ⟨rfl, hg⟩
                     have z0 := cell_below hg.below x0
                     have z1 := cell_below hg.below x1
                     have z2 := cell_below hg.below x2
                     have z3 := cell_below hg.below x3
                     have z4 := cell_below hg.below d0
                     have z5 := cell_below hg.below d1
                     have z6 := cell_below hg.below d2
                     have z7 := cell_below hg.below d3
                     have HG := Lib.hid hg.below
                     clear hg))
              go_wp2_with fail
              go_meet
              refine ⟨decide (cmpE x y < 0), rfl, Lib.hid ?_, (show Aside _ from (Below.refl _ _).drew.next HG.out)⟩
              unfold newStep
              by_cases hc : cmpE x y < 0
              · rw [if_pos ⟨HK.out, HS.out, fun b e => by cases e; exact hc⟩]
                simp [hc]
              · rw [if_neg fun h => hc (h.2.2 y rfl)]
                simp [hc]
          · have hk1 : decide (x.key = key) = true := decide_eq_true hk
            have hk2 : (x.key.toList == key.toList) = true := by rw [hk]; simp
            have hs1 : decide (x.seq ≤ q) = false := decide_eq_false hs
            have HK := Lib.hid hk
            have HS := Lib.hid hs
            clear hk hs
            go_quiet (fail)
            go_wp2_with fail
            go_meet
            exact ⟨false, by simp [*], Lib.hid (by unfold newStep; rw [if_neg (fun h => by have := HS.out; have := h.2.1; omega)]; rfl), (show Aside _ from (Below.refl _ _).drewN _)⟩
        · have hk1 : decide (x.key = key) = false := decide_eq_false hk
          have hk2 : (x.key.toList == key.toList) = false := by rw [beq_eq_false_iff_ne]; exact fun e => hk (toList_inj.1 e)
          go_quiet (fail)
          go_wp2_with fail
          go_meet
          exact ⟨false, by simp [*], Lib.hid (by unfold newStep; rw [if_neg (fun h => hk h.1)]; rfl), (show Aside _ from (Below.refl _ _).drewN _)⟩
      case rest =>
        obtain ⟨bb, rfl, HN, HB7⟩ := hcut
        rename World => w7
        have HB8 : Aside (Below W0.heap.size W0 w7) := HB6.out.trans (HB7.out.mono HB6.out.size)
        have HF' := Lib.hid (show (l.take (i + 1)).foldl (newStep key q) none = newStep key q o x from (foldl_take HX.out).trans (by rw [HFo.out]))
        clear x0 x1 x2 x3 HB6 HB7
        cases bb with
        | true =>
          go_wp2_with fail
          go_roundg (l.length - (i + 1))
          case measure => omega
          case rel => exact ⟨i + 1, some x, i, by go_num, rfl, by omega, Nat.le_refl _, Lib.hid (.inr ⟨i, x, by omega, HX.out, rfl, rfl⟩), Lib.hid (HF'.out.trans HN.out), HB8⟩
        | false =>
          go_wp2_with fail
          go_roundg (l.length - (i + 1))
          case measure => omega
          case rel =>
            refine ⟨i + 1, o, b, by go_num, rfl, by omega, Nat.le_refl _, Lib.hid ?_, Lib.hid (HF'.out.trans HN.out), HB8⟩
            rcases HLi.out with h | ⟨j, y, h1, h2⟩
            · exact .inl h
            · exact .inr ⟨j, y, by omega, h2⟩
    · obtain rfl : i = l.length := by omega
      have hltz : ¬ ((l.length : Nat) : Int) < (l.length : Int) := by omega
      have HO := Lib.hid (show newestS l key q = o from by have := HFo.out; rw [List.take_length] at this; exact this)
      have hb1 : Below w.heap.size w wr := HW.out.trans (HBr.out.mono (by have := HZ.out; omega))
      have HB1 := Lib.hid hb1
      clear hb1
      have p0 : wr.cell? ⟨w.heap.size, 0, none⟩ = some (.string { data := #[] }) := (HBr.out.cell (p := ⟨w.heap.size, 0, none⟩) (by have := HZ.out; simp; omega)).trans HR.out.1
      have p1 : wr.cell? ⟨w.heap.size, 1, none⟩ = some (.int .u64 0) := (HBr.out.cell (p := ⟨w.heap.size, 1, none⟩) (by have := HZ.out; simp; omega)).trans HR.out.2.1
      have p2 : wr.cell? ⟨w.heap.size, 2, none⟩ = some (.int .i64 0) := (HBr.out.cell (p := ⟨w.heap.size, 2, none⟩) (by have := HZ.out; simp; omega)).trans HR.out.2.2.1
      have p3 : wr.cell? ⟨w.heap.size, 3, none⟩ = some (.string { data := #[] }) := (HBr.out.cell (p := ⟨w.heap.size, 3, none⟩) (by have := HZ.out; simp; omega)).trans HR.out.2.2.2
      have q0 : wr.frozen? ⟨w.heap.size, 0, none⟩ = false := (HBr.out.frozen (p := ⟨w.heap.size, 0, none⟩) (by have := HZ.out; simp; omega)).trans HF.out.1
      have q1 : wr.frozen? ⟨w.heap.size, 1, none⟩ = false := (HBr.out.frozen (p := ⟨w.heap.size, 1, none⟩) (by have := HZ.out; simp; omega)).trans HF.out.2.1
      have q2 : wr.frozen? ⟨w.heap.size, 2, none⟩ = false := (HBr.out.frozen (p := ⟨w.heap.size, 2, none⟩) (by have := HZ.out; simp; omega)).trans HF.out.2.2.1
      have q3 : wr.frozen? ⟨w.heap.size, 3, none⟩ = false := (HBr.out.frozen (p := ⟨w.heap.size, 3, none⟩) (by have := HZ.out; simp; omega)).trans HF.out.2.2.2
      rcases HLi.out with ⟨rfl, rfl⟩ | ⟨j, y, hj, hy, rfl, rfl⟩
      · have hb0 : decide ((-1 : Int) < 0) = true := by decide
        go_wp2_with fail
        (try simp only [Exit.inBlock, Exit.then])
        have hc0 : (wr.setCell ⟨w.heap.size, 0, none⟩ (.string { data := #[] })).cell? ⟨w.heap.size, 0, none⟩ = some (.string { data := #[] }) := World.cell?_setCell_same _ _ _ (show wr.cell? ⟨w.heap.size, 0, none⟩ = some (.string { data := #[] }) from p0)
        have hc1 : ((wr.setCell ⟨w.heap.size, 0, none⟩ (.string { data := #[] })).setCell ⟨w.heap.size, 1, none⟩ (.int .u64 0)).cell? ⟨w.heap.size, 1, none⟩ = some (.int .u64 0) := World.cell?_setCell_same _ _ _ (show (wr.setCell ⟨w.heap.size, 0, none⟩ (.string { data := #[] })).cell? ⟨w.heap.size, 1, none⟩ = some (.int .u64 0) from (World.cell?_setCell_other _ _ _ _ (by simp)).trans (p1))
        have hc2 : (((wr.setCell ⟨w.heap.size, 0, none⟩ (.string { data := #[] })).setCell ⟨w.heap.size, 1, none⟩ (.int .u64 0)).setCell ⟨w.heap.size, 2, none⟩ (.int .i64 0)).cell? ⟨w.heap.size, 2, none⟩ = some (.int .i64 0) := World.cell?_setCell_same _ _ _ (show ((wr.setCell ⟨w.heap.size, 0, none⟩ (.string { data := #[] })).setCell ⟨w.heap.size, 1, none⟩ (.int .u64 0)).cell? ⟨w.heap.size, 2, none⟩ = some (.int .i64 0) from (World.cell?_setCell_other _ _ _ _ (by simp)).trans ((World.cell?_setCell_other _ _ _ _ (by simp)).trans (p2)))
        have hc3 : ((((wr.setCell ⟨w.heap.size, 0, none⟩ (.string { data := #[] })).setCell ⟨w.heap.size, 1, none⟩ (.int .u64 0)).setCell ⟨w.heap.size, 2, none⟩ (.int .i64 0)).setCell ⟨w.heap.size, 3, none⟩ (.string { data := #[] })).cell? ⟨w.heap.size, 3, none⟩ = some (.string { data := #[] }) := World.cell?_setCell_same _ _ _ (show (((wr.setCell ⟨w.heap.size, 0, none⟩ (.string { data := #[] })).setCell ⟨w.heap.size, 1, none⟩ (.int .u64 0)).setCell ⟨w.heap.size, 2, none⟩ (.int .i64 0)).cell? ⟨w.heap.size, 3, none⟩ = some (.string { data := #[] }) from (World.cell?_setCell_other _ _ _ _ (by simp)).trans ((World.cell?_setCell_other _ _ _ _ (by simp)).trans ((World.cell?_setCell_other _ _ _ _ (by simp)).trans (p3))))
        rw [HO.out]
        refine bodyPost_ret (v := .tuple #[.agg #[.string { data := #[] }, .int .u64 0, .int .i64 0, .string { data := #[] }], .bool false]) (by simp [results, Try.results26, go_sem, hc0, hc1, hc2, hc3]; try rfl) rfl ⟨rfl, ?_⟩
        exact (((HB1.out.setCell (by simp) _).setCell (by simp) _).setCell (by simp) _).setCell (by simp) _
      · have hb0 : decide ((j : Int) < 0) = false := decide_eq_false (by omega)
        have hj0 : (0 : Int) ≤ (j : Int) := by omega
        have hj1 : (j : Int) < (l.length : Int) := by omega
        obtain ⟨ad, rfl, d0, d1, d2, d3⟩ := Rds.at4 (HL0.out.below HBr.out) hy rfl
        clear hy
        go_wp2_with fail
        (try simp only [Exit.inBlock, Exit.then])
        have hc0 : (wr.setCell ⟨w.heap.size, 0, none⟩ (.string y.key)).cell? ⟨w.heap.size, 0, none⟩ = some (.string y.key) := World.cell?_setCell_same _ _ _ (show wr.cell? ⟨w.heap.size, 0, none⟩ = some (.string { data := #[] }) from p0)
        have hc1 : ((wr.setCell ⟨w.heap.size, 0, none⟩ (.string y.key)).setCell ⟨w.heap.size, 1, none⟩ (.int .u64 y.seq)).cell? ⟨w.heap.size, 1, none⟩ = some (.int .u64 y.seq) := World.cell?_setCell_same _ _ _ (show (wr.setCell ⟨w.heap.size, 0, none⟩ (.string y.key)).cell? ⟨w.heap.size, 1, none⟩ = some (.int .u64 0) from (World.cell?_setCell_other _ _ _ _ (by simp)).trans (p1))
        have hc2 : (((wr.setCell ⟨w.heap.size, 0, none⟩ (.string y.key)).setCell ⟨w.heap.size, 1, none⟩ (.int .u64 y.seq)).setCell ⟨w.heap.size, 2, none⟩ (.int .i64 y.kind)).cell? ⟨w.heap.size, 2, none⟩ = some (.int .i64 y.kind) := World.cell?_setCell_same _ _ _ (show ((wr.setCell ⟨w.heap.size, 0, none⟩ (.string y.key)).setCell ⟨w.heap.size, 1, none⟩ (.int .u64 y.seq)).cell? ⟨w.heap.size, 2, none⟩ = some (.int .i64 0) from (World.cell?_setCell_other _ _ _ _ (by simp)).trans ((World.cell?_setCell_other _ _ _ _ (by simp)).trans (p2)))
        have hc3 : ((((wr.setCell ⟨w.heap.size, 0, none⟩ (.string y.key)).setCell ⟨w.heap.size, 1, none⟩ (.int .u64 y.seq)).setCell ⟨w.heap.size, 2, none⟩ (.int .i64 y.kind)).setCell ⟨w.heap.size, 3, none⟩ (.string y.val)).cell? ⟨w.heap.size, 3, none⟩ = some (.string y.val) := World.cell?_setCell_same _ _ _ (show (((wr.setCell ⟨w.heap.size, 0, none⟩ (.string y.key)).setCell ⟨w.heap.size, 1, none⟩ (.int .u64 y.seq)).setCell ⟨w.heap.size, 2, none⟩ (.int .i64 y.kind)).cell? ⟨w.heap.size, 3, none⟩ = some (.string { data := #[] }) from (World.cell?_setCell_other _ _ _ _ (by simp)).trans ((World.cell?_setCell_other _ _ _ _ (by simp)).trans ((World.cell?_setCell_other _ _ _ _ (by simp)).trans (p3))))
        rw [HO.out]
        refine bodyPost_ret (v := .tuple #[.agg #[.string y.key, .int .u64 y.seq, .int .i64 y.kind, .string y.val], .bool true]) (by simp [results, Try.results26, go_sem, hc0, hc1, hc2, hc3]; try rfl) rfl ⟨rfl, ?_⟩
        exact (((HB1.out.setCell (by simp) _).setCell (by simp) _).setCell (by simp) _).setCell (by simp) _
end Go.Proofs.Ytjiijddlbfgafaa
