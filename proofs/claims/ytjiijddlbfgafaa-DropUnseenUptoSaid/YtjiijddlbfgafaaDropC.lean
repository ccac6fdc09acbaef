/- drop.Entries walked. -/
import Derived.Test.YtjiijddlbfgafaaDropB
import Derived.Test.YtjiijddlbfgafaaBear
import Derived.Deep.AppendLies
import Derived.Deep.RegionHeld3
import Derived.Deep.DrawnRows
import Derived.BigQuiet
import Derived.Deep.LoopGhost
import Derived.Deep.CutBlock
set_option linter.unusedVariables false
set_option linter.unusedSimpArgs false
namespace Go.Proofs.Ytjiijddlbfgafaa
open Go.RowKit Go.Lib Go.Shelf
attribute [local go_sem ↓] Go.wp_at_zero Go.wp_at_succ
/-- What stands when the loops begin. -/
structure DBase (w X : World) (B5 B8 M : Nat) (S : List Int) (Ab : Option Addr) (nb cb : Nat) : Prop where
  old : Below w.heap.size w X
  low : w.heap.size ≤ M
  lt5 : B5 < M
  below : X.cell? ⟨B5, 1, none⟩ = some (.slice Ab nb cb)
  calls : ∀ q W, Below M X W → Calls Try.prog 18 #[.int .u64 q, .pointer (some ⟨B8, 0, none⟩)] W fun e w' => e = .returned (.int .i64 (strN S q)) ∧ W = w'
theorem Rds.own1 {w : World} {base : Nat} {T : TypeId} {v : Value} {xs : List Int} (h : Own (en1 (Value.int .u64)) 1 T w base v xs) : ∃ A c, v = .slice A xs.length c ∧ Rds (en1 (Value.int .u64)) 1 w A xs := by
  obtain ⟨A, c, e, _, _, hr, _⟩ := Own.rds (en1_len _) h
  exact ⟨A, c, e, hr⟩
theorem Own.mono {α : Type} {enc : α → List Value} {k : Nat} {T : TypeId} {w : World} {b b' : Nat} {v : Value} {xs : List α} (h : Own enc k T w b v xs) (hb : b' ≤ b) : Own enc k T w b' v xs := by
  refine ⟨h.1, ?_⟩
  rcases h.2 with h | ⟨g, cap, cur, e, hg, rest⟩
  · exact .inl h
  · exact .inr ⟨g, cap, cur, e, Nat.le_trans hb hg, rest⟩
/-- Is tomb x kept? -/
def tombKeep (S : List Int) (bl : List File) (x : Tomb) : Bool := !(strN S x.seq == 0 && decide (0 < S.length) && !touchedS bl x)
/-- Is entry x at place i kept? -/
def keepAt (S : List Int) (bl : List File) (rows : Nat → List Tomb) (sl : List Ent) (i : Nat) (x : Ent) : Bool :=
  if strN S x.seq = S.length then true
  else if 0 < i ∧ ∃ y, sl[i - 1]? = some y ∧ y.key = x.key ∧ strN S y.seq = strN S x.seq then false
  else if strN S x.seq = 0 ∧ x.kind = 0 ∧ bearsS bl x.key = false then false
  else !((coverS (rows (strN S x.seq)) x.key 72057594037927935).2 && decide ((coverS (rows (strN S x.seq)) x.key 72057594037927935).1 > x.seq))
/-- What is kept of the first n. -/
def keptTo (p : Nat → Ent → Bool) (sl : List Ent) : Nat → List Ent
  | 0 => []
  | n + 1 => keptTo p sl n ++ (match sl[n]? with | some x => if p n x then [x] else [] | none => [])
theorem keptTo_yes {p : Nat → Ent → Bool} {sl : List Ent} {n : Nat} {x : Ent} (h : sl[n]? = some x) (hp : p n x = true) : keptTo p sl (n + 1) = keptTo p sl n ++ [x] := by simp [keptTo, h, hp]
theorem keptTo_len {p : Nat → Ent → Bool} {sl : List Ent} : ∀ n, (keptTo p sl n).length ≤ n
  | 0 => Nat.le_refl _
  | n + 1 => by
    have := keptTo_len (p := p) (sl := sl) n
    unfold keptTo
    rw [List.length_append]
    split
    · split <;> simp <;> omega
    · simp; omega
theorem keptTo_no {p : Nat → Ent → Bool} {sl : List Ent} {n : Nat} {x : Ent} (h : sl[n]? = some x) (hp : p n x = false) : keptTo p sl (n + 1) = keptTo p sl n := by simp [keptTo, h, hp]
/-- What drop.Entries answers. -/
def EntriesPost (l : List Ent) (t : List Tomb) (sn : List Int) (bl : List File) (w : World) (e : Ending) (w' : World) : Prop :=
  ∃ v1 v2 S, e = .returned (.tuple #[v1, v2]) ∧ Rising sn S ∧ Own Ent.enc 4 48 w' w.heap.size v1 (keptTo (keepAt S bl (rowsOf S t) (sortedE l)) (sortedE l) (sortedE l).length) ∧
    Own Tomb.enc 3 38 w' w.heap.size v2 ((t.filter validB).filter (tombKeep S bl)) ∧ Below w.heap.size w w'
theorem Mat.drew {w : World} {M last : Nat} {V : Nat → Value} {R : Nat → List Tomb} (h : Mat w M last V R) : Mat w.drew M last V R := h.later (Below.refl _ _).drew
theorem nodup_len : ∀ (a b : List Int), a.Pairwise (· < ·) → (∀ x ∈ a, x ∈ b) → a.length ≤ b.length
  | [], _, _, _ => Nat.zero_le _
  | x :: a, b, ha, hb => by
    rw [List.pairwise_cons] at ha
    have hx : x ∈ b := hb x (by simp)
    have := nodup_len a (b.erase x) ha.2 fun y hy => (List.mem_erase_of_ne (by have := ha.1 y hy; omega)).2 (hb y (by simp [hy]))
    rw [List.length_erase_of_mem hx] at this
    have := List.length_pos_of_mem hx
    simp
    omega
theorem Rising.length_le {xs S : List Int} (h : Rising xs S) : S.length ≤ xs.length := nodup_len S xs h.1 fun x hx => (h.2 x).1 hx
theorem infoTs : (Try.prog.info? 23).map (fun i => (i.zero, i.size, i.bytes)) = some (some (.slice none 0 0), 1, 24) := by kernel_rfl
/-- The load of a row of the matrix, hidden: the region stores that cell too. -/
def ldOp58 : Op := .load 23 (.tmp 58)
attribute [local go_sem] ldOp58
set_option maxHeartbeats 8000000 in
set_option maxRecDepth 100000 in
theorem entries_any (Al At As Ab : Option Addr) (cl ct cs cb : Nat) (l : List Ent) (t : List Tomb) (sn : List Int) (bl : List File) (w : World)
    (hl : Rds Ent.enc 4 w Al l) (ht : Rds Tomb.enc 3 w At t) (hs : Rds (en1 (Value.int .u64)) 1 w As sn) (hsb : ∀ ad, As = some ad → ad.block < w.heap.size) (hb : Rds File.enc 6 w Ab bl)
    (ml : l.length ≤ 1099511627776) (mt : t.length ≤ 1099511627776) (ms : sn.length ≤ 1099511627776) (mb : bl.length ≤ 1099511627776) :
    Calls Try.prog 7 #[.slice Al l.length cl, .slice At t.length ct, .agg #[.slice As sn.length cs, .slice Ab bl.length cb]] w (EntriesPost l t sn bl w) := by
  obtain ⟨iT, hiT, zT0, zT1, zT2⟩ := info_parts infoT
  obtain ⟨iE, hiE, zE0, zE1, zE2⟩ := info_parts infoE
  have hmf : ∀ (fn : Fn) (first cap : Array Value) (w : World), (Instr.makeFunc fn first cap).run Try.prog w = .ok (.func fn first cap) w := fun _ _ _ _ => rfl
  have HT := Lib.hid ht
  have HL := Lib.hid hl
  have HS := Lib.hid hs
  have HSB := Lib.hid hsb
  have HBl := Lib.hid hb
  clear hl ht hs hsb hb
  go_enter Try.func7, Try.ntmps7
  go_wp2_with fail
  go_step3
  go_wp2_with fail
  refine (valuesU_any _ _ _ _).mono ?_
  rintro e w1 ⟨rfl, hw1⟩
  have hB1 : Below w.heap.size w w1 := by rw [← hw1]; exact ((Below.refl _ _).alloc (Nat.le_refl _) _).alloc (by simp) _
  have hz1 : w1.heap.size = w.heap.size + 2 := by rw [← hw1]; simp
  have hb5 : w1.cell? ⟨w.heap.size, 1, none⟩ = some (.slice Ab bl.length cb) := by rw [← hw1]; simp
  have hbs : w1.cell? ⟨w.heap.size + 1, 0, none⟩ = some (.slice As sn.length cs) := by
    rw [← hw1]
    simp
  have hI : IntsAt w1.heap.size w1 As sn := (HS.out.below hB1).intsAt fun ad e => by have := HSB.out ad e; omega
  have HC1 := Lib.hid (sortedU_any (w.heap.size + 1) cs As sn ms w1 (by omega) hbs hI)
  have HB1 := Lib.hid hB1
  have H5 := Lib.hid hb5
  clear hw1 hB1 hbs hI hb5
  go_wp2_with fail
  refine HC1.out.mono ?_
  rintro e w2 ⟨v2, S0, rfl, hst, ho2, hB2⟩
  have HC2 := Lib.hid (compactU_any v2 S0 w1.heap.size w2 ho2 (by rw [hst.1.length_eq]; omega) hst.2)
  have HST := Lib.hid hst
  have HB2 := Lib.hid hB2
  clear HC1 hst ho2 hB2
  go_wp2_with fail
  refine HC2.out.mono ?_
  rintro e w3 ⟨v3, S, rfl, hris, ho3, hB3⟩
  have hrs : Rising sn S := ⟨hris.1, fun x => (hris.2 x).trans HST.out.1.mem_iff⟩
  have hnS : S.length ≤ sn.length := by
    exact Rising.length_le hrs
  have HRS := Lib.hid hrs
  have hB3w : Below w1.heap.size w1 w3 := HB2.out.trans hB3
  have HB3 := Lib.hid hB3w
  obtain ⟨A3, c3, rfl, hr3⟩ := Rds.own1 ho3
  have HR3 := Lib.hid hr3
  clear HC2 HST HB2 hris ho3 hB3 hrs hB3w hr3
  go_upto_region 4 with (fail)
  go_cut [11] from 25 (fun s11 wx => ∃ (M : Nat), s11 = .slice (some ⟨M, 0, none⟩) (S.length + 1) (S.length + 1) ∧
    Aside (DBase w wx w.heap.size w3.heap.size M S Ab bl.length cb) ∧ Aside (Mat wx M S.length (fun _ => .slice none 0 0) (rowsOf S [])))
  case first =>
    have hmk : ∀ w : World, (Instr.makeSlice 59 (.int .i64 ((S.length : Int) + 1)) (.int .i64 ((S.length : Int) + 1))).run Try.prog w = .ok (.slice (some ⟨w.heap.size, 0, none⟩) (S.length + 1) (S.length + 1)) (w.alloc (.cells (madeCells #[.slice none 0 0] (S.length + 1)) 23)) := fun w => by
      have := run_make_row' (P := Try.prog) 59 23 (.slice none 0 0) 24 Try.underlying59 infoTs rfl .i64 .i64 (S.length + 1) (by omega) (by omega) w
      simpa using this
    go_wp2_with fail
    go_meet
    have hb4 : Below w.heap.size w (w3.alloc (.cells #[.slice A3 S.length c3] 24)) := (HB1.out.trans (HB3.out.mono (by omega))).alloc (by have := HB3.out.size; omega) _
    have hz3 := HB3.out.size
    refine ⟨w3.heap.size + 1, ?_, ⟨?_, ?_, ?_, ?_, ?_⟩, ⟨?_, ?_⟩⟩
    · simp
    · exact hb4.alloc (by have := hb4.size; omega) _
    · omega
    · omega
    · have : (w3.alloc (.cells #[.slice A3 S.length c3] 24)).cell? ⟨w.heap.size, 1, none⟩ = some (.slice Ab bl.length cb) := Lib.cell?_alloc_some _ ((HB3.out.cell (p := ⟨w.heap.size, 1, none⟩) (by simp; omega)).trans H5.out)
      exact Lib.cell?_alloc_some _ this
    · intro q W hW
      have hbx := Boxed.new w3 24 (.slice A3 S.length c3)
      have hsz : (w3.alloc (.cells #[.slice A3 S.length c3] 24)).heap.size = w3.heap.size + 1 := by simp
      have hW' : Below (w3.alloc (.cells #[.slice A3 S.length c3] 24)).heap.size (w3.alloc (.cells #[.slice A3 S.length c3] 24)) W := ((Below.refl _ _).alloc (Nat.le_refl _) _).trans (hW.mono (by omega))
      exact stripe_any A3 S.length c3 w3.heap.size S q W rfl (by omega) (HR3.out.below (((Below.refl _ _).alloc (Nat.le_refl _) _).next hW')) HRS.out.1 ((hW'.cell (p := ⟨w3.heap.size, 0, none⟩) (by simp)).trans hbx.cell)
    · have := World.rowIs_made (w3.alloc (.cells #[.slice A3 S.length c3] 24)) (.slice none 0 0) (S.length + 1) 23
      simpa using this
    · rw [rowsOf_nil]
      exact Fam.nils _ _ _
  case rest =>
    obtain ⟨M, rfl, HD, HM⟩ := hcut
    clear HR3 HB1 H5 HB3 HSB HS
    rename World => wb
    have HLS := Lib.hid (show S.length ≤ 1099511627776 by omega)
    generalize w3.heap.size = B8 at HD ⊢
    go_upto_block 0 with (fail)
    go_cut [12, 14] from 38 to 64 (fun s12 s14 wx => ∃ V : Nat → Value, s12 = V (S.length + 1) ∧ Aside (Below M wb wx) ∧ Aside (Mat wx M S.length V (rowsOf S t)))
    case first =>
      go_wp2_with fail
      go_loopg [12, 38] t.length (fun k s12 s38 wr => ∃ (i : Nat) (V : Nat → Value), s38 = .int .i64 i ∧ s12 = V (S.length + 1) ∧ i ≤ t.length ∧ t.length - i ≤ k ∧ Aside (Below M wb wr) ∧ Aside (Mat wr M S.length V (rowsOf S (t.take i))))
      case atStart => exact ⟨0, fun _ => .slice none 0 0, rfl, rfl, Nat.zero_le _, Nat.le_refl _, (show Aside _ from Below.refl _ _), HM⟩
      case round =>
        obtain ⟨i, V, rfl, rfl, hi, hk, HBr, HMr⟩ := hrel
        clear HM
        by_cases hlt : i < t.length
        · have hltz : (i : Int) < (t.length : Int) := by omega
          obtain ⟨x, hx⟩ : ∃ x, t[i]? = some x := ⟨t[i], List.getElem?_eq_getElem hlt⟩
          have hsM := HMr.out.row.lt
          have HMr0 := Lib.hid hsM
          have hlow := HD.out.low
          obtain ⟨ad, rfl, c0, c1, c2⟩ := Rds.at3 (HT.out.below (HD.out.old.trans (HBr.out.mono hlow))) hx rfl
          have HX := Lib.hid hx
          have HHD := Lib.hid HD.out.calls
          clear hx
          go_wp2_with fail
          refine (valid_any x _).mono ?_
          rintro e wv ⟨rfl, hv⟩
          have HBv : Aside (Below M wb wv) := (HBr.out.alloc (by omega) _).trans (hv.mono (by simp; omega))
          have HMv : Aside (Mat wv M S.length V (rowsOf S (t.take i))) := (HMr.out.alloc _).later hv
          have hz : wr.heap.size < wv.heap.size := by have := hv.size; simp at this; omega
          have x0 : wv.cell? ⟨wr.heap.size, 0, none⟩ = some (.string x.b) := (hv.cell (p := ⟨wr.heap.size, 0, none⟩) (by simp)).trans (by simp)
          have x1 : wv.cell? ⟨wr.heap.size, 1, none⟩ = some (.string x.e) := (hv.cell (p := ⟨wr.heap.size, 1, none⟩) (by simp)).trans (by simp)
          have x2 : wv.cell? ⟨wr.heap.size, 2, none⟩ = some (.int .u64 x.seq) := (hv.cell (p := ⟨wr.heap.size, 2, none⟩) (by simp)).trans (by simp)
          clear hv c0 c1 c2
          generalize hXb : wr.heap.size = Xb at hz x0 x1 x2 ⊢
          have HXb := Lib.hid hXb
          have HZ := Lib.hid hz
          clear hXb hz
          cases hval : validB x with
          | false =>
            go_wp2_with fail
            go_roundg (t.length - (i + 1))
            case measure => omega
            case rel =>
              refine ⟨i + 1, V, by go_num, rfl, by omega, Nat.le_refl _, HBv, ?_⟩
              rw [List.take_add_one, HX.out]
              simp only [Option.toList_some]
              rw [rowsOf_skip hval]
              exact HMv
          | true =>
            have hrl := rowsOf_len S (t.take i) (S.length + 1)
            have HRL := Lib.hid (show (rowsOf S (t.take i) (S.length + 1)).length ≤ 1099511627776 by simp at hrl; omega)
            clear hrl
            go_wp2_with (at_builtin; refine wpList_append_lies _ rfl _ _ 23 rfl (M + 1) 38 iT (.agg #[.string ByteArray.empty, .string ByteArray.empty, .int .u64 0]) 3 40 Try.underlying23 hiT zT0 zT1 zT2 rfl (by decide) (V (S.length + 1)) (rowsOf S (t.take i) (S.length + 1)).length _ rfl ((HMv.out.fam.own (S.length + 1) (by omega)).alloc _) ⟨wv.heap.size, 0, none⟩ 1 1 (Tomb.enc x) rfl rfl (World.news_of_block (heap_alloc_new wv _)) (Tomb.enc_one x) (by omega) (by have := HRL.out; unfold maxLen; omega) (by have := HRL.out; omega) (by simp; have := HMv.out.row.lt; omega) (wv.heap.size + 1) (by simp) ?_)
            intro g cap w3 hown hgrow hat hlt3
            have hV0 := HMr.out.fam.own (S.length + 1) (by omega)
            have hfar : ∀ b, wr.heap.size ≤ b → some b ≠ (V (S.length + 1)).ownBlock := fun b hb e => by have := (hV0.block_lt e.symm).2; omega
            have ho3 : Own Tomb.enc 3 38 w3 (M + 1) (.slice (some ⟨g, 0, none⟩) ((rowsOf S (t.take i) (S.length + 1)).length + 1 : Nat) cap) (rowsOf S (t.take i) (S.length + 1) ++ [x]) := by
              unfold Own
              rw [List.length_append, List.flatMap_append]
              simpa using hown
            have HM3 : Aside (Mat w3 M S.length (setAt V (S.length + 1) (.slice (some ⟨g, 0, none⟩) ((rowsOf S (t.take i) (S.length + 1)).length + 1 : Nat) cap)) (setAt (rowsOf S (t.take i)) (S.length + 1) (rowsOf S (t.take i) (S.length + 1) ++ [x]))) :=
              (HMv.out.alloc _).valid hgrow ho3 (hat.elim (fun e => .inl e.symm) (fun e => .inr (by subst e; simp [Value.ownBlock])))
            have HB3 : Aside (Below M wb w3) := (HBv.out.alloc (by have := HMv.out.row.lt; omega) _).grown hgrow (by simp; have := HMv.out.row.lt; omega) (fun b e => by have := (hV0.block_lt e).1; omega)
            have y0 : w3.cell? ⟨Xb, 0, none⟩ = some (.string x.b) := (hgrow.cell_far ⟨Xb, 0, none⟩ (by simp; have := HZ.out; omega) (hfar _ (by rw [HXb.out]; exact Nat.le_refl _))).trans (Lib.cell?_alloc_some _ x0)
            have y1 : w3.cell? ⟨Xb, 1, none⟩ = some (.string x.e) := (hgrow.cell_far ⟨Xb, 1, none⟩ (by simp; have := HZ.out; omega) (hfar _ (by rw [HXb.out]; exact Nat.le_refl _))).trans (Lib.cell?_alloc_some _ x1)
            have y2 : w3.cell? ⟨Xb, 2, none⟩ = some (.int .u64 x.seq) := (hgrow.cell_far ⟨Xb, 2, none⟩ (by simp; have := HZ.out; omega) (hfar _ (by rw [HXb.out]; exact Nat.le_refl _))).trans (Lib.cell?_alloc_some _ x2)
            clear hown hgrow hat hfar hV0 ho3 x0 x1 x2 HMv HBv HBr hlt3 hsM hlow
            generalize hv12 : (Value.slice (some ⟨g, 0, none⟩) ((rowsOf S (t.take i) (S.length + 1)).length + 1 : Nat) cap) = v12 at HM3
            have HV12 := Lib.hid hv12
            clear hv12
            generalize hk' : strN S x.seq = k' at *
            have hkl : k' ≤ S.length := hk' ▸ strN_le S x.seq
            have HK := Lib.hid hk'
            clear hk'
            have hc11 : ∀ W, Below M wb W → Calls Try.prog 18 #[.int .u64 x.seq, .pointer (some ⟨B8, 0, none⟩)] W fun e w' => e = .returned (.int .i64 k') ∧ W = w' := fun W hW => HK.out ▸ HHD.out x.seq W hW
            have HC11 := Lib.hid hc11
            clear hc11
            generalize hV' : setAt V (S.length + 1) v12 = V' at HM3
            have hvv : V' (S.length + 1) = v12 := by rw [← hV', setAt_same]
            have hvk : V' k' = V k' := by rw [← hV', setAt_other _ _ (by omega)]
            have hfX : some Xb ≠ (V' k').ownBlock := fun e => by
              rw [hvk] at e
              have := ((HMr.out.fam.own k' (by omega)).block_lt e.symm).2
              have := HXb.out
              omega
            have hfM := HM3.out.far (i := k') (by omega)
            have HFX := Lib.hid (And.intro hfX hfM)
            clear hfX hfM hvk HMr
            have HVV := Lib.hid hvv
            clear hV' hvv
            have hrk : setAt (rowsOf S (t.take i)) (S.length + 1) (rowsOf S (t.take i) (S.length + 1) ++ [x]) k' = rowsOf S (t.take i) k' := setAt_other _ _ (by omega)
            have hrl := rowsOf_len S (t.take i) k'
            have hrl2 : (rowsOf S (t.take i) k').length ≤ 1099511627776 := by simp at hrl; omega
            have hown := HM3.out.fam.own k' (by omega)
            rw [hrk] at hown
            have HRLK := Lib.hid (And.intro hrl2 hown)
            clear hrl hrl2 hown hrk
            have hk0 : (0 : Int) ≤ (k' : Int) := by omega
            have hkz : (k' : Int) < (S.length : Int) + 1 := by omega
            have hmc := HM3.out.row.cell (i := k') (by omega)
            have hmf3 := HM3.out.row.frozen k'
            have hmc1 : (w3.alloc (.cells #[.string x.b, .string x.e, .int .u64 x.seq] 38)).cell? ⟨M, k', none⟩ = some (V' k') := Lib.cell?_alloc_some _ hmc
            have hMlt := HM3.out.row.lt
            have hXlt := World.block_lt_of_cell? _ _ y0
            simp only at hXlt
            have hne : M ≠ Xb := by have := HZ.out; have := HMr0.out; have := HXb.out; omega
            have hne2 : Xb ≠ M := Ne.symm hne
            have HMlt := Lib.hid hMlt
            have HXlt := Lib.hid hXlt
            clear hMlt hXlt
            have HB0 : Aside (Below M wb w3.drew) := HB3.out.drew
            have HB1 : Aside (∀ o, Below M wb (w3.drew.alloc o)) := fun o => HB3.out.drew.alloc (by have := HMlt.out; simp; omega) o
            go_wp2_with fail
            rw [show Op.load 23 (.tmp 58) = ldOp58 from rfl]
            go_region_held3 (fun w' => w'.cell? ⟨Xb, 0, none⟩ = some (.string x.b) ∧ w'.cell? ⟨Xb, 1, none⟩ = some (.string x.e) ∧ w'.cell? ⟨Xb, 2, none⟩ = some (.int .u64 x.seq)) (go_keep)
              (first
                | (go_at_call 18; refine (HC11.out _ (by first | exact HB0.out | exact HB1.out _)).mono ?_; rintro e w' ⟨rfl, rfl⟩)
                | (refine step_append_lies _ (by rfl) _ _ 23 (by rfl) (M + 1) 38 iT (.agg #[.string ByteArray.empty, .string ByteArray.empty, .int .u64 0]) 3 40 Try.underlying23 hiT zT0 zT1 zT2 (by rfl) (by decide) (V' k') (rowsOf S (t.take i) k').length _ (by rfl) (World.ownsRow.alloc (show w3.drew.ownsRow _ _ _ _ _ _ from HRLK.out.2) _) ⟨w3.drew.heap.size, 0, none⟩ 1 1 (Tomb.enc x) (by rfl) (by rfl) (World.news_of_block (heap_alloc_new w3.drew _)) (Tomb.enc_one x) (by omega) (by have := HRLK.out.1; unfold maxLen; omega) (by have := HRLK.out.1; omega) (by simp; have := HMlt.out; omega) (w3.heap.size + 1) (by simp) ?_
                   intro g2 cap2 w4 hown4 hgrow4 hat4 hlt4
                   have z0 : w4.cell? ⟨Xb, 0, none⟩ = some (.string x.b) := (hgrow4.cell_far ⟨Xb, 0, none⟩ (by simp; have := HXlt.out; omega) HFX.out.1).trans (Lib.cell?_alloc_some _ y0)
                   have z1 : w4.cell? ⟨Xb, 1, none⟩ = some (.string x.e) := (hgrow4.cell_far ⟨Xb, 1, none⟩ (by simp; have := HXlt.out; omega) HFX.out.1).trans (Lib.cell?_alloc_some _ y1)
                   have z2 : w4.cell? ⟨Xb, 2, none⟩ = some (.int .u64 x.seq) := (hgrow4.cell_far ⟨Xb, 2, none⟩ (by simp; have := HXlt.out; omega) HFX.out.1).trans (Lib.cell?_alloc_some _ y2)
                   have m4 : w4.cell? ⟨M, k', none⟩ = some (V' k') := (hgrow4.cell_far ⟨M, k', none⟩ (by simp; have := HMlt.out; omega) HFX.out.2).trans (Lib.cell?_alloc_some _ hmc)
                   have f4 : w4.frozen? ⟨M, k', none⟩ = false := (hgrow4.frozen_far ⟨M, k', none⟩ (by simp; have := HMlt.out; omega) HFX.out.2).trans (((HM3.out.alloc _).row).frozen k')
                   have HO4 := Lib.hid hown4
                   have HG4 := Lib.hid hgrow4
                   have HA4 := Lib.hid hat4
                   clear hown4 hgrow4 hat4 hlt4))
            all_goals
              have ho4 : Own Tomb.enc 3 38 w4 (M + 1) (.slice (some ⟨g2, 0, none⟩) ((rowsOf S (t.take i) k').length + 1 : Nat) cap2) (rowsOf S (t.take i) k' ++ [x]) := by
                unfold Own
                rw [List.length_append, List.flatMap_append]
                simpa using HO4.out
              have HM5 := (HM3.out.drew.alloc (.cells #[.string x.b, .string x.e, .int .u64 x.seq] 38)).put hkl HG4.out ho4 (HA4.out.elim (fun e => .inl e.symm) (fun e => .inr (by subst e; simp [Value.ownBlock])))
              rw [show rowsOf S (t.take i) k' ++ [x] = setAt (rowsOf S (t.take i)) (S.length + 1) (rowsOf S (t.take i) (S.length + 1) ++ [x]) k' ++ [x] from by rw [setAt_other _ _ (show k' ≠ S.length + 1 by omega)], ← HK.out, rowsOf_put hval, HK.out] at HM5
              have HB5 : Aside (Below M wb (w4.setCell ⟨M, k', none⟩ (.slice (some ⟨g2, 0, none⟩) ((rowsOf S (t.take i) k').length + 1 : Nat) cap2))) :=
                Below.setCell ((HB3.out.drew.alloc (by have := HMlt.out; simp; omega) _).grown HG4.out (by have := HMlt.out; simp; omega) (fun b e => by have := ((HM3.out.fam.own k' (by omega)).block_lt e).1; omega)) (Nat.le_refl _) _
              have HM5 : Aside _ := HM5
              go_wp2_with fail
              go_roundg (t.length - (i + 1))
              case measure => omega
              case rel =>
                refine ⟨i + 1, setAt V' k' (.slice (some ⟨g2, 0, none⟩) ((rowsOf S (t.take i) k').length + 1 : Nat) cap2), by go_num, ?_, by omega, Nat.le_refl _, HB5, ?_⟩
                rotate_left
                · rw [List.take_add_one, HX.out]
                  exact HM5
                · rw [setAt_other _ _ (show S.length + 1 ≠ k' by omega)]
                  exact HVV.out.symm
        · have hltz : ¬ (i : Int) < (t.length : Int) := by omega
          obtain rfl : i = t.length := by omega
          go_wp2_with fail
          go_meet
          rw [List.take_length] at HMr
          exact ⟨V, rfl, HBr, HMr⟩
    case rest =>
      clear HM
      obtain ⟨V, rfl, HBr, HMr⟩ := hcut
      rename World => wr
      have hsM := HMr.out.row.lt
      have hlow := HD.out.low
      have HCS := Lib.hid (sorted_any Al cl l wr (HL.out.below (HD.out.old.trans (HBr.out.mono hlow))) ml)
      go_wp2_with fail
      refine HCS.out.mono ?_
      rintro e w5 ⟨v5, rfl, ho5, hb5⟩
      obtain ⟨A5, c5, rfl, hc5, hm5, hr5, hz5⟩ := ho5.rds Ent.enc_len
      clear hz5
      have HM5 : Aside (Mat w5 M S.length V (rowsOf S t)) := HMr.out.later hb5
      have HB5 : Aside (Below M wb w5) := HBr.out.trans (hb5.mono (by omega))
      have HR5 : Aside (Rds Ent.enc 4 w5 A5 (sortedE l)) := hr5
      have hl5 : (sortedE l).length = l.length := by simp [sortedE]
      clear HCS ho5 hb5 HMr HBr hr5 hsM hlow hc5 hm5
      go_wp2_with fail
      go_step3
      have hls : (sortedE l).length ≤ 1099511627776 := by omega
      rw [← hl5]
      clear hl5
      generalize hsl : sortedE l = sl at HR5 hls ⊢
      have HSL := Lib.hid hsl
      clear hsl
      go_upto_block 2 with (fail)
      go_cut [15, 17, 18, 19, 20, 21] from 69 to 145 (fun s15 s17 s18 s19 s20 s21 wx => Aside (Below w5.heap.size w5 wx) ∧ Aside (Own Ent.enc 4 48 wx w5.heap.size s15 (keptTo (keepAt S bl (rowsOf S t) sl) sl sl.length)))
      case first =>
        go_wp2_with fail
        go_loopg [15, 69] sl.length (fun k s15 s69 wr => ∃ i : Nat, s69 = .int .i64 i ∧ i ≤ sl.length ∧ sl.length - i ≤ k ∧ Aside (Below w5.heap.size w5 wr) ∧ Aside (Own Ent.enc 4 48 wr w5.heap.size s15 (keptTo (keepAt S bl (rowsOf S t) sl) sl i)))
        case atStart => exact ⟨0, rfl, Nat.zero_le _, Nat.le_refl _, (show Aside _ from Below.refl _ _), (show Aside _ from Own.nil _ _ _)⟩
        case round =>
          obtain ⟨i, rfl, hi, hk, HBr, HOr⟩ := hrel
          by_cases hlt : i < sl.length
          · have hltz : (i : Int) < (sl.length : Int) := by omega
            obtain ⟨x, hx⟩ : ∃ x, sl[i]? = some x := ⟨sl[i], List.getElem?_eq_getElem hlt⟩
            obtain ⟨ad, rfl, c0, c1, c2, c3⟩ := Rds.at4 (HR5.out.below HBr.out) hx rfl
            have hM5 := HM5.out.row.lt
            have HHD : Aside (∀ q W, Below w5.heap.size w5 W → Calls Try.prog 18 #[.int .u64 q, .pointer (some ⟨B8, 0, none⟩)] W fun e w' => e = .returned (.int .i64 (strN S q)) ∧ W = w') :=
              fun q W hW => HD.out.calls q W (HB5.out.trans (hW.mono (by omega)))
            have HX := Lib.hid hx
            clear hx hM5
            go_wp2_with fail
            refine (HHD.out x.seq _ (HBr.out.alloc HBr.out.size _)).mono ?_
            rintro e w6 ⟨rfl, hw6⟩
            have HB6 : Aside (Below w5.heap.size w5 w6) := by rw [← hw6]; exact HBr.out.alloc HBr.out.size _
            have HO6 : Aside (Own Ent.enc 4 48 w6 w5.heap.size u15 (keptTo (keepAt S bl (rowsOf S t) sl) sl i)) := by rw [← hw6]; exact HOr.out.alloc _
            have x0 : w6.cell? ⟨wr.heap.size, 0, none⟩ = some (.string x.key) := by rw [← hw6]; simp
            have x1 : w6.cell? ⟨wr.heap.size, 1, none⟩ = some (.int .u64 x.seq) := by rw [← hw6]; simp
            have x2 : w6.cell? ⟨wr.heap.size, 2, none⟩ = some (.int .i64 x.kind) := by rw [← hw6]; simp
            have x3 : w6.cell? ⟨wr.heap.size, 3, none⟩ = some (.string x.val) := by rw [← hw6]; simp
            clear hw6 c0 c1 c2 c3 HOr HBr
            generalize wr.heap.size = Xb at x0 x1 x2 x3 ⊢
            have HKL := Lib.hid (show (keptTo (keepAt S bl (rowsOf S t) sl) sl i).length ≤ 1099511627776 from Nat.le_trans (keptTo_len i) (by omega))
            by_cases hn : strN S x.seq = S.length
            · have hnz : ((strN S x.seq : Int) == (S.length : Int)) = true := by rw [beq_iff_eq]; omega
              have HP := Lib.hid (show keepAt S bl (rowsOf S t) sl i x = true from by unfold keepAt; rw [if_pos hn])
              go_wp2_with (at_builtin; refine wpList_append_own _ rfl _ _ 22 rfl w5.heap.size 48 iE (.agg #[.string ByteArray.empty, .int .u64 0, .int .i64 0, .string ByteArray.empty]) 4 48 Try.underlying22 hiE zE0 zE1 zE2 rfl (by decide) _ _ _ rfl (HO6.out.alloc _) ⟨w6.heap.size, 0, none⟩ 1 1 (Ent.enc x) rfl rfl (World.news_of_block (heap_alloc_new w6 _)) (Ent.enc_one x) (by have := HKL.out; unfold maxLen; omega) (by have := HKL.out; omega) (by simp; have := HB6.out.size; omega) ?_)
              intro v8 w8 hown8 hgrow8 hnil8
              have HB8 : Aside (Below w5.heap.size w5 w8) := (HB6.out.alloc HB6.out.size _).grown hgrow8 (by simp; have := HB6.out.size; omega) (fun b e => (HO6.out.block_lt e).1)
              have HO8 : Aside (Own Ent.enc 4 48 w8 w5.heap.size v8 (keptTo (keepAt S bl (rowsOf S t) sl) sl (i + 1))) := by
                show Own _ _ _ _ _ _ _
                rw [keptTo_yes HX.out HP.out]
                unfold Own
                rw [List.length_append, List.flatMap_append]
                simpa using hown8
              clear hown8 hgrow8 hnil8
              go_wp2_with fail
              go_roundg (sl.length - (i + 1))
              case measure => omega
              case rel => exact ⟨i + 1, by go_num, by omega, Nat.le_refl _, HB8, HO8⟩
            · have hnz : ((strN S x.seq : Int) == (S.length : Int)) = false := by rw [beq_eq_false_iff_ne]; omega
              go_upto_region 22 with (fail)
              go_cut [99] from 100 to 124 (fun s99 wx => ∃ (bb : Bool) (nq : Nat), s99 = .bool bb ∧ Hid (bb = true ↔ (0 < i ∧ ∃ y, sl[i - 1]? = some y ∧ y.key = x.key ∧ strN S y.seq = strN S x.seq)) ∧ wx = w6.drewN nq)
              case first =>
                rcases Nat.eq_zero_or_pos i with hi0 | hi0
                · subst hi0
                  have hi1 : decide (((0 : Nat) : Int) > 0) = false := by decide
                  have hi2 : decide ((0 : Int) > 0) = false := by decide
                  go_quiet (fail)
                  go_wp2_with fail
                  go_meet
                  exact ⟨false, nq, rfl, Lib.hid (by simp), rfl⟩
                · obtain ⟨r, rfl⟩ : ∃ r, i = r + 1 := ⟨i - 1, by omega⟩
                  have hi1 : (0 : Int) < (r : Int) + 1 := by omega
                  have hi2 : decide ((r : Int) + 1 > 0) = true := decide_eq_true hi1
                  have hi3 : decide (((r + 1 : Nat) : Int) > 0) = true := decide_eq_true (by omega)
                  have pa : (0 : Int) ≤ (r : Int) := by omega
                  have ba : (r : Int) < (sl.length : Int) := by omega
                  have ra : IntKind.i64.wrap (r : Int) = (r : Int) := by rw [IntKind.wrap_i64]; omega
                  have rb : IntKind.i64.wrap ((r : Int) + 1 - 1) = (r : Int) := by rw [IntKind.wrap_i64]; omega
                  obtain ⟨y, hy⟩ : ∃ y, sl[r]? = some y := ⟨sl[r], List.getElem?_eq_getElem (by omega)⟩
                  obtain ⟨ad', e', d0, d1, d2, d3⟩ := Rds.at4 (HR5.out.below HB6.out) hy rfl
                  cases e'
                  clear d2 d3
                  have HY := Lib.hid hy
                  clear hy
                  have hcy : ∀ nq, Calls Try.prog 18 #[.int .u64 y.seq, .pointer (some ⟨B8, 0, none⟩)] (w6.drewN nq) fun e w' => e = .returned (.int .i64 (strN S y.seq)) ∧ w6.drewN nq = w' := fun nq => HHD.out y.seq _ (HB6.out.drewN nq)
                  have HCY := Lib.hid hcy
                  clear hcy
                  by_cases hk : y.key = x.key
                  · rw [hk] at d0
                    by_cases hst : strN S y.seq = strN S x.seq
                    · rw [hst] at HCY
                      go_quiet (first | (go_at_call 18; exact Calls.quiet_of_same ((HCY.out _).mono fun e w' h => ⟨h.1, h.2.symm⟩)))
                      go_wp2_with fail
                      go_meet
                      exact ⟨true, nq, by simp, Lib.hid (by simp only [true_iff]; exact ⟨hi0, y, by simpa using HY.out, hk, hst⟩), rfl⟩
                    · have hsz : ((strN S y.seq : Int) == (strN S x.seq : Int)) = false := by rw [beq_eq_false_iff_ne]; omega
                      go_quiet (first | (go_at_call 18; exact Calls.quiet_of_same ((HCY.out _).mono fun e w' h => ⟨h.1, h.2.symm⟩)))
                      go_wp2_with fail
                      go_meet
                      exact ⟨false, nq, by simp, Lib.hid (by simp only [Bool.false_eq_true, false_iff]; rintro ⟨_, y', h1, _, h2⟩; rw [Nat.add_sub_cancel, HY.out] at h1; cases h1; exact hst h2), rfl⟩
                  · have hkz2 : decide (y.key = x.key) = false := decide_eq_false hk
                    have hkz3 : (y.key.toList == x.key.toList) = false := by rw [beq_eq_false_iff_ne]; exact fun e => hk (toList_inj.1 e)
                    go_quiet (fail)
                    go_wp2_with fail
                    go_meet
                    exact ⟨false, nq, by simp, Lib.hid (by simp only [Bool.false_eq_true, false_iff]; rintro ⟨_, y', h1, h2, _⟩; rw [Nat.add_sub_cancel, HY.out] at h1; cases h1; exact hk h2), rfl⟩
              case rest =>
                obtain ⟨bb, nq, rfl, HBB, rfl⟩ := hcut
                have HB7 : Aside (Below w5.heap.size w5 (w6.drewN nq)) := HB6.out.drewN nq
                have HO7 : Aside (Own Ent.enc 4 48 (w6.drewN nq) w5.heap.size u15 (keptTo (keepAt S bl (rowsOf S t) sl) sl i)) := HO6.out.below ((Below.refl _ _).drewN nq)
                have x0' : (w6.drewN nq).cell? ⟨Xb, 0, none⟩ = some (.string x.key) := x0
                have x1' : (w6.drewN nq).cell? ⟨Xb, 1, none⟩ = some (.int .u64 x.seq) := x1
                have x2' : (w6.drewN nq).cell? ⟨Xb, 2, none⟩ = some (.int .i64 x.kind) := x2
                have x3' : (w6.drewN nq).cell? ⟨Xb, 3, none⟩ = some (.string x.val) := x3
                clear HB6 HO6 x0 x1 x2 x3
                generalize w6.drewN nq = w7 at HB7 HO7 x0' x1' x2' x3' ⊢
                clear nq
                cases bb with
                | true =>
                  have HP := Lib.hid (show keepAt S bl (rowsOf S t) sl i x = false from by unfold keepAt; rw [if_neg hn, if_pos (HBB.out.1 rfl)])
                  go_wp2_with fail
                  go_roundg (sl.length - (i + 1))
                  case measure => omega
                  case rel => exact ⟨i + 1, by go_num, by omega, Nat.le_refl _, HB7, by rw [keptTo_no HX.out HP.out]; exact HO7⟩
                | false =>
                  have hp2 : ¬ (0 < i ∧ ∃ y, sl[i - 1]? = some y ∧ y.key = x.key ∧ strN S y.seq = strN S x.seq) := fun h => by have := HBB.out.2 h; cases this
                  have HP2 := Lib.hid hp2
                  clear hp2 HBB
                  have hb5 := ((HB5.out.trans (HB7.out.mono (Nat.le_of_lt HM5.out.row.lt))).cell (p := ⟨w.heap.size, 1, none⟩) (by have := HD.out.lt5; exact this)).trans HD.out.below
                  have hbc := bears_any Ab cb bl x.key w7 (HBl.out.below (HD.out.old.trans ((HB5.out.trans (HB7.out.mono (Nat.le_of_lt HM5.out.row.lt))).mono HD.out.low))) mb
                  have HBC := Lib.hid hbc
                  clear hbc
                  go_upto_region 23 with (fail)
                  go_cut [19, 125] from 126 to 140 (fun s19 s125 wx => ∃ (b2 : Bool), s125 = .bool b2 ∧ s19 = .int .i64 (strN S x.seq) ∧ Hid (b2 = true ↔ (strN S x.seq = 0 ∧ x.kind = 0 ∧ bearsS bl x.key = false)) ∧ Aside (Below w7.heap.size w7 wx))
                  case first =>
                    by_cases h1 : strN S x.seq = 0
                    · have h1z : ((strN S x.seq : Int) == 0) = true := by rw [beq_iff_eq]; omega
                      have H1 := Lib.hid h1
                      clear h1
                      by_cases h2 : x.kind = 0
                      · have h2z : (x.kind == 0) = true := by rw [beq_iff_eq]; exact h2
                        have H2 := Lib.hid h2
                        clear h2
                        go_wp2_with fail
                        refine HBC.out.mono ?_
                        rintro e w8 ⟨rfl, hb8⟩
                        have HB8 := Lib.hid hb8
                        clear hb8
                        go_wp2_with fail
                        go_meet
                        exact ⟨_, rfl, rfl, Lib.hid (by simp [H1.out, H2.out]), HB8.out⟩
                      · have h2z : (x.kind == 0) = false := by rw [beq_eq_false_iff_ne]; exact h2
                        go_wp2_with fail
                        go_meet
                        exact ⟨_, rfl, rfl, Lib.hid (by simp [h2]), (show Aside _ from Below.refl _ _)⟩
                    · have h1z : ((strN S x.seq : Int) == 0) = false := by rw [beq_eq_false_iff_ne]; omega
                      go_wp2_with fail
                      go_meet
                      exact ⟨_, rfl, rfl, Lib.hid (by simp [h1]), (show Aside _ from Below.refl _ _)⟩
                  case rest =>
                    obtain ⟨b2, rfl, rfl, HB2, HB8⟩ := hcut
                    rename World => w8
                    have HB9 : Aside (Below w5.heap.size w5 w8) := HB7.out.trans (HB8.out.mono HB7.out.size)
                    have HO9 : Aside (Own Ent.enc 4 48 w8 w5.heap.size u15 (keptTo (keepAt S bl (rowsOf S t) sl) sl i)) := HO7.out.below HB8.out
                    have x0 := cell_below HB8.out x0'
                    have x1 := cell_below HB8.out x1'
                    have x2 := cell_below HB8.out x2'
                    have x3 := cell_below HB8.out x3'
                    clear HBC hb5 x0' x1' x2' x3' HB7 HO7 HB8
                    cases b2 with
                    | true =>
                      have HP := Lib.hid (show keepAt S bl (rowsOf S t) sl i x = false from by unfold keepAt; rw [if_neg hn, if_neg HP2.out, if_pos (HB2.out.1 rfl)])
                      go_wp2_with fail
                      go_roundg (sl.length - (i + 1))
                      case measure => omega
                      case rel => exact ⟨i + 1, by go_num, by omega, Nat.le_refl _, HB9, by rw [keptTo_no HX.out HP.out]; exact HO9⟩
                    | false =>
                      have hp3 : ¬ (strN S x.seq = 0 ∧ x.kind = 0 ∧ bearsS bl x.key = false) := fun h => by have := HB2.out.2 h; cases this
                      have HP3 := Lib.hid hp3
                      clear hp3 HB2
                      have hnl := strN_le S x.seq
                      have hM8 := HM5.out.later HB9.out
                      obtain ⟨An, cn, hVn, hcn, hmn, hrn, hzn⟩ := (hM8.fam.own (strN S x.seq) (by omega)).rds Tomb.enc_len
                      have m8 := hM8.row.cell (i := strN S x.seq) (by omega)
                      rw [hVn] at m8
                      have hrl := rowsOf_len S t (strN S x.seq)
                      have HCV := Lib.hid (cover_any An cn (rowsOf S t (strN S x.seq)) x.key 72057594037927935 w8.drew (hrn.below (Below.refl _ _).drew) hcn (by omega))
                      have hk0 : (0 : Int) ≤ (strN S x.seq : Int) := by omega
                      have hkz : (strN S x.seq : Int) < (S.length : Int) + 1 := by omega
                      clear hM8 hVn hcn hmn hrn hzn hrl hnl
                      go_wp2_with fail
                      go_region_held3 (fun w' => w'.cell? ⟨M, strN S x.seq, none⟩ = some (.slice An (rowsOf S t (strN S x.seq)).length cn) ∧ w'.cell? ⟨Xb, 0, none⟩ = some (.string x.key)) (go_keep)
                        (first
                          | (go_at_call 21; refine HCV.out.mono ?_; rintro e w9 ⟨rfl, hb9⟩
                             have hb9 : Below w8.heap.size w8 w9 := (Below.refl _ _).drew.trans hb9
                             have z0 := cell_below hb9 x0
                             have z1 := cell_below hb9 x1
                             have z2 := cell_below hb9 x2
                             have z3 := cell_below hb9 x3
                             have zm := cell_below hb9 m8
                             have HB10 := Lib.hid hb9
                             clear hb9))
                      have hp9 : keepAt S bl (rowsOf S t) sl i x = !((coverS (rowsOf S t (strN S x.seq)) x.key 72057594037927935).2 && decide ((coverS (rowsOf S t (strN S x.seq)) x.key 72057594037927935).1 > x.seq)) := by
                        unfold keepAt
                        rw [if_neg hn, if_neg HP2.out, if_neg HP3.out]
                      have HB11 : Aside (Below w5.heap.size w5 w9) := HB9.out.trans (HB10.out.mono HB9.out.size)
                      have HO11 : Aside (Own Ent.enc 4 48 w9 w5.heap.size u15 (keptTo (keepAt S bl (rowsOf S t) sl) sl i)) := HO9.out.below HB10.out
                      clear HB9 HO9
                      have HB9 : Aside (Below w5.heap.size w5 w9) := HB11
                      have HO9 : Aside (Own Ent.enc 4 48 w9 w5.heap.size u15 (keptTo (keepAt S bl (rowsOf S t) sl) sl i)) := HO11
                      clear HB11 HO11 HB10 x0 x1 x2 x3 m8 zm hk0 hkz
                      generalize coverS (rowsOf S t (strN S x.seq)) x.key 72057594037927935 = cv at hp9 ⊢
                      obtain ⟨cq, cb'⟩ := cv
                      have HP9 := Lib.hid hp9
                      clear hp9
                      cases cb' with
                      | false =>
                        have HP := Lib.hid (show keepAt S bl (rowsOf S t) sl i x = true from by rw [HP9.out]; rfl)
                        clear HP9
                        go_wp2_with (at_builtin; refine wpList_append_own _ rfl _ _ 22 rfl w5.heap.size 48 iE (.agg #[.string ByteArray.empty, .int .u64 0, .int .i64 0, .string ByteArray.empty]) 4 48 Try.underlying22 hiE zE0 zE1 zE2 rfl (by decide) _ _ _ rfl (HO9.out.alloc _) ⟨w9.heap.size, 0, none⟩ 1 1 (Ent.enc x) rfl rfl (World.news_of_block (heap_alloc_new w9 _)) (Ent.enc_one x) (by have := HKL.out; unfold maxLen; omega) (by have := HKL.out; omega) (by simp; have := HB9.out.size; omega) ?_)
                        intro v8 w8 hown8 hgrow8 hnil8
                        have HB8 : Aside (Below w5.heap.size w5 w8) := (HB9.out.alloc HB9.out.size _).grown hgrow8 (by simp; have := HB9.out.size; omega) (fun b e => (HO9.out.block_lt e).1)
                        have HO8 : Aside (Own Ent.enc 4 48 w8 w5.heap.size v8 (keptTo (keepAt S bl (rowsOf S t) sl) sl (i + 1))) := by
                          show Own _ _ _ _ _ _ _
                          rw [keptTo_yes HX.out HP.out]
                          unfold Own
                          rw [List.length_append, List.flatMap_append]
                          simpa using hown8
                        clear hown8 hgrow8 hnil8
                        go_wp2_with fail
                        go_roundg (sl.length - (i + 1))
                        case measure => omega
                        case rel => exact ⟨i + 1, by go_num, by omega, Nat.le_refl _, HB8, HO8⟩
                      | true =>
                        cases hgt : decide (cq > x.seq) with
                        | true =>
                          have HP := Lib.hid (show keepAt S bl (rowsOf S t) sl i x = false from by rw [HP9.out]; simpa using hgt)
                          clear HP9
                          go_wp2_with fail
                          go_roundg (sl.length - (i + 1))
                          case measure => omega
                          case rel => exact ⟨i + 1, by go_num, by omega, Nat.le_refl _, HB9, by rw [keptTo_no HX.out HP.out]; exact HO9⟩
                        | false =>
                          have HP := Lib.hid (show keepAt S bl (rowsOf S t) sl i x = true from by rw [HP9.out]; simpa using hgt)
                          clear HP9
                          go_wp2_with (at_builtin; refine wpList_append_own _ rfl _ _ 22 rfl w5.heap.size 48 iE (.agg #[.string ByteArray.empty, .int .u64 0, .int .i64 0, .string ByteArray.empty]) 4 48 Try.underlying22 hiE zE0 zE1 zE2 rfl (by decide) _ _ _ rfl (HO9.out.alloc _) ⟨w9.heap.size, 0, none⟩ 1 1 (Ent.enc x) rfl rfl (World.news_of_block (heap_alloc_new w9 _)) (Ent.enc_one x) (by have := HKL.out; unfold maxLen; omega) (by have := HKL.out; omega) (by simp; have := HB9.out.size; omega) ?_)
                          intro v8 w8 hown8 hgrow8 hnil8
                          have HB8 : Aside (Below w5.heap.size w5 w8) := (HB9.out.alloc HB9.out.size _).grown hgrow8 (by simp; have := HB9.out.size; omega) (fun b e => (HO9.out.block_lt e).1)
                          have HO8 : Aside (Own Ent.enc 4 48 w8 w5.heap.size v8 (keptTo (keepAt S bl (rowsOf S t) sl) sl (i + 1))) := by
                            show Own _ _ _ _ _ _ _
                            rw [keptTo_yes HX.out HP.out]
                            unfold Own
                            rw [List.length_append, List.flatMap_append]
                            simpa using hown8
                          clear hown8 hgrow8 hnil8
                          go_wp2_with fail
                          go_roundg (sl.length - (i + 1))
                          case measure => omega
                          case rel => exact ⟨i + 1, by go_num, by omega, Nat.le_refl _, HB8, HO8⟩
          · have hltz : ¬ (i : Int) < (sl.length : Int) := by omega
            obtain rfl : i = sl.length := by omega
            go_wp2_with fail
            go_meet
            exact ⟨HBr, HOr⟩
      case rest =>
        obtain ⟨HB6, HO6⟩ := hcut
        rename World => w6
        have hM6 := HM5.out.later HB6.out
        obtain ⟨Av, cv, hV, hcv, hmv, hrv, hzv⟩ := (hM6.fam.own (S.length + 1) (by omega)).rds Tomb.enc_len
        have hvl : rowsOf S t (S.length + 1) = t.filter validB := by simp [rowsOf]
        rw [hvl] at hV hrv
        have hvn : (t.filter validB).length ≤ 1099511627776 := Nat.le_trans (List.length_filter_le _ _) mt
        rw [hV]
        generalize hvs : t.filter validB = vl at hV hrv hvn ⊢
        have HVS := Lib.hid hvs
        have HRV : Aside (Rds Tomb.enc 3 w6 Av vl) := hrv
        have hM5 := HM5.out.row.lt
        have HB56 : Aside (Below M wb w6) := HB5.out.trans (HB6.out.mono (by omega))
        clear hvs hV hcv hmv hzv hM6 hvl hrv hM5
        go_upto_block 5 with (fail)
        go_cut [22, 24] from 148 to 172 (fun s22 s24 wx => Aside (Below w6.heap.size w6 wx) ∧ Aside (Own Tomb.enc 3 38 wx w6.heap.size s22 (vl.filter (tombKeep S bl))))
        case first =>
          go_wp2_with fail
          go_loopg [22, 148] vl.length (fun k s22 s148 wr => ∃ i : Nat, s148 = .int .i64 i ∧ i ≤ vl.length ∧ vl.length - i ≤ k ∧ Aside (Below w6.heap.size w6 wr) ∧ Aside (Own Tomb.enc 3 38 wr w6.heap.size s22 ((vl.take i).filter (tombKeep S bl))))
          case atStart => exact ⟨0, rfl, Nat.zero_le _, Nat.le_refl _, (show Aside _ from Below.refl _ _), (show Aside _ from Own.nil _ _ _)⟩
          case round =>
            obtain ⟨i, rfl, hi, hk, HBr, HOr⟩ := hrel
            by_cases hlt : i < vl.length
            · have hltz : (i : Int) < (vl.length : Int) := by omega
              obtain ⟨x, hx⟩ : ∃ x, vl[i]? = some x := ⟨vl[i], List.getElem?_eq_getElem hlt⟩
              obtain ⟨ad, rfl, c0, c1, c2⟩ := Rds.at3 (HRV.out.below HBr.out) hx rfl
              have HX := Lib.hid hx
              clear hx
              have hKL := Nat.le_trans (List.length_filter_le (tombKeep S bl) (vl.take i)) (show (vl.take i).length ≤ 1099511627776 by simp; omega)
              have HKL := Lib.hid hKL
              clear hKL
              have hMlt := HM5.out.row.lt
              have hsz6 := HB6.out.size
              have hb8 : Below w6.heap.size w6 (wr.alloc (.cells #[.string x.b, .string x.e, .int .u64 x.seq] 38)) := HBr.out.alloc HBr.out.size _
              have ho8 : Own Tomb.enc 3 38 (wr.alloc (.cells #[.string x.b, .string x.e, .int .u64 x.seq] 38)) w6.heap.size u22 ((vl.take i).filter (tombKeep S bl)) := HOr.out.alloc _
              have x0 : (wr.alloc (.cells #[.string x.b, .string x.e, .int .u64 x.seq] 38)).cell? ⟨wr.heap.size, 0, none⟩ = some (.string x.b) := by simp
              have x1 : (wr.alloc (.cells #[.string x.b, .string x.e, .int .u64 x.seq] 38)).cell? ⟨wr.heap.size, 1, none⟩ = some (.string x.e) := by simp
              have x2 : (wr.alloc (.cells #[.string x.b, .string x.e, .int .u64 x.seq] 38)).cell? ⟨wr.heap.size, 2, none⟩ = some (.int .u64 x.seq) := by simp
              go_upto_region 30 with (fail)
              generalize wr.alloc (.cells #[.string x.b, .string x.e, .int .u64 x.seq] 38) = w8 at hb8 ho8 x0 x1 x2 ⊢
              generalize wr.heap.size = Xb at x0 x1 x2 ⊢
              have HB8 : Aside (Below w6.heap.size w6 w8) := hb8
              have HO8 : Aside (Own Tomb.enc 3 38 w8 w6.heap.size u22 ((vl.take i).filter (tombKeep S bl))) := ho8
              have hBM : Below M wb w8 := HB56.out.trans (HB8.out.mono (by omega))
              have hb5 := (hBM.cell (p := ⟨w.heap.size, 1, none⟩) HD.out.lt5).trans HD.out.below
              have HCS := Lib.hid (HD.out.calls x.seq w8 hBM)
              have HTC := Lib.hid (touched_any Ab cb bl x w8 (HBl.out.below (HD.out.old.trans (hBM.mono HD.out.low))) mb)
              clear c0 c1 c2 HBr HOr hb8 ho8 hBM hMlt hsz6
              go_cut [167] from 152 to 166 (fun s167 wx => ∃ b3 : Bool, s167 = .bool b3 ∧ Hid (tombKeep S bl x = !b3) ∧ Aside (Below w8.heap.size w8 wx))
              case first =>
                go_wp2_with fail
                refine HCS.out.mono ?_
                rintro e w9 ⟨rfl, rfl⟩
                by_cases h1 : strN S x.seq = 0
                · have h1z : ((strN S x.seq : Int) == 0) = true := by rw [beq_iff_eq]; omega
                  have H1 := Lib.hid h1
                  clear h1
                  by_cases h2 : 0 < S.length
                  · have h2z : decide ((S.length : Int) > 0) = true := decide_eq_true (by omega)
                    have h2y : (0 : Int) < (S.length : Int) := by omega
                    go_wp2_with fail
                    refine HTC.out.mono ?_
                    rintro e w10 ⟨rfl, hb10⟩
                    have HB10 := Lib.hid hb10
                    clear hb10
                    go_wp2_with fail
                    go_meet
                    exact ⟨_, rfl, Lib.hid (by unfold tombKeep; rw [H1.out]; simp [h2]), HB10.out⟩
                  · have h2z : decide ((S.length : Int) > 0) = false := decide_eq_false (by omega)
                    have h2y : ¬ (0 : Int) < (S.length : Int) := by omega
                    go_wp2_with fail
                    go_meet
                    exact ⟨_, rfl, Lib.hid (by unfold tombKeep; simp [h2]), (show Aside _ from Below.refl _ _)⟩
                · have h1z : ((strN S x.seq : Int) == 0) = false := by rw [beq_eq_false_iff_ne]; omega
                  go_wp2_with fail
                  go_meet
                  exact ⟨_, rfl, Lib.hid (by unfold tombKeep; simp [h1]), (show Aside _ from Below.refl _ _)⟩
              case rest =>
                obtain ⟨b3, rfl, HB3, HB9⟩ := hcut
                rename World => w9
                have y0 := cell_below HB9.out x0
                have y1 := cell_below HB9.out x1
                have y2 := cell_below HB9.out x2
                have HB10 : Aside (Below w6.heap.size w6 w9) := HB8.out.trans (HB9.out.mono HB8.out.size)
                have HO10 : Aside (Own Tomb.enc 3 38 w9 w6.heap.size u22 ((vl.take i).filter (tombKeep S bl))) := HO8.out.below HB9.out
                clear HTC HCS HB8 HO8 HB9 x0 x1 x2 hb5
                cases b3 with
                | true =>
                  go_wp2_with fail
                  go_roundg (vl.length - (i + 1))
                  case measure => omega
                  case rel =>
                    refine ⟨i + 1, by go_num, by omega, Nat.le_refl _, HB10, ?_⟩
                    rw [List.take_add_one, HX.out, List.filter_append]
                    simp only [Option.toList_some, List.filter_cons, HB3.out, Bool.not_true, Bool.false_eq_true, if_false, List.filter_nil, List.append_nil]
                    exact HO10
                | false =>
                  go_wp2_with (at_builtin; refine wpList_append_own _ rfl _ _ 23 rfl w6.heap.size 38 iT (.agg #[.string ByteArray.empty, .string ByteArray.empty, .int .u64 0]) 3 40 Try.underlying23 hiT zT0 zT1 zT2 rfl (by decide) _ _ _ rfl (HO10.out.alloc _) ⟨w9.heap.size, 0, none⟩ 1 1 (Tomb.enc x) rfl rfl (World.news_of_block (heap_alloc_new w9 _)) (Tomb.enc_one x) (by have := HKL.out; unfold maxLen; omega) (by have := HKL.out; omega) (by simp; have := HB10.out.size; omega) ?_)
                  intro v11 w11 hown11 hgrow11 hnil11
                  have HB11 : Aside (Below w6.heap.size w6 w11) := (HB10.out.alloc HB10.out.size _).grown hgrow11 (by simp; have := HB10.out.size; omega) (fun b e => (HO10.out.block_lt e).1)
                  have HO11 : Aside (Own Tomb.enc 3 38 w11 w6.heap.size v11 ((vl.take i).filter (tombKeep S bl) ++ [x])) := by
                    show Own _ _ _ _ _ _ _
                    unfold Own
                    rw [List.length_append, List.flatMap_append]
                    simpa using hown11
                  clear hown11 hgrow11 hnil11
                  go_wp2_with fail
                  go_roundg (vl.length - (i + 1))
                  case measure => omega
                  case rel =>
                    refine ⟨i + 1, by go_num, by omega, Nat.le_refl _, HB11, ?_⟩
                    rw [List.take_add_one, HX.out, List.filter_append]
                    simp only [Option.toList_some, List.filter_cons, HB3.out, Bool.not_false, if_true, List.filter_nil]
                    exact HO11
            · have hltz : ¬ (i : Int) < (vl.length : Int) := by omega
              obtain rfl : i = vl.length := by omega
              go_wp2_with fail
              go_meet
              rw [List.take_length] at HOr
              exact ⟨HBr, HOr⟩
        case rest =>
          obtain ⟨HB7, HO7⟩ := hcut
          rename World => w7
          go_wp2_with fail
          rw [Exit.noGoto_ret]
          go_ret2
          have hs5 := HM5.out.row.lt
          have hlow := HD.out.low
          have hs6 := HB6.out.size
          refine ⟨_, _, S, rfl, HRS.out, ?_, ?_, ?_⟩
          · rw [HSL.out]
            exact (HO6.out.below HB7.out).mono (by omega)
          · rw [HVS.out]
            exact HO7.out.mono (by omega)
          · exact (HD.out.old.trans (HB56.out.mono hlow)).trans (HB7.out.mono (by omega))
end Go.Proofs.Ytjiijddlbfgafaa
