/- morainelaw21.DropUnseen, WHERE WHAT IT READS IS OF BULK AT MOST 1048576: it returns true, and each argument reads as it did. No condition besides. -/
import Derived.Test.YtjiijddlbfgafaaLawF
import Derived.Test.YtjiijddlbfgafaaOpen
import Derived.ProofKit
import Derived.OpenShut
import Derived.JoinedCond
import Derived.Carry
set_option linter.unusedVariables false
set_option linter.unusedSimpArgs false
namespace Go.Proofs.Ytjiijddlbfgafaa
open Go.ChangeShapes Go.WideShapes Go.ChangeAt Go.RowKit
theorem knobs : ownKnob Try.prog.godebug = none := by kernel_rfl
theorem laidAll : laidOutB Try.prog = true := by kernel_rfl
set_option maxRecDepth 100000 in
theorem cells1 {v : Value} {A : Option Addr} {n c : Nat} {t e : TypeId} {W : World} {b : Nat} (ht : Try.prog.underlying t = some (.slice e)) (hv : Value.okWide Try.prog W .any b t v) (h : v.cells.toList = [.slice A n c]) : v = .slice A n c := by
  obtain ⟨a, len, cap, rfl⟩ := okWide_slice ht hv
  simpa [Value.cells] using h
theorem len2 {α : Type} {l : List α} (h : l.length = 2) : ∃ a b, l = [a, b] := by
  match l, h with
  | [a, b], _ => exact ⟨a, b, rfl⟩
theorem c_u64s : Try.prog.cellsOf 24 = 1 := by kernel_rfl
theorem c_files : Try.prog.cellsOf 25 = 1 := by kernel_rfl
set_option maxRecDepth 100000 in
/-- A rule opened. -/
theorem open_rule {H : Type} {en : TypeId × Value → H} {W : World} {base : Nat} {spare : Nat → Bool} {held : Bool} {fuel b : Nat} {v : Value} {x : DataW H × List MemPlace} (hv : Value.okWide Try.prog W .any b 27 v)
    (h : DataW.trod en Try.prog W base spare held fuel 27 v.cells.toList = some x) :
    ∃ (As Ab : Option Addr) (cs cb : Nat) (sn : List Int) (bl : List File), v = .agg #[.slice As sn.length cs, .slice Ab bl.length cb] ∧ Rds (en1 (Value.int .u64)) 1 W As sn ∧ (∀ y ∈ sn, InU y) ∧ Rds File.enc 6 W Ab bl ∧ sn.length + bl.length < Rows.uptoBulk x.1 := by
  obtain ⟨cs, rfl, _⟩ := okWide_struct Try.underlying27 hv
  obtain ⟨xs, n, _, hx, hlen, hxl, hf⟩ := DataW.trod_struct Try.underlying27 h
  have hl2 : (Value.agg cs).cells.toList.length = 2 := hlen.trans (by kernel_rfl)
  have hx2 : xs.length = 2 := hxl.trans rfl
  simp only [Value.cells] at hl2 hf
  obtain ⟨y0, y1, rfl⟩ := len2 hx2
  obtain ⟨v0, v1, hcs⟩ := len2 hl2
  have g0 := hf 0 _ rfl
  have g1 := hf 1 _ rfl
  rw [hcs] at g0 g1
  simp [c_u64s, c_files] at g0 g1
  obtain ⟨As, c0, sn, e0, r0, q0, b0, _⟩ := open_u64s g0
  obtain ⟨Ab, c1, bl, e1, r1, _, b1, _⟩ := open_files g1
  simp at e0 e1
  subst e0 e1
  refine ⟨As, Ab, c0, c1, sn, bl, ?_, r0, q0, r1, ?_⟩
  · congr 1
    exact Array.ext' hcs
  · rw [hx]
    simp only [List.map_cons, List.map_nil, Rows.uptoBulk, Rows.uptoBulkAll]
    omega
theorem c_ents : Try.prog.cellsOf 22 = 1 := by kernel_rfl
theorem c_tombs : Try.prog.cellsOf 23 = 1 := by kernel_rfl
set_option maxRecDepth 100000 in
/-- Entries and tombs opened. -/
theorem open_pair {H : Type} {en : TypeId × Value → H} {W : World} {base : Nat} {spare : Nat → Bool} {held : Bool} {fuel b : Nat} {v : Value} {x : DataW H × List MemPlace} {T : TypeId} {f0 f1 : Field} (hT : Try.prog.underlying T = some (.struct #[f0, f1])) (hc : Try.prog.cellsOf T = 2)
    (h0 : f0.type = 22 ∧ f0.offset = 0) (h1 : f1.type = 23 ∧ f1.offset = 1) (hv : Value.okWide Try.prog W .any b T v)
    (h : DataW.trod en Try.prog W base spare held fuel T v.cells.toList = some x) :
    ∃ (Ae Ao : Option Addr) (ce co : Nat) (oe : List Ent) (ot : List Tomb), v = .agg #[.slice Ae oe.length ce, .slice Ao ot.length co] ∧ Rds Ent.enc 4 W Ae oe ∧ (∀ y ∈ oe, InU y.seq) ∧ Rds Tomb.enc 3 W Ao ot ∧ (∀ y ∈ ot, InU y.seq) ∧ oe.length + ot.length < Rows.uptoBulk x.1 := by
  obtain ⟨cs, rfl, _⟩ := okWide_struct hT hv
  obtain ⟨xs, n, _, hx, hlen, hxl, hf⟩ := DataW.trod_struct hT h
  have hl2 : (Value.agg cs).cells.toList.length = 2 := hlen.trans hc
  have hx2 : xs.length = 2 := hxl.trans rfl
  simp only [Value.cells] at hl2 hf
  obtain ⟨y0, y1, rfl⟩ := len2 hx2
  obtain ⟨v0, v1, hcs⟩ := len2 hl2
  have g0 := hf 0 f0 rfl
  have g1 := hf 1 f1 rfl
  rw [hcs, h0.1, h0.2] at g0
  rw [hcs, h1.1, h1.2] at g1
  simp [c_ents, c_tombs] at g0 g1
  obtain ⟨As, c0, sn, e0, r0, q0, b0, _⟩ := open_ents g0
  obtain ⟨Ab, c1, bl, e1, r1, q1, b1, _⟩ := open_tombs g1
  simp at e0 e1
  subst e0 e1
  refine ⟨As, Ab, c0, c1, sn, bl, ?_, r0, q0, r1, q1, ?_⟩
  · congr 1
    exact Array.ext' hcs
  · rw [hx]
    simp only [List.map_cons, List.map_nil, Rows.uptoBulk, Rows.uptoBulkAll]
    omega
set_option maxRecDepth 100000 in
theorem unseen_contract (H : Type) (enc : TypeId × Value → H) (W : World) (base : Nat) (args : Array Value) (ds gs : List (DataW H)) (before : List MemPlace)
    (hval : ∀ (j : Nat) t v, Try.f4.params[j]? = some t → args[j]? = some v → Value.okWide Try.prog W .any base t v)
    (hW : DataW.Whole enc Try.prog Try.f4.params.toList Rows.dropUnseenSpec.vars false W args.toList ds gs before) (hk : Rows.uptoSmall H (ds ++ gs) = true) :
    Calls Try.prog 4 args W fun e W' => ∃ v, e = .returned v ∧ Rows.dropUnseenSpec.post enc Try.prog Try.f4 false true false false W args v W' := by
  have hW' := hW
  obtain ⟨p, q, hA0, hV, rfl, hfz, hnd⟩ := hW
  have hA : DataW.TrodAll enc Try.prog W 0 (fun _ => true) true Try.f4.params.toList args.toList ds p := hA0
  rw [Try.params4] at hA hval
  obtain ⟨v0, vs0, d0, ds0, p0, q0, hargs, rfl, rfl, h0, r0⟩ := trodAll_cons hA
  obtain ⟨v1, vs1, d1, ds1, p1, q1, rfl, rfl, rfl, h1, r1⟩ := trodAll_cons r0
  obtain ⟨v2, vs2, d2, ds2, p2, q2, rfl, rfl, rfl, h2, r2⟩ := trodAll_cons r1
  obtain ⟨rfl, rfl, rfl⟩ := trodAll_nil r2
  obtain rfl : args = #[v0, v1, v2] := by cases args; simp_all
  obtain ⟨rfl, rfl⟩ := trodVars_none hV
  have hlt0 : ∀ x ∈ p0, x.block < W.heap.size := fun x hx => hW'.lt x (by simp [hx])
  have hlt1 : ∀ x ∈ p1, x.block < W.heap.size := fun x hx => hW'.lt x (by simp [hx])
  have hlt2 : ∀ x ∈ p2, x.block < W.heap.size := fun x hx => hW'.lt x (by simp [hx])
  have fin : ∀ (e : Ending) (W' : World), (e = .returned (.bool true) ∧ Below W.heap.size W W') → ∃ v, e = .returned v ∧ Rows.dropUnseenSpec.post enc Try.prog Try.f4 false true false false W #[v0, v1, v2] v W' := by
    rintro e W' ⟨rfl, hb⟩
    refine ⟨_, rfl, _, _, _, [], p0 ++ (p1 ++ (p2 ++ [])), [], hW', ?_, ?_, rfl, hb.frame _, fun h => by cases h⟩
    · exact trodAll_cons_mk (shut_bool Try.underlying4 _) trodAll_mk0
    · rw [Try.params4]
      exact trodAll_cons_mk (Below.trod laidAll (by kernel_rfl) (of_decide_eq_true (by kernel_rfl)) h0 hb hlt0) (trodAll_cons_mk (Below.trod laidAll (by kernel_rfl) (of_decide_eq_true (by kernel_rfl)) h1 hb hlt1) (trodAll_cons_mk (Below.trod laidAll (by kernel_rfl) (of_decide_eq_true (by kernel_rfl)) h2 hb hlt2) trodAll_mk0))
  have hv0 := hval 0 _ v0 rfl rfl
  have hv1 := hval 1 _ v1 rfl rfl
  have hv2 := hval 2 _ v2 rfl rfl
  have hkb : Rows.uptoBulkAll ([d0, d1, d2] ++ []) ≤ 1048576 := of_decide_eq_true hk
  simp only [List.append_nil, Rows.uptoBulkAll] at hkb
  obtain ⟨f0, t0⟩ := h0
  obtain ⟨f1, t1⟩ := h1
  obtain ⟨f2, t2⟩ := h2
  obtain ⟨Al, At, cl, ct, l, t, rfl, rd0, u0, rd1, u1, b0⟩ := open_pair Try.underlying42 (by kernel_rfl) ⟨rfl, rfl⟩ ⟨rfl, rfl⟩ hv0 t0
  obtain ⟨As, Ab, cs, cb, sn, bl, rfl, rd2, _, rd3, b1⟩ := open_rule hv1 t1
  obtain ⟨Ae, Ao, ce, co, oe, ot, rfl, rd4, u4, rd5, u5, b2⟩ := open_pair Try.underlying43 (by kernel_rfl) ⟨rfl, rfl⟩ ⟨rfl, rfl⟩ hv2 t2
  simp only at b0 b1 b2
  exact (unseen_any Al At As Ab Ae Ao cl ct cs cb ce co l t sn bl oe ot W rd0 rd1 rd2 rd3 rd4 rd5 u0 u1 u4 (by omega) (by omega) (by omega) (by omega) (by omega) (by omega)).mono fin
set_option maxRecDepth 100000 in
theorem unseen_lifted (os : Os) (started : os.Started) (H : Type) (enc : TypeId × Value → H) (F : Stop.Interp) :
    ReturnsInHanded {} Try.checked os 4 .any ((Rows.OpenSpec.upto Rows.dropUnseenSpec).pre6 enc Try.prog Try.f4 Rows.dropUnseenUptoRow.domain false) (((Rows.OpenSpec.upto Rows.dropUnseenSpec).at F).post enc Try.prog Try.f4 false true false false) := by
  refine returnsInHanded_of_cond (C := Try.checked) (s := Rows.OpenSpec.upto Rows.dropUnseenSpec) (k := Rows.uptoSmall) rfl knobs started (by kernel_rfl) Try.func4
    (OpenSpec.witness (enc := enc) (C := Try.checked) (s := Rows.OpenSpec.upto Rows.dropUnseenSpec) (k := Rows.uptoSmall) rfl false ⟨#[], #[.agg #[.slice none 0 0, .slice none 0 0], .agg #[.slice none 0 0, .slice none 0 0], .agg #[.slice none 0 0, .slice none 0 0]], []⟩ 8 (by kernel_rfl) (by kernel_rfl) (by kernel_rfl)
      (x := ([.agg [.nil, .nil], .agg [.nil, .nil], .agg [.nil, .nil]], [], [])) (by kernel_rfl) rfl (by kernel_rfl)) ?_
  intro W base args ds gs before hval hW _ hk _
  exact unseen_contract H enc W base args ds gs before hval hW hk
theorem dropUnseen_holds : Rows.DropUnseenUptoSaid :=
  OpenClaim.holds_of_cond 4 Try.f4 rfl rfl rfl rfl rfl rfl rfl ⟨rfl, rfl, rfl, rfl, rfl⟩ rfl rfl rfl rfl rfl (by kernel_rfl) Try.func4 (by kernel_rfl)
    (of_decide_eq_true (by kernel_rfl)) (by unfold Func.isWrapper; first | (rw [if_pos (by decide +kernel)]; kernel_rfl) | (rw [if_neg (by decide +kernel)]; exact ⟨rfl, rfl⟩))
    (fun os started H enc _ F => unseen_lifted os started H enc F)
end Go.Proofs.Ytjiijddlbfgafaa
