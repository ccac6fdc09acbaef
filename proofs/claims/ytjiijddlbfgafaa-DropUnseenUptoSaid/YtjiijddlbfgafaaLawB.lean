/- The law's helpers walked: rule. -/
import Derived.Test.YtjiijddlbfgafaaDropC
import Derived.Test.YtjiijddlbfgafaaApp
set_option linter.unusedVariables false
set_option linter.unusedSimpArgs false
namespace Go.Proofs.Ytjiijddlbfgafaa
open Go.RowKit Go.Lib Go.Shelf
theorem infoF : (Try.prog.info? 74).map (fun i => (i.zero, i.size, i.bytes)) = some (some (.agg #[.int .i64 0, .int .i64 0, .string ByteArray.empty, .string ByteArray.empty, .int .u64 0, .int .u64 0]), 6, 64) := by kernel_rfl
theorem heap_alloc_at (w : World) (o : Obj) {k : Nat} (h : k = w.heap.size) : (w.alloc o).heap[k]? = some o := h ▸ heap_alloc_new w o
theorem File.enc_len (x : File) : (File.enc x).length = 6 := rfl
theorem File.enc_one (x : File) : ∀ v ∈ File.enc x, v.oneCell' = true := by
  intro v hv
  simp only [File.enc, List.mem_cons, List.not_mem_nil, or_false] at hv
  rcases hv with rfl | rfl | rfl | rfl | rfl | rfl <;> rfl
theorem en1_one (x : Int) : ∀ v ∈ en1 (Value.int .u64) x, v.oneCell' = true := by
  intro v hv
  simp only [en1, List.mem_cons, List.not_mem_nil, or_false] at hv
  subst hv
  rfl
theorem Own.lit {α : Type} {enc : α → List Value} {k : Nat} {T : TypeId} {w : World} {base B : Nat} (hB : base ≤ B) (h : w.heap[B]? = some (.cells #[] T (0, 0))) : Own enc k T w base (.slice (some ⟨B, 0, none⟩) 0 0) ([] : List α) :=
  ⟨by simp, .inr ⟨B, 0, #[], rfl, hB, h, Nat.le_refl _, Nat.zero_le _, by simp, by simp⟩⟩
theorem Own.keep {α : Type} {enc : α → List Value} {k : Nat} {T : TypeId} {w w1 : World} {base : Nat} {v : Value} {xs : List α} {row : Option Nat} (h : Own enc k T w base v xs) (hg : w.grownBy w1 row) (hne : v.ownBlock = none ∨ v.ownBlock ≠ row) : Own enc k T w1 base v xs := World.ownsRow.kept h hg hne
set_option maxHeartbeats 2000000 in
set_option maxRecDepth 100000 in
theorem rule_any (As Ab : Option Addr) (cs cb : Nat) (sn : List Int) (bl : List File) (w : World) (hs : Rds (en1 (Value.int .u64)) 1 w As sn) (hb : Rds File.enc 6 w Ab bl) (ms : sn.length ≤ 1099511627776) (mb : bl.length ≤ 1099511627776) :
    Calls Try.prog 8 #[.agg #[.slice As sn.length cs, .slice Ab bl.length cb]] w fun e w' => ∃ v1 v2, e = .returned (.agg #[v1, v2]) ∧ Own (en1 (Value.int .u64)) 1 36 w' w.heap.size v1 sn ∧ Own File.enc 6 74 w' w.heap.size v2 bl ∧ Below w.heap.size w w' := by
  obtain ⟨iU, hiU, zU0, zU1, zU2⟩ := info_parts infoU
  obtain ⟨iF, hiF, zF0, zF1, zF2⟩ := info_parts infoF
  have HS := Lib.hid hs
  have HB := Lib.hid hb
  clear hs hb
  go_enter Try.func8, Try.ntmps8
  go_wp2_with fail
  have hz0 : ((w.alloc (Obj.cells #[Value.slice As sn.length cs, Value.slice Ab bl.length cb] 27)).alloc (Obj.cells #[Value.slice none 0 0, Value.slice none 0 0] 31)).heap.size = w.heap.size + 2 := by simp
  have HW : Aside (Below w.heap.size w ((w.alloc (Obj.cells #[Value.slice As sn.length cs, Value.slice Ab bl.length cb] 27)).alloc (Obj.cells #[Value.slice none 0 0, Value.slice none 0 0] 31))) := ((Below.refl _ _).alloc (Nat.le_refl _) _).alloc (by simp) _
  have b0 : ((w.alloc (Obj.cells #[Value.slice As sn.length cs, Value.slice Ab bl.length cb] 27)).alloc (Obj.cells #[Value.slice none 0 0, Value.slice none 0 0] 31)).cell? ⟨w.heap.size, 0, none⟩ = some (.slice As sn.length cs) := by simp
  have b1 : ((w.alloc (Obj.cells #[Value.slice As sn.length cs, Value.slice Ab bl.length cb] 27)).alloc (Obj.cells #[Value.slice none 0 0, Value.slice none 0 0] 31)).cell? ⟨w.heap.size, 1, none⟩ = some (.slice Ab bl.length cb) := by simp
  have r0 : ((w.alloc (Obj.cells #[Value.slice As sn.length cs, Value.slice Ab bl.length cb] 27)).alloc (Obj.cells #[Value.slice none 0 0, Value.slice none 0 0] 31)).cell? ⟨w.heap.size + 1, 0, none⟩ = some (.slice none 0 0) := by simp
  have r1 : ((w.alloc (Obj.cells #[Value.slice As sn.length cs, Value.slice Ab bl.length cb] 27)).alloc (Obj.cells #[Value.slice none 0 0, Value.slice none 0 0] 31)).cell? ⟨w.heap.size + 1, 1, none⟩ = some (.slice none 0 0) := by simp
  have f0 : ((w.alloc (Obj.cells #[Value.slice As sn.length cs, Value.slice Ab bl.length cb] 27)).alloc (Obj.cells #[Value.slice none 0 0, Value.slice none 0 0] 31)).frozen? ⟨w.heap.size + 1, 0, none⟩ = false := by simp
  have f1 : ((w.alloc (Obj.cells #[Value.slice As sn.length cs, Value.slice Ab bl.length cb] 27)).alloc (Obj.cells #[Value.slice none 0 0, Value.slice none 0 0] 31)).frozen? ⟨w.heap.size + 1, 1, none⟩ = false := by simp
  generalize ((w.alloc (Obj.cells #[Value.slice As sn.length cs, Value.slice Ab bl.length cb] 27)).alloc (Obj.cells #[Value.slice none 0 0, Value.slice none 0 0] 31)) = W0 at hz0 HW b0 b1 r0 r1 f0 f1 ⊢
  have HZ := Lib.hid hz0
  have HS0 := Lib.hid (HS.out.below HW.out)
  have HB0 := Lib.hid (HB.out.below HW.out)
  clear hz0
  go_region_held3 (fun w' => w'.cell? ⟨w.heap.size, 0, none⟩ = some (.slice As sn.length cs) ∧ w'.cell? ⟨w.heap.size, 1, none⟩ = some (.slice Ab bl.length cb)) (go_keep)
    (first
      | (refine step_append_all (en1_len _) en1_one (by rfl) _ _ 24 (by rfl) (w.heap.size + 2) 36 iU (.int .u64 0) 8 Try.underlying24 hiU zU0 zU1 zU2 (by rfl) (by decide) _ [] (by rfl) ?_ As cs sn (by rfl) ?_ (by simp [maxLen]; omega) (by simp; omega) ?_ ?_
         · refine Own.lit ?_ ?_
           · have := HZ.out; simp; omega
           · first | exact heap_alloc_at _ _ (by simp; done) | exact (heap_alloc_old _ _ (by simp; try omega)).trans (heap_alloc_at _ _ (by simp; done))
         · exact HS0.out.below (by repeat (first | exact Below.refl _ _ | apply Below.drew | refine Below.alloc ?_ (by simp) _))
         · have := HZ.out; simp; omega
         intro v1 w4 ho1 hg1 hl1
         obtain ⟨A1, k1, rfl, -⟩ := Own.rds (en1_len _) ho1
         have HD4 : Aside (Below W0.heap.size W0 w4) := by
           refine Below.grown ?_ hg1 ?_ ?_
           · repeat (first | exact Below.refl _ _ | apply Below.drew | refine Below.alloc ?_ (by simp) _)
           · simp; try omega
           · intro k e; obtain rfl := Option.some.inj e; simp
         have y0 : w4.cell? ⟨w.heap.size, 0, none⟩ = some (.slice As sn.length cs) := (HD4.out.cell (p := ⟨w.heap.size, 0, none⟩) (by have := HZ.out; simp; omega)).trans b0
         have y1 : w4.cell? ⟨w.heap.size, 1, none⟩ = some (.slice Ab bl.length cb) := (HD4.out.cell (p := ⟨w.heap.size, 1, none⟩) (by have := HZ.out; simp; omega)).trans b1
         have HG1 := Lib.hid hg1
         have HO1 := Lib.hid ho1
         have HL1 := Lib.hid hl1
         clear ho1 hg1 hl1)
      | (refine step_append_all File.enc_len File.enc_one (by rfl) _ _ 25 (by rfl) (w.heap.size + 2) 74 iF (.agg #[.int .i64 0, .int .i64 0, .string ByteArray.empty, .string ByteArray.empty, .int .u64 0, .int .u64 0]) 64 Try.underlying25 hiF zF0 zF1 zF2 (by rfl) (by decide) _ [] (by rfl) ?_ Ab cb bl (by rfl) ?_ (by simp [maxLen]; omega) (by simp; omega) ?_ ?_
         · refine Own.lit ?_ ?_
           · have := HZ.out; have := HD4.out.size; simp; try omega
           · first
               | exact heap_alloc_at _ _ (by simp; done)
               | (refine (HG1.out.block _ ?_ ?_).trans ?_
                  · simp; try omega
                  · intro e; have h := Option.some.inj (e : some _ = some _); simp at h; try omega
                  · first | exact heap_alloc_at _ _ (by simp; done) | exact (heap_alloc_old _ _ (by simp; try omega)).trans (heap_alloc_at _ _ (by simp; done)))
         · exact HB0.out.below (by first | exact HD4.out | exact HD4.out.alloc HD4.out.size _)
         · have := HZ.out; have := HD4.out.size; simp; try omega
         intro v2 w5 ho2 hg2 hl2
         obtain ⟨A2, k2, rfl, -⟩ := Own.rds File.enc_len ho2
         have HD5 : Aside (Below W0.heap.size W0 w5) := by
           refine Below.grown ?_ hg2 ?_ ?_
           · first | exact HD4.out | exact HD4.out.alloc HD4.out.size _
           · have := HD4.out.size; simp; try omega
           · intro k e; have := HD4.out.size; obtain rfl := Option.some.inj e; simp; try omega
         have x0 : w5.cell? ⟨w.heap.size, 0, none⟩ = some (.slice As sn.length cs) := (HD5.out.cell (p := ⟨w.heap.size, 0, none⟩) (by have := HZ.out; simp; omega)).trans b0
         have x1 : w5.cell? ⟨w.heap.size, 1, none⟩ = some (.slice Ab bl.length cb) := (HD5.out.cell (p := ⟨w.heap.size, 1, none⟩) (by have := HZ.out; simp; omega)).trans b1
         have q0 : w5.cell? ⟨w.heap.size + 1, 0, none⟩ = some (.slice none 0 0) := (HD5.out.cell (p := ⟨w.heap.size + 1, 0, none⟩) (by have := HZ.out; simp; omega)).trans r0
         have q1 : w5.cell? ⟨w.heap.size + 1, 1, none⟩ = some (.slice none 0 0) := (HD5.out.cell (p := ⟨w.heap.size + 1, 1, none⟩) (by have := HZ.out; simp; omega)).trans r1
         have q2 : w5.frozen? ⟨w.heap.size + 1, 0, none⟩ = false := (HD5.out.frozen (p := ⟨w.heap.size + 1, 0, none⟩) (by have := HZ.out; simp; omega)).trans f0
         have q3 : w5.frozen? ⟨w.heap.size + 1, 1, none⟩ = false := (HD5.out.frozen (p := ⟨w.heap.size + 1, 1, none⟩) (by have := HZ.out; simp; omega)).trans f1
         have HG2 := Lib.hid hg2
         have HO2 := Lib.hid ho2
         have HL2 := Lib.hid hl2
         clear ho2 hg2 hl2))
  all_goals go_wp2_with fail
  all_goals (try simp only [Exit.inBlock, Exit.then])
  all_goals
    have hc0 : (w5.setCell ⟨w.heap.size + 1, 0, none⟩ (.slice A1 sn.length k1)).cell? ⟨w.heap.size + 1, 0, none⟩ = some (.slice A1 sn.length k1) := World.cell?_setCell_same _ _ _ q0
    have hc1 : ((w5.setCell ⟨w.heap.size + 1, 0, none⟩ (.slice A1 sn.length k1)).setCell ⟨w.heap.size + 1, 1, none⟩ (.slice A2 bl.length k2)).cell? ⟨w.heap.size + 1, 1, none⟩ = some (.slice A2 bl.length k2) := World.cell?_setCell_same _ _ _ (show (w5.setCell ⟨w.heap.size + 1, 0, none⟩ (.slice A1 sn.length k1)).cell? ⟨w.heap.size + 1, 1, none⟩ = some (.slice none 0 0) from (World.cell?_setCell_other _ _ _ _ (by simp)).trans q1)
    refine bodyPost_ret (v := .agg #[.slice A1 sn.length k1, .slice A2 bl.length k2]) (by simp [results, Try.results8, go_sem, hc0, hc1]; try rfl) rfl ⟨_, _, rfl, ?_, ?_, ?_⟩
  all_goals first
    | (refine Own.mono (b := w.heap.size + 2) (ownsRow_setCell_below (ownsRow_setCell_below (Own.keep ?_ HG2.out (.inr ?_)) (by simp) _) (by simp) _) (by omega)
       · first | exact HO1.out | exact World.ownsRow.alloc HO1.out _
       · intro e
         first
           | (have := (HO1.out.block_lt (b := w4.heap.size) e).2; omega)
           | (rcases HL1.out with h | h
              · have := Option.some.inj ((h.symm.trans e) : some _ = some _); simp at this; try omega
              · have := Option.some.inj ((h.symm.trans e) : some _ = some _); simp at this; try omega))
    | exact Own.mono (b := w.heap.size + 2) (ownsRow_setCell_below (ownsRow_setCell_below HO2.out (by simp) _) (by simp) _) (by omega)
    | exact ((HW.out.next HD5.out).setCell (by simp) _).setCell (by simp) _
end Go.Proofs.Ytjiijddlbfgafaa
