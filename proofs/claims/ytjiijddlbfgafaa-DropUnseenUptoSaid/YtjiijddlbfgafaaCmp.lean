/- The comparisons: cmp.Compare, cmp.Less, strings.Compare, cmp.Or, ikey.Compare, ikey.entries, tomb.Valid. -/
import Derived.Test.YtjiijddlbfgafaaProg
import Derived.Test.YtjiijddlbfgafaaSpec
import Derived.Test.YtjiijddlbfgafaaRow
import Derived.Test.YtjiijddlbfgafaaOwnK
import Derived.WalkKit
import Derived.WalkSpells
import Derived.WalkLawsBesides
import Derived.Deep.QuietTactic
import Derived.BigQuiet
import Derived.Deep.RegionHeld3
import Derived.Lib.Bytealg
set_option linter.unusedVariables false
set_option linter.unusedSimpArgs false
namespace Go.Proofs.Ytjiijddlbfgafaa
open Go.RowKit

set_option maxHeartbeats 400000 in
theorem isNaNU_any (a : Int) (w : World) : Calls Try.prog 40 #[.int .u64 a] w fun e w' => e = .returned (.bool false) ∧ w = w' := by
  go_enter Try.func40, Try.ntmps40
  go_wp2
  go_ret
  exact ⟨by simp, rfl⟩

set_option maxHeartbeats 400000 in
theorem isNaNI_any (a : Int) (w : World) : Calls Try.prog 60 #[.int .i64 a] w fun e w' => e = .returned (.bool false) ∧ w = w' := by
  go_enter Try.func60, Try.ntmps60
  go_wp2
  go_ret
  exact ⟨by simp, rfl⟩

set_option maxHeartbeats 400000 in
theorem cmpU_any (a b : Int) (w : World) : Calls Try.prog 46 #[.int .u64 a, .int .u64 b] w fun e w' => e = .returned (.int .i64 (cmpI a b)) ∧ w = w' := by
  go_enter Try.func46, Try.ntmps46
  go_wp2_with (go_at_call 40; refine (isNaNU_any _ _).mono ?_; rintro e w' ⟨rfl, rfl⟩)
  all_goals
    go_ret
    refine ⟨ret_int ?_, rfl⟩
    unfold cmpI
    split <;> first | rfl | omega | (split <;> first | rfl | omega)

set_option maxHeartbeats 400000 in
theorem cmpI_any (a b : Int) (w : World) : Calls Try.prog 47 #[.int .i64 a, .int .i64 b] w fun e w' => e = .returned (.int .i64 (cmpI a b)) ∧ w = w' := by
  go_enter Try.func47, Try.ntmps47
  go_wp2_with (go_at_call 60; refine (isNaNI_any _ _).mono ?_; rintro e w' ⟨rfl, rfl⟩)
  all_goals
    go_ret
    refine ⟨ret_int ?_, rfl⟩
    unfold cmpI
    split <;> first | rfl | omega | (split <;> first | rfl | omega)

set_option maxHeartbeats 400000 in
theorem lessU_any (a b : Int) (w : World) : Calls Try.prog 30 #[.int .u64 a, .int .u64 b] w fun e w' => e = .returned (.bool (decide (a < b))) ∧ w = w' := by
  go_enter Try.func30, Try.ntmps30
  go_wp2_with (go_at_call 40; refine (isNaNU_any _ _).mono ?_; rintro e w' ⟨rfl, rfl⟩)
  all_goals
    go_ret
    exact ⟨ret_bool (by simp), rfl⟩

set_option maxHeartbeats 400000 in
theorem compareString_any (a b : ByteArray) (w : World) : Calls Try.prog 59 #[.string a, .string b] w fun e w' => e = .returned (.int .i64 (cmpS a b)) ∧ w = w' := by
  go_enter Try.func59, Try.ntmps59
  go_wp2
  rw [run_callFunc_extern Try.func67 (by kernel_rfl) (by kernel_rfl) (by kernel_rfl) (e := Extern.BytealgCompare.compare) (by kernel_rfl), Lib.run_compareString]
  simp only [Result.andThen]
  rw [Oper.upon_value]
  go_wp2
  go_ret
  exact ⟨rfl, rfl⟩

set_option maxHeartbeats 400000 in
theorem stringsCompare_any (a b : ByteArray) (w : World) : Calls Try.prog 45 #[.string a, .string b] w fun e w' => e = .returned (.int .i64 (cmpS a b)) ∧ w = w' := by
  go_enter Try.func45, Try.ntmps45
  go_wp2_with (go_at_call 59; refine (compareString_any _ _ _).mono ?_; rintro e w' ⟨rfl, rfl⟩)
  go_ret
  exact ⟨rfl, rfl⟩

set_option maxHeartbeats 400000 in
theorem valid_any (t : Tomb) (w : World) :
    Calls Try.prog 11 #[.agg #[.string t.b, .string t.e, .int .u64 t.seq]] w fun e w' => e = .returned (.bool (validB t)) ∧ Below w.heap.size w w' := by
  go_enter Try.func11, Try.ntmps11
  go_wp2
  all_goals
    go_ret
    refine ⟨ret_bool ?_, (Below.refl _ _).alloc (Nat.le_refl _) _⟩
    unfold validB
    simp [*]
    all_goals first | omega | (intro _ _; omega)

set_option maxHeartbeats 400000 in
theorem cmpOr_any (b c : Nat) (x y z : Int) (w : World) (h0 : w.cell? ⟨b, 0, none⟩ = some (.int .i64 x)) (h1 : w.cell? ⟨b, 1, none⟩ = some (.int .i64 y)) (h2 : w.cell? ⟨b, 2, none⟩ = some (.int .i64 z)) :
    Calls Try.prog 44 #[.slice (some ⟨b, 0, none⟩) 3 c] w fun e w' => e = .returned (.int .i64 (or3 x y z)) ∧ w = w' := by
  go_enter Try.func44, Try.ntmps44
  go_wp2
  refine wp_loop_rounds 4 ?_
  rw [rounds_succ]
  go_wp2
  · go_ret
    exact ⟨ret_int (by unfold or3; simp_all), rfl⟩
  rw [rounds_succ]
  go_wp2
  · go_ret
    exact ⟨ret_int (by unfold or3; simp_all), rfl⟩
  rw [rounds_succ]
  go_wp2
  · go_ret
    exact ⟨ret_int (by unfold or3; simp_all), rfl⟩
  rw [rounds_succ]
  go_wp2
  go_ret
  exact ⟨ret_int (by unfold or3; simp_all), rfl⟩

set_option maxHeartbeats 1000000 in
set_option maxRecDepth 100000 in
theorem cmpK_any (a b : IKey) (w : World) :
    Calls Try.prog 36 #[.agg a.enc.toArray, .agg b.enc.toArray] w fun e w' => e = .returned (.int .i64 (cmpK a b)) ∧ Grew w w' := by
  unfold IKey.enc
  go_enter Try.func36, Try.ntmps36
  go_wp2_with fail
  go_region_held3 (fun w' => w'.cell? ⟨w.heap.size, 0, none⟩ = some (.string a.key) ∧ w'.cell? ⟨w.heap.size, 1, none⟩ = some (.int .u64 a.seq) ∧ w'.cell? ⟨w.heap.size, 2, none⟩ = some (.int .i64 a.kind) ∧
      w'.cell? ⟨w.heap.size + 1, 0, none⟩ = some (.string b.key) ∧ w'.cell? ⟨w.heap.size + 1, 1, none⟩ = some (.int .u64 b.seq) ∧ w'.cell? ⟨w.heap.size + 1, 2, none⟩ = some (.int .i64 b.kind)) (go_keep)
    (first
      | (go_at_call 45; refine (stringsCompare_any _ _ _).mono ?_; rintro e w' ⟨rfl, rfl⟩)
      | (go_at_call 46; refine (cmpU_any _ _ _).mono ?_; rintro e w' ⟨rfl, rfl⟩)
      | (go_at_call 47; refine (cmpI_any _ _ _).mono ?_; rintro e w' ⟨rfl, rfl⟩)
      | (go_at_call 44; refine (cmpOr_any (w.heap.size + 1 + 1) 3 (cmpS a.key b.key) (cmpI b.seq a.seq) (cmpI b.kind a.kind) _ (by simp [go_sem]) (by simp [go_sem]) (by simp [go_sem])).mono ?_; rintro e w' ⟨rfl, rfl⟩))
  go_wp2
  go_ret
  exact ⟨rfl, (((Grew.refl _).alloc _).alloc _).alloc _ |>.drew⟩


set_option maxHeartbeats 1000000 in
set_option maxRecDepth 100000 in
theorem cmpE_any (a b : Ent) (w : World) :
    Calls Try.prog 25 #[.agg a.enc.toArray, .agg b.enc.toArray] w fun e w' => e = .returned (.int .i64 (cmpE a b)) ∧ Grew w w' := by
  unfold Ent.enc
  go_enter Try.func25, Try.ntmps25
  go_wp2_with (go_at_call 36; refine (cmpK_any a.ikey b.ikey _).mono ?_; rintro e w' ⟨rfl, hb⟩)
  go_ret
  exact ⟨rfl, (((Grew.refl _).alloc _).alloc _).trans hb⟩
end Go.Proofs.Ytjiijddlbfgafaa
