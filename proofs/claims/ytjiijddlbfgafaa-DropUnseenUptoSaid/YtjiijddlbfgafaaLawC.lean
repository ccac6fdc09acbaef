/- The law's helpers walked: probe; morainelaw21.DropAgain. -/
import Derived.Test.YtjiijddlbfgafaaLawA
import Derived.Test.YtjiijddlbfgafaaLawB
import Derived.Test.YtjiijddlbfgafaaLawP
set_option linter.unusedVariables false
set_option linter.unusedSimpArgs false
namespace Go.Proofs.Ytjiijddlbfgafaa
open Go.RowKit Go.Lib Go.Shelf
/-- The probe's entry. -/
def ent1 : Ent := ⟨⟨#[97]⟩, 1, 1, ByteArray.empty⟩
theorem sorted1 : sortedE [ent1] = [ent1] := by simp [sortedE]
/-- What drop.Entries answers, as its callers see it. -/
def KeptPost (l : List Ent) (t : List Tomb) (sn : List Int) (bl : List File) (w : World) (e : Ending) (w' : World) : Prop :=
  ∃ S A1 k1 A2 k2, e = .returned (.tuple #[.slice A1 (keptE S bl t l).length k1, .slice A2 (keptT S bl t).length k2]) ∧ Rising sn S ∧ Rds Ent.enc 4 w' A1 (keptE S bl t l) ∧ Rds Tomb.enc 3 w' A2 (keptT S bl t) ∧ Below w.heap.size w w'
theorem entries_kept (Al At : Option Addr) (cl ct : Nat) (v1 v2 : Value) (l : List Ent) (t : List Tomb) (sn : List Int) (bl : List File) (base : Nat) (w : World)
    (hl : Rds Ent.enc 4 w Al l) (ht : Rds Tomb.enc 3 w At t) (h1 : Own (en1 (Value.int .u64)) 1 36 w base v1 sn) (h2 : Own File.enc 6 74 w base v2 bl)
    (ml : l.length ≤ 1099511627776) (mt : t.length ≤ 1099511627776) (ms : sn.length ≤ 1099511627776) (mb : bl.length ≤ 1099511627776) :
    Calls Try.prog 7 #[.slice Al l.length cl, .slice At t.length ct, .agg #[v1, v2]] w (KeptPost l t sn bl w) := by
  have hlt := fun b => Own.block_lt h1 (b := b)
  obtain ⟨As, cs, rfl, _, _, hs, _⟩ := Own.rds (en1_len _) h1
  obtain ⟨Ab, cb, rfl, _, _, hb, _⟩ := Own.rds File.enc_len h2
  refine (entries_any Al At As Ab cl ct cs cb l t sn bl w hl ht hs (fun ad e => (hlt ad.block (by rw [e]; rfl)).2) hb ml mt ms mb).mono ?_
  rintro e w' ⟨v1, v2, S, rfl, hS, ho1, ho2, hB⟩
  obtain ⟨A1, k1, rfl, _, _, hr1, _⟩ := Own.rds Ent.enc_len ho1
  obtain ⟨A2, k2, rfl, _, _, hr2, _⟩ := Own.rds Tomb.enc_len ho2
  exact ⟨S, A1, k1, A2, k2, rfl, hS, hr1, hr2, hB⟩
set_option maxHeartbeats 2000000 in
set_option maxRecDepth 100000 in
theorem probe_any (w : World) : Calls Try.prog 6 #[] w fun e w' => e = .returned (.bool true) ∧ Below w.heap.size w w' := by
  go_enter Try.func6, Try.ntmps6
  go_wp2_with fail
  refine (entries_kept (some ⟨w.heap.size, 0, none⟩) none 1 0 (.slice none 0 0) (.slice none 0 0) [ent1] [] [] [] 0 _ ?_ Rds.nil (Own.nil _ _ _) (Own.nil _ _ _) (by simp) (by simp) (by simp) (by simp)).mono ?_
  · intro j x hx
    have hj : j = 0 := by
      have := (List.getElem?_eq_some_iff.1 hx).1
      simp at this
      exact this
    subst hj
    simp at hx
    subst hx
    refine ⟨_, rfl, fun i u hu => ?_⟩
    have hh := World.news_of_block (heap_alloc_new w (.cells #[.string ⟨#[97]⟩, .int .u64 1, .int .i64 1, .string ⟨#[]⟩] 48)) i u hu
    simpa using hh
  rintro e w1 ⟨S, A1, k1, A2, k2, rfl, hS, hr1, hr2, hB⟩
  obtain rfl := rising_nil hS
  have hk : keptE [] [] [] [ent1] = [ent1] := by rw [all_e, sorted1]
  have hr : Rds Ent.enc 4 w1 A1 [ent1] := hk ▸ hr1
  obtain ⟨ad, rfl, c0, -⟩ := Rds.at4 hr (j := 0) (x := ent1) rfl rfl
  have HB := Lib.hid hB
  have c0' : w1.cell? ad = some (.string ⟨#[97]⟩) := by simpa [ent1, Addr.add] using c0
  have hlen : (keptE [] [] [] [ent1]).length = 1 := by rw [hk]; rfl
  clear hr1 hr2 hr hB hS c0 hk
  go_wp2_with fail
  go_ret
  refine ⟨rfl, ?_⟩
  have hb := HB.out
  exact ((Below.refl _ _).alloc (Nat.le_refl _) _).next hb
end Go.Proofs.Ytjiijddlbfgafaa
