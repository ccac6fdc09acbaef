/- slices.BinarySearch at uint64. -/
import Derived.Test.YtjiijddlbfgafaaCmp
import Derived.Test.YtjiijddlbfgafaaOwnU
import Derived.CellFam
import Derived.Lib.Hide
import Derived.BigQuiet
import Derived.Deep.LoopGhost
set_option linter.unusedVariables false
set_option linter.unusedSimpArgs false
namespace Go.Proofs.Ytjiijddlbfgafaa
open Go.RowKit Go.Lib
/-- In which stripe a number lies: how many of S are less. -/
def strN (S : List Int) (q : Int) : Nat := (S.filter fun s => decide (s < q)).length
theorem strN_le (S : List Int) (q : Int) : strN S q ≤ S.length := List.length_filter_le _ _
theorem strN_of {S : List Int} {q : Int} {k : Nat} (hk : k ≤ S.length) (h1 : ∀ t, t < k → S[t]?.getD 0 < q) (h2 : ∀ t, k ≤ t → t < S.length → ¬ S[t]?.getD 0 < q) : strN S q = k := by
  unfold strN
  conv => lhs; rw [← List.take_append_drop k S]
  rw [List.filter_append, List.filter_eq_self.2, List.filter_eq_nil_iff.2]
  · simp [hk]
  · intro a ha
    obtain ⟨i, hi, rfl⟩ := List.getElem_of_mem ha
    have hi' : k + i < S.length := by simp at hi; omega
    have := h2 (k + i) (by omega) hi'
    rw [List.getElem?_eq_getElem hi'] at this
    simpa using this
  · intro a ha
    obtain ⟨i, hi, rfl⟩ := List.getElem_of_mem ha
    have hi' : i < S.length := by simp at hi; omega
    have := h1 i (by simp at hi; omega)
    rw [List.getElem?_eq_getElem hi'] at this
    simpa using this
set_option maxHeartbeats 400000 in
theorem isNaNS_any (a : Int) (w : World) : Calls Try.prog 31 #[.int .u64 a] w fun e w' => e = .returned (.bool false) ∧ w = w' := by
  go_enter Try.func31, Try.ntmps31
  go_wp2
  go_ret
  exact ⟨by simp, rfl⟩
def BinPost (S : List Int) (q : Int) (w : World) (e : Ending) (w' : World) : Prop := (∃ b, e = .returned (.tuple #[.int .i64 (strN S q), .bool b])) ∧ w = w'
set_option maxHeartbeats 2000000 in
set_option maxRecDepth 100000 in
theorem binU_any (A : Option Addr) (n c : Nat) (S : List Int) (q : Int) (w : World) (hn : S.length = n) (hm : n < 281474976710656) (hr : Rds (en1 (Value.int .u64)) 1 w A S) (hs : S.Pairwise (· < ·)) :
    Calls Try.prog 19 #[.slice A n c, .int .u64 q] w (BinPost S q w) := by
  have HN := Lib.hid hn
  have hcell : ∀ ad, A = some ad → ∀ t, t < n → w.cell? (ad.add t) = some (.int .u64 (S[t]?.getD 0)) := fun ad e t ht => by
    obtain ⟨ad', e', hc⟩ := hr t S[t] (List.getElem?_eq_getElem (by omega))
    rw [e] at e'
    cases e'
    have := hc 0 (.int .u64 S[t]) rfl
    rw [show t * 1 + 0 = t by omega] at this
    rw [this, List.getElem?_eq_getElem (by omega)]
    rfl
  have HS := Lib.hid hs
  have hA : 0 < n → ∃ ad, A = some ad := fun h => by
    obtain ⟨ad, e, _⟩ := hr 0 S[0] (List.getElem?_eq_getElem (by omega))
    exact ⟨ad, e⟩
  have HA := Lib.hid hA
  have HC := Lib.hid hcell
  clear hn hr hs hA hcell
  go_enter Try.func19, Try.ntmps19
  go_wp2_with fail
  go_loop [7, 8] (fun s7 s8 => ∃ i j : Nat, s7 = .int .i64 i ∧ s8 = .int .i64 j ∧ i ≤ j ∧ j ≤ n ∧ Hid (∀ t, t < i → S[t]?.getD 0 < q) ∧ Hid (∀ t, j ≤ t → t < n → q ≤ S[t]?.getD 0)) (fun s7 s8 => (intOf s8).toNat - (intOf s7).toNat)
  case atStart => exact ⟨0, n, rfl, rfl, Nat.zero_le _, Nat.le_refl _, Lib.hid (fun t ht => by omega), Lib.hid (fun t h1 h2 => by omega)⟩
  case round =>
    obtain ⟨i, j, rfl, rfl, hij, hjn, H1, H2⟩ := hrel
    by_cases hlt : i < j
    · have hltz : (i : Int) < (j : Int) := by omega
      obtain ⟨ad, rfl⟩ := HA.out (by omega)
      have hc := HC.out ad rfl ((i + j) / 2) (by omega)
      generalize hx : S[(i + j) / 2]?.getD 0 = x at hc
      have HX := Lib.hid hx
      clear hx
      by_cases hxq : x < q
      · go_wp2_with fail
        refine (lessU_any _ _ _).mono ?_
        rintro e w' ⟨rfl, rfl⟩
        go_wp2_with fail
        go_round
        case rel =>
          refine ⟨(i + j) / 2 + 1, j, by first | rfl | go_num | (congr 1; omega), rfl, by omega, hjn, Lib.hid (fun t ht => ?_), H2⟩
          rcases Nat.lt_or_ge t ((i + j) / 2) with h | h
          · have := (List.pairwise_iff_getElem.1 HS.out) t ((i + j) / 2) (by have := HN.out; omega) (by have := HN.out; omega) h
            have e := HX.out
            rw [List.getElem?_eq_getElem (by have := HN.out; omega)] at e ⊢
            simp only [Option.getD_some] at e ⊢
            omega
          · obtain rfl : t = (i + j) / 2 := by omega
            rw [HX.out]; exact hxq
        case measure => simp [intOf]; omega
      · go_wp2_with fail
        refine (lessU_any _ _ _).mono ?_
        rintro e w' ⟨rfl, rfl⟩
        go_wp2_with fail
        go_round
        case rel =>
          refine ⟨i, (i + j) / 2, rfl, by first | rfl | go_num | (congr 1; omega), by omega, by omega, H1, Lib.hid (fun t h1 h2 => ?_)⟩
          rcases Nat.lt_or_ge ((i + j) / 2) t with h | h
          · have := (List.pairwise_iff_getElem.1 HS.out) ((i + j) / 2) t (by have := HN.out; omega) (by have := HN.out; omega) h
            have e := HX.out
            rw [List.getElem?_eq_getElem (by have := HN.out; omega)] at e ⊢
            simp only [Option.getD_some] at e ⊢
            omega
          · obtain rfl : t = (i + j) / 2 := by omega
            rw [HX.out]; omega
        case measure => simp [intOf]; omega
    · have hltz : ¬ (i : Int) < (j : Int) := by omega
      obtain rfl : i = j := by omega
      have hst : strN S q = i := strN_of (by rw [HN.out]; exact hjn) H1.out (fun t h1 h2 => by have := H2.out t h1 (by rw [← HN.out]; exact h2); omega)
      have HST := Lib.hid hst
      clear hst
      by_cases hin : i < n
      · have hinz : (i : Int) < (n : Int) := by omega
        obtain ⟨ad, rfl⟩ := HA.out (by omega)
        have hc := HC.out ad rfl i hin
        generalize hx : S[i]?.getD 0 = x at hc
        clear hx
        cases hxq : ((x : Int) == q) with
        | true =>
          go_wp2_with (first | (go_at_call 31; refine (isNaNS_any _ _).mono ?_; rintro e w' ⟨rfl, rfl⟩))
          all_goals go_ret2
          all_goals (unfold BinPost; rw [HST.out]; exact ⟨⟨_, rfl⟩, rfl⟩)
        | false =>
          go_wp2_with (first | (go_at_call 31; refine (isNaNS_any _ _).mono ?_; rintro e w' ⟨rfl, rfl⟩))
          all_goals go_ret2
          all_goals (unfold BinPost; rw [HST.out]; exact ⟨⟨_, rfl⟩, rfl⟩)
      · have hinz : decide ((i : Int) < (n : Int)) = false := decide_eq_false (by omega)
        have hiny : ¬ (i : Int) < (n : Int) := by omega
        go_wp2_with fail
        all_goals go_ret2
        all_goals (unfold BinPost; rw [HST.out]; exact ⟨⟨_, rfl⟩, rfl⟩)
end Go.Proofs.Ytjiijddlbfgafaa
