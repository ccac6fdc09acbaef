import Derived.Test.YtjiijddlbfgafaaCmp
import Derived.Deep.LoopGhost
set_option linter.unusedVariables false
set_option linter.unusedSimpArgs false
namespace Go.Proofs.Ytjiijddlbfgafaa
open Go.RowKit
set_option maxHeartbeats 1000000 in
set_option maxRecDepth 100000 in
theorem cover_any (A : Option Addr) (c : Nat) (l : List Tomb) (key : ByteArray) (seq : Int) (w : World) (hl : Rds Tomb.enc 3 w A l) (hc : l.length ≤ c) (hm : l.length ≤ 9223372036854775807) :
    Calls Try.prog 21 #[.slice A l.length c, .string key, .int .u64 seq] w fun e w' => e = .returned (.tuple #[.int .u64 (coverS l key seq).1, .bool (coverS l key seq).2]) ∧ Below w.heap.size w w' := by
  go_enter Try.func21, Try.ntmps21
  go_wp2
  go_loopw [8, 9, 14] (fun v8 v9 i wr => ∃ (j : Nat) (acc : Int × Bool), j ≤ l.length ∧ i = .int .i64 j ∧ v8 = .int .u64 acc.1 ∧ v9 = .bool acc.2 ∧ Hid ((l.take j).foldl (coverStep key seq) (0, false) = acc) ∧ Below w.heap.size w wr)
    (fun _ _ i _ => l.length - (intOf i).toNat)
  case atStart => exact ⟨0, (0, false), Nat.zero_le _, rfl, rfl, rfl, rfl, Below.refl _ _⟩
  case round =>
    obtain ⟨j, acc, hj, rfl, rfl, rfl, hacc, hb⟩ := hrel
    by_cases hlt : j < l.length
    · obtain ⟨t, ht⟩ : ∃ t, l[j]? = some t := ⟨l[j], List.getElem?_eq_getElem hlt⟩
      obtain ⟨ad, rfl, c0, c1, c2⟩ := Rds.at3 (hl.below hb) ht rfl
      have Ht : Hid (l[j]? = some t) := ht
      clear ht
      go_wp2_with (go_at_call 11; refine (valid_any t _).mono ?_; rintro e w' ⟨rfl, hv⟩; obtain ⟨hvc, hvf⟩ := bcell hv)
      all_goals
        go_roundw
        case measure => simp [intOf]; omega
        case rel =>
          refine ⟨j + 1, coverStep key seq acc t, by omega, by go_num, ?_, ?_, (foldl_take Ht.out).trans (by rw [hacc.out]), ?_⟩
          · first | (rw [coverStep_yes (by simp_all [kle, klt])]; done) | rw [coverStep_no (by intro hh; simp_all [kle, klt])]
          · first | (rw [coverStep_yes (by simp_all [kle, klt])]; done) | rw [coverStep_no (by intro hh; simp_all [kle, klt])]
          · exact ((hb.alloc hb.size _).then (by simp; have := hb.size; omega) hv)
    · go_wp2
      go_ret2
      obtain rfl : j = l.length := by omega
      exact ⟨by rw [← hacc.out, List.take_length]; rfl, hb⟩
end Go.Proofs.Ytjiijddlbfgafaa
