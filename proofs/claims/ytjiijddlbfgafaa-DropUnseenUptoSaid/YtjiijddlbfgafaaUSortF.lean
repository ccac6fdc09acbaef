/- slices.choosePivotOrdered at uint64. PRINTED BY wip/tpl/SortU.py. -/
import Derived.Test.YtjiijddlbfgafaaUSortE
set_option linter.unusedVariables false
set_option linter.unusedSimpArgs false
namespace Go.Proofs.Ytjiijddlbfgafaa
open Go.Shelf Go.RowKit Go.Lib Go.Sort
def PivPost (w0 : World) (blk off n : Nat) (d : Array Int) (a b : Nat) (e : Ending) (W : World) : Prop :=
  ∃ p h : Nat, e = .returned (.tuple #[.int .i64 p, .int .i64 h]) ∧ a ≤ p ∧ p < b ∧ UW w0 blk off n d W
set_option maxHeartbeats 4000000 in
set_option maxRecDepth 1000000 in
theorem pivotU {w0 : World} {blk off n : Nat} (cap : Nat) (hn : n < 281474976710656) (a b : Nat) (d : Array Int) (w : World) (U : UW w0 blk off n d w) (hab : a < b) (hb : b ≤ n) :
    Calls Try.prog 51 #[.slice (some ⟨blk, off, none⟩) n cap, .int .i64 a, .int .i64 b] w (PivPost w0 blk off n d a b) := by
  have U1 : Aside (UC w0 blk off n d w.heap.size (w.alloc (.cells #[.int .i64 0] 3))) := UC.start U _
  have MA := Lib.hid (@medianAdjU w0 blk off n cap hn)
  have ME := Lib.hid (@medianU w0 blk off n cap hn)
  clear U
  obtain ⟨I, hI⟩ : ∃ I, I = a + (b - a) / 4 := ⟨_, rfl⟩
  obtain ⟨J, hJ⟩ : ∃ J, J = a + (b - a) / 4 * 2 := ⟨_, rfl⟩
  obtain ⟨K, hK⟩ : ∃ K, K = a + (b - a) / 4 * 3 := ⟨_, rfl⟩
  have EI := Lib.hid (show (a : Int) + ((b : Int) - (a : Int)) / 4 = (I : Int) by omega)
  have EJ := Lib.hid (show (a : Int) + ((b : Int) - (a : Int)) / 4 * 2 = (J : Int) by omega)
  have EK := Lib.hid (show (a : Int) + ((b : Int) - (a : Int)) / 4 * 3 = (K : Int) by omega)
  have gJ : a ≤ J ∧ J < b := by omega
  by_cases h8 : b < a + 8
  · have z8 : ¬ (8 : Int) ≤ (b : Int) - (a : Int) := by omega
    clear hI hJ hK
    go_enter Try.func51, Try.ntmps51
    go_wp2_with fail
    rw [EJ.out]
    go_ret2
    exact ⟨J, 1, rfl, gJ.1, gJ.2, U1.out.uw⟩
  · have z8 : (8 : Int) ≤ (b : Int) - (a : Int) := by omega
    by_cases h50 : b < a + 50
    · have z50 : ¬ (50 : Int) ≤ (b : Int) - (a : Int) := by omega
      have g1 : a ≤ I ∧ I < b := by omega
      have g3 : a ≤ K ∧ K < b := by omega
      clear hI hJ hK
      go_enter Try.func51, Try.ntmps51
      go_wp2_with fail
      rw [EI.out, EJ.out, EK.out]
      refine (ME.out I J K w.heap.size d _ U1.out (by omega) (by omega) (by omega)).mono ?_
      rintro e w5 ⟨r, rfl, hr, U5⟩
      have U5 : Aside (UC w0 blk off n d w.heap.size w5) := U5
      have br : a ≤ r ∧ r < b := by rcases hr with h | h | h <;> omega
      clear hr U1
      obtain ⟨s, hs⟩ := U5.out.cnt
      go_wp2_with fail
      all_goals go_ret2
      all_goals first | exact ⟨r, 1, rfl, by omega, by omega, U5.out.uw⟩ | exact ⟨r, 2, rfl, by omega, by omega, U5.out.uw⟩ | exact ⟨r, 0, rfl, by omega, by omega, U5.out.uw⟩
    · have z50 : (50 : Int) ≤ (b : Int) - (a : Int) := by omega
      have g1 : a + 12 ≤ I ∧ I + 24 < b := by omega
      have g2 : a + 12 ≤ J ∧ J + 12 < b := by omega
      have g3 : a + 12 ≤ K ∧ K + 1 < b := by omega
      clear hI hJ hK
      go_enter Try.func51, Try.ntmps51
      go_wp2_with fail
      go_wp2_with fail
      rw [EI.out, EJ.out, EK.out]
      refine (MA.out I w.heap.size d _ U1.out (by omega) (by omega)).mono ?_
      rintro e w2 ⟨x, rfl, hx, U2⟩
      have U2 : Aside (UC w0 blk off n d w.heap.size w2) := U2
      have qx : I ≤ x + 1 ∧ x ≤ I + 1 := by omega
      clear hx U1
      go_wp2_with fail

      refine (MA.out J w.heap.size d w2 U2.out (by omega) (by omega)).mono ?_
      rintro e w3 ⟨y, rfl, hy, U3⟩
      have U3 : Aside (UC w0 blk off n d w.heap.size w3) := U3
      have qy : J ≤ y + 1 ∧ y ≤ J + 1 := by omega
      clear hy U2
      go_wp2_with fail

      refine (MA.out K w.heap.size d w3 U3.out (by omega) (by omega)).mono ?_
      rintro e w4 ⟨z, rfl, hz, U4⟩
      have U4 : Aside (UC w0 blk off n d w.heap.size w4) := U4
      have qz : K ≤ z + 1 ∧ z ≤ K + 1 := by omega
      clear hz U3
      go_wp2_with fail
      refine (ME.out x y z w.heap.size d w4 U4.out (by omega) (by omega) (by omega)).mono ?_
      rintro e w5 ⟨r, rfl, hr, U5⟩
      have U5 : Aside (UC w0 blk off n d w.heap.size w5) := U5
      have br : a ≤ r ∧ r < b := by rcases hr with h | h | h <;> omega
      clear hr U4
      obtain ⟨s, hs⟩ := U5.out.cnt
      go_wp2_with fail
      all_goals go_ret2
      all_goals first | exact ⟨r, 1, rfl, by omega, by omega, U5.out.uw⟩ | exact ⟨r, 2, rfl, by omega, by omega, U5.out.uw⟩ | exact ⟨r, 0, rfl, by omega, by omega, U5.out.uw⟩

end Go.Proofs.Ytjiijddlbfgafaa
