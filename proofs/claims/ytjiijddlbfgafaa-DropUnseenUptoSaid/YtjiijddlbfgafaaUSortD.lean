/- slices.heapSortOrdered at uint64. PRINTED BY wip/tpl/SortU.py. -/
import Derived.Test.YtjiijddlbfgafaaUSortC
import Derived.Sort.LotB
set_option linter.unusedVariables false
set_option linter.unusedSimpArgs false
namespace Go.Proofs.Ytjiijddlbfgafaa
open Go.Shelf Go.RowKit Go.Lib Go.Sort
theorem halfU {a b : Nat} (hab : a ≤ b) : ((b : Int) - (a : Int) - 1).tdiv 2 = (((b - a - 1) / 2 + 1 : Nat) : Int) - 1 := by
  by_cases h : a = b
  · subst h
    rw [show ((a : Int) - (a : Int) - 1) = -1 by omega]
    simp
  · rw [Int.tdiv_eq_ediv_of_nonneg (by omega)]
    omega
set_option maxHeartbeats 4000000 in
set_option maxRecDepth 1000000 in
theorem heapU {w0 : World} {blk off n : Nat} (cap : Nat) (hn : n < 281474976710656) (a b : Nat) (d : Array Int) (w : World) (U : UW w0 blk off n d w) (hab : a ≤ b) (hb : b ≤ n) :
    Calls Try.prog 49 #[.slice (some ⟨blk, off, none⟩) n cap, .int .i64 a, .int .i64 b] w (SortedPart w0 blk off n a b d) := by
  have ecast : ((b - a : Nat) : Int) = (b : Int) - (a : Int) := by omega
  have EC := Lib.hid ecast
  clear ecast
  have U0 : Aside (UW w0 blk off n d w) := U
  have HD := Lib.hid U.size
  clear U
  go_enter Try.func49, Try.ntmps49
  go_wp2
  go_loopg [9] ((b - a - 1) / 2 + 1) (fun k s9 wr => ∃ (m : Nat) (dk : Array Int), s9 = .int .i64 ((m : Int) - 1) ∧ m ≤ k ∧ m ≤ (b - a - 1) / 2 + 1 ∧ Aside (UW w0 blk off n dk wr) ∧ Aside (heapBuild ltInt (b - a) a m dk = heapBuild ltInt (b - a) a ((b - a - 1) / 2 + 1) d))
  case atStart => exact ⟨(b - a - 1) / 2 + 1, d, by rw [halfU hab], Nat.le_refl _, Nat.le_refl _, U0, (show Aside _ from rfl)⟩
  case round =>
    clear U0
    obtain ⟨m, dk, rfl, hmk, hm, U1, HE⟩ := hrel
    cases m with
    | zero =>
      have HB : Aside (dk = heapBuild ltInt (b - a) a ((b - a - 1) / 2 + 1) d) := HE.out
      clear HE hmk hm
      go_wp2
      go_loopg [10] (b - a) (fun k s10 wr2 => ∃ (m : Nat) (dj : Array Int), s10 = .int .i64 ((m : Int) - 1) ∧ m ≤ k ∧ m ≤ b - a ∧ Aside (UW w0 blk off n dj wr2) ∧ Aside (heapPop ltInt a m dj = heapPop ltInt a (b - a) dk))
      case atStart => exact ⟨b - a, dk, by rw [EC.out], Nat.le_refl _, Nat.le_refl _, U1, (show Aside _ from rfl)⟩
      case round =>
        clear U1
        obtain ⟨m, dj, rfl, hmk, hm, U2, HE⟩ := hrel
        cases m with
        | zero =>
          go_wp2
          go_end0
          have e : dj = heapSort ltInt d a b := by rw [heapSort, ← HB.out, ← HE.out]; rfl
          have := heapSort_holds (lt := ltInt) swo_ltInt d a b hab (by rw [HD.out]; exact hb)
          rw [← e] at this
          exact ⟨rfl, dj, U2.out, this.1, this.2⟩
        | succ m =>
          have SF := Lib.hid (@siftU w0 blk off n cap hn)
          rcases Nat.eq_zero_or_pos m with hm0 | hmp
          · subst hm0
            have U3 : Aside (UW w0 blk off n (swp dj (a) (a)) (((wr.setCell ⟨blk, off + (a), none⟩ (.int .u64 dj[a]!)).setCell ⟨blk, off + (a), none⟩ (.int .u64 dj[a]!)).drew)) := U2.out.swap (a) (a) (by omega) (by omega)
            have hcw : ∀ t, t < n → wr.cell? ⟨blk, off + t, none⟩ = some (.int .u64 dj[t]!) := U2.out.cell
            have hfw : ∀ t, t < n → wr.frozen? ⟨blk, off + t, none⟩ = false := U2.out.free
            clear U2
            go_wp2_with fail
            go_region
            clear hcw hfw
            generalize ((wr.setCell ⟨blk, off + (a), none⟩ (.int .u64 dj[a]!)).setCell ⟨blk, off + (a), none⟩ (.int .u64 dj[a]!)).drew = w3 at U3 ⊢
            go_wp2_with fail
            refine (SF.out 0 0 a _ w3 U3.out (Nat.le_refl _) (by omega)).mono ?_
            rintro e w4 ⟨rfl, d4, U4, h4⟩
            have U4 : Aside (UW w0 blk off n d4 w4) := U4
            have H4 := Lib.hid h4
            clear h4 U3 SF
            go_wp2
            go_roundg 0
            case measure => omega
            case rel => exact ⟨0, d4, by simp, Nat.le_refl _, Nat.zero_le _, U4, (show Aside _ from by rw [← HE.out, H4.out]; rfl)⟩
          · have hmz : 0 < (m : Int) := by omega
            have U3 : Aside (UW w0 blk off n (swp dj (a) (a + m)) (((wr.setCell ⟨blk, off + (a), none⟩ (.int .u64 dj[a + m]!)).setCell ⟨blk, off + (a + m), none⟩ (.int .u64 dj[a]!)).drew)) := U2.out.swap (a) (a + m) (by omega) (by omega)
            have hcw : ∀ t, t < n → wr.cell? ⟨blk, off + t, none⟩ = some (.int .u64 dj[t]!) := U2.out.cell
            have hfw : ∀ t, t < n → wr.frozen? ⟨blk, off + t, none⟩ = false := U2.out.free
            clear U2
            go_wp2_with fail
            go_region
            clear hcw hfw
            generalize ((wr.setCell ⟨blk, off + (a), none⟩ (.int .u64 dj[a + m]!)).setCell ⟨blk, off + (a + m), none⟩ (.int .u64 dj[a]!)).drew = w3 at U3 ⊢
            go_wp2_with fail
            refine (SF.out 0 m a _ w3 U3.out (Nat.zero_le _) (by omega)).mono ?_
            rintro e w4 ⟨rfl, d4, U4, h4⟩
            have U4 : Aside (UW w0 blk off n d4 w4) := U4
            have H4 := Lib.hid h4
            clear h4 U3 SF
            go_wp2
            go_roundg m
            case measure => omega
            case rel => exact ⟨m, d4, by first | rfl | simp | (congr 1; omega), Nat.le_refl _, by omega, U4, (show Aside _ from by rw [← HE.out, H4.out]; rfl)⟩
    | succ m =>
      have hm1 : m ≤ b - a := by omega
      have hc := @siftU w0 blk off n cap hn m (b - a) a dk wr U1.out hm1 (by omega)
      rw [EC.out] at hc
      have HC := Lib.hid hc
      clear hc U1
      go_wp2_with fail
      refine HC.out.mono ?_
      rintro e w4 ⟨rfl, d4, U4, h4⟩
      have U4 : Aside (UW w0 blk off n d4 w4) := U4
      have H4 := Lib.hid h4
      clear h4 HC
      go_wp2
      go_roundg m
      case measure => omega
      case rel => exact ⟨m, d4, by first | rfl | simp | (congr 1; omega), Nat.le_refl _, by omega, U4, (show Aside _ from by rw [← HE.out, H4.out]; rfl)⟩

end Go.Proofs.Ytjiijddlbfgafaa
