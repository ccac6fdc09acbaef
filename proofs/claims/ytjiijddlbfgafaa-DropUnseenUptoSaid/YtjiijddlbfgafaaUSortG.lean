/- slices.breakPatternsOrdered at uint64. PRINTED BY wip/tpl/SortU.py. -/
import Derived.Test.YtjiijddlbfgafaaUKit
import Derived.Test.YtjiijddlbfgafaaShelf
import Derived.Sort.LotD5
import Derived.Laws.Bits64
import Derived.Laws.Bits64b
set_option linter.unusedVariables false
set_option linter.unusedSimpArgs false
namespace Go.Proofs.Ytjiijddlbfgafaa
open Go.Shelf Go.RowKit Go.Lib Go.Sort
/-- .. and the random number's cell. -/
structure UX (w0 : World) (blk off n : Nat) (d : Array Int) (c : Nat) (W : World) : Prop where
  uw : UW w0 blk off n d W
  rnd : ∃ X : Nat, X < 18446744073709551616 ∧ W.cell? ⟨c, 0, none⟩ = some (.int .u64 X)
  free : W.frozen? ⟨c, 0, none⟩ = false
  lo : w0.heap.size ≤ c
  hi : c < W.heap.size
theorem nextPow_any (L : Nat) (hL : 0 < L) (h : L < 281474976710656) (w : World) : Calls Try.prog 62 #[.int .i64 L] w fun e w' => (∃ M : Nat, e = .returned (.int .u64 M) ∧ L < M ∧ M ≤ 2 * L) ∧ w = w' := by
  refine (Try.nextPowerOfTwo L (by omega) w).mono ?_
  rintro e w' ⟨he, hw⟩
  rw [Nat.one_shiftLeft] at he
  exact ⟨⟨2 ^ bitsLen L, he, lt_two_pow_bitsLen L, two_pow_bitsLen_le hL⟩, hw.symm⟩
theorem UX.next {w0 : World} {blk off n : Nat} {d : Array Int} {c : Nat} {W : World} (h : UX w0 blk off n d c W) :
    Calls Try.prog 63 #[.pointer (some ⟨c, 0, none⟩)] W fun e w' => ∃ Y : Nat, e = .returned (.int .u64 Y) ∧ Y < 18446744073709551616 ∧ UX w0 blk off n d c w' := by
  obtain ⟨X, hX, hc⟩ := h.rnd
  refine (Try.xorshift_Next c 0 X hX W hc h.free).mono ?_
  rintro e w' ⟨he, rfl⟩
  refine ⟨xorNextN X, he, xorNextN_lt X hX, (h.uw.setNew c 0 _ h.lo).drewN 3, ⟨xorNextN X, xorNextN_lt X hX, ?_⟩, ?_, h.lo, ?_⟩
  · show (W.setCell ⟨c, 0, none⟩ (.int .u64 (xorNextN X : Nat))).cell? _ = _
    exact World.cell?_setCell_same' _ _ _ (by rw [hc]; rfl)
  · show (W.setCell ⟨c, 0, none⟩ (.int .u64 (xorNextN X : Nat))).frozen? _ = _
    rw [World.frozen?_setCell]; exact h.free
  · show c < (W.setCell ⟨c, 0, none⟩ (.int .u64 (xorNextN X : Nat))).heap.size
    simpa using h.hi
theorem UX.swap {w0 : World} {blk off n : Nat} {d : Array Int} {c : Nat} {W : World} (h : UX w0 blk off n d c W) (i j : Nat) (hi : i < n) (hj : j < n) :
    UX w0 blk off n (swp d i j) c ((W.setCell ⟨blk, off + i, none⟩ (.int .u64 d[j]!)).setCell ⟨blk, off + j, none⟩ (.int .u64 d[i]!)).drew := by
  obtain ⟨X, hX, hc⟩ := h.rnd
  have hne : c ≠ blk := by have := h.uw.blk; have := h.lo; omega
  refine ⟨h.uw.swap i j hi hj, ⟨X, hX, ?_⟩, ?_, h.lo, ?_⟩
  · show ((W.setCell ⟨blk, off + i, none⟩ (.int .u64 d[j]!)).setCell ⟨blk, off + j, none⟩ (.int .u64 d[i]!)).cell? _ = _
    rw [World.cell?_setCell_other _ _ _ _ (by intro e; simp only [Addr.mk.injEq] at e; exact hne e.1.symm), World.cell?_setCell_other _ _ _ _ (by intro e; simp only [Addr.mk.injEq] at e; exact hne e.1.symm)]
    exact hc
  · show ((W.setCell ⟨blk, off + i, none⟩ (.int .u64 d[j]!)).setCell ⟨blk, off + j, none⟩ (.int .u64 d[i]!)).frozen? _ = _
    rw [World.frozen?_setCell, World.frozen?_setCell]
    exact h.free
  · show c < ((W.setCell ⟨blk, off + i, none⟩ (.int .u64 d[j]!)).setCell ⟨blk, off + j, none⟩ (.int .u64 d[i]!)).heap.size
    simpa using h.hi
set_option maxHeartbeats 4000000 in
set_option maxRecDepth 1000000 in
theorem breakU {w0 : World} {blk off n : Nat} (cap : Nat) (hn : n < 281474976710656) (a b : Nat) (d : Array Int) (w : World) (U : UW w0 blk off n d w) (hab : a ≤ b) (hb : b ≤ n) :
    Calls Try.prog 50 #[.slice (some ⟨blk, off, none⟩) n cap, .int .i64 a, .int .i64 b] w (MovedPart w0 blk off n a b d) := by
  have HD := Lib.hid U.size
  by_cases h8 : b < a + 8
  · have z8 : ¬ (8 : Int) ≤ (b : Int) - (a : Int) := by omega
    have UU : Aside (UW w0 blk off n d w) := U
    clear U
    go_enter Try.func50, Try.ntmps50
    go_wp2
    go_end0
    exact ⟨rfl, d, UU.out, permIn_refl d a b⟩
  · have z8 : (8 : Int) ≤ (b : Int) - (a : Int) := by omega
    have UU : Aside (UX w0 blk off n d w.heap.size (w.alloc (.cells #[.int .u64 ((b - a : Nat) : Int)] 101))) :=
      ⟨U.alloc _, ⟨b - a, by omega, by simp⟩, by simp, U.le, by simp⟩
    have hp := nextPow_any (b - a) (by omega) (by omega)
    rw [show ((b - a : Nat) : Int) = (b : Int) - (a : Int) by omega] at UU hp
    have HPW := Lib.hid hp
    clear U hp
    go_enter Try.func50, Try.ntmps50
    go_wp2_with fail
    refine (HPW.out _).mono ?_
    rintro e w1 ⟨⟨M, rfl, hM1, hM2⟩, rfl⟩
    clear HPW
    generalize hgw : w.alloc (.cells #[.int .u64 ((b : Int) - (a : Int))] 101) = w1 at UU ⊢
    clear hgw
    go_wp2_with fail
    go_loopg [9] (b - a) (fun k s9 wr => ∃ (p : Nat) (dk : Array Int), s9 = .int .i64 p ∧ a ≤ p ∧ p ≤ a + (b - a) / 4 * 2 + 2 ∧ a + (b - a) / 4 * 2 + 2 - p ≤ k ∧ Aside (UX w0 blk off n dk w.heap.size wr) ∧ Aside (PermIn a b d dk))
    case atStart => exact ⟨a + (b - a) / 4 * 2 - 1, d, by congr 1; omega, by omega, by omega, by omega, UU, permIn_refl d a b⟩
    case round =>
      clear UU
      obtain ⟨p, dk, rfl, hap, hpt, hk, U1, HP⟩ := hrel
      by_cases hlt : p ≤ a + (b - a) / 4 * 2 + 1
      · have hltz : (p : Int) ≤ (a : Int) + ((b : Int) - (a : Int)) / 4 * 2 + 1 := by omega
        go_wp2_with fail
        refine U1.out.next.mono ?_
        rintro e w2 ⟨Y, rfl, hY, U2⟩
        have U2 : Aside (UX w0 blk off n dk w.heap.size w2) := U2
        obtain ⟨O, hO⟩ : ∃ O : Nat, O = Y &&& (M - 1) := ⟨_, rfl⟩
        have hOM : O ≤ M - 1 := by rw [hO]; exact Nat.and_le_right
        have ea : bits .and .u64 (Y : Int) ((M : Int) - 1) = (O : Int) := by
          rw [show ((M : Int) - 1) = ((M - 1 : Nat) : Int) by omega, bits_and_u64_nat _ _ hY (by omega), hO]
        clear hO hY U1
        by_cases hOL : O < b - a
        · have hoz : ¬ (b : Int) - (a : Int) ≤ (O : Int) := by omega
          by_cases hpo : p = a + O
          · subst hpo
            have U3 : Aside (UX w0 blk off n (swp dk (a + O) (a + O)) w.heap.size (((w2.setCell ⟨blk, off + (a + O), none⟩ (.int .u64 dk[a + O]!)).setCell ⟨blk, off + (a + O), none⟩ (.int .u64 dk[a + O]!)).drew)) := U2.out.swap (a + O) (a + O) (by omega) (by omega)
            have hcw : ∀ t, t < n → w2.cell? ⟨blk, off + t, none⟩ = some (.int .u64 dk[t]!) := U2.out.uw.cell
            have hfw : ∀ t, t < n → w2.frozen? ⟨blk, off + t, none⟩ = false := U2.out.uw.free
            clear U2
            go_wp2_with fail
            go_region
            clear hcw hfw
            generalize ((w2.setCell ⟨blk, off + (a + O), none⟩ (.int .u64 dk[a + O]!)).setCell ⟨blk, off + (a + O), none⟩ (.int .u64 dk[a + O]!)).drew = w3 at U3 ⊢
            go_wp2
            go_roundg (a + (b - a) / 4 * 2 + 2 - (a + O + 1))
            case measure => omega
            case rel => exact ⟨a + O + 1, swp dk (a + O) (a + O), by go_num, by omega, by omega, Nat.le_refl _, U3, (show Aside _ from perm_swap HP.out (by omega) (by omega) (by omega) (by omega) (by rw [HD.out]; exact hb))⟩
          · have hpz : ¬ (p : Int) = (a : Int) + (O : Int) := by omega
            have U3 : Aside (UX w0 blk off n (swp dk (p) (a + O)) w.heap.size (((w2.setCell ⟨blk, off + (p), none⟩ (.int .u64 dk[a + O]!)).setCell ⟨blk, off + (a + O), none⟩ (.int .u64 dk[p]!)).drew)) := U2.out.swap (p) (a + O) (by omega) (by omega)
            have hcw : ∀ t, t < n → w2.cell? ⟨blk, off + t, none⟩ = some (.int .u64 dk[t]!) := U2.out.uw.cell
            have hfw : ∀ t, t < n → w2.frozen? ⟨blk, off + t, none⟩ = false := U2.out.uw.free
            clear U2
            go_wp2_with fail
            go_region
            clear hcw hfw
            generalize ((w2.setCell ⟨blk, off + (p), none⟩ (.int .u64 dk[a + O]!)).setCell ⟨blk, off + (a + O), none⟩ (.int .u64 dk[p]!)).drew = w3 at U3 ⊢
            go_wp2
            go_roundg (a + (b - a) / 4 * 2 + 2 - (p + 1))
            case measure => omega
            case rel => exact ⟨p + 1, swp dk (p) (a + O), by go_num, by omega, by omega, Nat.le_refl _, U3, (show Aside _ from perm_swap HP.out (by omega) (by omega) (by omega) (by omega) (by rw [HD.out]; exact hb))⟩
        · have hoz : (b : Int) - (a : Int) ≤ (O : Int) := by omega
          obtain ⟨Q, hQ1, hQ2⟩ : ∃ Q, O ≤ b - a + Q ∧ b - a + Q ≤ O := ⟨O - (b - a), by omega, by omega⟩
          have EQ := Lib.hid (show (O : Int) - ((b : Int) - (a : Int)) = (Q : Int) by omega)
          go_wp2_with fail
          rw [EQ.out]
          by_cases hpo : p = a + Q
          · subst hpo
            have U3 : Aside (UX w0 blk off n (swp dk (a + Q) (a + Q)) w.heap.size (((w2.setCell ⟨blk, off + (a + Q), none⟩ (.int .u64 dk[a + Q]!)).setCell ⟨blk, off + (a + Q), none⟩ (.int .u64 dk[a + Q]!)).drew)) := U2.out.swap (a + Q) (a + Q) (by omega) (by omega)
            have hcw : ∀ t, t < n → w2.cell? ⟨blk, off + t, none⟩ = some (.int .u64 dk[t]!) := U2.out.uw.cell
            have hfw : ∀ t, t < n → w2.frozen? ⟨blk, off + t, none⟩ = false := U2.out.uw.free
            clear U2
            go_wp2_with fail
            go_region
            clear hcw hfw
            generalize ((w2.setCell ⟨blk, off + (a + Q), none⟩ (.int .u64 dk[a + Q]!)).setCell ⟨blk, off + (a + Q), none⟩ (.int .u64 dk[a + Q]!)).drew = w3 at U3 ⊢
            go_wp2
            go_roundg (a + (b - a) / 4 * 2 + 2 - (a + Q + 1))
            case measure => omega
            case rel => exact ⟨a + Q + 1, swp dk (a + Q) (a + Q), by go_num, by omega, by omega, Nat.le_refl _, U3, (show Aside _ from perm_swap HP.out (by omega) (by omega) (by omega) (by omega) (by rw [HD.out]; exact hb))⟩
          · have hpz : ¬ (p : Int) = (a : Int) + (Q : Int) := by omega
            have U3 : Aside (UX w0 blk off n (swp dk (p) (a + Q)) w.heap.size (((w2.setCell ⟨blk, off + (p), none⟩ (.int .u64 dk[a + Q]!)).setCell ⟨blk, off + (a + Q), none⟩ (.int .u64 dk[p]!)).drew)) := U2.out.swap (p) (a + Q) (by omega) (by omega)
            have hcw : ∀ t, t < n → w2.cell? ⟨blk, off + t, none⟩ = some (.int .u64 dk[t]!) := U2.out.uw.cell
            have hfw : ∀ t, t < n → w2.frozen? ⟨blk, off + t, none⟩ = false := U2.out.uw.free
            clear U2
            go_wp2_with fail
            go_region
            clear hcw hfw
            generalize ((w2.setCell ⟨blk, off + (p), none⟩ (.int .u64 dk[a + Q]!)).setCell ⟨blk, off + (a + Q), none⟩ (.int .u64 dk[p]!)).drew = w3 at U3 ⊢
            go_wp2
            go_roundg (a + (b - a) / 4 * 2 + 2 - (p + 1))
            case measure => omega
            case rel => exact ⟨p + 1, swp dk (p) (a + Q), by go_num, by omega, by omega, Nat.le_refl _, U3, (show Aside _ from perm_swap HP.out (by omega) (by omega) (by omega) (by omega) (by rw [HD.out]; exact hb))⟩
      · have hltz : ¬ (p : Int) ≤ (a : Int) + ((b : Int) - (a : Int)) / 4 * 2 + 1 := by omega
        go_wp2
        go_end0
        exact ⟨rfl, dk, U1.out.uw, HP.out⟩

end Go.Proofs.Ytjiijddlbfgafaa
