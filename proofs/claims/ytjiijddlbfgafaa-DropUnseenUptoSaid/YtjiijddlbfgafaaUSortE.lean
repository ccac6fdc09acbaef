/- slices.order2Ordered, medianOrdered, medianAdjacentOrdered at uint64. PRINTED BY wip/tpl/SortU.py. -/
import Derived.Test.YtjiijddlbfgafaaUKit
set_option linter.unusedVariables false
set_option linter.unusedSimpArgs false
namespace Go.Proofs.Ytjiijddlbfgafaa
open Go.Shelf Go.RowKit Go.Lib Go.Sort
/-- .. and the counter's cell, in a block laid since the sort began, holds some number. -/
structure UC (w0 : World) (blk off n : Nat) (d : Array Int) (c : Nat) (W : World) : Prop where
  uw : UW w0 blk off n d W
  cnt : ∃ s : Int, W.cell? ⟨c, 0, none⟩ = some (.int .i64 s)
  free : W.frozen? ⟨c, 0, none⟩ = false
  lo : w0.heap.size ≤ c
  hi : c < W.heap.size
theorem UC.drewN {w0 : World} {blk off n : Nat} {d : Array Int} {c : Nat} {W : World} (h : UC w0 blk off n d c W) (q : Nat) : UC w0 blk off n d c (W.drewN q) := ⟨h.uw.drewN q, h.cnt, h.free, h.lo, h.hi⟩
theorem UC.bump {w0 : World} {blk off n : Nat} {d : Array Int} {c : Nat} {W : World} (h : UC w0 blk off n d c W) (t : Int) : UC w0 blk off n d c (W.setCell ⟨c, 0, none⟩ (.int .i64 t)) := by
  obtain ⟨s, hs⟩ := h.cnt
  exact ⟨h.uw.setNew c 0 _ h.lo, ⟨t, World.cell?_setCell_same' _ _ _ (by rw [hs]; rfl)⟩, by rw [World.frozen?_setCell]; exact h.free, h.lo, by simpa using h.hi⟩
theorem UC.start {w0 : World} {blk off n : Nat} {d : Array Int} {W : World} (h : UW w0 blk off n d W) (T : TypeId) : UC w0 blk off n d W.heap.size (W.alloc (.cells #[.int .i64 0] T)) :=
  ⟨h.alloc _, ⟨0, by simp⟩, by simp, h.le, by simp⟩
def Ord2 (w0 : World) (blk off n : Nat) (d : Array Int) (c a b : Nat) (e : Ending) (W : World) : Prop :=
  ∃ x y : Nat, e = .returned (.tuple #[.int .i64 x, .int .i64 y]) ∧ (x = a ∧ y = b ∨ x = b ∧ y = a) ∧ UC w0 blk off n d c W
def Med (w0 : World) (blk off n : Nat) (d : Array Int) (c : Nat) (P : Nat → Prop) (e : Ending) (W : World) : Prop :=
  ∃ x : Nat, e = .returned (.int .i64 x) ∧ P x ∧ UC w0 blk off n d c W
set_option maxHeartbeats 4000000 in
set_option maxRecDepth 1000000 in
theorem order2U {w0 : World} {blk off n : Nat} (cap : Nat) (hn : n < 281474976710656) (a b c : Nat) (d : Array Int) (w : World) (U : UC w0 blk off n d c w) (ha : a < n) (hb : b < n) :
    Calls Try.prog 68 #[.slice (some ⟨blk, off, none⟩) n cap, .int .i64 a, .int .i64 b, .pointer (some ⟨c, 0, none⟩)] w (Ord2 w0 blk off n d c a b) := by
  have U0 : Aside (UW w0 blk off n d w) := U.uw
  have UU := Lib.hid U
  clear U
  go_enter Try.func68, Try.ntmps68
  go_wp2
  cases hL : ltInt d[b]! d[a]! with
  | true =>
    have hcw : ∀ t, t < n → w.cell? ⟨blk, off + t, none⟩ = some (.int .u64 d[t]!) := U0.out.cell
    have hfw : ∀ t, t < n → w.frozen? ⟨blk, off + t, none⟩ = false := U0.out.free
    go_wp2_with fail
    go_big_quiet (first | (go_at_call 30; refine Calls.quiet_of_same (lessL_any _ _ _)))
    have U2 : Aside (UC w0 blk off n d c (w.drewN nq)) := UU.out.drewN nq
    clear hcw hfw U0 UU
    generalize w.drewN nq = w2 at U2 ⊢
    clear nq
    obtain ⟨s, hs⟩ := U2.out.cnt
    have hf := U2.out.free
    rw [hL]
    go_wp2_with fail
    go_ret2
    exact ⟨b, a, rfl, .inr ⟨rfl, rfl⟩, U2.out.bump _⟩
  | false =>
    have hcw : ∀ t, t < n → w.cell? ⟨blk, off + t, none⟩ = some (.int .u64 d[t]!) := U0.out.cell
    have hfw : ∀ t, t < n → w.frozen? ⟨blk, off + t, none⟩ = false := U0.out.free
    go_wp2_with fail
    go_big_quiet (first | (go_at_call 30; refine Calls.quiet_of_same (lessL_any _ _ _)))
    have U2 : Aside (UC w0 blk off n d c (w.drewN nq)) := UU.out.drewN nq
    clear hcw hfw U0 UU
    generalize w.drewN nq = w2 at U2 ⊢
    clear nq
    rw [hL]
    go_wp2_with fail
    go_ret2
    exact ⟨a, b, rfl, .inl ⟨rfl, rfl⟩, U2.out⟩
set_option maxHeartbeats 4000000 in
set_option maxRecDepth 1000000 in
theorem medianU {w0 : World} {blk off n : Nat} (cap : Nat) (hn : n < 281474976710656) (x y z c : Nat) (d : Array Int) (w : World) (U : UC w0 blk off n d c w) (hx : x < n) (hy : y < n) (hz : z < n) :
    Calls Try.prog 65 #[.slice (some ⟨blk, off, none⟩) n cap, .int .i64 x, .int .i64 y, .int .i64 z, .pointer (some ⟨c, 0, none⟩)] w (Med w0 blk off n d c (fun r => r = x ∨ r = y ∨ r = z)) := by
  have U0 : Aside (UC w0 blk off n d c w) := U
  have HO := Lib.hid (@order2U w0 blk off n cap hn)
  clear U
  go_enter Try.func65, Try.ntmps65
  go_wp2_with fail
  refine (HO.out x y c d w U0.out hx hy).mono ?_
  rintro e w1 ⟨p, q, rfl, h1, U1⟩
  have U1 : Aside (UC w0 blk off n d c w1) := U1
  have H1 := Lib.hid h1
  have hp : p < n := by omega
  have hq : q < n := by omega
  clear h1 U0
  go_wp2_with fail
  refine (HO.out q z c d w1 U1.out hq hz).mono ?_
  rintro e w2 ⟨r, s, rfl, h2, U2⟩
  have U2 : Aside (UC w0 blk off n d c w2) := U2
  have H2 := Lib.hid h2
  have hr : r < n := by omega
  clear h2 U1
  go_wp2_with fail
  refine (HO.out p r c d w2 U2.out hp hr).mono ?_
  rintro e w3 ⟨u, v, rfl, h3, U3⟩
  have U3 : Aside (UC w0 blk off n d c w3) := U3
  have H3 := Lib.hid h3
  clear h3 U2
  go_wp2_with fail
  go_ret
  exact ⟨v, rfl, by have := H1.out; have := H2.out; have := H3.out; omega, U3.out⟩
set_option maxHeartbeats 4000000 in
set_option maxRecDepth 1000000 in
theorem medianAdjU {w0 : World} {blk off n : Nat} (cap : Nat) (hn : n < 281474976710656) (x c : Nat) (d : Array Int) (w : World) (U : UC w0 blk off n d c w) (hx : 1 ≤ x) (hx2 : x + 1 < n) :
    Calls Try.prog 64 #[.slice (some ⟨blk, off, none⟩) n cap, .int .i64 x, .pointer (some ⟨c, 0, none⟩)] w (Med w0 blk off n d c (fun r => r = x - 1 ∨ r = x ∨ r = x + 1)) := by
  have hc := @medianU w0 blk off n cap hn (x - 1) x (x + 1) c d w U (by omega) (by omega) hx2
  rw [show ((x - 1 : Nat) : Int) = (x : Int) - 1 by omega, show ((x + 1 : Nat) : Int) = (x : Int) + 1 by omega] at hc
  have HC := Lib.hid hc
  clear hc U
  go_enter Try.func64, Try.ntmps64
  go_wp2_with fail
  refine HC.out.mono ?_
  rintro e w1 ⟨p, rfl, h1, U1⟩
  have H1 := Lib.hid h1
  clear h1
  go_wp2_with fail
  go_ret
  exact ⟨p, rfl, H1.out, U1⟩

end Go.Proofs.Ytjiijddlbfgafaa
