/- Rows in memory: a slice that is read ('Rds'), a slice of the call's own ('Own'). Plain theorems over the model; no program in sight. -/
import Derived.WalkKit
import Derived.WalkSpells
import Derived.WalkLawsBesides
import Derived.Maps.AppendAt
import Derived.Below
set_option linter.unusedVariables false
namespace Go.Proofs.Ytjiijddlbfgafaa
open Go.RowKit

theorem ret_int {k : IntKind} {a b : Int} (h : a = b) : Ending.returned (.int k a) = .returned (.int k b) := by rw [h]
theorem ret_bool {a b : Bool} (h : a = b) : Ending.returned (.bool a) = .returned (.bool b) := by rw [h]
theorem Calls.flip {P : Program} {f : FuncId} {args : Array Value} {w : World} {v : Value} (h : Calls P f args w fun e w' => e = .returned v ∧ w = w') : Calls P f args w fun e w' => e = .returned v ∧ w' = w :=
  h.mono fun _ _ h => ⟨h.1, h.2.symm⟩

theorem cell_below {w w1 : World} (h : Below w.heap.size w w1) {a : Addr} {v : Value} (hc : w.cell? a = some v) : w1.cell? a = some v := (h.cell (World.block_lt_of_cell? w a hc)).trans hc
theorem bcell {W w1 : World} (hb : Below W.heap.size W w1) : (∀ b o, b < W.heap.size → w1.cell? ⟨b, o, none⟩ = W.cell? ⟨b, o, none⟩) ∧ (∀ b o, b < W.heap.size → w1.frozen? ⟨b, o, none⟩ = W.frozen? ⟨b, o, none⟩) :=
  ⟨fun b o h => hb.cell (p := ⟨b, o, none⟩) h, fun b o h => hb.frozen (p := ⟨b, o, none⟩) h⟩
theorem _root_.Go.RowKit.Below.then {B : Nat} {w w1 w2 : World} (h : Below B w w1) (hB : B ≤ w1.heap.size) (k : Below w1.heap.size w1 w2) : Below B w w2 :=
  h.trans ⟨k.os, k.tape, k.output, k.size, fun i hi => k.block i (Nat.lt_of_lt_of_le hi hB)⟩
/-- Two steps, both from the heap's end on. -/
theorem _root_.Go.RowKit.Below.next {w w1 w2 : World} (h : Below w.heap.size w w1) (k : Below w1.heap.size w1 w2) : Below w.heap.size w w2 := Below.then h h.size k
theorem _root_.Go.RowKit.Below.drewN {B : Nat} {w w1 : World} (h : Below B w w1) (n : Nat) : Below B w (w1.drewN n) := ⟨h.os, h.tape, h.output, h.size, h.block⟩

section
variable {α : Type} {enc : α → List Value} {k : Nat} {w w1 : World} {A : Option Addr} {xs : List α}
/-- The slice at A holds xs, k cells an element. -/
def Rds (enc : α → List Value) (k : Nat) (w : World) (A : Option Addr) (xs : List α) : Prop :=
  ∀ j x, xs[j]? = some x → ∃ ad, A = some ad ∧ ∀ i u, (enc x)[i]? = some u → w.cell? (ad.add (j * k + i)) = some u

theorem Rds.below (h : Rds enc k w A xs) (hb : Below w.heap.size w w1) : Rds enc k w1 A xs := fun j x hx => by
  obtain ⟨ad, e, hc⟩ := h j x hx
  exact ⟨ad, e, fun i u hu => cell_below hb (hc i u hu)⟩
theorem Rds.nil : Rds enc k w A ([] : List α) := fun j x hx => by simp at hx

theorem add_field (ad : Addr) (m j : Nat) (hj : 0 < j) : ad.add (m + j) = ⟨(ad.add m).block, (ad.add m).off + j, none⟩ := by
  unfold Addr.add
  by_cases hm : m = 0
  · subst hm
    simp [Nat.ne_of_gt hj]
  · simp [hm, Nat.add_assoc]

/-- An element's cells as the walk spells them. -/
theorem Rds.at1 {j : Nat} {x : α} {c0 : Value} (h : Rds enc 1 w A xs) (hx : xs[j]? = some x) (he : enc x = [c0]) : ∃ ad, A = some ad ∧ w.cell? (ad.add j) = some c0 := by
  obtain ⟨ad, e, hc⟩ := h j x hx
  exact ⟨ad, e, by simpa using hc 0 c0 (by simp [he])⟩
theorem Rds.at3 {j : Nat} {x : α} {c0 c1 c2 : Value} (h : Rds enc 3 w A xs) (hx : xs[j]? = some x) (he : enc x = [c0, c1, c2]) :
    ∃ ad, A = some ad ∧ w.cell? (ad.add (j * 3)) = some c0 ∧ w.cell? ⟨(ad.add (j * 3)).block, (ad.add (j * 3)).off + 1, none⟩ = some c1 ∧ w.cell? ⟨(ad.add (j * 3)).block, (ad.add (j * 3)).off + 2, none⟩ = some c2 := by
  obtain ⟨ad, e, hc⟩ := h j x hx
  refine ⟨ad, e, by simpa using hc 0 c0 (by simp [he]), ?_, ?_⟩
  · rw [← add_field ad (j * 3) 1 (by omega)]; exact hc 1 c1 (by simp [he])
  · rw [← add_field ad (j * 3) 2 (by omega)]; exact hc 2 c2 (by simp [he])
theorem Rds.at4 {j : Nat} {x : α} {c0 c1 c2 c3 : Value} (h : Rds enc 4 w A xs) (hx : xs[j]? = some x) (he : enc x = [c0, c1, c2, c3]) :
    ∃ ad, A = some ad ∧ w.cell? (ad.add (j * 4)) = some c0 ∧ w.cell? ⟨(ad.add (j * 4)).block, (ad.add (j * 4)).off + 1, none⟩ = some c1 ∧ w.cell? ⟨(ad.add (j * 4)).block, (ad.add (j * 4)).off + 2, none⟩ = some c2 ∧
      w.cell? ⟨(ad.add (j * 4)).block, (ad.add (j * 4)).off + 3, none⟩ = some c3 := by
  obtain ⟨ad, e, hc⟩ := h j x hx
  refine ⟨ad, e, by simpa using hc 0 c0 (by simp [he]), ?_, ?_, ?_⟩
  · rw [← add_field ad (j * 4) 1 (by omega)]; exact hc 1 c1 (by simp [he])
  · rw [← add_field ad (j * 4) 2 (by omega)]; exact hc 2 c2 (by simp [he])
  · rw [← add_field ad (j * 4) 3 (by omega)]; exact hc 3 c3 (by simp [he])
theorem Rds.at6 {j : Nat} {x : α} {c0 c1 c2 c3 c4 c5 : Value} (h : Rds enc 6 w A xs) (hx : xs[j]? = some x) (he : enc x = [c0, c1, c2, c3, c4, c5]) :
    ∃ ad, A = some ad ∧ w.cell? (ad.add (j * 6)) = some c0 ∧ w.cell? ⟨(ad.add (j * 6)).block, (ad.add (j * 6)).off + 1, none⟩ = some c1 ∧ w.cell? ⟨(ad.add (j * 6)).block, (ad.add (j * 6)).off + 2, none⟩ = some c2 ∧
      w.cell? ⟨(ad.add (j * 6)).block, (ad.add (j * 6)).off + 3, none⟩ = some c3 ∧ w.cell? ⟨(ad.add (j * 6)).block, (ad.add (j * 6)).off + 4, none⟩ = some c4 ∧ w.cell? ⟨(ad.add (j * 6)).block, (ad.add (j * 6)).off + 5, none⟩ = some c5 := by
  obtain ⟨ad, e, hc⟩ := h j x hx
  refine ⟨ad, e, by simpa using hc 0 c0 (by simp [he]), ?_, ?_, ?_, ?_, ?_⟩
  · rw [← add_field ad (j * 6) 1 (by omega)]; exact hc 1 c1 (by simp [he])
  · rw [← add_field ad (j * 6) 2 (by omega)]; exact hc 2 c2 (by simp [he])
  · rw [← add_field ad (j * 6) 3 (by omega)]; exact hc 3 c3 (by simp [he])
  · rw [← add_field ad (j * 6) 4 (by omega)]; exact hc 4 c4 (by simp [he])
  · rw [← add_field ad (j * 6) 5 (by omega)]; exact hc 5 c5 (by simp [he])
end

section
variable {α : Type} {enc : α → List Value} {k : Nat} {w w1 : World} {base : Nat} {T : TypeId} {v : Value} {xs : List α}
/-- The slice v is the call's own, and holds xs. -/
def Own (enc : α → List Value) (k : Nat) (T : TypeId) (w : World) (base : Nat) (v : Value) (xs : List α) : Prop :=
  w.ownsRow base T k v xs.length (xs.flatMap enc)

theorem flatMap_get (hk : ∀ x, (enc x).length = k) : ∀ (xs : List α) (j i : Nat) (x : α), xs[j]? = some x → i < k → (xs.flatMap enc)[j * k + i]? = (enc x)[i]?
  | [], j, i, x, h, _ => by simp at h
  | y :: ys, 0, i, x, h, hi => by
    simp at h; subst h
    rw [List.flatMap_cons, Nat.zero_mul, Nat.zero_add, List.getElem?_append_left (by rw [hk]; exact hi)]
  | y :: ys, j + 1, i, x, h, hi => by
    rw [List.flatMap_cons, List.getElem?_append_right (by rw [hk, Nat.add_mul]; omega), hk, ← flatMap_get hk ys j i x (by simpa using h) hi]
    congr 1
    rw [Nat.add_mul]; omega
theorem flatMap_len (hk : ∀ x, (enc x).length = k) (xs : List α) : (xs.flatMap enc).length = xs.length * k := by
  induction xs with
  | nil => simp
  | cons x xs ih => rw [List.flatMap_cons, List.length_append, hk, ih, List.length_cons, Nat.add_mul]; omega

/-- What is owned is read. -/
theorem Own.rds (hk : ∀ x, (enc x).length = k) (h : Own enc k T w base v xs) : ∃ A c, v = .slice A xs.length c ∧ xs.length ≤ c ∧ xs.length ≤ maxLen ∧ Rds enc k w A xs ∧ (∀ g, A = some g → g = ⟨g.block, 0, none⟩) := by
  rcases h.2 with ⟨rfl, h0⟩ | ⟨g, cap, cur, rfl, hb, hg, hc, hm, hs, ht⟩
  · obtain rfl : xs = [] := List.eq_nil_of_length_eq_zero h0
    exact ⟨none, 0, by simp, by simp, by simp, Rds.nil, fun g hg => by cases hg⟩
  · refine ⟨some ⟨g, 0, none⟩, cap, rfl, hc, Nat.le_trans hc hm, fun j x hx => ⟨_, rfl, fun i u hu => ?_⟩, fun a ha => by cases ha; rfl⟩
    have hi : i < k := by rw [← hk x]; exact (List.getElem?_eq_some_iff.1 hu).1
    exact h.cells (g := g) rfl _ u (by rw [flatMap_get hk xs j i x hx hi]; exact hu)
theorem Own.below (h : Own enc k T w base v xs) (hb : Below w.heap.size w w1) : Own enc k T w1 base v xs :=
  h.kept (row := none) ⟨hb.os, hb.tape, hb.output, hb.size, fun i hi _ => hb.block i hi⟩ (by cases v.ownBlock <;> simp)
theorem Own.nil (w : World) (base : Nat) (T : TypeId) : Own enc k T w base (.slice none 0 0) ([] : List α) := World.ownsRow_nil w base T k
end
end Go.Proofs.Ytjiijddlbfgafaa
