/- drop.Entries: the stripe closure; a family of rows that the call owns. -/
import Derived.Test.YtjiijddlbfgafaaBin
import Derived.Test.YtjiijddlbfgafaaSorted
import Derived.Lib.Hide
set_option linter.unusedVariables false
set_option linter.unusedSimpArgs false
namespace Go.Proofs.Ytjiijddlbfgafaa
open Go.RowKit Go.Lib Go.Shelf
set_option maxHeartbeats 1000000 in
theorem stripe_any (A : Option Addr) (n c B : Nat) (S : List Int) (q : Int) (w : World) (hn : S.length = n) (hm : n < 281474976710656) (hr : Rds (en1 (Value.int .u64)) 1 w A S) (hs : S.Pairwise (· < ·))
    (hc : w.cell? ⟨B, 0, none⟩ = some (.slice A n c)) :
    Calls Try.prog 18 #[.int .u64 q, .pointer (some ⟨B, 0, none⟩)] w fun e w' => e = .returned (.int .i64 (strN S q)) ∧ w = w' := by
  have HC := Lib.hid (binU_any A n c S q w hn hm hr hs)
  clear hr hs
  go_enter Try.func18, Try.ntmps18
  go_wp2_with fail
  refine HC.out.mono ?_
  rintro e w' ⟨⟨b, rfl⟩, rfl⟩
  go_wp2_with fail
  go_ret
  exact ⟨rfl, rfl⟩

section
variable {α : Type} {enc : α → List Value} {k : Nat} {T : TypeId} {w w1 : World} {base n : Nat} {V : Nat → Value} {R : Nat → List α}
/-- Rows of the call's own, no two in one block. -/
structure Fam (enc : α → List Value) (k : Nat) (T : TypeId) (w : World) (base n : Nat) (V : Nat → Value) (R : Nat → List α) : Prop where
  own : ∀ i, i < n → Own enc k T w base (V i) (R i)
  apart : ∀ i j b, i < n → j < n → i ≠ j → (V i).ownBlock = some b → (V j).ownBlock ≠ some b
/-- A family in which one place is turned. -/
def setAt {β : Type} (f : Nat → β) (i : Nat) (x : β) : Nat → β := fun j => if j = i then x else f j
theorem setAt_same {β : Type} (f : Nat → β) (i : Nat) (x : β) : setAt f i x i = x := by simp [setAt]
theorem setAt_other {β : Type} (f : Nat → β) {i j : Nat} (x : β) (h : j ≠ i) : setAt f i x j = f j := by simp [setAt, h]
theorem Own.block_lt {v : Value} {xs : List α} (h : Own enc k T w base v xs) {b : Nat} (hb : v.ownBlock = some b) : base ≤ b ∧ b < w.heap.size := by
  rcases h.2 with ⟨rfl, _⟩ | ⟨g, cap, cur, rfl, h1, hg, _⟩
  · simp [Value.ownBlock] at hb
  · simp [Value.ownBlock] at hb
    subst hb
    exact ⟨h1, (Array.getElem?_eq_some_iff.1 hg).1⟩
/-- Whatever grows at none of the rows leaves the family. -/
theorem Fam.kept {row : Option Nat} (h : Fam enc k T w base n V R) (hg : w.grownBy w1 row) (hr : ∀ i, i < n → (V i).ownBlock = none ∨ (V i).ownBlock ≠ row) : Fam enc k T w1 base n V R :=
  ⟨fun i hi => (h.own i hi).kept hg (hr i hi), h.apart⟩
theorem Fam.below (h : Fam enc k T w base n V R) (hb : Below w.heap.size w w1) : Fam enc k T w1 base n V R :=
  ⟨fun i hi => (h.own i hi).below hb, h.apart⟩
/-- An append to row i. -/
theorem Fam.append {i : Nat} {v : Value} {ys : List α} (h : Fam enc k T w base n V R) (hi : i < n) (hg : w.grownBy w1 (V i).ownBlock) (ho : Own enc k T w1 base v ys)
    (hl : v.ownBlock = (V i).ownBlock ∨ v.ownBlock = some w.heap.size) : Fam enc k T w1 base n (setAt V i v) (setAt R i ys) := by
  have key : ∀ j b, j < n → j ≠ i → (V j).ownBlock = some b → v.ownBlock ≠ some b := fun j b hj hji hb hv => by
    rcases hl with e | e
    · rw [e] at hv; exact h.apart i j b hi hj (Ne.symm hji) hv hb
    · rw [e] at hv; cases hv; have := ((h.own j hj).block_lt hb).2; omega
  refine ⟨fun j hj => ?_, fun a b x ha hb hab => ?_⟩
  · by_cases e : j = i
    · subst e; rw [setAt_same, setAt_same]; exact ho
    · rw [setAt_other _ _ e, setAt_other _ _ e]
      refine (h.own j hj).kept hg ?_
      cases hb : (V j).ownBlock with
      | none => exact .inl rfl
      | some b => exact .inr fun e' => h.apart i j b hi hj (Ne.symm e) e'.symm hb
  · by_cases ea : a = i
    · subst ea
      rw [setAt_same, setAt_other _ _ (Ne.symm hab)]
      intro hv hb'
      exact key b x hb (Ne.symm hab) hb' hv
    · rw [setAt_other _ _ ea]
      intro hv
      by_cases eb : b = i
      · subst eb; rw [setAt_same]; intro hv'; exact key a x ha ea hv hv'
      · rw [setAt_other _ _ eb]; exact h.apart a b x ha hb hab hv
theorem Fam.nils (w : World) (base n : Nat) : Fam enc k T w base n (fun _ => .slice none 0 0) (fun _ => ([] : List α)) :=
  ⟨fun i hi => Own.nil w base T, fun i j b hi hj hij h => by simp [Value.ownBlock] at h⟩
end
end Go.Proofs.Ytjiijddlbfgafaa
