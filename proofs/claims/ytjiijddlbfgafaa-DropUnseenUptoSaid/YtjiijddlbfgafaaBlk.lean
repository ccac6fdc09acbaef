/- The stable sort's blocks, plain. No program in sight. -/
import Derived.Test.YtjiijddlbfgafaaRot
set_option linter.unusedVariables false
namespace Go.Proofs.Ytjiijddlbfgafaa
open Go.Sort
section
variable {α : Type} {lt : α → α → Bool}
/-- The blocks of bs places that begin below a are stably sorted. -/
def Done (lt : α → α → Bool) (bs a n : Nat) (g f : Nat → α) : Prop := ∀ s, bs ∣ s → s < a → StableOf lt (seg g s (min (s + bs) n)) (seg f s (min (s + bs) n))
/-- .. those from a on. -/
def Still (lt : α → α → Bool) (bs a n : Nat) (g f : Nat → α) : Prop := ∀ s, bs ∣ s → a ≤ s → s < n → StableOf lt (seg g s (min (s + bs) n)) (seg f s (min (s + bs) n))
theorem Done.start {bs n : Nat} {g f : Nat → α} : Done lt bs 0 n g f := fun s _ h => by omega
theorem next_mult {bs s a : Nat} (h1 : bs ∣ s) (h2 : bs ∣ a) (h : s < a) : s + bs ≤ a := by
  obtain ⟨x, rfl⟩ := h1
  obtain ⟨y, rfl⟩ := h2
  have h3 : x < y := Nat.lt_of_mul_lt_mul_left h
  have := Nat.mul_le_mul_left bs (show x + 1 ≤ y from h3)
  rw [Nat.mul_add, Nat.mul_one] at this
  exact this
theorem Done.step {bs a n b : Nat} {g g' f : Nat → α} (h : Done lt bs a n g f) (hd : bs ∣ a) (hb : b = min (a + bs) n) (out : ∀ t, t < a ∨ b ≤ t → g' t = g t) (st : StableOf lt (seg g' a b) (seg f a b)) : Done lt bs (a + bs) n g' f := by
  intro s h1 h2
  rcases Nat.lt_or_ge s a with h3 | h3
  · have := next_mult h1 hd h3
    rw [seg_congr (f := g') (g := g) (fun i h4 h5 => out i (.inl (by omega)))]
    exact h s h1 h3
  · obtain rfl : s = a := by
      rcases Nat.eq_or_lt_of_le h3 with h4 | h4
      · exact h4.symm
      · have := next_mult hd h1 h4
        omega
    rw [← hb]; exact st
theorem Done.mono {bs a c n : Nat} {g f : Nat → α} (h : Done lt bs a n g f) (hc : c ≤ a) : Done lt bs c n g f := fun s h1 h2 => h s h1 (by omega)
theorem Done.still {bs n : Nat} {g f : Nat → α} (h : Done lt bs n n g f) : Still lt bs 0 n g f := fun s h1 _ h3 => h s h1 h3
theorem Still.step {bs a c n : Nat} {g g' f : Nat → α} (h : Still lt bs a n g f) (hc : a ≤ c) (out : ∀ t, c ≤ t → g' t = g t) : Still lt bs c n g' f := fun s h1 h2 h3 => by
  rw [seg_congr (f := g') (g := g) (fun i h4 h5 => out i (by omega))]
  exact h s h1 (by omega) h3
/-- Two blocks that lie still are two sorted parts. -/
theorem Still.two (hO : SWO lt) {bs a n : Nat} {g f : Nat → α} (h : Still lt bs a n g f) (hd : bs ∣ a) (hb : 0 < bs) (hn : a + bs < n) : TwoSorted lt g a (a + bs) (min (a + 2 * bs) n) := by
  have h1 := h a hd (Nat.le_refl _) (by omega)
  have h2 := h (a + bs) (Nat.dvd_add hd (Nat.dvd_refl bs)) (by omega) hn
  rw [show min (a + bs) n = a + bs by omega] at h1
  rw [show a + bs + bs = a + 2 * bs by omega] at h2
  exact TwoSorted.of hO (by omega) (by omega) h1.sorted h2.sorted
theorem Still.merge (hO : SWO lt) {bs a n b : Nat} {g g' f : Nat → α} (h : Still lt bs a n g f) (hd : bs ∣ a) (hb : 0 < bs) (hn : a + bs < n) (hbb : b = min (a + 2 * bs) n) (st : StableOf lt (seg g' a b) (seg g a b)) : StableOf lt (seg g' a b) (seg f a b) := by
  have h1 := h a hd (Nat.le_refl _) (by omega)
  have h2 := h (a + bs) (Nat.dvd_add hd (Nat.dvd_refl bs)) (by omega) hn
  rw [show min (a + bs) n = a + bs by omega] at h1
  rw [show a + bs + bs = a + 2 * bs by omega, ← hbb] at h2
  rw [seg_split g (show a ≤ a + bs by omega) (show a + bs ≤ b by omega)] at st
  rw [seg_split f (show a ≤ a + bs by omega) (show a + bs ≤ b by omega)]
  exact st.parts h1 h2
/-- The last block, alone. -/
theorem Still.lone {bs a n : Nat} {g f : Nat → α} (h : Still lt bs a n g f) (hd : bs ∣ a) (ha : a < n) (hn : n ≤ a + bs) : StableOf lt (seg g a n) (seg f a n) := by
  have h1 := h a hd (Nat.le_refl _) ha
  rwa [show min (a + bs) n = n by omega] at h1
theorem Done.all {bs n : Nat} {g f : Nat → α} (h : Done lt bs n n g f) (hn : n ≤ bs) : StableOf lt (seg g 0 n) (seg f 0 n) := by
  rcases Nat.eq_zero_or_pos n with rfl | h0
  · refine ⟨?_, fun x => ?_⟩ <;> simp [seg]
  · have := h 0 (Nat.dvd_zero bs) h0
    rwa [show min (0 + bs) n = n by omega] at this
theorem two_dvd {bs a : Nat} (h : 2 * bs ∣ a) : bs ∣ a := Nat.dvd_trans ⟨2, by omega⟩ h
end
end Go.Proofs.Ytjiijddlbfgafaa
