/- slices.Sort, slices.Compact at uint64, over rows of the call's own. -/
import Derived.Test.YtjiijddlbfgafaaUSortK
import Derived.Test.YtjiijddlbfgafaaOwnU
import Derived.Test.YtjiijddlbfgafaaShelf
import Derived.Sort.AssemblyPlain
set_option linter.unusedVariables false
set_option linter.unusedSimpArgs false
namespace Go.Proofs.Ytjiijddlbfgafaa
open Go.Shelf Go.RowKit Go.Lib Go.Sort

set_option maxHeartbeats 2000000 in
set_option maxRecDepth 100000 in
theorem insNilU_any (w : World) : Calls Try.prog 48 #[.slice none 0 0, .int .i64 0, .int .i64 0] w fun e w' => e = .returned (.tuple #[]) ∧ w = w' := by
  go_enter Try.func48, Try.ntmps48
  go_wp2
  refine wp_loop_rounds 1 ?_
  rw [rounds_succ]
  go_wp2
  go_end0
  exact ⟨rfl, rfl⟩
set_option maxHeartbeats 2000000 in
set_option maxRecDepth 100000 in
theorem pdqNilU_any (w : World) : Calls Try.prog 38 #[.slice none 0 0, .int .i64 0, .int .i64 0, .int .i64 0] w fun e w' => e = .returned (.tuple #[]) ∧ w = w' := by
  go_enter Try.func38, Try.ntmps38
  go_wp2
  refine wp_loop_rounds 1 ?_
  rw [rounds_succ]
  go_wp2_with fail
  refine (insNilU_any _).mono ?_
  rintro e w' ⟨rfl, rfl⟩
  go_wp2_with fail
  refine bodyPost_ret (results_none rfl _ _ _) rfl ?_
  exact ⟨rfl, rfl⟩
/-- A rising row of the same numbers. -/
def SortsTo (xs ys : List Int) : Prop := ys.Perm xs ∧ ys.Pairwise (· ≤ ·)
theorem sortsTo_of {d d' : Array Int} (h : PermIn 0 d.size d d') (hs : SortedIn ltInt 0 d.size d') : SortsTo d.toList d'.toList := by
  have e := h.2.2
  have hz : d'.size = d.size := h.1
  have e1 : (d'.extract 0 d.size).toList = d'.toList := by
    rw [← hz, Array.extract_eq_self_of_le (Nat.le_refl _)]
  have e2 : (d.extract 0 d.size).toList = d.toList := by
    rw [Array.extract_eq_self_of_le (Nat.le_refl _)]
  rw [e1, e2] at e
  refine ⟨e, ?_⟩
  rw [List.pairwise_iff_getElem]
  intro i j hi hj hij
  have hj' : j < d'.size := by simpa using hj
  have hi' : i < d'.size := by simpa using hi
  have := hs i j (Nat.zero_le _) hij (by omega)
  rw [getElem!_pos d' j hj', getElem!_pos d' i hi'] at this
  have h2 : ¬ d'[j] < d'[i] := by simpa [ltInt] using this
  simp only [Array.getElem_toList]
  omega

set_option maxHeartbeats 2000000 in
set_option maxRecDepth 100000 in
theorem sortU_any (v : Value) (xs : List Int) (base : Nat) (w : World) (ho : Own (en1 (Value.int .u64)) 1 36 w base v xs) (hm : xs.length < 281474976710656) :
    Calls Try.prog 28 #[v] w fun e w' => e = .returned (.tuple #[]) ∧ (∃ ys, SortsTo xs ys ∧ Own (en1 (Value.int .u64)) 1 36 w' base v ys) ∧ Below base w w' := by
  have hx : xs = [] ∧ v = .slice none 0 0 ∨ ∃ g cap, v = .slice (some ⟨g, 0, none⟩) xs.length cap := by
    rcases ho.2 with ⟨h, h0⟩ | ⟨g, cap, cur, h, _⟩
    · exact .inl ⟨List.eq_nil_of_length_eq_zero h0, h⟩
    · exact .inr ⟨g, cap, h⟩
  rcases hx with ⟨rfl, rfl⟩ | ⟨g, cap, rfl⟩
  · have hL : ∀ w, Calls Try.prog 39 #[.int .u64 0] w fun e w' => e = .returned (.int .i64 0) ∧ w = w' := fun w =>
      (Try.bits_Len 0 w (by omega) (by omega)).mono fun e w' h => ⟨h.1, h.2.symm⟩
    have HL := Lib.hid hL
    clear hL
    go_enter Try.func28, Try.ntmps28
    go_wp2_with fail
    refine (HL.out _).mono ?_
    rintro e w' ⟨rfl, rfl⟩
    go_wp2_with fail
    refine (pdqNilU_any _).mono ?_
    rintro e w' ⟨rfl, rfl⟩
    go_wp2_with fail
    go_end0
    exact ⟨rfl, ⟨[], ⟨List.Perm.refl _, List.Pairwise.nil⟩, ho⟩, Below.refl _ _⟩
  · obtain ⟨hH, hb, hg⟩ := ho.holds1
    have U : UW w g 0 xs.length xs.toArray w := by
      have := UW.start hH hg
      simpa using this
    have hlen : bitsLen xs.length ≤ 62 := (bitsLen_le_iff _ 62).2 (by omega)
    have hc := @pdqU w g 0 xs.length cap hm (xs.length + 1) 0 xs.length (bitsLen xs.length) xs.toArray w (by omega) U (Nat.zero_le _) (Nat.le_refl _) (by omega) (Or.inl rfl)
    have hL : ∀ w, Calls Try.prog 39 #[.int .u64 (xs.length : Int)] w fun e w' => e = .returned (.int .i64 (bitsLen xs.length : Nat)) ∧ w = w' := fun w => by
      have h := Try.bits_Len (xs.length : Int) w (by omega) (by omega)
      rw [Int.toNat_natCast, bitLen_eq _ (by omega)] at h
      exact h.mono fun e w' h => ⟨h.1, h.2.symm⟩
    have HC := Lib.hid hc
    have HL := Lib.hid hL
    have HO := Lib.hid ho
    clear hc hL ho hH U hb
    generalize hk : bitsLen xs.length = k at HC HL
    clear hk hlen
    go_enter Try.func28, Try.ntmps28
    go_wp2_with fail
    refine (HL.out _).mono ?_
    rintro e w' ⟨rfl, rfl⟩
    go_wp2_with fail
    refine HC.out.mono ?_
    rintro e w' ⟨rfl, d, U, hp, hs⟩
    go_wp2_with fail
    go_end0
    have ho := HO.out
    have hz : d.size = xs.length := U.size
    have st : SortsTo xs d.toList := by
      have := sortsTo_of (d := xs.toArray) (d' := d) (by simpa using hp) (by simpa using hs)
      simpa using this
    have ho2 := ho.turned1 hz U.sw xs.length (Nat.le_refl _)
    rw [List.take_of_length_le (by simp [hz])] at ho2
    exact ⟨rfl, ⟨d.toList, st, ho2⟩, (Below.refl base w).grown (SW.grownBy1 U.sw) (by have := ho.holds1.2; omega) (fun k e => by cases e; exact ho.holds1.2.1)⟩

/-- The rising list of a list's numbers, each once. -/
def Rising (xs ys : List Int) : Prop := ys.Pairwise (· < ·) ∧ ∀ x, x ∈ ys ↔ x ∈ xs
theorem Rising.unique {xs ys zs : List Int} (h : Rising xs ys) (k : Rising xs zs) : ys = zs := rising_unique h.1 k.1 fun x => (h.2 x).trans (k.2 x).symm
theorem oneCell_u64 : OneCell (Value.int .u64) := fun _ => rfl
theorem compactU_laid (blk cap n : Nat) (d : Array Int) (w : World) (hn : d.size = n) (hH : Holds (Value.int .u64) w blk 0 d) (hsz : n ≤ 9223372036854775807) (hcap : n ≤ cap) :
    Calls Try.prog 15 #[.slice (some ⟨blk, 0, none⟩) n cap] w fun e w' => e = .returned (.slice (some ⟨blk, 0, none⟩) (compactUpTo d n).length cap) ∧
      ∃ q, w' = putRow (Value.int .u64) (Sort.ahead w q) blk 0 (compactUpTo d n ++ List.replicate (n - (compactUpTo d n).length) 0).toArray := by
  subst hn
  exact AnyE.slices_Compact Try.laysE43 (Value.int .u64) oneCell_u64 (EqlAt.intD _ _ _) (NeqAt.intD _ _ _) 0 Try.zeroValue36 blk 0 cap d w hH hsz hcap
set_option maxHeartbeats 2000000 in
set_option maxRecDepth 100000 in
theorem compactU_any (v : Value) (xs : List Int) (base : Nat) (w : World) (ho : Own (en1 (Value.int .u64)) 1 36 w base v xs) (hm : xs.length < 281474976710656) (hs : xs.Pairwise (· ≤ ·)) :
    Calls Try.prog 15 #[v] w fun e w' => ∃ v' ys, e = .returned v' ∧ Rising xs ys ∧ Own (en1 (Value.int .u64)) 1 36 w' base v' ys ∧ Below base w w' := by
  have hx : xs = [] ∧ v = .slice none 0 0 ∨ ∃ g cap, v = .slice (some ⟨g, 0, none⟩) xs.length cap ∧ xs.length ≤ cap := by
    rcases ho.2 with ⟨h, h0⟩ | ⟨g, cap, cur, h, _, _, hc, _⟩
    · exact .inl ⟨List.eq_nil_of_length_eq_zero h0, h⟩
    · exact .inr ⟨g, cap, h, hc⟩
  rcases hx with ⟨rfl, rfl⟩ | ⟨g, cap, rfl, hcap⟩
  · go_enter Try.func15, Try.ntmps15
    go_wp2
    go_ret
    exact ⟨_, [], rfl, ⟨List.Pairwise.nil, fun x => Iff.rfl⟩, ho, Below.refl _ _⟩
  · obtain ⟨hH, hb, hg⟩ := ho.holds1
    refine (compactU_laid g cap xs.length xs.toArray w (by simp) hH (by omega) hcap).mono ?_
    rintro e w' ⟨he, q, hw⟩
    obtain ⟨h1, h2⟩ := compact_sorted (d := xs.toArray) (fun i j hij hj => by
      have hj' : j < xs.length := by simpa using hj
      rw [getElem!_pos xs.toArray i (by omega), getElem!_pos xs.toArray j hj]
      rcases Nat.eq_or_lt_of_le hij with rfl | h
      · exact Int.le_refl _
      · simpa using (List.pairwise_iff_getElem.1 hs) i j (by omega) hj' h) xs.toArray.size (Nat.le_refl _)
    rw [show xs.toArray.size = xs.length by simp] at h1 h2
    generalize hys : compactUpTo xs.toArray xs.length = ys at he hw h1 h2
    have hle : ys.length ≤ xs.length := by
      rw [← hys]
      unfold compactUpTo
      rw [List.length_map]
      exact Nat.le_trans (List.length_filter_le _ _) (by simp)
    obtain ⟨D, hD⟩ : ∃ D : Array Int, D = (ys ++ List.replicate (xs.length - ys.length) (0 : Int)).toArray := ⟨_, rfl⟩
    have hw2 : w' = putRow (Value.int .u64) (Sort.ahead w q) g 0 D := by rw [hD]; exact hw
    have hd : D.size = xs.length := by
      rw [hD, List.size_toArray, List.length_append, List.length_replicate]
      exact Nat.add_sub_of_le hle
    have ht : D.toList.take ys.length = ys := by
      rw [hD]
      exact List.take_left
    clear hD hw
    have S : SW (Value.int .u64) w g 0 D w' := ⟨q, #[], by rw [hw2]; unfold sortWorld; rw [grow_empty]⟩
    have ho2 := ho.turned1 hd S ys.length hle
    rw [ht] at ho2
    have hgb : w.grownBy w' (some g) := SW.grownBy1 S
    have hbel : Below base w w' := (Below.refl base w).grown hgb (by omega) (fun k e => by cases e; exact hb)
    clear S hgb hw2 hH
    refine ⟨_, ys, he, ⟨h1, fun x => ?_⟩, ho2, hbel⟩
    rw [h2]
    constructor
    · rintro ⟨j, hj, rfl⟩
      rw [getElem!_pos xs.toArray j (by simpa using hj)]
      simp
    · intro hx
      obtain ⟨j, hj, rfl⟩ := List.getElem_of_mem hx
      exact ⟨j, hj, by rw [getElem!_pos xs.toArray j (by simpa using hj)]; simp⟩
end Go.Proofs.Ytjiijddlbfgafaa
