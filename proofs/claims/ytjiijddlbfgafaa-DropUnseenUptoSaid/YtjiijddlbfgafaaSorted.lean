/- slices.Clone, slices.SortStableFunc at entries, ikey.Sorted. -/
import Derived.Test.YtjiijddlbfgafaaCmp
import Derived.Test.YtjiijddlbfgafaaSortG
import Derived.Test.YtjiijddlbfgafaaOrd
import Derived.Lib.SliceRun
set_option linter.unusedVariables false
set_option linter.unusedSimpArgs false
namespace Go.Proofs.Ytjiijddlbfgafaa
open Go.Shelf Go.RowKit Go.Lib Go.Sort

theorem infoE : (Try.prog.info? 48).map (fun i => (i.zero, i.size, i.bytes)) = some (some (.agg #[.string ByteArray.empty, .int .u64 0, .int .i64 0, .string ByteArray.empty]), 4, 48) := by kernel_rfl
theorem Ent.enc_len (x : Ent) : (Ent.enc x).length = 4 := rfl
theorem Ent.enc_one (x : Ent) : ∀ v ∈ Ent.enc x, v.oneCell' = true := by
  intro v hv
  simp only [Ent.enc, List.mem_cons, List.not_mem_nil, or_false] at hv
  rcases hv with rfl | rfl | rfl | rfl <;> rfl
theorem flatMap_one {α : Type} {enc : α → List Value} (h : ∀ x, ∀ v ∈ enc x, v.oneCell' = true) (xs : List α) : ∀ u ∈ xs.flatMap enc, u.oneCell' = true := by
  intro u hu
  obtain ⟨x, _, hx⟩ := List.mem_flatMap.1 hu
  exact h x u hx
/-- What is read, as a run of cells. -/
theorem Rds.run {α : Type} {enc : α → List Value} {k : Nat} {w : World} {ad : Addr} {xs : List α} (hk : ∀ x, (enc x).length = k) (h : Rds enc k w (some ad) xs) : ∀ j u, (xs.flatMap enc)[j]? = some u → w.cell? (ad.add j) = some u := by
  intro j u hj
  have hlt : j < xs.length * k := by rw [← flatMap_len hk xs]; exact (List.getElem?_eq_some_iff.1 hj).1
  have k0 : 0 < k := by rcases Nat.eq_zero_or_pos k with h' | h'; · subst h'; simp at hlt
                        · exact h'
  have hd : j / k < xs.length := (Nat.div_lt_iff_lt_mul k0).2 hlt
  obtain ⟨ad', e, hc⟩ := h (j / k) xs[j / k] (List.getElem?_eq_getElem hd)
  cases e
  have e2 := flatMap_get hk xs (j / k) (j % k) xs[j / k] (List.getElem?_eq_getElem hd) (Nat.mod_lt _ k0)
  rw [show j / k * k + j % k = j from by rw [Nat.mul_comm]; exact Nat.div_add_mod j k] at e2
  have := hc (j % k) u (by rw [← e2]; exact hj)
  rwa [show j / k * k + j % k = j from by rw [Nat.mul_comm]; exact Nat.div_add_mod j k] at this
theorem Rds.none_nil {α : Type} {enc : α → List Value} {k : Nat} {w : World} {xs : List α} (h : Rds enc k w none xs) : xs = [] := by
  cases xs with
  | nil => rfl
  | cons x xs =>
    obtain ⟨ad, e, _⟩ := h 0 x rfl
    cases e

set_option maxHeartbeats 2000000 in
set_option maxRecDepth 100000 in
theorem cloneE_any (A : Option Addr) (c : Nat) (l : List Ent) (w : World) (hl : Rds Ent.enc 4 w A l) (hm : l.length ≤ 1099511627776) :
    Calls Try.prog 23 #[.slice A l.length c] w fun e w' => ∃ v', e = .returned v' ∧ Own Ent.enc 4 48 w' w.heap.size v' l ∧ Below w.heap.size w w' := by
  obtain ⟨i0, hi, hz0, hz1, hz2⟩ := info_parts infoE
  have q22 : ∀ (w : World) (a : Option Addr) (n c n' c' : Nat), (binOp .eql 22 (.slice a n c) (.slice none n' c')).run Try.prog w = .ok (.bool a.isNone) w := fun w a n c n' c' => Lib.run_eql_slice_nil w _ _ a n c n' c' Try.underlying22
  cases A with
  | none =>
    obtain rfl : l = [] := hl.none_nil
    go_enter Try.func23, Try.ntmps23
    go_wp2
    go_ret
    exact ⟨_, rfl, Own.nil _ _ _, Below.refl _ _⟩
  | some ad =>
    have hf := flatMap_len Ent.enc_len l
    have hr := hl.run Ent.enc_len
    have ho := flatMap_one Ent.enc_one l
    generalize hn : l.flatMap Ent.enc = news at hf hr ho
    have HN := Lib.hid hn
    have HA : Aside (∀ j u, news[j]? = some u → w.cell? (ad.add j) = some u) := hr
    have HO : Aside (∀ u ∈ news, u.oneCell' = true) := ho
    have HF := Lib.hid hf
    clear hf hr ho hn hl
    generalize hn : l.length = n at HF hm ⊢
    have HL := Lib.hid hn
    clear hn
    go_enter Try.func23, Try.ntmps23
    go_wp2_with (at_builtin; refine wpList_append_own _ rfl _ _ 22 rfl w.heap.size 48 i0 _ 4 48 Try.underlying22 hi hz0 hz1 hz2 rfl (by decide) _ _ _ rfl (World.ownsRow_made w #[] 0 (Nat.le_refl _) (Nat.zero_le _) (by simp)) ad n c news rfl ?qc1 ?qc2 ?qc3 ?qc4 ?qc5 ?qc6 ?_)
    case qc1 => exact HF.out
    case qc2 =>
      intro j u hj
      exact Lib.cell?_alloc_some _ (HA.out j u hj)
    case qc3 => exact HO.out
    case qc4 => rw [Nat.zero_add]; unfold maxLen; omega
    case qc5 => rw [Nat.zero_add]; omega
    case qc6 => simp
    intro v' w1 hown hgrow hnil
    go_wp2
    go_ret
    have hown' : Own Ent.enc 4 48 w1 w.heap.size v' l := by
      unfold Own
      rw [HL.out, HN.out]
      simpa using hown
    exact ⟨v', rfl, hown', ((Below.refl _ w).alloc (Nat.le_refl _) _).grown hgrow (by simp) (by intro k hk; simp [Value.ownBlock] at hk; omega)⟩

theorem seg_arr {α : Type} [Inhabited α] (d : Array α) {n : Nat} (h : d.size = n) : seg (fun t => d[t]!) 0 n = d.toList := by
  subst h
  unfold seg
  apply List.ext_getElem
  · simp
  · intro i h1 h2
    have hi : i < d.size := by simpa using h2
    simp [getElem!_pos d i hi]
/-- ikey.entries, as the sort asks it. -/
theorem cmpE_lays (w : World) (blk off size : Nat) : CmpLays Try.prog 25 #[] Ent.enc 4 cmpE blk off size w := fun m os dk hs x y => by
  refine (cmpE_any x y _).mono ?_
  rintro e w' ⟨he, q, os', hw⟩
  exact ⟨he, q, os', hw⟩

set_option maxHeartbeats 2000000 in
set_option maxRecDepth 100000 in
theorem insNil_any (g : Nat) (w : World) : Calls Try.prog 42 #[.slice none 0 0, .int .i64 0, .int .i64 0, .func (.func g) #[] #[]] w fun e w' => e = .returned (.tuple #[]) ∧ w = w' := by
  go_enter Try.func42, Try.ntmps42
  go_wp2
  refine wp_loop_rounds 1 ?_
  rw [rounds_succ]
  go_wp2
  go_end0
  exact ⟨rfl, rfl⟩
set_option maxHeartbeats 2000000 in
set_option maxRecDepth 100000 in
theorem stableNil_any (g : Nat) (w : World) : Calls Try.prog 35 #[.slice none 0 0, .int .i64 0, .func (.func g) #[] #[]] w fun e w' => e = .returned (.tuple #[]) ∧ w = w' := by
  go_enter Try.func35, Try.ntmps35
  go_wp2
  refine wp_loop_rounds 1 ?_
  rw [rounds_succ]
  go_wp2_with fail
  refine (insNil_any g _).mono ?_
  rintro e w' ⟨rfl, rfl⟩
  go_wp2_with fail
  refine wp_loop_rounds 1 ?_
  rw [rounds_succ]
  go_wp2
  go_end0
  exact ⟨rfl, rfl⟩
set_option maxHeartbeats 2000000 in
set_option maxRecDepth 100000 in
theorem sortStable_any (v : Value) (l : List Ent) (base : Nat) (w : World) (ho : Own Ent.enc 4 48 w base v l) (hm : l.length ≤ 1099511627776) :
    Calls Try.prog 24 #[v, .func (.func 25) #[] #[]] w fun e w' => e = .returned (.tuple #[]) ∧ Own Ent.enc 4 48 w' base v (sortedE l) ∧ Below base w w' := by
  have hx : l = [] ∧ v = .slice none 0 0 ∨ ∃ g cap, v = .slice (some ⟨g, 0, none⟩) l.length cap := by
    rcases ho.2 with ⟨h, h0⟩ | ⟨g, cap, cur, h, _⟩
    · exact .inl ⟨List.eq_nil_of_length_eq_zero h0, h⟩
    · exact .inr ⟨g, cap, h⟩
  rcases hx with ⟨rfl, rfl⟩ | ⟨g, cap, rfl⟩
  · go_enter Try.func24, Try.ntmps24
    go_wp2_with fail
    refine (stableNil_any _ _).mono ?_
    rintro e w' ⟨rfl, rfl⟩
    go_wp2_with fail
    go_end0
    exact ⟨rfl, by simpa [sortedE] using ho, Below.refl _ _⟩
  · obtain ⟨hH, hb, hg⟩ := ho.holdsK Ent.enc_len
    have R : RowK Ent.enc 4 w g 0 l.toArray := ⟨Ent.enc_len, Ent.enc_one, hH, hg⟩
    have S := SWK.start hH
    have hc := stable_any sortP Ent.enc cmpE swo_elt 25 #[] g 0 cap l.toArray w (enters_of Try.func25 (by kernel_rfl) rfl) (cmpE_lays w g 0 _) R l.toArray w rfl S (by simp; omega)
    have hsz : l.toArray.size = l.length := by simp
    rw [hsz] at hc
    have HC := Lib.hid hc
    have HO := Lib.hid ho
    clear hc hH hb R S ho hsz
    go_enter Try.func24, Try.ntmps24
    go_wp2_with fail
    refine HC.out.mono ?_
    rintro e w' ⟨rfl, d, S, hd, st⟩
    go_wp2_with fail
    go_end0
    have ho := HO.out
    have st : StableOf (ltOf cmpE) (seg (fun t => d[t]!) 0 l.length) (seg (at_ l.toArray) 0 l.length) := st
    have e1 : seg (fun t => d[t]!) 0 l.length = d.toList := seg_arr d (by rw [hd])
    have e2 : seg (at_ l.toArray) 0 l.length = l := (seg_arr l.toArray (n := l.length) (by simp)).trans (by simp)
    rw [e1, e2] at st
    have e3 : d.toList = sortedE l := st.eq swo_elt
    have hs := ho.sorted Ent.enc_len hd S
    rw [e3] at hs
    have hl : (sortedE l).length = l.length := by simp [sortedE]
    refine ⟨rfl, hs, ?_⟩
    exact (Below.refl base w).grown (SWK.grownBy S) (by have := (ho.holdsK Ent.enc_len).2; omega) (fun k e => by cases e; exact (ho.holdsK Ent.enc_len).2.1)

set_option maxHeartbeats 2000000 in
set_option maxRecDepth 100000 in
theorem sorted_any (A : Option Addr) (c : Nat) (l : List Ent) (w : World) (hl : Rds Ent.enc 4 w A l) (hm : l.length ≤ 1099511627776) :
    Calls Try.prog 12 #[.slice A l.length c] w fun e w' => ∃ v', e = .returned v' ∧ Own Ent.enc 4 48 w' w.heap.size v' (sortedE l) ∧ Below w.heap.size w w' := by
  have HC := Lib.hid (cloneE_any A c l w hl hm)
  have HS := Lib.hid sortStable_any
  clear hl
  go_enter Try.func12, Try.ntmps12
  go_wp2_with fail
  refine HC.out.mono ?_
  rintro e w1 ⟨v1, rfl, ho, hb⟩
  go_wp2_with fail
  refine (HS.out v1 l w.heap.size w1 ho hm).mono ?_
  rintro e w2 ⟨rfl, ho2, hb2⟩
  go_wp2_with fail
  go_ret
  exact ⟨v1, rfl, ho2, hb.trans hb2⟩
end Go.Proofs.Ytjiijddlbfgafaa
