/- slices.ContainsFunc over files; drop.Bears, drop.touched. -/
import Derived.Test.YtjiijddlbfgafaaCmp
import Derived.Test.YtjiijddlbfgafaaOrd
import Derived.Lib.Hide
import Derived.Deep.LoopGhost
set_option linter.unusedVariables false
set_option linter.unusedSimpArgs false
namespace Go.Proofs.Ytjiijddlbfgafaa
open Go.RowKit Go.Lib Go.Shelf
/-- drop.Bears -/
def bearsS (l : List File) (key : ByteArray) : Bool := l.any fun f => kle f.least key && klt key f.limit
/-- drop.touched -/
def touchedS (l : List File) (t : Tomb) : Bool := l.any fun f => klt f.least t.e && !kle f.limit t.b
/-- What is asked of a predicate over files. -/
def PredF (g : Nat) (cb : Array Value) (p : File → Bool) (w : World) : Prop :=
  ∀ (x : File) (W : World), Below w.heap.size w W → Calls Try.prog g (#[.agg x.enc.toArray] ++ cb) W fun e w' => e = .returned (.bool (p x)) ∧ Below W.heap.size W w'
def IdxPost (l : List File) (p : File → Bool) (w : World) (e : Ending) (w' : World) : Prop := (∃ k : Int, e = .returned (.int .i64 k) ∧ (0 ≤ k ↔ l.any p = true)) ∧ Below w.heap.size w w'
set_option maxHeartbeats 2000000 in
set_option maxRecDepth 100000 in
theorem indexF_any (A : Option Addr) (c : Nat) (l : List File) (g : Nat) (cb : Array Value) (p : File → Bool) (w : World) (hl : Rds File.enc 6 w A l) (hm : l.length ≤ 1099511627776) (hp : PredF g cb p w)
    (eg : ∀ args w, (callFunc g args).run Try.prog w = .ok (.enter g args) w) :
    Calls Try.prog 41 #[.slice A l.length c, .func (.func g) #[] cb] w (IdxPost l p w) := by
  have HP := Lib.hid hp
  have HL := Lib.hid hl
  clear hp hl
  go_enter Try.func41, Try.ntmps41
  go_wp2_with fail
  go_loopg [8] l.length (fun k s8 wr => ∃ i : Nat, s8 = .int .i64 i ∧ i ≤ l.length ∧ l.length - i ≤ k ∧ Hid ((l.take i).any p = false) ∧ Hid (Below w.heap.size w wr))
  case atStart => exact ⟨0, rfl, Nat.zero_le _, Nat.le_refl _, Lib.hid rfl, Lib.hid (Below.refl _ _)⟩
  case round =>
    obtain ⟨i, rfl, hi, hk, HT, HB⟩ := hrel
    by_cases hlt : i < l.length
    · have hltz : (i : Int) < (l.length : Int) := by omega
      obtain ⟨f, hf⟩ : ∃ f, l[i]? = some f := ⟨l[i], List.getElem?_eq_getElem hlt⟩
      obtain ⟨ad, rfl, c0, c1, c2, c3, c4, c5⟩ := Rds.at6 (HL.out.below HB.out) hf rfl
      have HF := Lib.hid hf
      have hc := HP.out f wr HB.out
      unfold File.enc at hc
      have HC := Lib.hid hc
      clear hf hc
      cases hpf : p f with
      | true =>
        go_wp2_with fail
        refine HC.out.mono ?_
        rintro e w2 ⟨rfl, hb2⟩
        have HB2 := Lib.hid hb2
        clear hb2
        rw [hpf]
        go_wp2_with fail
        go_ret
        refine ⟨⟨(i : Int), rfl, ?_⟩, HB.out.next HB2.out⟩
        simp only [Int.natCast_nonneg, true_iff]
        rw [List.any_eq_true]
        exact ⟨f, List.mem_of_getElem? HF.out, hpf⟩
      | false =>
        go_wp2_with fail
        refine HC.out.mono ?_
        rintro e w2 ⟨rfl, hb2⟩
        have HB2 := Lib.hid hb2
        clear hb2
        rw [hpf]
        go_wp2_with fail
        go_roundg (l.length - (i + 1))
        case measure => omega
        case rel =>
          refine ⟨i + 1, by go_num, by omega, Nat.le_refl _, Lib.hid ?_, Lib.hid (HB.out.next HB2.out)⟩
          rw [List.take_add_one, HF.out, List.any_append, HT.out]
          simp [hpf]
    · have hltz : ¬ (i : Int) < (l.length : Int) := by omega
      obtain rfl : i = l.length := by omega
      go_wp2_with fail
      go_ret
      refine ⟨⟨-1, rfl, ?_⟩, HB.out⟩
      have := HT.out
      rw [List.take_length] at this
      rw [this]
      simp
set_option maxHeartbeats 2000000 in
set_option maxRecDepth 100000 in
theorem containsF_any (A : Option Addr) (c : Nat) (l : List File) (g : Nat) (cb : Array Value) (p : File → Bool) (w : World) (hl : Rds File.enc 6 w A l) (hm : l.length ≤ 1099511627776) (hp : PredF g cb p w)
    (eg : ∀ args w, (callFunc g args).run Try.prog w = .ok (.enter g args) w) :
    Calls Try.prog 32 #[.slice A l.length c, .func (.func g) #[] cb] w fun e w' => e = .returned (.bool (l.any p)) ∧ Below w.heap.size w w' := by
  have HC := Lib.hid (indexF_any A c l g cb p w hl hm hp eg)
  clear hl hp eg
  go_enter Try.func32, Try.ntmps32
  go_wp2_with fail
  refine HC.out.mono ?_
  rintro e w' ⟨⟨k, rfl, hk⟩, hb⟩
  have HK := Lib.hid hk
  have HB := Lib.hid hb
  clear hk hb
  go_wp2_with fail
  go_ret
  refine ⟨ret_bool ?_, HB.out⟩
  have := HK.out
  cases h : l.any p
  · rw [h] at this
    simp at this
    simpa using this
  · rw [h] at this
    simpa using this
set_option maxHeartbeats 2000000 in
theorem bearsP_any (f : File) (key : ByteArray) (b : Nat) (w : World) (hc : w.cell? ⟨b, 0, none⟩ = some (.string key)) :
    Calls Try.prog 33 #[.agg f.enc.toArray, .pointer (some ⟨b, 0, none⟩)] w fun e w' => e = .returned (.bool (kle f.least key && klt key f.limit)) ∧ Below w.heap.size w w' := by
  unfold File.enc
  have hb := World.block_lt_of_cell? w _ hc
  have hc2 : ∀ o, (w.alloc o).cell? ⟨b, 0, none⟩ = some (.string key) := fun o => Lib.cell?_alloc_some _ hc
  clear hc
  cases h1 : kle f.least key with
  | true =>
    have h1' : (Op.bytesLess f.least.toList key.toList || f.least.toList == key.toList) = true := h1
    go_enter Try.func33, Try.ntmps33
    go_wp2
    all_goals
      go_ret
      refine ⟨ret_bool ?_, (Below.refl _ _).alloc (Nat.le_refl _) _⟩
      simp_all [klt]
  | false =>
    have h1' : (Op.bytesLess f.least.toList key.toList || f.least.toList == key.toList) = false := h1
    go_enter Try.func33, Try.ntmps33
    go_wp2
    all_goals
      go_ret
      refine ⟨ret_bool ?_, (Below.refl _ _).alloc (Nat.le_refl _) _⟩
      simp_all [klt]
set_option maxHeartbeats 2000000 in
theorem touchedP_any (f : File) (t : Tomb) (b : Nat) (w : World) (hc0 : w.cell? ⟨b, 0, none⟩ = some (.string t.b)) (hc1 : w.cell? ⟨b, 1, none⟩ = some (.string t.e)) :
    Calls Try.prog 34 #[.agg f.enc.toArray, .pointer (some ⟨b, 0, none⟩)] w fun e w' => e = .returned (.bool (klt f.least t.e && !kle f.limit t.b)) ∧ Below w.heap.size w w' := by
  unfold File.enc
  have hd0 : ∀ o, (w.alloc o).cell? ⟨b, 0, none⟩ = some (.string t.b) := fun o => Lib.cell?_alloc_some _ hc0
  have hd1 : ∀ o, (w.alloc o).cell? ⟨b, 1, none⟩ = some (.string t.e) := fun o => Lib.cell?_alloc_some _ hc1
  clear hc0 hc1
  cases h1 : klt f.least t.e with
  | true =>
    have h1' : Op.bytesLess f.least.toList t.e.toList = true := h1
    go_enter Try.func34, Try.ntmps34
    go_wp2
    all_goals
      go_ret
      refine ⟨ret_bool ?_, (Below.refl _ _).alloc (Nat.le_refl _) _⟩
      simp_all [kle]
  | false =>
    have h1' : Op.bytesLess f.least.toList t.e.toList = false := h1
    go_enter Try.func34, Try.ntmps34
    go_wp2
    all_goals
      go_ret
      refine ⟨ret_bool ?_, (Below.refl _ _).alloc (Nat.le_refl _) _⟩
      simp_all [kle]
set_option maxHeartbeats 2000000 in
set_option maxRecDepth 100000 in
theorem bears_any (A : Option Addr) (c : Nat) (l : List File) (key : ByteArray) (w : World) (hl : Rds File.enc 6 w A l) (hm : l.length ≤ 1099511627776) :
    Calls Try.prog 20 #[.slice A l.length c, .string key] w fun e w' => e = .returned (.bool (bearsS l key)) ∧ Below w.heap.size w w' := by
  have hmf : ∀ (fn : Fn) (first cap : Array Value) (w : World), (Instr.makeFunc fn first cap).run Try.prog w = .ok (.func fn first cap) w := fun _ _ _ _ => rfl
  obtain ⟨w1, hw1⟩ : ∃ w1, w1 = w.alloc (.cells #[.string key] 9) := ⟨_, rfl⟩
  have hb1 : Below w.heap.size w w1 := by rw [hw1]; exact (Below.refl _ _).alloc (Nat.le_refl _) _
  have hc1 : w1.cell? ⟨w.heap.size, 0, none⟩ = some (.string key) := by rw [hw1]; simp
  have HC := Lib.hid (containsF_any A c l 33 #[.pointer (some ⟨w.heap.size, 0, none⟩)] (fun f => kle f.least key && klt key f.limit) w1 (hl.below hb1) hm
    (fun x W hW => bearsP_any x key w.heap.size W (cell_below hW hc1)) (enters_of Try.func33 (by kernel_rfl) rfl))
  have HB := Lib.hid hb1
  have HW := Lib.hid hw1
  clear hl hb1 hc1 hw1
  go_enter Try.func20, Try.ntmps20
  go_wp2_with fail
  rw [← HW.out]
  refine HC.out.mono ?_
  rintro e w' ⟨rfl, hb⟩
  have HB2 := Lib.hid hb
  clear hb
  go_wp2_with fail
  go_ret
  exact ⟨rfl, HB.out.next HB2.out⟩
set_option maxHeartbeats 2000000 in
set_option maxRecDepth 100000 in
theorem touched_any (A : Option Addr) (c : Nat) (l : List File) (t : Tomb) (w : World) (hl : Rds File.enc 6 w A l) (hm : l.length ≤ 1099511627776) :
    Calls Try.prog 22 #[.slice A l.length c, .agg #[.string t.b, .string t.e, .int .u64 t.seq]] w fun e w' => e = .returned (.bool (touchedS l t)) ∧ Below w.heap.size w w' := by
  have hmf : ∀ (fn : Fn) (first cap : Array Value) (w : World), (Instr.makeFunc fn first cap).run Try.prog w = .ok (.func fn first cap) w := fun _ _ _ _ => rfl
  obtain ⟨w1, hw1⟩ : ∃ w1, w1 = w.alloc (.cells #[.string t.b, .string t.e, .int .u64 t.seq] 38) := ⟨_, rfl⟩
  have hb1 : Below w.heap.size w w1 := by rw [hw1]; exact (Below.refl _ _).alloc (Nat.le_refl _) _
  have hc0 : w1.cell? ⟨w.heap.size, 0, none⟩ = some (.string t.b) := by rw [hw1]; simp
  have hc1 : w1.cell? ⟨w.heap.size, 1, none⟩ = some (.string t.e) := by rw [hw1]; simp
  have HC := Lib.hid (containsF_any A c l 34 #[.pointer (some ⟨w.heap.size, 0, none⟩)] (fun f => klt f.least t.e && !kle f.limit t.b) w1 (hl.below hb1) hm
    (fun x W hW => touchedP_any x t w.heap.size W (cell_below hW hc0) (cell_below hW hc1)) (enters_of Try.func34 (by kernel_rfl) rfl))
  have HB := Lib.hid hb1
  have HW := Lib.hid hw1
  clear hl hb1 hc0 hc1 hw1
  go_enter Try.func22, Try.ntmps22
  go_wp2_with fail
  rw [← HW.out]
  refine HC.out.mono ?_
  rintro e w' ⟨rfl, hb⟩
  have HB2 := Lib.hid hb
  clear hb
  go_wp2_with fail
  go_ret
  exact ⟨rfl, HB.out.next HB2.out⟩
end Go.Proofs.Ytjiijddlbfgafaa
