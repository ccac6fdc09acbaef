/- morainelaw21.seen walked. -/
import Derived.Test.YtjiijddlbfgafaaNew
import Derived.Test.YtjiijddlbfgafaaT
set_option linter.unusedVariables false
set_option linter.unusedSimpArgs false
namespace Go.Proofs.Ytjiijddlbfgafaa
open Go.RowKit
/-- seen: what a key shows at a number. -/
def seenS (l : List Ent) (t : List Tomb) (key : ByteArray) (q : Int) : ByteArray × Bool :=
  match newestS l key q with
  | none => (ByteArray.empty, false)
  | some e => if e.kind = 1 ∧ ((coverS t key q).2 && decide ((coverS t key q).1 > e.seq)) = false then (e.val, true) else (ByteArray.empty, false)
set_option maxHeartbeats 4000000 in
set_option maxRecDepth 100000 in
theorem seen_any (A B : Option Addr) (ca cb : Nat) (l : List Ent) (t : List Tomb) (key : ByteArray) (q : Int) (w : World) (hl : Rds Ent.enc 4 w A l) (ht : Rds Tomb.enc 3 w B t) (hb : t.length ≤ cb) (ml : l.length ≤ 1099511627776) (mt : t.length ≤ 1099511627776) :
    Calls Try.prog 14 #[.slice A l.length ca, .slice B t.length cb, .string key, .int .u64 q] w fun e w' => e = .returned (.tuple #[.string (seenS l t key q).1, .bool (seenS l t key q).2]) ∧ Below w.heap.size w w' := by
  have HN := Lib.hid (newest_any A ca l key q w hl ml)
  have HC := Lib.hid (fun (W : World) (h : Below w.heap.size w W) => cover_any B cb t key q W (ht.below h) hb (by omega))
  clear hl ht
  unfold seenS
  generalize newestS l key q = o at HN ⊢
  generalize coverS t key q = cv at HC ⊢
  obtain ⟨c1, c2⟩ := cv
  cases o with
  | none =>
    go_enter Try.func14, Try.ntmps14
    go_wp2_with fail
    refine HN.out.mono ?_
    simp only [Option.getD_none, Option.isSome_none, Ent.enc, ent0]
    rintro e w1 ⟨rfl, hB1⟩
    have HB1 := Lib.hid hB1
    clear hB1 HN HC
    go_wp2_with fail
    go_ret2
    exact ⟨rfl, HB1.out.alloc HB1.out.size _⟩
  | some x =>
    simp only
    by_cases hk : x.kind = 1
    · have hk1 : (x.kind == 1) = true := by rw [beq_iff_eq]; exact hk
      have hex : ∃ b : Bool, (c2 && decide (c1 > x.seq)) = b := ⟨_, rfl⟩
      obtain ⟨b, hb⟩ := hex
      rw [hb]
      have hp : ((if x.kind = 1 ∧ b = false then (x.val, true) else (ByteArray.empty, false)) : ByteArray × Bool) = if b then (ByteArray.empty, false) else (x.val, true) := by cases b <;> simp [hk]
      rw [hp]
      clear hk hp
      have step : Calls Try.prog 14 #[.slice A l.length ca, .slice B t.length cb, .string key, .int .u64 q] w fun e w' => e = .returned (.tuple #[.string (if b = true then (ByteArray.empty, false) else (x.val, true)).1, .bool (if b = true then (ByteArray.empty, false) else (x.val, true)).2]) ∧ Below w.heap.size w w' := by
        have first : ∀ (K : Prop), K → K := fun _ h => h
        cases c2 with
        | false =>
          obtain rfl : b = false := by simpa using hb.symm
          clear hb
          go_enter Try.func14, Try.ntmps14
          go_wp2_with fail
          refine HN.out.mono ?_
          simp only [Option.getD_some, Option.isSome_some, Ent.enc]
          rintro e w1 ⟨rfl, hB1⟩
          have HB1 := Lib.hid hB1
          clear hB1 HN
          go_wp2_with fail
          refine (HC.out _ (HB1.out.alloc HB1.out.size _)).mono ?_
          rintro e w2 ⟨rfl, hB2⟩
          have x1 : w2.cell? ⟨w1.heap.size, 1, none⟩ = some (.int .u64 x.seq) := (hB2.cell (p := ⟨w1.heap.size, 1, none⟩) (by simp)).trans (by simp)
          have x3 : w2.cell? ⟨w1.heap.size, 3, none⟩ = some (.string x.val) := (hB2.cell (p := ⟨w1.heap.size, 3, none⟩) (by simp)).trans (by simp)
          have HB2 := Lib.hid (HB1.out.next (((Below.refl w1.heap.size w1).alloc (Nat.le_refl _) _).next hB2))
          clear hB2 HC
          go_wp2_with fail
          go_ret2
          exact ⟨rfl, HB2.out⟩
        | true =>
          have hb' : decide (x.seq < c1) = b := by simpa using hb
          have hb2 : decide (c1 > x.seq) = b := by simpa using hb
          clear hb
          go_enter Try.func14, Try.ntmps14
          go_wp2_with fail
          refine HN.out.mono ?_
          simp only [Option.getD_some, Option.isSome_some, Ent.enc]
          rintro e w1 ⟨rfl, hB1⟩
          have HB1 := Lib.hid hB1
          clear hB1 HN
          go_wp2_with fail
          refine (HC.out _ (HB1.out.alloc HB1.out.size _)).mono ?_
          rintro e w2 ⟨rfl, hB2⟩
          have x1 : w2.cell? ⟨w1.heap.size, 1, none⟩ = some (.int .u64 x.seq) := (hB2.cell (p := ⟨w1.heap.size, 1, none⟩) (by simp)).trans (by simp)
          have x3 : w2.cell? ⟨w1.heap.size, 3, none⟩ = some (.string x.val) := (hB2.cell (p := ⟨w1.heap.size, 3, none⟩) (by simp)).trans (by simp)
          have HB2 := Lib.hid (HB1.out.next (((Below.refl w1.heap.size w1).alloc (Nat.le_refl _) _).next hB2))
          clear hB2 HC
          cases b with
          | true =>
            have hlt : x.seq < c1 := of_decide_eq_true hb'
            go_wp2_with fail
            go_ret2
            exact ⟨rfl, HB2.out⟩
          | false =>
            have hlt : ¬ x.seq < c1 := of_decide_eq_false hb'
            go_wp2_with fail
            go_ret2
            exact ⟨rfl, HB2.out⟩
      exact step
    · have hk1 : (x.kind == 1) = false := by rw [beq_eq_false_iff_ne]; exact hk
      rw [if_neg (fun h => hk h.1)]
      clear hk
      go_enter Try.func14, Try.ntmps14
      go_wp2_with fail
      refine HN.out.mono ?_
      simp only [Option.getD_some, Option.isSome_some, Ent.enc]
      rintro e w1 ⟨rfl, hB1⟩
      have HB1 := Lib.hid hB1
      clear hB1 HN HC
      go_wp2_with fail
      go_ret2
      exact ⟨rfl, HB1.out.alloc HB1.out.size _⟩
end Go.Proofs.Ytjiijddlbfgafaa
