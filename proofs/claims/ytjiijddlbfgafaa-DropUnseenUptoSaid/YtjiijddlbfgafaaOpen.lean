/- The arguments opened: slices of entries, tombs, files, numbers; and the bound of the statement. -/
import Derived.Test.YtjiijddlbfgafaaRows
import Derived.Test.YtjiijddlbfgafaaSpec
import Derived.Test.YtjiijddlbfgafaaRow
import Derived.Test.YtjiijddlbfgafaaOwnU
import Derived.Deep.Slices
set_option linter.unusedVariables false
set_option linter.unusedSimpArgs false
namespace Go.Proofs.Ytjiijddlbfgafaa
open Go.ChangeShapes Go.WideShapes Go.RowKit
section
variable {H : Type} {en : TypeId × Value → H} {w : World} {base : Nat} {spare : Nat → Bool} {held : Bool} {fuel : Nat} {cs : List Value} {x : DataW H × List MemPlace}
theorem one_str (h : DataW.trod en Try.prog w base spare held fuel 9 cs = some x) : ∃ s, cs = [.string s] := by
  obtain ⟨s, e, _⟩ := DataW.trod_string Try.underlying9 h
  exact ⟨s, e⟩
theorem one_u64 (h : DataW.trod en Try.prog w base spare held fuel 36 cs = some x) : ∃ q : Int, cs = [.int .u64 q] ∧ 0 ≤ q ∧ q ≤ 18446744073709551615 := by
  obtain ⟨q, e, _, hw⟩ := DataW.trod_int Try.underlying36 h
  refine ⟨q, e, ?_⟩
  simp only [Lit.wf, Bool.and_eq_true, decide_eq_true_eq] at hw
  exact ⟨Int.le_trans (by decide) hw.1, Int.le_trans hw.2 (by decide)⟩
theorem one_i64 (h : DataW.trod en Try.prog w base spare held fuel 3 cs = some x) : ∃ q : Int, cs = [.int .i64 q] := by
  obtain ⟨q, e, _⟩ := DataW.trod_int Try.underlying3 h
  exact ⟨q, e⟩
theorem c_str : Try.prog.cellsOf 9 = 1 := by kernel_rfl
theorem c_u64 : Try.prog.cellsOf 36 = 1 := by kernel_rfl
theorem c_int : Try.prog.cellsOf 3 = 1 := by kernel_rfl
/-- A number of 64 bits. -/
def InU (q : Int) : Prop := 0 ≤ q ∧ q ≤ 18446744073709551615
theorem len3 {α : Type} {l : List α} (h : l.length = 3) : ∃ a b c, l = [a, b, c] := by
  match l, h with
  | [a, b, c], _ => exact ⟨a, b, c, rfl⟩
theorem len4 {α : Type} {l : List α} (h : l.length = 4) : ∃ a b c d, l = [a, b, c, d] := by
  match l, h with
  | [a, b, c, d], _ => exact ⟨a, b, c, d, rfl⟩
theorem len6 {α : Type} {l : List α} (h : l.length = 6) : ∃ a b c d e f, l = [a, b, c, d, e, f] := by
  match l, h with
  | [a, b, c, d, e, f], _ => exact ⟨a, b, c, d, e, f, rfl⟩
theorem ent_of (hl : cs.length = 4) (h : DataW.trod en Try.prog w base spare held fuel 48 cs = some x) : ∃ y : Ent, cs = y.enc ∧ InU y.seq := by
  obtain ⟨xs, n, _, _, _, hxl, hf⟩ := DataW.trod_struct Try.underlying48 h
  obtain ⟨y0, y1, y2, y3, rfl⟩ := len4 (hxl.trans rfl)
  obtain ⟨v0, v1, v2, v3, rfl⟩ := len4 hl
  clear hxl h
  have g0 := hf 0 _ rfl
  have g1 := hf 1 _ rfl
  have g2 := hf 2 _ rfl
  have g3 := hf 3 _ rfl
  simp [c_str, c_u64, c_int] at g0 g1 g2 g3
  obtain ⟨s0, e0⟩ := one_str g0
  obtain ⟨s1, e1, r1⟩ := one_u64 g1
  obtain ⟨s2, e2⟩ := one_i64 g2
  obtain ⟨s3, e3⟩ := one_str g3
  simp at e0 e1 e2 e3
  exact ⟨⟨s0, s1, s2, s3⟩, by simp [Ent.enc, e0, e1, e2, e3], r1⟩
theorem tomb_of (hl : cs.length = 3) (h : DataW.trod en Try.prog w base spare held fuel 38 cs = some x) : ∃ y : Tomb, cs = y.enc ∧ InU y.seq := by
  obtain ⟨xs, n, _, _, _, hxl, hf⟩ := DataW.trod_struct Try.underlying38 h
  obtain ⟨y0, y1, y2, rfl⟩ := len3 (hxl.trans rfl)
  obtain ⟨v0, v1, v2, rfl⟩ := len3 hl
  clear hxl h
  have g0 := hf 0 _ rfl
  have g1 := hf 1 _ rfl
  have g2 := hf 2 _ rfl
  simp [c_str, c_u64, c_int] at g0 g1 g2
  obtain ⟨s0, e0⟩ := one_str g0
  obtain ⟨s1, e1⟩ := one_str g1
  obtain ⟨s2, e2, r2⟩ := one_u64 g2
  simp at e0 e1 e2
  exact ⟨⟨s0, s1, s2⟩, by simp [Tomb.enc, e0, e1, e2], r2⟩
theorem file_of (hl : cs.length = 6) (h : DataW.trod en Try.prog w base spare held fuel 74 cs = some x) : ∃ y : File, cs = y.enc ∧ True := by
  obtain ⟨xs, n, _, _, _, hxl, hf⟩ := DataW.trod_struct Try.underlying74 h
  obtain ⟨y0, y1, y2, y3, y4, y5, rfl⟩ := len6 (hxl.trans rfl)
  obtain ⟨v0, v1, v2, v3, v4, v5, rfl⟩ := len6 hl
  clear hxl h
  have g0 := hf 0 _ rfl
  have g1 := hf 1 _ rfl
  have g2 := hf 2 _ rfl
  have g3 := hf 3 _ rfl
  have g4 := hf 4 _ rfl
  have g5 := hf 5 _ rfl
  simp [c_str, c_u64, c_int] at g0 g1 g2 g3 g4 g5
  obtain ⟨s0, e0⟩ := one_i64 g0
  obtain ⟨s1, e1⟩ := one_i64 g1
  obtain ⟨s2, e2⟩ := one_str g2
  obtain ⟨s3, e3⟩ := one_str g3
  obtain ⟨s4, e4, _⟩ := one_u64 g4
  obtain ⟨s5, e5, _⟩ := one_u64 g5
  simp at e0 e1 e2 e3 e4 e5
  exact ⟨⟨s0, s1, s2, s3, s4, s5⟩, by simp [File.enc, e0, e1, e2, e3, e4, e5], trivial⟩
theorem u64_of (hl : cs.length = 1) (h : DataW.trod en Try.prog w base spare held fuel 36 cs = some x) : ∃ y : Int, cs = en1 (Value.int .u64) y ∧ InU y := by
  obtain ⟨q, e, r⟩ := one_u64 h
  exact ⟨q, e, r⟩
theorem bulk_len (l : List (DataW H)) : l.length ≤ Rows.uptoBulkAll l := by
  induction l with
  | nil => simp [Rows.uptoBulkAll]
  | cons x r ih =>
    have : 1 ≤ Rows.uptoBulk x := by
      cases x with
      | lit l => cases l <;> simp [Rows.uptoBulk]
      | _ => simp [Rows.uptoBulk]
    simp only [Rows.uptoBulkAll, List.length_cons]
    omega
/-- A slice opened. -/
theorem open_rds {α : Type} [Inhabited α] {enc : α → List Value} {k : Nat} {Q : α → Prop} {t e : TypeId} (ht : Try.prog.underlying t = some (.slice e)) (hk : Try.prog.cellsOf e = k)
    (hof : ∀ (fuel : Nat) (cs : List Value) (x : DataW H × List MemPlace), cs.length = k → DataW.trod en Try.prog w base spare held fuel e cs = some x → ∃ y, cs = enc y ∧ Q y)
    (h : DataW.trod en Try.prog w base spare held fuel t cs = some x) :
    ∃ (A : Option Addr) (c : Nat) (xs : List α), cs = [.slice A xs.length c] ∧ Rds enc k w A xs ∧ (∀ y ∈ xs, Q y) ∧ xs.length < Rows.uptoBulk x.1 ∧ xs.length ≤ c := by
  rcases Go.Deep.open_slice ht h with ⟨rfl, rfl⟩ | ⟨a, len, cap, m, n, D, Pl, rfl, hb, hl, hm, hmm, rfl, hx⟩
  · exact ⟨none, 0, [], rfl, Rds.nil, by simp, by simp [Rows.uptoBulk], Nat.le_refl _⟩
  have hlm : len ≤ m := by rw [hmm]; split <;> omega
  have each : ∀ i, i < len → ∃ y : α, (∀ j u, (enc y)[j]? = some u → w.cell? (a.add (i * k + j)) = some u) ∧ Q y := fun i hi => by
    obtain ⟨cs', h1, h2⟩ := hx i (by omega)
    rw [hk] at h1
    obtain ⟨_, hlen, hcell⟩ := World.cells?_some h1
    obtain ⟨y, hy, hq⟩ := hof n cs' _ hlen h2
    refine ⟨y, fun j u hu => ?_, hq⟩
    have hj : j < k := by
      have := (List.getElem?_eq_some_iff.1 hu).1
      rw [← hy, hlen] at this
      exact this
    have := hcell j hj
    rw [Go.Deep.add_add] at this
    rw [this, hy]
    exact hu
  obtain ⟨Y, hY⟩ := Go.Deep.choose_lt each
  refine ⟨some a, cap, (List.range len).map Y, by simp, ?_, ?_, ?_, by simpa using hl⟩
  · intro j y hy
    simp only [List.getElem?_map, Option.map_eq_some_iff] at hy
    obtain ⟨j', hj', rfl⟩ := hy
    obtain ⟨hlt, rfl⟩ := List.getElem?_eq_some_iff.1 hj'
    simp at hlt
    simp only [List.getElem_range]
    exact ⟨a, rfl, (hY j hlt).1⟩
  · intro y hy
    obtain ⟨i, hi, rfl⟩ := List.mem_map.1 hy
    exact (hY i (by simpa using hi)).2
  · have := bulk_len ((List.range len).map D)
    simp only [Rows.uptoBulk, List.length_map, List.length_range] at this ⊢
    omega
theorem c_ent : Try.prog.cellsOf 48 = 4 := by kernel_rfl
theorem c_tomb : Try.prog.cellsOf 38 = 3 := by kernel_rfl
theorem c_file : Try.prog.cellsOf 74 = 6 := by kernel_rfl
theorem open_ents (h : DataW.trod en Try.prog w base spare held fuel 22 cs = some x) :
    ∃ (A : Option Addr) (c : Nat) (xs : List Ent), cs = [.slice A xs.length c] ∧ Rds Ent.enc 4 w A xs ∧ (∀ y ∈ xs, InU y.seq) ∧ xs.length < Rows.uptoBulk x.1 ∧ xs.length ≤ c :=
  open_rds Try.underlying22 c_ent (fun _ _ _ hl h => ent_of hl h) h
theorem open_tombs (h : DataW.trod en Try.prog w base spare held fuel 23 cs = some x) :
    ∃ (A : Option Addr) (c : Nat) (xs : List Tomb), cs = [.slice A xs.length c] ∧ Rds Tomb.enc 3 w A xs ∧ (∀ y ∈ xs, InU y.seq) ∧ xs.length < Rows.uptoBulk x.1 ∧ xs.length ≤ c :=
  open_rds Try.underlying23 c_tomb (fun _ _ _ hl h => tomb_of hl h) h
theorem open_files (h : DataW.trod en Try.prog w base spare held fuel 25 cs = some x) :
    ∃ (A : Option Addr) (c : Nat) (xs : List File), cs = [.slice A xs.length c] ∧ Rds File.enc 6 w A xs ∧ (∀ y ∈ xs, True) ∧ xs.length < Rows.uptoBulk x.1 ∧ xs.length ≤ c :=
  open_rds Try.underlying25 c_file (fun _ _ _ hl h => file_of hl h) h
theorem open_u64s (h : DataW.trod en Try.prog w base spare held fuel 24 cs = some x) :
    ∃ (A : Option Addr) (c : Nat) (xs : List Int), cs = [.slice A xs.length c] ∧ Rds (en1 (Value.int .u64)) 1 w A xs ∧ (∀ y ∈ xs, InU y) ∧ xs.length < Rows.uptoBulk x.1 ∧ xs.length ≤ c :=
  open_rds Try.underlying24 c_u64 (fun _ _ _ hl h => u64_of hl h) h
end
end Go.Proofs.Ytjiijddlbfgafaa
