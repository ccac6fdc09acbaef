/- Plain definitions: the data of the moraine laws and what the program's functions compute of them. No program in sight. -/
import Derived.Lib.Bytealg
import Derived.WalkKit
set_option linter.unusedVariables false
namespace Go.Proofs.Ytjiijddlbfgafaa

/-- api.Entry -/
structure Ent where
  key : ByteArray
  seq : Int
  kind : Int
  val : ByteArray
deriving Inhabited
/-- api.IKey -/
structure IKey where
  key : ByteArray
  seq : Int
  kind : Int
deriving Inhabited
/-- api.Tomb -/
structure Tomb where
  b : ByteArray
  e : ByteArray
  seq : Int
deriving Inhabited
/-- api.File -/
structure File where
  number : Int
  size : Int
  least : ByteArray
  limit : ByteArray
  low : Int
  high : Int
deriving Inhabited
/-- api.Op -/
structure AOp where
  kind : Int
  key : ByteArray
  val : ByteArray
deriving Inhabited

def Ent.ikey (e : Ent) : IKey := ⟨e.key, e.seq, e.kind⟩
def Ent.enc (x : Ent) : List Value := [.string x.key, .int .u64 x.seq, .int .i64 x.kind, .string x.val]
def IKey.enc (x : IKey) : List Value := [.string x.key, .int .u64 x.seq, .int .i64 x.kind]
def Tomb.enc (x : Tomb) : List Value := [.string x.b, .string x.e, .int .u64 x.seq]
def File.enc (x : File) : List Value := [.int .i64 x.number, .int .i64 x.size, .string x.least, .string x.limit, .int .u64 x.low, .int .u64 x.high]
def AOp.enc (x : AOp) : List Value := [.int .i64 x.kind, .string x.key, .string x.val]
def encU (x : Int) : List Value := [.int .u64 x]
def encI (x : Int) : List Value := [.int .i64 x]
def encS (x : ByteArray) : List Value := [.string x]

/-- The order of strings. -/
def klt (a b : ByteArray) : Bool := Op.bytesLess a.toList b.toList
def kle (a b : ByteArray) : Bool := Op.bytesLess a.toList b.toList || a.toList == b.toList
/-- cmp.Compare of two whole numbers -/
def cmpI (x y : Int) : Int := if x < y then -1 else if y < x then 1 else 0
/-- strings.Compare -/
def cmpS (a b : ByteArray) : Int := Lib.compareBytes a.data.toList b.data.toList
/-- cmp.Or of three -/
def or3 (a b c : Int) : Int := if a ≠ 0 then a else if b ≠ 0 then b else c
/-- ikey.Compare -/
def cmpK (a b : IKey) : Int := or3 (cmpS a.key b.key) (cmpI b.seq a.seq) (cmpI b.kind a.kind)
/-- ikey.entries -/
def cmpE (a b : Ent) : Int := cmpK a.ikey b.ikey
/-- tomb.Valid -/
def validB (t : Tomb) : Bool := !t.b.toList.isEmpty && decide ((t.b.size : Int) ≤ 1024) && decide ((t.e.size : Int) ≤ 1025) && Op.bytesLess t.b.toList t.e.toList && decide (t.seq ≤ 72057594037927935)
/-- tomb.Cover, a round -/
def coverStep (key : ByteArray) (seq : Int) (acc : Int × Bool) (t : Tomb) : Int × Bool :=
  if validB t && decide (t.seq ≤ seq) && kle t.b key && klt key t.e then (max acc.1 t.seq, true) else acc
theorem coverStep_yes {key : ByteArray} {seq : Int} {acc : Int × Bool} {t : Tomb} (h : validB t = true ∧ t.seq ≤ seq ∧ kle t.b key = true ∧ klt key t.e = true) :
    coverStep key seq acc t = (max acc.1 t.seq, true) := by simp [coverStep, h]
theorem coverStep_no {key : ByteArray} {seq : Int} {acc : Int × Bool} {t : Tomb} (h : ¬ (validB t = true ∧ t.seq ≤ seq ∧ kle t.b key = true ∧ klt key t.e = true)) :
    coverStep key seq acc t = acc := by
  unfold coverStep
  rw [if_neg]
  simpa [and_assoc] using h
/-- tomb.Cover -/
def coverS (l : List Tomb) (key : ByteArray) (seq : Int) : Int × Bool := l.foldl (coverStep key seq) (0, false)
theorem foldl_take {α β : Type} {f : β → α → β} {a : β} {l : List α} {j : Nat} {x : α} (h : l[j]? = some x) : (l.take (j + 1)).foldl f a = f ((l.take j).foldl f a) x := by
  rw [List.take_add_one, h]; simp
end Go.Proofs.Ytjiijddlbfgafaa
