/-
  No cell of these rows narrows 'for every input' (looked for: loops, veiled, ifaces, maps, wideKeys, modest, calm, conditions, laid).
  DERIVED. THE GIVEN ROWS OF THIS SEAT. 3 by the template 'for every input the law returns true; each argument reads behind the call as it read before'; 0 by the template 'total and deterministic' (their statements: YtjiijddlbfgafaaTotals.lean).
  GIVEN WITH THE SEED: the statements are not yours to turn. If you find one false, say at which input.
  Laid BY PROGRAM, IN A SANDBOX (cutbox-rows.mjs): the forced cells as the released guide's own fill.sh prints them over the translation b388b11edb376845… (all of the seat's roots in one cut). By AI agents, Wed Nov 11 2026. No macro, syntax, notation, axiom, sorry.
-/
import Derived.Test.YtjiijddlbfgafaaChecked
import GoSem.Claim
import GoSem.ClaimJoined
import GoSem.ClaimMapViews
import Derived.JoinedTies
import Derived.KernelRfl
namespace Go.Proofs.Ytjiijddlbfgafaa
/- THE CELL 'sum', in the pinned program and in every row, IS THE sha256 OF THE DUMP (.gsa) THAT YtjiijddlbfgafaaProg.lean LOADS. Nothing in Lean hashes anything: it is a label: what it is worth is what the hold of that sum in a sandbox is worth. -/
noncomputable def Try.pinned : Pinned := { name := "ytjiijddlbfgafaa", sum := "b388b11edb37684527749a91cd6d8bbdf09c27bb09da221b4f634b8829bbb814", checked := Try.checked }
namespace Rows
def none {H : Type} : Left H := { results := [], args := [] }

/-- 'morainelaw21.DropAgain': WHATEVER THE INPUT: true; the input reads as it did. -/
def dropAgainSpec : ChangeSpec := { name := "dropAgain", fn := fun _ => fun
  | [d1, d2, d3] => { results := [.lit (.bool true)], args := [d1, d2, d3] }
  | _ => none }
def dropAgainRow : OpenClaim := { program := "ytjiijddlbfgafaa", sum := "b388b11edb37684527749a91cd6d8bbdf09c27bb09da221b4f634b8829bbb814", func := "moraine/morainelaw21.DropAgain", spec := "dropAgain", inPlace := ["internal/bytealg.abigen_runtime_cmpstring"], unfollowed := true, recurses := true, apart := false }
def DropAgainSaid : Prop := dropAgainRow.holds Try.pinned (OpenSpec.ofChange dropAgainSpec)

/-- ITS FALSE NEIGHBOUR: 'it returns false'. Refute it at one input. -/
def dropAgainWrong : ChangeSpec := { name := "dropAgain", fn := fun _ => fun
  | [d1, d2, d3] => { results := [.lit (.bool false)], args := [d1, d2, d3] }
  | _ => none }
def DropAgainWrongFalsely : Prop := dropAgainRow.holds Try.pinned (OpenSpec.ofChange dropAgainWrong)

/-- 'morainelaw21.DropUnseen': WHATEVER THE INPUT: true; the input reads as it did. -/
def dropUnseenSpec : ChangeSpec := { name := "dropUnseen", fn := fun _ => fun
  | [d1, d2, d3] => { results := [.lit (.bool true)], args := [d1, d2, d3] }
  | _ => none }
def dropUnseenRow : OpenClaim := { program := "ytjiijddlbfgafaa", sum := "b388b11edb37684527749a91cd6d8bbdf09c27bb09da221b4f634b8829bbb814", func := "moraine/morainelaw21.DropUnseen", spec := "dropUnseen", inPlace := ["internal/bytealg.abigen_runtime_cmpstring"], unfollowed := true, recurses := true, apart := false }
def DropUnseenSaid : Prop := dropUnseenRow.holds Try.pinned (OpenSpec.ofChange dropUnseenSpec)

/-- ITS FALSE NEIGHBOUR: 'it returns false'. Refute it at one input. -/
def dropUnseenWrong : ChangeSpec := { name := "dropUnseen", fn := fun _ => fun
  | [d1, d2, d3] => { results := [.lit (.bool false)], args := [d1, d2, d3] }
  | _ => none }
def DropUnseenWrongFalsely : Prop := dropUnseenRow.holds Try.pinned (OpenSpec.ofChange dropUnseenWrong)

/-- 'morainelaw21.DropDeep': WHATEVER THE INPUT: true; the input reads as it did. -/
def dropDeepSpec : ChangeSpec := { name := "dropDeep", fn := fun _ => fun
  | [d1, d2] => { results := [.lit (.bool true)], args := [d1, d2] }
  | _ => none }
def dropDeepRow : OpenClaim := { program := "ytjiijddlbfgafaa", sum := "b388b11edb37684527749a91cd6d8bbdf09c27bb09da221b4f634b8829bbb814", func := "moraine/morainelaw21.DropDeep", spec := "dropDeep", inPlace := ["internal/bytealg.abigen_runtime_cmpstring"], unfollowed := true, recurses := true, apart := false }
def DropDeepSaid : Prop := dropDeepRow.holds Try.pinned (OpenSpec.ofChange dropDeepSpec)

/-- ITS FALSE NEIGHBOUR: 'it returns false'. Refute it at one input. -/
def dropDeepWrong : ChangeSpec := { name := "dropDeep", fn := fun _ => fun
  | [d1, d2] => { results := [.lit (.bool false)], args := [d1, d2] }
  | _ => none }
def DropDeepWrongFalsely : Prop := dropDeepRow.holds Try.pinned (OpenSpec.ofChange dropDeepWrong)

/- THE SECOND FORM. 'bulk': how many values and letters a reading holds, each counted each time it is reached (what is shared counts as often as it is met; a slice's spare places count too). A statement '..UptoSaid' is the law's where the arguments, and the package variables that the reading takes, are together of bulk at most 1048576: NARROWER than '..Said'. Prove '..Said' where nothing that the law and all that it calls make is longer than what came in: it says more and counts as full. Else prove '..UptoSaid'. A law counts once. -/
mutual
def uptoBulk {H : Type} : DataW H → Nat
  | .lit (.string bytes) => bytes.length + 1
  | .lit _ => 1
  | .nil => 1
  | .ptr d => uptoBulk d + 1
  | .slice elems spare => uptoBulkAll elems + uptoBulkAll spare + 1
  | .agg parts => uptoBulkAll parts + 1
  | .iface _ d => uptoBulk d + 1
  | .map entries => uptoBulkEntries entries + 1
  | .held _ => 1
def uptoBulkAll {H : Type} : List (DataW H) → Nat
  | [] => 0
  | d :: r => uptoBulk d + uptoBulkAll r
def uptoBulkEntries {H : Type} : List (Lit × DataW H) → Nat
  | [] => 0
  | x :: r => uptoBulkEntry x + uptoBulkEntries r
def uptoBulkEntry {H : Type} : Lit × DataW H → Nat
  | (.string bytes, d) => bytes.length + uptoBulk d + 1
  | (_, d) => uptoBulk d + 1
 end
def uptoSmall : (H : Type) → List (DataW H) → Bool := fun _ ds => decide (uptoBulkAll ds ≤ 1048576)
def OpenSpec.upto (s : _root_.Go.ChangeSpec) : _root_.Go.OpenSpec := { _root_.Go.OpenSpec.ofChange s with cond := some uptoSmall }

/-- 'morainelaw21.DropAgain', WHERE WHAT IT READS IS OF BULK AT MOST 1048576: true; the input reads as it did. -/
def dropAgainUptoRow : OpenClaim := { program := "ytjiijddlbfgafaa", sum := "b388b11edb37684527749a91cd6d8bbdf09c27bb09da221b4f634b8829bbb814", func := "moraine/morainelaw21.DropAgain", spec := "dropAgain", inPlace := ["internal/bytealg.abigen_runtime_cmpstring"], unfollowed := true, recurses := true, apart := false, narrowed := true }
def DropAgainUptoSaid : Prop := dropAgainUptoRow.holds Try.pinned (OpenSpec.upto dropAgainSpec)

/-- 'morainelaw21.DropUnseen', WHERE WHAT IT READS IS OF BULK AT MOST 1048576: true; the input reads as it did. -/
def dropUnseenUptoRow : OpenClaim := { program := "ytjiijddlbfgafaa", sum := "b388b11edb37684527749a91cd6d8bbdf09c27bb09da221b4f634b8829bbb814", func := "moraine/morainelaw21.DropUnseen", spec := "dropUnseen", inPlace := ["internal/bytealg.abigen_runtime_cmpstring"], unfollowed := true, recurses := true, apart := false, narrowed := true }
def DropUnseenUptoSaid : Prop := dropUnseenUptoRow.holds Try.pinned (OpenSpec.upto dropUnseenSpec)

/-- 'morainelaw21.DropDeep', WHERE WHAT IT READS IS OF BULK AT MOST 1048576: true; the input reads as it did. -/
def dropDeepUptoRow : OpenClaim := { program := "ytjiijddlbfgafaa", sum := "b388b11edb37684527749a91cd6d8bbdf09c27bb09da221b4f634b8829bbb814", func := "moraine/morainelaw21.DropDeep", spec := "dropDeep", inPlace := ["internal/bytealg.abigen_runtime_cmpstring"], unfollowed := true, recurses := true, apart := false, narrowed := true }
def DropDeepUptoSaid : Prop := dropDeepUptoRow.holds Try.pinned (OpenSpec.upto dropDeepSpec)

end Rows
end Go.Proofs.Ytjiijddlbfgafaa
