/-
  No cell of these rows narrows 'for every input' (looked for: loops, veiled, ifaces, maps, wideKeys, modest, calm, conditions, laid).
  DERIVED. THE GIVEN ROWS OF THIS SEAT. 9 by the template 'for every input the law returns true; each argument reads behind the call as it read before'; 0 by the template 'total and deterministic' (their statements: YtbdeppefllcocaaTotals.lean).
  GIVEN WITH THE SEED: the statements are not yours to turn. If you find one false, say at which input.
  Laid BY PROGRAM, IN A SANDBOX (cutbox-rows.mjs): the forced cells as the released guide's own fill.sh prints them over the translation f4d72fb831ab6d5b… (all of the seat's roots in one cut). By AI agents, Wed Nov 11 2026. No macro, syntax, notation, axiom, sorry.
-/
import Derived.Test.YtbdeppefllcocaaChecked
import GoSem.Claim
import GoSem.ClaimJoined
import GoSem.ClaimMapViews
import Derived.JoinedTies
import Derived.KernelRfl
namespace Go.Proofs.Ytbdeppefllcocaa
/- THE CELL 'sum', in the pinned program and in every row, IS THE sha256 OF THE DUMP (.gsa) THAT YtbdeppefllcocaaProg.lean LOADS. Nothing in Lean hashes anything: it is a label: what it is worth is what the hold of that sum in a sandbox is worth. -/
noncomputable def Try.pinned : Pinned := { name := "ytbdeppefllcocaa", sum := "f4d72fb831ab6d5b70144cebc359e4313f862e87f7cdecc15764a6237c52429b", checked := Try.checked }
namespace Rows
def none {H : Type} : Left H := { results := [], args := [] }

/-- 'lagleashlaw15.LeashNames': WHATEVER THE INPUT: true; the input reads as it did. -/
def leashNamesSpec : ChangeSpec := { name := "leashNames", fn := fun _ => fun
  | [] => { results := [.lit (.bool true)], args := [] }
  | _ => none }
def leashNamesRow : OpenClaim := { program := "ytbdeppefllcocaa", sum := "f4d72fb831ab6d5b70144cebc359e4313f862e87f7cdecc15764a6237c52429b", func := "lagleash/lagleashlaw15.LeashNames", spec := "leashNames", apart := false }
def LeashNamesSaid : Prop := leashNamesRow.holds Try.pinned (OpenSpec.ofChange leashNamesSpec)

/-- ITS FALSE NEIGHBOUR: 'it returns false'. Refute it at one input. -/
def leashNamesWrong : ChangeSpec := { name := "leashNames", fn := fun _ => fun
  | [] => { results := [.lit (.bool false)], args := [] }
  | _ => none }
def LeashNamesWrongFalsely : Prop := leashNamesRow.holds Try.pinned (OpenSpec.ofChange leashNamesWrong)

/-- 'lagleashlaw15.LeashCalls': WHATEVER THE INPUT: true; the input reads as it did. -/
def leashCallsSpec : ChangeSpec := { name := "leashCalls", fn := fun _ => fun
  | [d1, d2, d3, d4] => { results := [.lit (.bool true)], args := [d1, d2, d3, d4] }
  | _ => none }
def leashCallsRow : OpenClaim := { program := "ytbdeppefllcocaa", sum := "f4d72fb831ab6d5b70144cebc359e4313f862e87f7cdecc15764a6237c52429b", func := "lagleash/lagleashlaw15.LeashCalls", spec := "leashCalls", apart := false }
def LeashCallsSaid : Prop := leashCallsRow.holds Try.pinned (OpenSpec.ofChange leashCallsSpec)

/-- ITS FALSE NEIGHBOUR: 'it returns false'. Refute it at one input. -/
def leashCallsWrong : ChangeSpec := { name := "leashCalls", fn := fun _ => fun
  | [d1, d2, d3, d4] => { results := [.lit (.bool false)], args := [d1, d2, d3, d4] }
  | _ => none }
def LeashCallsWrongFalsely : Prop := leashCallsRow.holds Try.pinned (OpenSpec.ofChange leashCallsWrong)

/-- 'lagleashlaw15.LeashHolds': WHATEVER THE INPUT: true; the input reads as it did. -/
def leashHoldsSpec : ChangeSpec := { name := "leashHolds", fn := fun _ => fun
  | [d1, d2] => { results := [.lit (.bool true)], args := [d1, d2] }
  | _ => none }
def leashHoldsRow : OpenClaim := { program := "ytbdeppefllcocaa", sum := "f4d72fb831ab6d5b70144cebc359e4313f862e87f7cdecc15764a6237c52429b", func := "lagleash/lagleashlaw15.LeashHolds", spec := "leashHolds", apart := false }
def LeashHoldsSaid : Prop := leashHoldsRow.holds Try.pinned (OpenSpec.ofChange leashHoldsSpec)

/-- ITS FALSE NEIGHBOUR: 'it returns false'. Refute it at one input. -/
def leashHoldsWrong : ChangeSpec := { name := "leashHolds", fn := fun _ => fun
  | [d1, d2] => { results := [.lit (.bool false)], args := [d1, d2] }
  | _ => none }
def LeashHoldsWrongFalsely : Prop := leashHoldsRow.holds Try.pinned (OpenSpec.ofChange leashHoldsWrong)

/-- 'lagleashlaw15.LeashOrder': WHATEVER THE INPUT: true; the input reads as it did. -/
def leashOrderSpec : ChangeSpec := { name := "leashOrder", fn := fun _ => fun
  | [d1, d2, d3, d4, d5] => { results := [.lit (.bool true)], args := [d1, d2, d3, d4, d5] }
  | _ => none }
def leashOrderRow : OpenClaim := { program := "ytbdeppefllcocaa", sum := "f4d72fb831ab6d5b70144cebc359e4313f862e87f7cdecc15764a6237c52429b", func := "lagleash/lagleashlaw15.LeashOrder", spec := "leashOrder", apart := false }
def LeashOrderSaid : Prop := leashOrderRow.holds Try.pinned (OpenSpec.ofChange leashOrderSpec)

/-- ITS FALSE NEIGHBOUR: 'it returns false'. Refute it at one input. -/
def leashOrderWrong : ChangeSpec := { name := "leashOrder", fn := fun _ => fun
  | [d1, d2, d3, d4, d5] => { results := [.lit (.bool false)], args := [d1, d2, d3, d4, d5] }
  | _ => none }
def LeashOrderWrongFalsely : Prop := leashOrderRow.holds Try.pinned (OpenSpec.ofChange leashOrderWrong)

/-- 'lagleashlaw02.OpWords': WHATEVER THE INPUT: true; the input reads as it did. -/
def opWordsSpec : ChangeSpec := { name := "opWords", fn := fun _ => fun
  | [d1, d2] => { results := [.lit (.bool true)], args := [d1, d2] }
  | _ => none }
def opWordsRow : OpenClaim := { program := "ytbdeppefllcocaa", sum := "f4d72fb831ab6d5b70144cebc359e4313f862e87f7cdecc15764a6237c52429b", func := "lagleash/lagleashlaw02.OpWords", spec := "opWords", apart := false }
def OpWordsSaid : Prop := opWordsRow.holds Try.pinned (OpenSpec.ofChange opWordsSpec)

/-- ITS FALSE NEIGHBOUR: 'it returns false'. Refute it at one input. -/
def opWordsWrong : ChangeSpec := { name := "opWords", fn := fun _ => fun
  | [d1, d2] => { results := [.lit (.bool false)], args := [d1, d2] }
  | _ => none }
def OpWordsWrongFalsely : Prop := opWordsRow.holds Try.pinned (OpenSpec.ofChange opWordsWrong)

/-- 'lagleashlaw02.OpCalls': WHATEVER THE INPUT: true; the input reads as it did. -/
def opCallsSpec : ChangeSpec := { name := "opCalls", fn := fun _ => fun
  | [d1, d2] => { results := [.lit (.bool true)], args := [d1, d2] }
  | _ => none }
def opCallsRow : OpenClaim := { program := "ytbdeppefllcocaa", sum := "f4d72fb831ab6d5b70144cebc359e4313f862e87f7cdecc15764a6237c52429b", func := "lagleash/lagleashlaw02.OpCalls", spec := "opCalls", apart := false }
def OpCallsSaid : Prop := opCallsRow.holds Try.pinned (OpenSpec.ofChange opCallsSpec)

/-- ITS FALSE NEIGHBOUR: 'it returns false'. Refute it at one input. -/
def opCallsWrong : ChangeSpec := { name := "opCalls", fn := fun _ => fun
  | [d1, d2] => { results := [.lit (.bool false)], args := [d1, d2] }
  | _ => none }
def OpCallsWrongFalsely : Prop := opCallsRow.holds Try.pinned (OpenSpec.ofChange opCallsWrong)

/-- 'lagleashlaw02.OpReads': WHATEVER THE INPUT: true; the input reads as it did. -/
def opReadsSpec : ChangeSpec := { name := "opReads", fn := fun _ => fun
  | [d] => { results := [.lit (.bool true)], args := [d] }
  | _ => none }
def opReadsRow : OpenClaim := { program := "ytbdeppefllcocaa", sum := "f4d72fb831ab6d5b70144cebc359e4313f862e87f7cdecc15764a6237c52429b", func := "lagleash/lagleashlaw02.OpReads", spec := "opReads", apart := false }
def OpReadsSaid : Prop := opReadsRow.holds Try.pinned (OpenSpec.ofChange opReadsSpec)

/-- ITS FALSE NEIGHBOUR: 'it returns false'. Refute it at one input. -/
def opReadsWrong : ChangeSpec := { name := "opReads", fn := fun _ => fun
  | [d] => { results := [.lit (.bool false)], args := [d] }
  | _ => none }
def OpReadsWrongFalsely : Prop := opReadsRow.holds Try.pinned (OpenSpec.ofChange opReadsWrong)

/-- 'lagleashlaw02.OpBack': WHATEVER THE INPUT: true; the input reads as it did. -/
def opBackSpec : ChangeSpec := { name := "opBack", fn := fun _ => fun
  | [d1, d2, d3, d4] => { results := [.lit (.bool true)], args := [d1, d2, d3, d4] }
  | _ => none }
def opBackRow : OpenClaim := { program := "ytbdeppefllcocaa", sum := "f4d72fb831ab6d5b70144cebc359e4313f862e87f7cdecc15764a6237c52429b", func := "lagleash/lagleashlaw02.OpBack", spec := "opBack", inPlace := ["internal/bytealg.IndexByteString", "internal/bytealg.IndexString"], named := ["internal/bytealg.MaxLen"], apart := false }
def OpBackSaid : Prop := opBackRow.holds Try.pinned (OpenSpec.ofChange opBackSpec)

/-- ITS FALSE NEIGHBOUR: 'it returns false'. Refute it at one input. -/
def opBackWrong : ChangeSpec := { name := "opBack", fn := fun _ => fun
  | [d1, d2, d3, d4] => { results := [.lit (.bool false)], args := [d1, d2, d3, d4] }
  | _ => none }
def OpBackWrongFalsely : Prop := opBackRow.holds Try.pinned (OpenSpec.ofChange opBackWrong)

/-- 'lagleashlaw02.OpNames': WHATEVER THE INPUT: true; the input reads as it did. -/
def opNamesSpec : ChangeSpec := { name := "opNames", fn := fun _ => fun
  | [] => { results := [.lit (.bool true)], args := [] }
  | _ => none }
def opNamesRow : OpenClaim := { program := "ytbdeppefllcocaa", sum := "f4d72fb831ab6d5b70144cebc359e4313f862e87f7cdecc15764a6237c52429b", func := "lagleash/lagleashlaw02.OpNames", spec := "opNames", inPlace := ["internal/abi.NoEscape", "internal/bytealg.MakeNoZero"], apart := false }
def OpNamesSaid : Prop := opNamesRow.holds Try.pinned (OpenSpec.ofChange opNamesSpec)

/-- ITS FALSE NEIGHBOUR: 'it returns false'. Refute it at one input. -/
def opNamesWrong : ChangeSpec := { name := "opNames", fn := fun _ => fun
  | [] => { results := [.lit (.bool false)], args := [] }
  | _ => none }
def OpNamesWrongFalsely : Prop := opNamesRow.holds Try.pinned (OpenSpec.ofChange opNamesWrong)

/- THE SECOND FORM. 'bulk': how many values and letters a reading holds, each counted each time it is reached (what is shared counts as often as it is met; a slice's spare places count too). A statement '..UptoSaid' is the law's where the arguments, and the package variables that the reading takes, are together of bulk at most 1048576: NARROWER than '..Said'. Prove '..Said' where nothing that the law and all that it calls make is longer than what came in: it says more and counts as full. Else prove '..UptoSaid'. A law counts once. -/
mutual
def uptoBulk {H : Type} : DataW H → Nat
  | .lit (.string bytes) => bytes.length + 1
  | .lit _ => 1
  | .nil => 1
  | .ptr d => uptoBulk d + 1
  | .slice elems spare => uptoBulkAll elems + uptoBulkAll spare + 1
  | .agg parts => uptoBulkAll parts + 1
  | .iface _ d => uptoBulk d + 1
  | .map entries => uptoBulkEntries entries + 1
  | .held _ => 1
def uptoBulkAll {H : Type} : List (DataW H) → Nat
  | [] => 0
  | d :: r => uptoBulk d + uptoBulkAll r
def uptoBulkEntries {H : Type} : List (Lit × DataW H) → Nat
  | [] => 0
  | x :: r => uptoBulkEntry x + uptoBulkEntries r
def uptoBulkEntry {H : Type} : Lit × DataW H → Nat
  | (.string bytes, d) => bytes.length + uptoBulk d + 1
  | (_, d) => uptoBulk d + 1
 end
def uptoSmall : (H : Type) → List (DataW H) → Bool := fun _ ds => decide (uptoBulkAll ds ≤ 1048576)
def OpenSpec.upto (s : _root_.Go.ChangeSpec) : _root_.Go.OpenSpec := { _root_.Go.OpenSpec.ofChange s with cond := some uptoSmall }

/-- 'lagleashlaw15.LeashNames', WHERE WHAT IT READS IS OF BULK AT MOST 1048576: true; the input reads as it did. -/
def leashNamesUptoRow : OpenClaim := { program := "ytbdeppefllcocaa", sum := "f4d72fb831ab6d5b70144cebc359e4313f862e87f7cdecc15764a6237c52429b", func := "lagleash/lagleashlaw15.LeashNames", spec := "leashNames", apart := false, narrowed := true }
def LeashNamesUptoSaid : Prop := leashNamesUptoRow.holds Try.pinned (OpenSpec.upto leashNamesSpec)

/-- 'lagleashlaw15.LeashCalls', WHERE WHAT IT READS IS OF BULK AT MOST 1048576: true; the input reads as it did. -/
def leashCallsUptoRow : OpenClaim := { program := "ytbdeppefllcocaa", sum := "f4d72fb831ab6d5b70144cebc359e4313f862e87f7cdecc15764a6237c52429b", func := "lagleash/lagleashlaw15.LeashCalls", spec := "leashCalls", apart := false, narrowed := true }
def LeashCallsUptoSaid : Prop := leashCallsUptoRow.holds Try.pinned (OpenSpec.upto leashCallsSpec)

/-- 'lagleashlaw15.LeashHolds', WHERE WHAT IT READS IS OF BULK AT MOST 1048576: true; the input reads as it did. -/
def leashHoldsUptoRow : OpenClaim := { program := "ytbdeppefllcocaa", sum := "f4d72fb831ab6d5b70144cebc359e4313f862e87f7cdecc15764a6237c52429b", func := "lagleash/lagleashlaw15.LeashHolds", spec := "leashHolds", apart := false, narrowed := true }
def LeashHoldsUptoSaid : Prop := leashHoldsUptoRow.holds Try.pinned (OpenSpec.upto leashHoldsSpec)

/-- 'lagleashlaw15.LeashOrder', WHERE WHAT IT READS IS OF BULK AT MOST 1048576: true; the input reads as it did. -/
def leashOrderUptoRow : OpenClaim := { program := "ytbdeppefllcocaa", sum := "f4d72fb831ab6d5b70144cebc359e4313f862e87f7cdecc15764a6237c52429b", func := "lagleash/lagleashlaw15.LeashOrder", spec := "leashOrder", apart := false, narrowed := true }
def LeashOrderUptoSaid : Prop := leashOrderUptoRow.holds Try.pinned (OpenSpec.upto leashOrderSpec)

/-- 'lagleashlaw02.OpWords', WHERE WHAT IT READS IS OF BULK AT MOST 1048576: true; the input reads as it did. -/
def opWordsUptoRow : OpenClaim := { program := "ytbdeppefllcocaa", sum := "f4d72fb831ab6d5b70144cebc359e4313f862e87f7cdecc15764a6237c52429b", func := "lagleash/lagleashlaw02.OpWords", spec := "opWords", apart := false, narrowed := true }
def OpWordsUptoSaid : Prop := opWordsUptoRow.holds Try.pinned (OpenSpec.upto opWordsSpec)

/-- 'lagleashlaw02.OpCalls', WHERE WHAT IT READS IS OF BULK AT MOST 1048576: true; the input reads as it did. -/
def opCallsUptoRow : OpenClaim := { program := "ytbdeppefllcocaa", sum := "f4d72fb831ab6d5b70144cebc359e4313f862e87f7cdecc15764a6237c52429b", func := "lagleash/lagleashlaw02.OpCalls", spec := "opCalls", apart := false, narrowed := true }
def OpCallsUptoSaid : Prop := opCallsUptoRow.holds Try.pinned (OpenSpec.upto opCallsSpec)

/-- 'lagleashlaw02.OpReads', WHERE WHAT IT READS IS OF BULK AT MOST 1048576: true; the input reads as it did. -/
def opReadsUptoRow : OpenClaim := { program := "ytbdeppefllcocaa", sum := "f4d72fb831ab6d5b70144cebc359e4313f862e87f7cdecc15764a6237c52429b", func := "lagleash/lagleashlaw02.OpReads", spec := "opReads", apart := false, narrowed := true }
def OpReadsUptoSaid : Prop := opReadsUptoRow.holds Try.pinned (OpenSpec.upto opReadsSpec)

/-- 'lagleashlaw02.OpBack', WHERE WHAT IT READS IS OF BULK AT MOST 1048576: true; the input reads as it did. -/
def opBackUptoRow : OpenClaim := { program := "ytbdeppefllcocaa", sum := "f4d72fb831ab6d5b70144cebc359e4313f862e87f7cdecc15764a6237c52429b", func := "lagleash/lagleashlaw02.OpBack", spec := "opBack", inPlace := ["internal/bytealg.IndexByteString", "internal/bytealg.IndexString"], named := ["internal/bytealg.MaxLen"], apart := false, narrowed := true }
def OpBackUptoSaid : Prop := opBackUptoRow.holds Try.pinned (OpenSpec.upto opBackSpec)

/-- 'lagleashlaw02.OpNames', WHERE WHAT IT READS IS OF BULK AT MOST 1048576: true; the input reads as it did. -/
def opNamesUptoRow : OpenClaim := { program := "ytbdeppefllcocaa", sum := "f4d72fb831ab6d5b70144cebc359e4313f862e87f7cdecc15764a6237c52429b", func := "lagleash/lagleashlaw02.OpNames", spec := "opNames", inPlace := ["internal/abi.NoEscape", "internal/bytealg.MakeNoZero"], apart := false, narrowed := true }
def OpNamesUptoSaid : Prop := opNamesUptoRow.holds Try.pinned (OpenSpec.upto opNamesSpec)

end Rows
end Go.Proofs.Ytbdeppefllcocaa
