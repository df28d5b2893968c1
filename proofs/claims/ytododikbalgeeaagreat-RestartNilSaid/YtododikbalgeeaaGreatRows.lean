/-
  No cell of these rows narrows 'for every input' (looked for: loops, veiled, ifaces, maps, wideKeys, modest, calm, conditions, laid).
  DERIVED. THE GIVEN ROWS OF THIS SEAT. 5 by the template 'for every input the law returns true; each argument reads behind the call as it read before'; 0 by the template 'total and deterministic' (their statements: YtododikbalgeeaaGreatTotals.lean).
  GIVEN WITH THE SEED: the statements are not yours to turn. If you find one false, say at which input.
  Laid BY PROGRAM, IN A SANDBOX (cutbox-rows.mjs): the forced cells as the released guide's own fill.sh prints them over the translation 36eee4f297e0451c… (all of the seat's roots in one cut). By AI agents, Wed Nov 11 2026. No macro, syntax, notation, axiom, sorry.
-/
import Derived.Test.YtododikbalgeeaaGreatChecked
import GoSem.Claim
import GoSem.ClaimJoined
import GoSem.ClaimMapViews
import Derived.JoinedTies
import Derived.KernelRfl
namespace Go.Proofs.YtododikbalgeeaaGreat
/- THE CELL 'sum', in the pinned program and in every row, IS THE sha256 OF THE DUMP (.gsa) THAT YtododikbalgeeaaGreatProg.lean LOADS. Nothing in Lean hashes anything: it is a label: what it is worth is what the hold of that sum in a sandbox is worth. -/
noncomputable def Tryz.pinned : Pinned := { name := "ytododikbalgeeaagreat", sum := "36eee4f297e0451c4a0d8e11b27d28a961b5c257a39e1657943c08df5cbff31a", checked := Tryz.checked }
namespace Rows
def none {H : Type} : Left H := { results := [], args := [] }

/-- 'lagleashlaw22.ReconcileNil': WHATEVER THE INPUT: true; the input reads as it did. -/
def reconcileNilSpec : ChangeSpec := { name := "reconcileNil", fn := fun _ => fun
  | [d] => { results := [.lit (.bool true)], args := [d] }
  | _ => none }
def reconcileNilRow : OpenClaim := { program := "ytododikbalgeeaagreat", sum := "36eee4f297e0451c4a0d8e11b27d28a961b5c257a39e1657943c08df5cbff31a", func := "lagleash/lagleashlaw22.ReconcileNil", spec := "reconcileNil", unfollowed := true, recurses := true, apart := false }
def ReconcileNilSaid : Prop := reconcileNilRow.holds Tryz.pinned (OpenSpec.ofChange reconcileNilSpec)

/-- ITS FALSE NEIGHBOUR: 'it returns false'. Refute it at one input. -/
def reconcileNilWrong : ChangeSpec := { name := "reconcileNil", fn := fun _ => fun
  | [d] => { results := [.lit (.bool false)], args := [d] }
  | _ => none }
def ReconcileNilWrongFalsely : Prop := reconcileNilRow.holds Tryz.pinned (OpenSpec.ofChange reconcileNilWrong)

/-- 'lagleashlaw22.ReconcileNames': WHATEVER THE INPUT: true; the input reads as it did. -/
def reconcileNamesSpec : ChangeSpec := { name := "reconcileNames", fn := fun _ => fun
  | [] => { results := [.lit (.bool true)], args := [] }
  | _ => none }
def reconcileNamesRow : OpenClaim := { program := "ytododikbalgeeaagreat", sum := "36eee4f297e0451c4a0d8e11b27d28a961b5c257a39e1657943c08df5cbff31a", func := "lagleash/lagleashlaw22.ReconcileNames", spec := "reconcileNames", unfollowed := true, recurses := true, apart := false }
def ReconcileNamesSaid : Prop := reconcileNamesRow.holds Tryz.pinned (OpenSpec.ofChange reconcileNamesSpec)

/-- ITS FALSE NEIGHBOUR: 'it returns false'. Refute it at one input. -/
def reconcileNamesWrong : ChangeSpec := { name := "reconcileNames", fn := fun _ => fun
  | [] => { results := [.lit (.bool false)], args := [] }
  | _ => none }
def ReconcileNamesWrongFalsely : Prop := reconcileNamesRow.holds Tryz.pinned (OpenSpec.ofChange reconcileNamesWrong)

/-- 'lagleashlaw23.NodeNames': WHATEVER THE INPUT: true; the input reads as it did. -/
def nodeNamesSpec : ChangeSpec := { name := "nodeNames", fn := fun _ => fun
  | [] => { results := [.lit (.bool true)], args := [] }
  | _ => none }
def nodeNamesRow : OpenClaim := { program := "ytododikbalgeeaagreat", sum := "36eee4f297e0451c4a0d8e11b27d28a961b5c257a39e1657943c08df5cbff31a", func := "lagleash/lagleashlaw23.NodeNames", spec := "nodeNames", unfollowed := true, recurses := true, apart := false }
def NodeNamesSaid : Prop := nodeNamesRow.holds Tryz.pinned (OpenSpec.ofChange nodeNamesSpec)

/-- ITS FALSE NEIGHBOUR: 'it returns false'. Refute it at one input. -/
def nodeNamesWrong : ChangeSpec := { name := "nodeNames", fn := fun _ => fun
  | [] => { results := [.lit (.bool false)], args := [] }
  | _ => none }
def NodeNamesWrongFalsely : Prop := nodeNamesRow.holds Tryz.pinned (OpenSpec.ofChange nodeNamesWrong)

/-- 'lagleashlaw21.RestartNames': WHATEVER THE INPUT: true; the input reads as it did. -/
def restartNamesSpec : ChangeSpec := { name := "restartNames", fn := fun _ => fun
  | [] => { results := [.lit (.bool true)], args := [] }
  | _ => none }
def restartNamesRow : OpenClaim := { program := "ytododikbalgeeaagreat", sum := "36eee4f297e0451c4a0d8e11b27d28a961b5c257a39e1657943c08df5cbff31a", func := "lagleash/lagleashlaw21.RestartNames", spec := "restartNames", unfollowed := true, recurses := true, apart := false }
def RestartNamesSaid : Prop := restartNamesRow.holds Tryz.pinned (OpenSpec.ofChange restartNamesSpec)

/-- ITS FALSE NEIGHBOUR: 'it returns false'. Refute it at one input. -/
def restartNamesWrong : ChangeSpec := { name := "restartNames", fn := fun _ => fun
  | [] => { results := [.lit (.bool false)], args := [] }
  | _ => none }
def RestartNamesWrongFalsely : Prop := restartNamesRow.holds Tryz.pinned (OpenSpec.ofChange restartNamesWrong)

/-- 'lagleashlaw21.RestartNil': WHATEVER THE INPUT: true; the input reads as it did. -/
def restartNilSpec : ChangeSpec := { name := "restartNil", fn := fun _ => fun
  | [d] => { results := [.lit (.bool true)], args := [d] }
  | _ => none }
def restartNilRow : OpenClaim := { program := "ytododikbalgeeaagreat", sum := "36eee4f297e0451c4a0d8e11b27d28a961b5c257a39e1657943c08df5cbff31a", func := "lagleash/lagleashlaw21.RestartNil", spec := "restartNil", unfollowed := true, recurses := true, apart := false }
def RestartNilSaid : Prop := restartNilRow.holds Tryz.pinned (OpenSpec.ofChange restartNilSpec)

/-- ITS FALSE NEIGHBOUR: 'it returns false'. Refute it at one input. -/
def restartNilWrong : ChangeSpec := { name := "restartNil", fn := fun _ => fun
  | [d] => { results := [.lit (.bool false)], args := [d] }
  | _ => none }
def RestartNilWrongFalsely : Prop := restartNilRow.holds Tryz.pinned (OpenSpec.ofChange restartNilWrong)

/- THE SECOND FORM. 'bulk': how many values and letters a reading holds, each counted each time it is reached (what is shared counts as often as it is met; a slice's spare places count too). A statement '..UptoSaid' is the law's where the arguments, and the package variables that the reading takes, are together of bulk at most 1048576: NARROWER than '..Said'. Prove '..Said' where nothing that the law and all that it calls make is longer than what came in: it says more and counts as full. Else prove '..UptoSaid'. A law counts once. -/
mutual
def uptoBulk {H : Type} : DataW H → Nat
  | .lit (.string bytes) => bytes.length + 1
  | .lit _ => 1
  | .nil => 1
  | .ptr d => uptoBulk d + 1
  | .slice elems spare => uptoBulkAll elems + uptoBulkAll spare + 1
  | .agg parts => uptoBulkAll parts + 1
  | .iface _ d => uptoBulk d + 1
  | .map entries => uptoBulkEntries entries + 1
  | .held _ => 1
def uptoBulkAll {H : Type} : List (DataW H) → Nat
  | [] => 0
  | d :: r => uptoBulk d + uptoBulkAll r
def uptoBulkEntries {H : Type} : List (Lit × DataW H) → Nat
  | [] => 0
  | x :: r => uptoBulkEntry x + uptoBulkEntries r
def uptoBulkEntry {H : Type} : Lit × DataW H → Nat
  | (.string bytes, d) => bytes.length + uptoBulk d + 1
  | (_, d) => uptoBulk d + 1
 end
def uptoSmall : (H : Type) → List (DataW H) → Bool := fun _ ds => decide (uptoBulkAll ds ≤ 1048576)
def OpenSpec.upto (s : _root_.Go.ChangeSpec) : _root_.Go.OpenSpec := { _root_.Go.OpenSpec.ofChange s with cond := some uptoSmall }

/-- 'lagleashlaw22.ReconcileNil', WHERE WHAT IT READS IS OF BULK AT MOST 1048576: true; the input reads as it did. -/
def reconcileNilUptoRow : OpenClaim := { program := "ytododikbalgeeaagreat", sum := "36eee4f297e0451c4a0d8e11b27d28a961b5c257a39e1657943c08df5cbff31a", func := "lagleash/lagleashlaw22.ReconcileNil", spec := "reconcileNil", unfollowed := true, recurses := true, apart := false, narrowed := true }
def ReconcileNilUptoSaid : Prop := reconcileNilUptoRow.holds Tryz.pinned (OpenSpec.upto reconcileNilSpec)

/-- 'lagleashlaw22.ReconcileNames', WHERE WHAT IT READS IS OF BULK AT MOST 1048576: true; the input reads as it did. -/
def reconcileNamesUptoRow : OpenClaim := { program := "ytododikbalgeeaagreat", sum := "36eee4f297e0451c4a0d8e11b27d28a961b5c257a39e1657943c08df5cbff31a", func := "lagleash/lagleashlaw22.ReconcileNames", spec := "reconcileNames", unfollowed := true, recurses := true, apart := false, narrowed := true }
def ReconcileNamesUptoSaid : Prop := reconcileNamesUptoRow.holds Tryz.pinned (OpenSpec.upto reconcileNamesSpec)

/-- 'lagleashlaw23.NodeNames', WHERE WHAT IT READS IS OF BULK AT MOST 1048576: true; the input reads as it did. -/
def nodeNamesUptoRow : OpenClaim := { program := "ytododikbalgeeaagreat", sum := "36eee4f297e0451c4a0d8e11b27d28a961b5c257a39e1657943c08df5cbff31a", func := "lagleash/lagleashlaw23.NodeNames", spec := "nodeNames", unfollowed := true, recurses := true, apart := false, narrowed := true }
def NodeNamesUptoSaid : Prop := nodeNamesUptoRow.holds Tryz.pinned (OpenSpec.upto nodeNamesSpec)

/-- 'lagleashlaw21.RestartNames', WHERE WHAT IT READS IS OF BULK AT MOST 1048576: true; the input reads as it did. -/
def restartNamesUptoRow : OpenClaim := { program := "ytododikbalgeeaagreat", sum := "36eee4f297e0451c4a0d8e11b27d28a961b5c257a39e1657943c08df5cbff31a", func := "lagleash/lagleashlaw21.RestartNames", spec := "restartNames", unfollowed := true, recurses := true, apart := false, narrowed := true }
def RestartNamesUptoSaid : Prop := restartNamesUptoRow.holds Tryz.pinned (OpenSpec.upto restartNamesSpec)

/-- 'lagleashlaw21.RestartNil', WHERE WHAT IT READS IS OF BULK AT MOST 1048576: true; the input reads as it did. -/
def restartNilUptoRow : OpenClaim := { program := "ytododikbalgeeaagreat", sum := "36eee4f297e0451c4a0d8e11b27d28a961b5c257a39e1657943c08df5cbff31a", func := "lagleash/lagleashlaw21.RestartNil", spec := "restartNil", unfollowed := true, recurses := true, apart := false, narrowed := true }
def RestartNilUptoSaid : Prop := restartNilUptoRow.holds Tryz.pinned (OpenSpec.upto restartNilSpec)

end Rows
end Go.Proofs.YtododikbalgeeaaGreat
