/-
  No cell of these rows narrows 'for every input' (looked for: loops, veiled, ifaces, maps, wideKeys, modest, calm, conditions, laid).
  DERIVED. THE GIVEN ROWS OF THIS SEAT. 4 by the template 'for every input the law returns true; each argument reads behind the call as it read before'; 0 by the template 'total and deterministic' (their statements: YtepmajonlgbdlaaGreatTotals.lean).
  GIVEN WITH THE SEED: the statements are not yours to turn. If you find one false, say at which input.
  Laid BY PROGRAM, IN A SANDBOX (cutbox-rows.mjs): the forced cells as the released guide's own fill.sh prints them over the translation cc7d306dec889645… (all of the seat's roots in one cut). By AI agents, Wed Nov 11 2026. No macro, syntax, notation, axiom, sorry.
-/
import Derived.Test.YtepmajonlgbdlaaGreatChecked
import GoSem.Claim
import GoSem.ClaimJoined
import GoSem.ClaimMapViews
import Derived.JoinedTies
import Derived.KernelRfl
namespace Go.Proofs.YtepmajonlgbdlaaGreat
/- THE CELL 'sum', in the pinned program and in every row, IS THE sha256 OF THE DUMP (.gsa) THAT YtepmajonlgbdlaaGreatProg.lean LOADS. Nothing in Lean hashes anything: it is a label: what it is worth is what the hold of that sum in a sandbox is worth. -/
noncomputable def Tryz.pinned : Pinned := { name := "ytepmajonlgbdlaagreat", sum := "cc7d306dec8896458738fca1293fdc6e16237bb69f6f2d19d8ea03538adbc6f5", checked := Tryz.checked }
namespace Rows
def none {H : Type} : Left H := { results := [], args := [] }

/-- 'lagleashlaw22.ReconcileLeft': WHATEVER THE INPUT: true; the input reads as it did. -/
def reconcileLeftSpec : ChangeSpec := { name := "reconcileLeft", fn := fun _ => fun
  | [d1, d2, d3] => { results := [.lit (.bool true)], args := [d1, d2, d3] }
  | _ => none }
def reconcileLeftRow : OpenClaim := { program := "ytepmajonlgbdlaagreat", sum := "cc7d306dec8896458738fca1293fdc6e16237bb69f6f2d19d8ea03538adbc6f5", func := "lagleash/lagleashlaw22.ReconcileLeft", spec := "reconcileLeft", unfollowed := true, recurses := true, apart := false }
def ReconcileLeftSaid : Prop := reconcileLeftRow.holds Tryz.pinned (OpenSpec.ofChange reconcileLeftSpec)

/-- ITS FALSE NEIGHBOUR: 'it returns false'. Refute it at one input. -/
def reconcileLeftWrong : ChangeSpec := { name := "reconcileLeft", fn := fun _ => fun
  | [d1, d2, d3] => { results := [.lit (.bool false)], args := [d1, d2, d3] }
  | _ => none }
def ReconcileLeftWrongFalsely : Prop := reconcileLeftRow.holds Tryz.pinned (OpenSpec.ofChange reconcileLeftWrong)

/-- 'lagleashlaw22.ReconcileWhole': WHATEVER THE INPUT: true; the input reads as it did. -/
def reconcileWholeSpec : ChangeSpec := { name := "reconcileWhole", fn := fun _ => fun
  | [d1, d2, d3, d4, d5] => { results := [.lit (.bool true)], args := [d1, d2, d3, d4, d5] }
  | _ => none }
def reconcileWholeRow : OpenClaim := { program := "ytepmajonlgbdlaagreat", sum := "cc7d306dec8896458738fca1293fdc6e16237bb69f6f2d19d8ea03538adbc6f5", func := "lagleash/lagleashlaw22.ReconcileWhole", spec := "reconcileWhole", unfollowed := true, recurses := true, apart := false }
def ReconcileWholeSaid : Prop := reconcileWholeRow.holds Tryz.pinned (OpenSpec.ofChange reconcileWholeSpec)

/-- ITS FALSE NEIGHBOUR: 'it returns false'. Refute it at one input. -/
def reconcileWholeWrong : ChangeSpec := { name := "reconcileWhole", fn := fun _ => fun
  | [d1, d2, d3, d4, d5] => { results := [.lit (.bool false)], args := [d1, d2, d3, d4, d5] }
  | _ => none }
def ReconcileWholeWrongFalsely : Prop := reconcileWholeRow.holds Tryz.pinned (OpenSpec.ofChange reconcileWholeWrong)

/-- 'lagleashlaw21.RestartAgain': WHATEVER THE INPUT: true; the input reads as it did. -/
def restartAgainSpec : ChangeSpec := { name := "restartAgain", fn := fun _ => fun
  | [d1, d2] => { results := [.lit (.bool true)], args := [d1, d2] }
  | _ => none }
def restartAgainRow : OpenClaim := { program := "ytepmajonlgbdlaagreat", sum := "cc7d306dec8896458738fca1293fdc6e16237bb69f6f2d19d8ea03538adbc6f5", func := "lagleash/lagleashlaw21.RestartAgain", spec := "restartAgain", unfollowed := true, recurses := true, apart := false }
def RestartAgainSaid : Prop := restartAgainRow.holds Tryz.pinned (OpenSpec.ofChange restartAgainSpec)

/-- ITS FALSE NEIGHBOUR: 'it returns false'. Refute it at one input. -/
def restartAgainWrong : ChangeSpec := { name := "restartAgain", fn := fun _ => fun
  | [d1, d2] => { results := [.lit (.bool false)], args := [d1, d2] }
  | _ => none }
def RestartAgainWrongFalsely : Prop := restartAgainRow.holds Tryz.pinned (OpenSpec.ofChange restartAgainWrong)

/-- 'lagleashlaw21.RestartStands': WHATEVER THE INPUT: true; the input reads as it did. -/
def restartStandsSpec : ChangeSpec := { name := "restartStands", fn := fun _ => fun
  | [d1, d2, d3, d4] => { results := [.lit (.bool true)], args := [d1, d2, d3, d4] }
  | _ => none }
def restartStandsRow : OpenClaim := { program := "ytepmajonlgbdlaagreat", sum := "cc7d306dec8896458738fca1293fdc6e16237bb69f6f2d19d8ea03538adbc6f5", func := "lagleash/lagleashlaw21.RestartStands", spec := "restartStands", unfollowed := true, recurses := true, apart := false }
def RestartStandsSaid : Prop := restartStandsRow.holds Tryz.pinned (OpenSpec.ofChange restartStandsSpec)

/-- ITS FALSE NEIGHBOUR: 'it returns false'. Refute it at one input. -/
def restartStandsWrong : ChangeSpec := { name := "restartStands", fn := fun _ => fun
  | [d1, d2, d3, d4] => { results := [.lit (.bool false)], args := [d1, d2, d3, d4] }
  | _ => none }
def RestartStandsWrongFalsely : Prop := restartStandsRow.holds Tryz.pinned (OpenSpec.ofChange restartStandsWrong)

/- THE SECOND FORM. 'bulk': how many values and letters a reading holds, each counted each time it is reached (what is shared counts as often as it is met; a slice's spare places count too). A statement '..UptoSaid' is the law's where the arguments, and the package variables that the reading takes, are together of bulk at most 1048576: NARROWER than '..Said'. Prove '..Said' where nothing that the law and all that it calls make is longer than what came in: it says more and counts as full. Else prove '..UptoSaid'. A law counts once. -/
mutual
def uptoBulk {H : Type} : DataW H → Nat
  | .lit (.string bytes) => bytes.length + 1
  | .lit _ => 1
  | .nil => 1
  | .ptr d => uptoBulk d + 1
  | .slice elems spare => uptoBulkAll elems + uptoBulkAll spare + 1
  | .agg parts => uptoBulkAll parts + 1
  | .iface _ d => uptoBulk d + 1
  | .map entries => uptoBulkEntries entries + 1
  | .held _ => 1
def uptoBulkAll {H : Type} : List (DataW H) → Nat
  | [] => 0
  | d :: r => uptoBulk d + uptoBulkAll r
def uptoBulkEntries {H : Type} : List (Lit × DataW H) → Nat
  | [] => 0
  | x :: r => uptoBulkEntry x + uptoBulkEntries r
def uptoBulkEntry {H : Type} : Lit × DataW H → Nat
  | (.string bytes, d) => bytes.length + uptoBulk d + 1
  | (_, d) => uptoBulk d + 1
 end
def uptoSmall : (H : Type) → List (DataW H) → Bool := fun _ ds => decide (uptoBulkAll ds ≤ 1048576)
def OpenSpec.upto (s : _root_.Go.ChangeSpec) : _root_.Go.OpenSpec := { _root_.Go.OpenSpec.ofChange s with cond := some uptoSmall }

/-- 'lagleashlaw22.ReconcileLeft', WHERE WHAT IT READS IS OF BULK AT MOST 1048576: true; the input reads as it did. -/
def reconcileLeftUptoRow : OpenClaim := { program := "ytepmajonlgbdlaagreat", sum := "cc7d306dec8896458738fca1293fdc6e16237bb69f6f2d19d8ea03538adbc6f5", func := "lagleash/lagleashlaw22.ReconcileLeft", spec := "reconcileLeft", unfollowed := true, recurses := true, apart := false, narrowed := true }
def ReconcileLeftUptoSaid : Prop := reconcileLeftUptoRow.holds Tryz.pinned (OpenSpec.upto reconcileLeftSpec)

/-- 'lagleashlaw22.ReconcileWhole', WHERE WHAT IT READS IS OF BULK AT MOST 1048576: true; the input reads as it did. -/
def reconcileWholeUptoRow : OpenClaim := { program := "ytepmajonlgbdlaagreat", sum := "cc7d306dec8896458738fca1293fdc6e16237bb69f6f2d19d8ea03538adbc6f5", func := "lagleash/lagleashlaw22.ReconcileWhole", spec := "reconcileWhole", unfollowed := true, recurses := true, apart := false, narrowed := true }
def ReconcileWholeUptoSaid : Prop := reconcileWholeUptoRow.holds Tryz.pinned (OpenSpec.upto reconcileWholeSpec)

/-- 'lagleashlaw21.RestartAgain', WHERE WHAT IT READS IS OF BULK AT MOST 1048576: true; the input reads as it did. -/
def restartAgainUptoRow : OpenClaim := { program := "ytepmajonlgbdlaagreat", sum := "cc7d306dec8896458738fca1293fdc6e16237bb69f6f2d19d8ea03538adbc6f5", func := "lagleash/lagleashlaw21.RestartAgain", spec := "restartAgain", unfollowed := true, recurses := true, apart := false, narrowed := true }
def RestartAgainUptoSaid : Prop := restartAgainUptoRow.holds Tryz.pinned (OpenSpec.upto restartAgainSpec)

/-- 'lagleashlaw21.RestartStands', WHERE WHAT IT READS IS OF BULK AT MOST 1048576: true; the input reads as it did. -/
def restartStandsUptoRow : OpenClaim := { program := "ytepmajonlgbdlaagreat", sum := "cc7d306dec8896458738fca1293fdc6e16237bb69f6f2d19d8ea03538adbc6f5", func := "lagleash/lagleashlaw21.RestartStands", spec := "restartStands", unfollowed := true, recurses := true, apart := false, narrowed := true }
def RestartStandsUptoSaid : Prop := restartStandsUptoRow.holds Tryz.pinned (OpenSpec.upto restartStandsSpec)

end Rows
end Go.Proofs.YtepmajonlgbdlaaGreat
