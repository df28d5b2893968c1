/-
  No cell of these rows narrows 'for every input' (looked for: loops, veiled, ifaces, maps, wideKeys, modest, calm, conditions, laid).
  DERIVED. THE GIVEN ROWS OF THIS SEAT. 9 by the template 'for every input the law returns true; each argument reads behind the call as it read before'; 0 by the template 'total and deterministic' (their statements: YtdhloodnajdfbaaGreatTotals.lean).
  GIVEN WITH THE SEED: the statements are not yours to turn. If you find one false, say at which input.
  Laid BY PROGRAM, IN A SANDBOX (cutbox-rows.mjs): the forced cells as the released guide's own fill.sh prints them over the translation c0b3f09fdadadb6e… (all of the seat's roots in one cut). By AI agents, Wed Nov 11 2026. No macro, syntax, notation, axiom, sorry.
-/
import Derived.Test.YtdhloodnajdfbaaGreatChecked
import GoSem.Claim
import GoSem.ClaimJoined
import GoSem.ClaimMapViews
import Derived.JoinedTies
import Derived.KernelRfl
namespace Go.Proofs.YtdhloodnajdfbaaGreat
/- THE CELL 'sum', in the pinned program and in every row, IS THE sha256 OF THE DUMP (.gsa) THAT YtdhloodnajdfbaaGreatProg.lean LOADS. Nothing in Lean hashes anything: it is a label: what it is worth is what the hold of that sum in a sandbox is worth. -/
noncomputable def Tryz.pinned : Pinned := { name := "ytdhloodnajdfbaagreat", sum := "c0b3f09fdadadb6e272f50e1e60070330f4076f8d810ff8e5c1779f548563366", checked := Tryz.checked }
namespace Rows
def none {H : Type} : Left H := { results := [], args := [] }

/-- 'lagleashlaw23.NodeNil': WHATEVER THE INPUT: true; the input reads as it did. -/
def nodeNilSpec : ChangeSpec := { name := "nodeNil", fn := fun _ => fun
  | [d] => { results := [.lit (.bool true)], args := [d] }
  | _ => none }
def nodeNilRow : OpenClaim := { program := "ytdhloodnajdfbaagreat", sum := "c0b3f09fdadadb6e272f50e1e60070330f4076f8d810ff8e5c1779f548563366", func := "lagleash/lagleashlaw23.NodeNil", spec := "nodeNil", unfollowed := true, recurses := true, plainKeys := false, apart := false }
def NodeNilSaid : Prop := nodeNilRow.holds Tryz.pinned (OpenSpec.ofChange nodeNilSpec)

/-- ITS FALSE NEIGHBOUR: 'it returns false'. Refute it at one input. -/
def nodeNilWrong : ChangeSpec := { name := "nodeNil", fn := fun _ => fun
  | [d] => { results := [.lit (.bool false)], args := [d] }
  | _ => none }
def NodeNilWrongFalsely : Prop := nodeNilRow.holds Tryz.pinned (OpenSpec.ofChange nodeNilWrong)

/-- 'lagleashlaw24.WorldNames': WHATEVER THE INPUT: true; the input reads as it did. -/
def worldNamesSpec : ChangeSpec := { name := "worldNames", fn := fun _ => fun
  | [] => { results := [.lit (.bool true)], args := [] }
  | _ => none }
def worldNamesRow : OpenClaim := { program := "ytdhloodnajdfbaagreat", sum := "c0b3f09fdadadb6e272f50e1e60070330f4076f8d810ff8e5c1779f548563366", func := "lagleash/lagleashlaw24.WorldNames", spec := "worldNames", unfollowed := true, recurses := true, plainKeys := false, apart := false }
def WorldNamesSaid : Prop := worldNamesRow.holds Tryz.pinned (OpenSpec.ofChange worldNamesSpec)

/-- ITS FALSE NEIGHBOUR: 'it returns false'. Refute it at one input. -/
def worldNamesWrong : ChangeSpec := { name := "worldNames", fn := fun _ => fun
  | [] => { results := [.lit (.bool false)], args := [] }
  | _ => none }
def WorldNamesWrongFalsely : Prop := worldNamesRow.holds Tryz.pinned (OpenSpec.ofChange worldNamesWrong)

/-- 'lagleashlaw24.WorldNil': WHATEVER THE INPUT: true; the input reads as it did. -/
def worldNilSpec : ChangeSpec := { name := "worldNil", fn := fun _ => fun
  | [d] => { results := [.lit (.bool true)], args := [d] }
  | _ => none }
def worldNilRow : OpenClaim := { program := "ytdhloodnajdfbaagreat", sum := "c0b3f09fdadadb6e272f50e1e60070330f4076f8d810ff8e5c1779f548563366", func := "lagleash/lagleashlaw24.WorldNil", spec := "worldNil", unfollowed := true, recurses := true, plainKeys := false, apart := false }
def WorldNilSaid : Prop := worldNilRow.holds Tryz.pinned (OpenSpec.ofChange worldNilSpec)

/-- ITS FALSE NEIGHBOUR: 'it returns false'. Refute it at one input. -/
def worldNilWrong : ChangeSpec := { name := "worldNil", fn := fun _ => fun
  | [d] => { results := [.lit (.bool false)], args := [d] }
  | _ => none }
def WorldNilWrongFalsely : Prop := worldNilRow.holds Tryz.pinned (OpenSpec.ofChange worldNilWrong)

/-- 'lagleashlaw26.AuditNames': WHATEVER THE INPUT: true; the input reads as it did. -/
def auditNamesSpec : ChangeSpec := { name := "auditNames", fn := fun _ => fun
  | [] => { results := [.lit (.bool true)], args := [] }
  | _ => none }
def auditNamesRow : OpenClaim := { program := "ytdhloodnajdfbaagreat", sum := "c0b3f09fdadadb6e272f50e1e60070330f4076f8d810ff8e5c1779f548563366", func := "lagleash/lagleashlaw26.AuditNames", spec := "auditNames", unfollowed := true, recurses := true, plainKeys := false, apart := false }
def AuditNamesSaid : Prop := auditNamesRow.holds Tryz.pinned (OpenSpec.ofChange auditNamesSpec)

/-- ITS FALSE NEIGHBOUR: 'it returns false'. Refute it at one input. -/
def auditNamesWrong : ChangeSpec := { name := "auditNames", fn := fun _ => fun
  | [] => { results := [.lit (.bool false)], args := [] }
  | _ => none }
def AuditNamesWrongFalsely : Prop := auditNamesRow.holds Tryz.pinned (OpenSpec.ofChange auditNamesWrong)

/-- 'lagleashlaw26.AuditNil': WHATEVER THE INPUT: true; the input reads as it did. -/
def auditNilSpec : ChangeSpec := { name := "auditNil", fn := fun _ => fun
  | [d1, d2] => { results := [.lit (.bool true)], args := [d1, d2] }
  | _ => none }
def auditNilRow : OpenClaim := { program := "ytdhloodnajdfbaagreat", sum := "c0b3f09fdadadb6e272f50e1e60070330f4076f8d810ff8e5c1779f548563366", func := "lagleash/lagleashlaw26.AuditNil", spec := "auditNil", unfollowed := true, recurses := true, plainKeys := false, apart := false }
def AuditNilSaid : Prop := auditNilRow.holds Tryz.pinned (OpenSpec.ofChange auditNilSpec)

/-- ITS FALSE NEIGHBOUR: 'it returns false'. Refute it at one input. -/
def auditNilWrong : ChangeSpec := { name := "auditNil", fn := fun _ => fun
  | [d1, d2] => { results := [.lit (.bool false)], args := [d1, d2] }
  | _ => none }
def AuditNilWrongFalsely : Prop := auditNilRow.holds Tryz.pinned (OpenSpec.ofChange auditNilWrong)

/-- 'lagleashlaw27.CalmNil': WHATEVER THE INPUT: true; the input reads as it did. -/
def calmNilSpec : ChangeSpec := { name := "calmNil", fn := fun _ => fun
  | [d] => { results := [.lit (.bool true)], args := [d] }
  | _ => none }
def calmNilRow : OpenClaim := { program := "ytdhloodnajdfbaagreat", sum := "c0b3f09fdadadb6e272f50e1e60070330f4076f8d810ff8e5c1779f548563366", func := "lagleash/lagleashlaw27.CalmNil", spec := "calmNil", unfollowed := true, recurses := true, plainKeys := false, apart := false }
def CalmNilSaid : Prop := calmNilRow.holds Tryz.pinned (OpenSpec.ofChange calmNilSpec)

/-- ITS FALSE NEIGHBOUR: 'it returns false'. Refute it at one input. -/
def calmNilWrong : ChangeSpec := { name := "calmNil", fn := fun _ => fun
  | [d] => { results := [.lit (.bool false)], args := [d] }
  | _ => none }
def CalmNilWrongFalsely : Prop := calmNilRow.holds Tryz.pinned (OpenSpec.ofChange calmNilWrong)

/-- 'lagleashlaw27.CalmPure': WHATEVER THE INPUT: true; the input reads as it did. -/
def calmPureSpec : ChangeSpec := { name := "calmPure", fn := fun _ => fun
  | [d1, d2, d3] => { results := [.lit (.bool true)], args := [d1, d2, d3] }
  | _ => none }
def calmPureRow : OpenClaim := { program := "ytdhloodnajdfbaagreat", sum := "c0b3f09fdadadb6e272f50e1e60070330f4076f8d810ff8e5c1779f548563366", func := "lagleash/lagleashlaw27.CalmPure", spec := "calmPure", unfollowed := true, recurses := true, plainKeys := false, apart := false }
def CalmPureSaid : Prop := calmPureRow.holds Tryz.pinned (OpenSpec.ofChange calmPureSpec)

/-- ITS FALSE NEIGHBOUR: 'it returns false'. Refute it at one input. -/
def calmPureWrong : ChangeSpec := { name := "calmPure", fn := fun _ => fun
  | [d1, d2, d3] => { results := [.lit (.bool false)], args := [d1, d2, d3] }
  | _ => none }
def CalmPureWrongFalsely : Prop := calmPureRow.holds Tryz.pinned (OpenSpec.ofChange calmPureWrong)

/-- 'lagleashlaw27.CalmOrder': WHATEVER THE INPUT: true; the input reads as it did. -/
def calmOrderSpec : ChangeSpec := { name := "calmOrder", fn := fun _ => fun
  | [d1, d2, d3] => { results := [.lit (.bool true)], args := [d1, d2, d3] }
  | _ => none }
def calmOrderRow : OpenClaim := { program := "ytdhloodnajdfbaagreat", sum := "c0b3f09fdadadb6e272f50e1e60070330f4076f8d810ff8e5c1779f548563366", func := "lagleash/lagleashlaw27.CalmOrder", spec := "calmOrder", unfollowed := true, recurses := true, plainKeys := false, apart := false }
def CalmOrderSaid : Prop := calmOrderRow.holds Tryz.pinned (OpenSpec.ofChange calmOrderSpec)

/-- ITS FALSE NEIGHBOUR: 'it returns false'. Refute it at one input. -/
def calmOrderWrong : ChangeSpec := { name := "calmOrder", fn := fun _ => fun
  | [d1, d2, d3] => { results := [.lit (.bool false)], args := [d1, d2, d3] }
  | _ => none }
def CalmOrderWrongFalsely : Prop := calmOrderRow.holds Tryz.pinned (OpenSpec.ofChange calmOrderWrong)

/-- 'lagleashlaw27.CalmNames': WHATEVER THE INPUT: true; the input reads as it did. -/
def calmNamesSpec : ChangeSpec := { name := "calmNames", fn := fun _ => fun
  | [] => { results := [.lit (.bool true)], args := [] }
  | _ => none }
def calmNamesRow : OpenClaim := { program := "ytdhloodnajdfbaagreat", sum := "c0b3f09fdadadb6e272f50e1e60070330f4076f8d810ff8e5c1779f548563366", func := "lagleash/lagleashlaw27.CalmNames", spec := "calmNames", unfollowed := true, recurses := true, plainKeys := false, apart := false }
def CalmNamesSaid : Prop := calmNamesRow.holds Tryz.pinned (OpenSpec.ofChange calmNamesSpec)

/-- ITS FALSE NEIGHBOUR: 'it returns false'. Refute it at one input. -/
def calmNamesWrong : ChangeSpec := { name := "calmNames", fn := fun _ => fun
  | [] => { results := [.lit (.bool false)], args := [] }
  | _ => none }
def CalmNamesWrongFalsely : Prop := calmNamesRow.holds Tryz.pinned (OpenSpec.ofChange calmNamesWrong)

/- THE SECOND FORM. 'bulk': how many values and letters a reading holds, each counted each time it is reached (what is shared counts as often as it is met; a slice's spare places count too). A statement '..UptoSaid' is the law's where the arguments, and the package variables that the reading takes, are together of bulk at most 1048576: NARROWER than '..Said'. Prove '..Said' where nothing that the law and all that it calls make is longer than what came in: it says more and counts as full. Else prove '..UptoSaid'. A law counts once. -/
mutual
def uptoBulk {H : Type} : DataW H → Nat
  | .lit (.string bytes) => bytes.length + 1
  | .lit _ => 1
  | .nil => 1
  | .ptr d => uptoBulk d + 1
  | .slice elems spare => uptoBulkAll elems + uptoBulkAll spare + 1
  | .agg parts => uptoBulkAll parts + 1
  | .iface _ d => uptoBulk d + 1
  | .map entries => uptoBulkEntries entries + 1
  | .held _ => 1
def uptoBulkAll {H : Type} : List (DataW H) → Nat
  | [] => 0
  | d :: r => uptoBulk d + uptoBulkAll r
def uptoBulkEntries {H : Type} : List (Lit × DataW H) → Nat
  | [] => 0
  | x :: r => uptoBulkEntry x + uptoBulkEntries r
def uptoBulkEntry {H : Type} : Lit × DataW H → Nat
  | (.string bytes, d) => bytes.length + uptoBulk d + 1
  | (_, d) => uptoBulk d + 1
 end
def uptoSmall : (H : Type) → List (DataW H) → Bool := fun _ ds => decide (uptoBulkAll ds ≤ 1048576)
def OpenSpec.upto (s : _root_.Go.ChangeSpec) : _root_.Go.OpenSpec := { _root_.Go.OpenSpec.ofChange s with cond := some uptoSmall }

/-- 'lagleashlaw23.NodeNil', WHERE WHAT IT READS IS OF BULK AT MOST 1048576: true; the input reads as it did. -/
def nodeNilUptoRow : OpenClaim := { program := "ytdhloodnajdfbaagreat", sum := "c0b3f09fdadadb6e272f50e1e60070330f4076f8d810ff8e5c1779f548563366", func := "lagleash/lagleashlaw23.NodeNil", spec := "nodeNil", unfollowed := true, recurses := true, plainKeys := false, apart := false, narrowed := true }
def NodeNilUptoSaid : Prop := nodeNilUptoRow.holds Tryz.pinned (OpenSpec.upto nodeNilSpec)

/-- 'lagleashlaw24.WorldNames', WHERE WHAT IT READS IS OF BULK AT MOST 1048576: true; the input reads as it did. -/
def worldNamesUptoRow : OpenClaim := { program := "ytdhloodnajdfbaagreat", sum := "c0b3f09fdadadb6e272f50e1e60070330f4076f8d810ff8e5c1779f548563366", func := "lagleash/lagleashlaw24.WorldNames", spec := "worldNames", unfollowed := true, recurses := true, plainKeys := false, apart := false, narrowed := true }
def WorldNamesUptoSaid : Prop := worldNamesUptoRow.holds Tryz.pinned (OpenSpec.upto worldNamesSpec)

/-- 'lagleashlaw24.WorldNil', WHERE WHAT IT READS IS OF BULK AT MOST 1048576: true; the input reads as it did. -/
def worldNilUptoRow : OpenClaim := { program := "ytdhloodnajdfbaagreat", sum := "c0b3f09fdadadb6e272f50e1e60070330f4076f8d810ff8e5c1779f548563366", func := "lagleash/lagleashlaw24.WorldNil", spec := "worldNil", unfollowed := true, recurses := true, plainKeys := false, apart := false, narrowed := true }
def WorldNilUptoSaid : Prop := worldNilUptoRow.holds Tryz.pinned (OpenSpec.upto worldNilSpec)

/-- 'lagleashlaw26.AuditNames', WHERE WHAT IT READS IS OF BULK AT MOST 1048576: true; the input reads as it did. -/
def auditNamesUptoRow : OpenClaim := { program := "ytdhloodnajdfbaagreat", sum := "c0b3f09fdadadb6e272f50e1e60070330f4076f8d810ff8e5c1779f548563366", func := "lagleash/lagleashlaw26.AuditNames", spec := "auditNames", unfollowed := true, recurses := true, plainKeys := false, apart := false, narrowed := true }
def AuditNamesUptoSaid : Prop := auditNamesUptoRow.holds Tryz.pinned (OpenSpec.upto auditNamesSpec)

/-- 'lagleashlaw26.AuditNil', WHERE WHAT IT READS IS OF BULK AT MOST 1048576: true; the input reads as it did. -/
def auditNilUptoRow : OpenClaim := { program := "ytdhloodnajdfbaagreat", sum := "c0b3f09fdadadb6e272f50e1e60070330f4076f8d810ff8e5c1779f548563366", func := "lagleash/lagleashlaw26.AuditNil", spec := "auditNil", unfollowed := true, recurses := true, plainKeys := false, apart := false, narrowed := true }
def AuditNilUptoSaid : Prop := auditNilUptoRow.holds Tryz.pinned (OpenSpec.upto auditNilSpec)

/-- 'lagleashlaw27.CalmNil', WHERE WHAT IT READS IS OF BULK AT MOST 1048576: true; the input reads as it did. -/
def calmNilUptoRow : OpenClaim := { program := "ytdhloodnajdfbaagreat", sum := "c0b3f09fdadadb6e272f50e1e60070330f4076f8d810ff8e5c1779f548563366", func := "lagleash/lagleashlaw27.CalmNil", spec := "calmNil", unfollowed := true, recurses := true, plainKeys := false, apart := false, narrowed := true }
def CalmNilUptoSaid : Prop := calmNilUptoRow.holds Tryz.pinned (OpenSpec.upto calmNilSpec)

/-- 'lagleashlaw27.CalmPure', WHERE WHAT IT READS IS OF BULK AT MOST 1048576: true; the input reads as it did. -/
def calmPureUptoRow : OpenClaim := { program := "ytdhloodnajdfbaagreat", sum := "c0b3f09fdadadb6e272f50e1e60070330f4076f8d810ff8e5c1779f548563366", func := "lagleash/lagleashlaw27.CalmPure", spec := "calmPure", unfollowed := true, recurses := true, plainKeys := false, apart := false, narrowed := true }
def CalmPureUptoSaid : Prop := calmPureUptoRow.holds Tryz.pinned (OpenSpec.upto calmPureSpec)

/-- 'lagleashlaw27.CalmOrder', WHERE WHAT IT READS IS OF BULK AT MOST 1048576: true; the input reads as it did. -/
def calmOrderUptoRow : OpenClaim := { program := "ytdhloodnajdfbaagreat", sum := "c0b3f09fdadadb6e272f50e1e60070330f4076f8d810ff8e5c1779f548563366", func := "lagleash/lagleashlaw27.CalmOrder", spec := "calmOrder", unfollowed := true, recurses := true, plainKeys := false, apart := false, narrowed := true }
def CalmOrderUptoSaid : Prop := calmOrderUptoRow.holds Tryz.pinned (OpenSpec.upto calmOrderSpec)

/-- 'lagleashlaw27.CalmNames', WHERE WHAT IT READS IS OF BULK AT MOST 1048576: true; the input reads as it did. -/
def calmNamesUptoRow : OpenClaim := { program := "ytdhloodnajdfbaagreat", sum := "c0b3f09fdadadb6e272f50e1e60070330f4076f8d810ff8e5c1779f548563366", func := "lagleash/lagleashlaw27.CalmNames", spec := "calmNames", unfollowed := true, recurses := true, plainKeys := false, apart := false, narrowed := true }
def CalmNamesUptoSaid : Prop := calmNamesUptoRow.holds Tryz.pinned (OpenSpec.upto calmNamesSpec)

end Rows
end Go.Proofs.YtdhloodnajdfbaaGreat
