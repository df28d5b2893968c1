/- Closed facts of the law 'AuditNames'. Conditions: none. -/
import Derived.Test.YtdhloodnajdfbaaGreatVsFacts
namespace Go.Proofs.YtdhloodnajdfbaaGreat.auditNames
theorem k_inPlace : (Rows.auditNamesRow.inPlace == Tryz.prog.inPlace 6) = true := by kernel_rfl
theorem k_unfollowed : (Rows.auditNamesRow.unfollowed == Tryz.prog.unfollowed 6) = true := by kernel_rfl
theorem k_recurses : (Rows.auditNamesRow.recurses == Tryz.prog.recurses 6) = true := by kernel_rfl
theorem k_named : (Rows.auditNamesRow.named == Tryz.prog.varsNamed 6) = true := by kernel_rfl
theorem k_plain : (Rows.auditNamesRow.plainKeys == Tryz.prog.plainKeys) = true := Facts.plain
theorem k_lifted : (Rows.auditNamesRow.lifted == Tryz.prog.liftsFinal) = true := by kernel_rfl
theorem k_make : (Tryz.prog.make == some Rows.auditNamesRow.make) = true := by kernel_rfl
theorem k_func : Tryz.pinned.checked.prog.funcNamed Rows.auditNamesRow.func = some 6 := by kernel_rfl
theorem closed : joinedFacts Tryz.pinned.checked.prog 6 Tryz.f6 Rows.auditNamesSpec Rows.auditNamesRow = true := by
  show joinedFacts Tryz.prog 6 Tryz.f6 Rows.auditNamesSpec Rows.auditNamesRow = true
  unfold joinedFacts
  rw [Facts.laid, Facts.rowed, Facts.stops, Facts.knobs, k_inPlace, k_unfollowed, k_recurses, k_named, k_plain, Facts.heard, Facts.enter, k_lifted, k_make]
  kernel_rfl
end Go.Proofs.YtdhloodnajdfbaaGreat.auditNames
