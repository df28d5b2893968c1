/- Closed facts of the law 'AuditNil'. Conditions: none. -/
import Derived.Test.YtdhloodnajdfbaaGreatVsFacts
namespace Go.Proofs.YtdhloodnajdfbaaGreat.auditNil
theorem k_inPlace : (Rows.auditNilRow.inPlace == Tryz.prog.inPlace 7) = true := by kernel_rfl
theorem k_unfollowed : (Rows.auditNilRow.unfollowed == Tryz.prog.unfollowed 7) = true := by kernel_rfl
theorem k_recurses : (Rows.auditNilRow.recurses == Tryz.prog.recurses 7) = true := by kernel_rfl
theorem k_named : (Rows.auditNilRow.named == Tryz.prog.varsNamed 7) = true := by kernel_rfl
theorem k_plain : (Rows.auditNilRow.plainKeys == Tryz.prog.plainKeys) = true := Facts.plain
theorem k_lifted : (Rows.auditNilRow.lifted == Tryz.prog.liftsFinal) = true := by kernel_rfl
theorem k_make : (Tryz.prog.make == some Rows.auditNilRow.make) = true := by kernel_rfl
theorem k_func : Tryz.pinned.checked.prog.funcNamed Rows.auditNilRow.func = some 7 := by kernel_rfl
theorem closed : joinedFacts Tryz.pinned.checked.prog 7 Tryz.f7 Rows.auditNilSpec Rows.auditNilRow = true := by
  show joinedFacts Tryz.prog 7 Tryz.f7 Rows.auditNilSpec Rows.auditNilRow = true
  unfold joinedFacts
  rw [Facts.laid, Facts.rowed, Facts.stops, Facts.knobs, k_inPlace, k_unfollowed, k_recurses, k_named, k_plain, Facts.heard, Facts.enter, k_lifted, k_make]
  kernel_rfl
end Go.Proofs.YtdhloodnajdfbaaGreat.auditNil
