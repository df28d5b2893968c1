/- Closed facts of the law 'ReconcileLeft'. Conditions: none. -/
import Derived.Test.YtepmajonlgbdlaaGreatRlF1
namespace Go.Proofs.YtepmajonlgbdlaaGreat.reconcileLeft
theorem k_inPlace : (Rows.reconcileLeftRow.inPlace == Tryz.prog.inPlace 3) = true := by kernel_rfl
theorem k_unfollowed : (Rows.reconcileLeftRow.unfollowed == Tryz.prog.unfollowed 3) = true := by kernel_rfl
theorem k_recurses : (Rows.reconcileLeftRow.recurses == Tryz.prog.recurses 3) = true := by kernel_rfl
theorem k_named : (Rows.reconcileLeftRow.named == Tryz.prog.varsNamed 3) = true := by kernel_rfl
theorem k_plain : (Rows.reconcileLeftRow.plainKeys == Tryz.prog.plainKeys) = true := Facts.plain
theorem k_lifted : (Rows.reconcileLeftRow.lifted == Tryz.prog.liftsFinal) = true := by kernel_rfl
theorem k_make : (Tryz.prog.make == some Rows.reconcileLeftRow.make) = true := by kernel_rfl
theorem k_func : Tryz.pinned.checked.prog.funcNamed Rows.reconcileLeftRow.func = some 3 := by kernel_rfl
theorem closed : joinedFacts Tryz.pinned.checked.prog 3 Tryz.f3 Rows.reconcileLeftSpec Rows.reconcileLeftRow = true := by
  show joinedFacts Tryz.prog 3 Tryz.f3 Rows.reconcileLeftSpec Rows.reconcileLeftRow = true
  unfold joinedFacts
  rw [Facts.laid, Facts.rowed, Facts.stops, Facts.knobs, k_inPlace, k_unfollowed, k_recurses, k_named, k_plain, Facts.heard, Facts.enter, k_lifted, k_make]
  kernel_rfl
end Go.Proofs.YtepmajonlgbdlaaGreat.reconcileLeft
