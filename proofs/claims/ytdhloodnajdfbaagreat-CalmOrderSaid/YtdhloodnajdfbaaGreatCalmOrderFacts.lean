/- Closed facts of the law 'CalmOrder'. Conditions: none. -/
import Derived.Test.YtdhloodnajdfbaaGreatVsFacts
namespace Go.Proofs.YtdhloodnajdfbaaGreat.calmOrder
theorem k_inPlace : (Rows.calmOrderRow.inPlace == Tryz.prog.inPlace 10) = true := by kernel_rfl
theorem k_unfollowed : (Rows.calmOrderRow.unfollowed == Tryz.prog.unfollowed 10) = true := by kernel_rfl
theorem k_recurses : (Rows.calmOrderRow.recurses == Tryz.prog.recurses 10) = true := by kernel_rfl
theorem k_named : (Rows.calmOrderRow.named == Tryz.prog.varsNamed 10) = true := by kernel_rfl
theorem k_plain : (Rows.calmOrderRow.plainKeys == Tryz.prog.plainKeys) = true := Facts.plain
theorem k_lifted : (Rows.calmOrderRow.lifted == Tryz.prog.liftsFinal) = true := by kernel_rfl
theorem k_make : (Tryz.prog.make == some Rows.calmOrderRow.make) = true := by kernel_rfl
theorem k_func : Tryz.pinned.checked.prog.funcNamed Rows.calmOrderRow.func = some 10 := by kernel_rfl
theorem closed : joinedFacts Tryz.pinned.checked.prog 10 Tryz.f10 Rows.calmOrderSpec Rows.calmOrderRow = true := by
  show joinedFacts Tryz.prog 10 Tryz.f10 Rows.calmOrderSpec Rows.calmOrderRow = true
  unfold joinedFacts
  rw [Facts.laid, Facts.rowed, Facts.stops, Facts.knobs, k_inPlace, k_unfollowed, k_recurses, k_named, k_plain, Facts.heard, Facts.enter, k_lifted, k_make]
  kernel_rfl
end Go.Proofs.YtdhloodnajdfbaaGreat.calmOrder
