/- Closed facts of the law 'CalmNames'. Conditions: none. -/
import Derived.Test.YtdhloodnajdfbaaGreatVsFacts
namespace Go.Proofs.YtdhloodnajdfbaaGreat.calmNames
theorem k_inPlace : (Rows.calmNamesRow.inPlace == Tryz.prog.inPlace 11) = true := by kernel_rfl
theorem k_unfollowed : (Rows.calmNamesRow.unfollowed == Tryz.prog.unfollowed 11) = true := by kernel_rfl
theorem k_recurses : (Rows.calmNamesRow.recurses == Tryz.prog.recurses 11) = true := by kernel_rfl
theorem k_named : (Rows.calmNamesRow.named == Tryz.prog.varsNamed 11) = true := by kernel_rfl
theorem k_plain : (Rows.calmNamesRow.plainKeys == Tryz.prog.plainKeys) = true := Facts.plain
theorem k_lifted : (Rows.calmNamesRow.lifted == Tryz.prog.liftsFinal) = true := by kernel_rfl
theorem k_make : (Tryz.prog.make == some Rows.calmNamesRow.make) = true := by kernel_rfl
theorem k_func : Tryz.pinned.checked.prog.funcNamed Rows.calmNamesRow.func = some 11 := by kernel_rfl
theorem closed : joinedFacts Tryz.pinned.checked.prog 11 Tryz.f11 Rows.calmNamesSpec Rows.calmNamesRow = true := by
  show joinedFacts Tryz.prog 11 Tryz.f11 Rows.calmNamesSpec Rows.calmNamesRow = true
  unfold joinedFacts
  rw [Facts.laid, Facts.rowed, Facts.stops, Facts.knobs, k_inPlace, k_unfollowed, k_recurses, k_named, k_plain, Facts.heard, Facts.enter, k_lifted, k_make]
  kernel_rfl
end Go.Proofs.YtdhloodnajdfbaaGreat.calmNames
