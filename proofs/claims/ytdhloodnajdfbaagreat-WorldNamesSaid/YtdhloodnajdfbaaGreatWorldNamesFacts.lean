/- Closed facts of the law 'WorldNames'. Conditions: none. -/
import Derived.Test.YtdhloodnajdfbaaGreatVsFacts
namespace Go.Proofs.YtdhloodnajdfbaaGreat.worldNames
theorem k_inPlace : (Rows.worldNamesRow.inPlace == Tryz.prog.inPlace 4) = true := by kernel_rfl
theorem k_unfollowed : (Rows.worldNamesRow.unfollowed == Tryz.prog.unfollowed 4) = true := by kernel_rfl
theorem k_recurses : (Rows.worldNamesRow.recurses == Tryz.prog.recurses 4) = true := by kernel_rfl
theorem k_named : (Rows.worldNamesRow.named == Tryz.prog.varsNamed 4) = true := by kernel_rfl
theorem k_plain : (Rows.worldNamesRow.plainKeys == Tryz.prog.plainKeys) = true := Facts.plain
theorem k_lifted : (Rows.worldNamesRow.lifted == Tryz.prog.liftsFinal) = true := by kernel_rfl
theorem k_make : (Tryz.prog.make == some Rows.worldNamesRow.make) = true := by kernel_rfl
theorem k_func : Tryz.pinned.checked.prog.funcNamed Rows.worldNamesRow.func = some 4 := by kernel_rfl
theorem closed : joinedFacts Tryz.pinned.checked.prog 4 Tryz.f4 Rows.worldNamesSpec Rows.worldNamesRow = true := by
  show joinedFacts Tryz.prog 4 Tryz.f4 Rows.worldNamesSpec Rows.worldNamesRow = true
  unfold joinedFacts
  rw [Facts.laid, Facts.rowed, Facts.stops, Facts.knobs, k_inPlace, k_unfollowed, k_recurses, k_named, k_plain, Facts.heard, Facts.enter, k_lifted, k_make]
  kernel_rfl
end Go.Proofs.YtdhloodnajdfbaaGreat.worldNames
