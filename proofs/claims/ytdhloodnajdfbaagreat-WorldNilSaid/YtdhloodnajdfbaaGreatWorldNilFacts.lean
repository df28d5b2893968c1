/- Closed facts of the law 'WorldNil'. Conditions: none. -/
import Derived.Test.YtdhloodnajdfbaaGreatVsFacts
namespace Go.Proofs.YtdhloodnajdfbaaGreat.worldNil
theorem k_inPlace : (Rows.worldNilRow.inPlace == Tryz.prog.inPlace 5) = true := by kernel_rfl
theorem k_unfollowed : (Rows.worldNilRow.unfollowed == Tryz.prog.unfollowed 5) = true := by kernel_rfl
theorem k_recurses : (Rows.worldNilRow.recurses == Tryz.prog.recurses 5) = true := by kernel_rfl
theorem k_named : (Rows.worldNilRow.named == Tryz.prog.varsNamed 5) = true := by kernel_rfl
theorem k_plain : (Rows.worldNilRow.plainKeys == Tryz.prog.plainKeys) = true := Facts.plain
theorem k_lifted : (Rows.worldNilRow.lifted == Tryz.prog.liftsFinal) = true := by kernel_rfl
theorem k_make : (Tryz.prog.make == some Rows.worldNilRow.make) = true := by kernel_rfl
theorem k_func : Tryz.pinned.checked.prog.funcNamed Rows.worldNilRow.func = some 5 := by kernel_rfl
theorem closed : joinedFacts Tryz.pinned.checked.prog 5 Tryz.f5 Rows.worldNilSpec Rows.worldNilRow = true := by
  show joinedFacts Tryz.prog 5 Tryz.f5 Rows.worldNilSpec Rows.worldNilRow = true
  unfold joinedFacts
  rw [Facts.laid, Facts.rowed, Facts.stops, Facts.knobs, k_inPlace, k_unfollowed, k_recurses, k_named, k_plain, Facts.heard, Facts.enter, k_lifted, k_make]
  kernel_rfl
end Go.Proofs.YtdhloodnajdfbaaGreat.worldNil
