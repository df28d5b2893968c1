/- Closed facts of the law 'CalmNil'. Conditions: none. -/
import Derived.Test.YtdhloodnajdfbaaGreatVsFacts
namespace Go.Proofs.YtdhloodnajdfbaaGreat.calmNil
theorem k_inPlace : (Rows.calmNilRow.inPlace == Tryz.prog.inPlace 8) = true := by kernel_rfl
theorem k_unfollowed : (Rows.calmNilRow.unfollowed == Tryz.prog.unfollowed 8) = true := by kernel_rfl
theorem k_recurses : (Rows.calmNilRow.recurses == Tryz.prog.recurses 8) = true := by kernel_rfl
theorem k_named : (Rows.calmNilRow.named == Tryz.prog.varsNamed 8) = true := by kernel_rfl
theorem k_plain : (Rows.calmNilRow.plainKeys == Tryz.prog.plainKeys) = true := Facts.plain
theorem k_lifted : (Rows.calmNilRow.lifted == Tryz.prog.liftsFinal) = true := by kernel_rfl
theorem k_make : (Tryz.prog.make == some Rows.calmNilRow.make) = true := by kernel_rfl
theorem k_func : Tryz.pinned.checked.prog.funcNamed Rows.calmNilRow.func = some 8 := by kernel_rfl
theorem closed : joinedFacts Tryz.pinned.checked.prog 8 Tryz.f8 Rows.calmNilSpec Rows.calmNilRow = true := by
  show joinedFacts Tryz.prog 8 Tryz.f8 Rows.calmNilSpec Rows.calmNilRow = true
  unfold joinedFacts
  rw [Facts.laid, Facts.rowed, Facts.stops, Facts.knobs, k_inPlace, k_unfollowed, k_recurses, k_named, k_plain, Facts.heard, Facts.enter, k_lifted, k_make]
  kernel_rfl
end Go.Proofs.YtdhloodnajdfbaaGreat.calmNil
