/- Closed facts of the law 'CalmPure'. Conditions: none. -/
import Derived.Test.YtdhloodnajdfbaaGreatVsFacts
namespace Go.Proofs.YtdhloodnajdfbaaGreat.calmPure
theorem k_inPlace : (Rows.calmPureRow.inPlace == Tryz.prog.inPlace 9) = true := by kernel_rfl
theorem k_unfollowed : (Rows.calmPureRow.unfollowed == Tryz.prog.unfollowed 9) = true := by kernel_rfl
theorem k_recurses : (Rows.calmPureRow.recurses == Tryz.prog.recurses 9) = true := by kernel_rfl
theorem k_named : (Rows.calmPureRow.named == Tryz.prog.varsNamed 9) = true := by kernel_rfl
theorem k_plain : (Rows.calmPureRow.plainKeys == Tryz.prog.plainKeys) = true := Facts.plain
theorem k_lifted : (Rows.calmPureRow.lifted == Tryz.prog.liftsFinal) = true := by kernel_rfl
theorem k_make : (Tryz.prog.make == some Rows.calmPureRow.make) = true := by kernel_rfl
theorem k_func : Tryz.pinned.checked.prog.funcNamed Rows.calmPureRow.func = some 9 := by kernel_rfl
theorem closed : joinedFacts Tryz.pinned.checked.prog 9 Tryz.f9 Rows.calmPureSpec Rows.calmPureRow = true := by
  show joinedFacts Tryz.prog 9 Tryz.f9 Rows.calmPureSpec Rows.calmPureRow = true
  unfold joinedFacts
  rw [Facts.laid, Facts.rowed, Facts.stops, Facts.knobs, k_inPlace, k_unfollowed, k_recurses, k_named, k_plain, Facts.heard, Facts.enter, k_lifted, k_make]
  kernel_rfl
end Go.Proofs.YtdhloodnajdfbaaGreat.calmPure
