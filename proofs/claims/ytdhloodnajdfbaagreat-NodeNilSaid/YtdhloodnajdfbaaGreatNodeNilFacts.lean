/- Closed facts of the law 'NodeNil'. Conditions: none. -/
import Derived.Test.YtdhloodnajdfbaaGreatVsFacts
namespace Go.Proofs.YtdhloodnajdfbaaGreat.nodeNil
theorem k_inPlace : (Rows.nodeNilRow.inPlace == Tryz.prog.inPlace 3) = true := by kernel_rfl
theorem k_unfollowed : (Rows.nodeNilRow.unfollowed == Tryz.prog.unfollowed 3) = true := by kernel_rfl
theorem k_recurses : (Rows.nodeNilRow.recurses == Tryz.prog.recurses 3) = true := by kernel_rfl
theorem k_named : (Rows.nodeNilRow.named == Tryz.prog.varsNamed 3) = true := by kernel_rfl
theorem k_plain : (Rows.nodeNilRow.plainKeys == Tryz.prog.plainKeys) = true := Facts.plain
theorem k_lifted : (Rows.nodeNilRow.lifted == Tryz.prog.liftsFinal) = true := by kernel_rfl
theorem k_make : (Tryz.prog.make == some Rows.nodeNilRow.make) = true := by kernel_rfl
theorem k_func : Tryz.pinned.checked.prog.funcNamed Rows.nodeNilRow.func = some 3 := by kernel_rfl
theorem closed : joinedFacts Tryz.pinned.checked.prog 3 Tryz.f3 Rows.nodeNilSpec Rows.nodeNilRow = true := by
  show joinedFacts Tryz.prog 3 Tryz.f3 Rows.nodeNilSpec Rows.nodeNilRow = true
  unfold joinedFacts
  rw [Facts.laid, Facts.rowed, Facts.stops, Facts.knobs, k_inPlace, k_unfollowed, k_recurses, k_named, k_plain, Facts.heard, Facts.enter, k_lifted, k_make]
  kernel_rfl
end Go.Proofs.YtdhloodnajdfbaaGreat.nodeNil
