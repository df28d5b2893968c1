/- Closed facts of the law 'NodePair'. Conditions: none. -/
import Derived.Test.YtofceohboacaoaaGreatRlF1
namespace Go.Proofs.YtofceohboacaoaaGreat.nodePair
theorem k_inPlace : (Rows.nodePairRow.inPlace == Tryz.prog.inPlace 3) = true := by kernel_rfl
theorem k_unfollowed : (Rows.nodePairRow.unfollowed == Tryz.prog.unfollowed 3) = true := by kernel_rfl
theorem k_recurses : (Rows.nodePairRow.recurses == Tryz.prog.recurses 3) = true := by kernel_rfl
theorem k_named : (Rows.nodePairRow.named == Tryz.prog.varsNamed 3) = true := by kernel_rfl
theorem k_plain : (Rows.nodePairRow.plainKeys == Tryz.prog.plainKeys) = true := Facts.plain
theorem k_lifted : (Rows.nodePairRow.lifted == Tryz.prog.liftsFinal) = true := by kernel_rfl
theorem k_make : (Tryz.prog.make == some Rows.nodePairRow.make) = true := by kernel_rfl
theorem k_func : Tryz.pinned.checked.prog.funcNamed Rows.nodePairRow.func = some 3 := by kernel_rfl
theorem closed : joinedFacts Tryz.pinned.checked.prog 3 Tryz.f3 Rows.nodePairSpec Rows.nodePairRow = true := by
  show joinedFacts Tryz.prog 3 Tryz.f3 Rows.nodePairSpec Rows.nodePairRow = true
  unfold joinedFacts
  rw [Facts.laid, Facts.rowed, Facts.stops, Facts.knobs, k_inPlace, k_unfollowed, k_recurses, k_named, k_plain, Facts.heard, Facts.enter, k_lifted, k_make]
  kernel_rfl
end Go.Proofs.YtofceohboacaoaaGreat.nodePair
