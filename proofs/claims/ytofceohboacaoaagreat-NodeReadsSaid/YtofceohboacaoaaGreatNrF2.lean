/- Closed facts of the law 'NodeReads'. Conditions: none. -/
import Derived.Test.YtofceohboacaoaaGreatRlF1
namespace Go.Proofs.YtofceohboacaoaaGreat.nodeReads
theorem k_inPlace : (Rows.nodeReadsRow.inPlace == Tryz.prog.inPlace 4) = true := by kernel_rfl
theorem k_unfollowed : (Rows.nodeReadsRow.unfollowed == Tryz.prog.unfollowed 4) = true := by kernel_rfl
theorem k_recurses : (Rows.nodeReadsRow.recurses == Tryz.prog.recurses 4) = true := by kernel_rfl
theorem k_named : (Rows.nodeReadsRow.named == Tryz.prog.varsNamed 4) = true := by kernel_rfl
theorem k_plain : (Rows.nodeReadsRow.plainKeys == Tryz.prog.plainKeys) = true := Facts.plain
theorem k_lifted : (Rows.nodeReadsRow.lifted == Tryz.prog.liftsFinal) = true := by kernel_rfl
theorem k_make : (Tryz.prog.make == some Rows.nodeReadsRow.make) = true := by kernel_rfl
theorem k_func : Tryz.pinned.checked.prog.funcNamed Rows.nodeReadsRow.func = some 4 := by kernel_rfl
theorem closed : joinedFacts Tryz.pinned.checked.prog 4 Tryz.f4 Rows.nodeReadsSpec Rows.nodeReadsRow = true := by
  show joinedFacts Tryz.prog 4 Tryz.f4 Rows.nodeReadsSpec Rows.nodeReadsRow = true
  unfold joinedFacts
  rw [Facts.laid, Facts.rowed, Facts.stops, Facts.knobs, k_inPlace, k_unfollowed, k_recurses, k_named, k_plain, Facts.heard, Facts.enter, k_lifted, k_make]
  kernel_rfl
end Go.Proofs.YtofceohboacaoaaGreat.nodeReads
