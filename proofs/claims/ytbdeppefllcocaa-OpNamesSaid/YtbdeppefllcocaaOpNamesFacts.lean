/- Closed facts of the law 'OpNames'. Conditions: none. -/
import Derived.Test.YtbdeppefllcocaaVsFacts
namespace Go.Proofs.Ytbdeppefllcocaa.opNames
theorem k_inPlace : (Rows.opNamesRow.inPlace == Try.prog.inPlace 11) = true := by kernel_rfl
theorem k_unfollowed : (Rows.opNamesRow.unfollowed == Try.prog.unfollowed 11) = true := by kernel_rfl
theorem k_recurses : (Rows.opNamesRow.recurses == Try.prog.recurses 11) = true := by kernel_rfl
theorem k_named : (Rows.opNamesRow.named == Try.prog.varsNamed 11) = true := by kernel_rfl
theorem k_plain : (Rows.opNamesRow.plainKeys == Try.prog.plainKeys) = true := Facts.plain
theorem k_lifted : (Rows.opNamesRow.lifted == Try.prog.liftsFinal) = true := by kernel_rfl
theorem k_make : (Try.prog.make == some Rows.opNamesRow.make) = true := by kernel_rfl
theorem k_func : Try.pinned.checked.prog.funcNamed Rows.opNamesRow.func = some 11 := by kernel_rfl
theorem closed : joinedFacts Try.pinned.checked.prog 11 Try.f11 Rows.opNamesSpec Rows.opNamesRow = true := by
  show joinedFacts Try.prog 11 Try.f11 Rows.opNamesSpec Rows.opNamesRow = true
  unfold joinedFacts
  rw [Facts.laid, Facts.rowed, Facts.stops, Facts.knobs, k_inPlace, k_unfollowed, k_recurses, k_named, k_plain, Facts.heard, Facts.enter, k_lifted, k_make]
  kernel_rfl
end Go.Proofs.Ytbdeppefllcocaa.opNames
