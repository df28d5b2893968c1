/- Closed facts of the law 'CtlNames'. Conditions: none. -/
import Derived.Test.YtfegdfjcichccaaGreatDoorRows
import Derived.JoinedOf
import Derived.KernelRfl
set_option linter.unusedSimpArgs false
set_option linter.unusedVariables false
namespace Go.Proofs.YtfegdfjcichccaaGreatDoor.ctlNames
theorem k_inPlace:(Rows.ctlNamesRow.inPlace == Tryz.prog.inPlace 4)=true:=by kernel_rfl
theorem k_unfollowed:(Rows.ctlNamesRow.unfollowed == Tryz.prog.unfollowed 4)=true:=by kernel_rfl
theorem k_recurses:(Rows.ctlNamesRow.recurses == Tryz.prog.recurses 4)=true:=by kernel_rfl
theorem k_named:(Rows.ctlNamesRow.named == Tryz.prog.varsNamed 4)=true:=by kernel_rfl
end Go.Proofs.YtfegdfjcichccaaGreatDoor.ctlNames
