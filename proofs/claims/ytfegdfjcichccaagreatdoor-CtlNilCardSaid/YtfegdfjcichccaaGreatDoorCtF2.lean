/- Closed facts of the law 'CtlNil'. Conditions: none. -/
import Derived.Test.YtfegdfjcichccaaGreatDoorRows
import Derived.JoinedOf
import Derived.KernelRfl
namespace Go.Proofs.YtfegdfjcichccaaGreatDoor.ctlNil
theorem k_inPlace : (Rows.ctlNilRow.inPlace == Tryz.prog.inPlace 3) = true := by kernel_rfl
theorem k_unfollowed : (Rows.ctlNilRow.unfollowed == Tryz.prog.unfollowed 3) = true := by kernel_rfl
theorem k_recurses : (Rows.ctlNilRow.recurses == Tryz.prog.recurses 3) = true := by kernel_rfl
theorem k_named : (Rows.ctlNilRow.named == Tryz.prog.varsNamed 3) = true := by kernel_rfl
end Go.Proofs.YtfegdfjcichccaaGreatDoor.ctlNil
