/- A closed fact of the card 'CtlNil'. Conditions: none. -/
import Derived.Test.YtfegdfjcichccaaGreatDoorRows
import Derived.SevenTiedAt
import Derived.KernelRfl
namespace Go.Proofs.YtfegdfjcichccaaGreatDoor.ctlNil
theorem c_looks : true = Tryz.pinned.checked.prog.looks [] := by kernel_rfl
end Go.Proofs.YtfegdfjcichccaaGreatDoor.ctlNil
