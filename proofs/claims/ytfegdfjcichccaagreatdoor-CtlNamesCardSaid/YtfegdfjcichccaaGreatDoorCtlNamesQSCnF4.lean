/- A closed fact of the card 'CtlNames'. Conditions: none. -/
import Derived.Test.YtfegdfjcichccaaGreatDoorRows
import Derived.SevenTiedAt
import Derived.KernelRfl
set_option linter.unusedSimpArgs false
set_option linter.unusedVariables false
namespace Go.Proofs.YtfegdfjcichccaaGreatDoor.ctlNames
theorem c_looks:true=Tryz.pinned.checked.prog.looks []:=by kernel_rfl
end Go.Proofs.YtfegdfjcichccaaGreatDoor.ctlNames
