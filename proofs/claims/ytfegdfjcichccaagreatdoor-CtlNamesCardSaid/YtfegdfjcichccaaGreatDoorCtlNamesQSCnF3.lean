/- Closed facts of the card 'CtlNames'. Conditions: none. -/
import Derived.Test.YtfegdfjcichccaaGreatDoorRows
import Derived.Test.YtfegdfjcichccaaGreatDoorCards
import Derived.SevenTiedAt
import Derived.KernelRfl
set_option linter.unusedSimpArgs false
set_option linter.unusedVariables false
namespace Go.Proofs.YtfegdfjcichccaaGreatDoor.ctlNames
theorem c_main:Tryz.pinned.checked.prog.mainIs=some (true,"e3d0bc295c331b1db37d137f42d2104940b9c94544ce448e49c0a0a419f22f44".toList):=by kernel_rfl
theorem c_goes:false=Rows.ctlNamesRow.goesBy Tryz.pinned.checked.prog:=by kernel_rfl
theorem c_wf:Rows.ctlNamesRow.wfByText (OpenSpec.ofChange Rows.ctlNamesSpec)=true:=by kernel_rfl
end Go.Proofs.YtfegdfjcichccaaGreatDoor.ctlNames
