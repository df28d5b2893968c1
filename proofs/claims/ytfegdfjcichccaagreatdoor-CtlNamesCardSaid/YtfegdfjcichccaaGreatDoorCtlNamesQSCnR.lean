/- The console's worked examples: the run. Conditions: none. -/
import Derived.Test.YtfegdfjcichccaaGreatDoorCtlNamesQSCnL0
import Derived.Test.YtfegdfjcichccaaGreatDoorCtlNamesQSCnL1
import Derived.Test.YtfegdfjcichccaaGreatDoorCtlNamesQSCnL2
import Derived.Test.YtfegdfjcichccaaGreatDoorCtlNamesQSCnL3
import Derived.Test.YtfegdfjcichccaaGreatDoorCtlNamesQSCnL4
import Derived.Test.YtfegdfjcichccaaGreatDoorCtlNamesQSCnL5
set_option linter.unusedSimpArgs false
set_option linter.unusedVariables false
noncomputable section
namespace Go.VS.Tryz
open Go.VS Go.RowKit
set_option maxRecDepth 10000000
def TI:Ct:=nG [l0,l6,l7,l8,l9,l11,l14,l16,l17,l19] yQ
theorem ctSL_ok':CtOk P TI:=lV aU (aN T_ (aN Uk (aN Ug (aN Uh (aN TY (aN Ru (aN Sr (aN SG (aN Ri (aN TL (nV)))))))))))
theorem names_true:Fz (bQ P TI 2000 4 [] (start 0))=true:=by kernel_rfl
end Go.VS.Tryz
