/- The console's first example. Conditions: none. -/
import Derived.Test.YtfegdfjcichccaaGreatDoorCtlNamesQ4
set_option linter.unusedSimpArgs false
set_option linter.unusedVariables false
noncomputable section
namespace Go.VS.Tryz
open Go.VS Go.RowKit
set_option maxRecDepth 10000000
def l0:Memo:=
 ⟨7,[],1,
 [],
 .bool true,1430,
 []⟩
theorem T_:ax P l0:=ax.ofP aB aU (n:=2000) (by kernel_rfl)
end Go.VS.Tryz
