/- The chapter's examples hold. No conditions. -/
import Derived.Test.YtdhloodnajdfbaaGreatVsKnown
import Derived.Test.YtdhloodnajdfbaaGreatVsDrawM
import Derived.Test.YtdhloodnajdfbaaGreatProg
import Derived.KernelRfl
namespace Go.VS.Tryz
set_option maxRecDepth 10000000 in
theorem lives_run   : VS.callIs Go.Proofs.Tryz.prog (engM Go.Proofs.Tryz.prog) noCt 1000000 57 [] (.bool true) = true := by kernel_rfl
end Go.VS.Tryz
