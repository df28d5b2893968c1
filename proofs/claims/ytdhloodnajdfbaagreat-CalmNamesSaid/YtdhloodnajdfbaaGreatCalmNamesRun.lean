/- The run of the law 'CalmNames'. Conditions: none. -/
import Derived.Test.YtdhloodnajdfbaaGreatProg
import Derived.Test.YtdhloodnajdfbaaGreatVsFast3
import Derived.KernelRfl
namespace Go.Proofs.YtdhloodnajdfbaaGreat.calmNames
set_option maxRecDepth 10000000 in
theorem runs : VS.trueQ Tryz.prog VS.noCt 1000000 11 [] = true := by kernel_rfl
end Go.Proofs.YtdhloodnajdfbaaGreat.calmNames
