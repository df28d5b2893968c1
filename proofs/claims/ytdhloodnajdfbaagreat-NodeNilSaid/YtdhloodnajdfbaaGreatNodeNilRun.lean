/- The run of the law 'NodeNil'. Conditions: none. -/
import Derived.Test.YtdhloodnajdfbaaGreatProg
import Derived.Test.YtdhloodnajdfbaaGreatVsFast3
import Derived.KernelRfl
namespace Go.Proofs.YtdhloodnajdfbaaGreat.nodeNil
set_option maxRecDepth 10000000 in
theorem runs : VS.trueQ Tryz.prog VS.noCt 1000000 3 [.agg ⟨List.replicate 14 (.chan (some 0))⟩] = true := by kernel_rfl
end Go.Proofs.YtdhloodnajdfbaaGreat.nodeNil
