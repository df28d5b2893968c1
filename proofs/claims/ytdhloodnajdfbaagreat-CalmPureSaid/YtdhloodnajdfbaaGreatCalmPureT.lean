/- The law 'CalmPure': what its call comes to. No conditions. -/
import Derived.Test.YtdhloodnajdfbaaGreatCalmB
namespace Go.Proofs.YtdhloodnajdfbaaGreat.calmPure
theorem noNum : Go.VS.noNum Tryz.prog = true := Go.VS.Tryz.noNum
theorem ct_ok : Go.VS.CtOk Tryz.prog Go.VS.Tryz.ct2 := Go.VS.Tryz.ct2_ok
theorem runs (x0_0 x0_1 x0_2 x1_0 x1_1 x1_2 x2_0 : Int) : Go.VS.callQ Tryz.prog (Go.VS.engS Tryz.prog) Go.VS.Tryz.ct2 50 9 [.agg ⟨[.int .i64 x0_0, .int .i64 x0_1, .int .i64 x0_2]⟩, .agg ⟨[.int .i64 x1_0, .int .i64 x1_1, .int .i64 x1_2]⟩, .int .i64 x2_0] = some (.bool true, Go.VS.mkSt []) := Go.VS.Tryz.pure_true x0_0 x0_1 x0_2 x1_0 x1_1 x1_2 x2_0
end Go.Proofs.YtdhloodnajdfbaaGreat.calmPure
