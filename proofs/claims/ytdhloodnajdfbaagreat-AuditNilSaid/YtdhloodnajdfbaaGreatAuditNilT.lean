/- The run of the law 'AuditNil'. Conditions: none. -/
import Derived.Test.YtdhloodnajdfbaaGreatAuditNilRun
import Derived.Test.YtdhloodnajdfbaaGreatVsSymDraw
import Derived.Test.YtdhloodnajdfbaaGreatVsLaws
namespace Go.Proofs.YtdhloodnajdfbaaGreat.auditNil
set_option maxRecDepth 10000000
open Go.VS
theorem dec_law (x0_0 x0_1 x1_0 : Int) : callQ Tryz.prog (engM Tryz.prog) ct 1000000 7 [.agg ⟨[.int .i64 x0_0, .int .i64 x0_1, .chan (some 0)]⟩, .int .i64 x1_0] =
  (needB (Go.VS.beqV (Go.Value.agg (Array.mk [(Go.Value.int Go.IntKind.i64 x0_0), (Go.Value.int Go.IntKind.i64 x0_1), (Go.Value.chan (Option.some 0))])) (Go.Value.agg (Array.mk [(Go.Value.int Go.IntKind.i64 x0_0), (Go.Value.int Go.IntKind.i64 x0_1), (Go.Value.chan (Option.some 0))])))
   (needB (Go.VS.beqV (Go.Value.agg (Array.mk [(Go.Value.int Go.IntKind.i64 x0_0), (Go.Value.int Go.IntKind.i64 x0_1), (Go.Value.chan (Option.some 0))])) (Go.Value.agg (Array.mk [(Go.Value.int Go.IntKind.i64 x0_0), (Go.Value.int Go.IntKind.i64 x0_1), (Go.Value.chan (Option.some 0))])))
    (needB (Go.VS.beqV (Go.Value.agg (Array.mk [(Go.Value.int Go.IntKind.i64 x0_0), (Go.Value.int Go.IntKind.i64 x0_1), (Go.Value.chan (Option.some 0))])) (Go.Value.agg (Array.mk [(Go.Value.int Go.IntKind.i64 x0_0), (Go.Value.int Go.IntKind.i64 x0_1), (Go.Value.chan (Option.some 0))])))
     (needB (Go.VS.beqV (Go.Value.agg (Array.mk [(Go.Value.int Go.IntKind.i64 x0_0), (Go.Value.int Go.IntKind.i64 x0_1), (Go.Value.chan (Option.some 0))])) (Go.Value.agg (Array.mk [(Go.Value.int Go.IntKind.i64 x0_0), (Go.Value.int Go.IntKind.i64 x0_1), (Go.Value.chan (Option.some 0))])))
      (needB (Go.VS.beqV (Go.Value.agg (Array.mk [(Go.Value.int Go.IntKind.i64 x0_0), (Go.Value.int Go.IntKind.i64 x0_1), (Go.Value.chan (Option.some 0))])) (Go.Value.agg (Array.mk [(Go.Value.int Go.IntKind.i64 x0_0), (Go.Value.int Go.IntKind.i64 x0_1), (Go.Value.chan (Option.some 0))])))
       (needB (Go.VS.beqV (Go.Value.agg (Array.mk [(Go.Value.int Go.IntKind.i64 x0_0), (Go.Value.int Go.IntKind.i64 x0_1), (Go.Value.chan (Option.some 0))])) (Go.Value.agg (Array.mk [(Go.Value.int Go.IntKind.i64 x0_0), (Go.Value.int Go.IntKind.i64 x0_1), (Go.Value.chan (Option.some 0))])))
        (needB (Go.VS.beqV (Go.Value.agg (Array.mk [(Go.Value.int Go.IntKind.i64 x0_0), (Go.Value.int Go.IntKind.i64 x0_1), (Go.Value.chan (Option.some 0))])) (Go.Value.agg (Array.mk [(Go.Value.int Go.IntKind.i64 x0_0), (Go.Value.int Go.IntKind.i64 x0_1), (Go.Value.chan (Option.some 0))])))
         (needB (Go.VS.beqV (Go.Value.agg (Array.mk [(Go.Value.int Go.IntKind.i64 x0_0), (Go.Value.int Go.IntKind.i64 x0_1), (Go.Value.chan (Option.some 0))])) (Go.Value.agg (Array.mk [(Go.Value.int Go.IntKind.i64 x0_0), (Go.Value.int Go.IntKind.i64 x0_1), (Go.Value.chan (Option.some 0))])))
          (some ((Go.Value.bool Bool.true), (Go.VS.mkSt []))))))))))) := by kernel_rfl
theorem runs (x0_0 x0_1 x1_0 : Int) : callQ Tryz.prog (engM Tryz.prog) ct 1000000 7 [.agg ⟨[.int .i64 x0_0, .int .i64 x0_1, .chan (some 0)]⟩, .int .i64 x1_0] = some (.bool true, mkSt []) := by
  rw [dec_law]
  refine need_eq (same_agg rfl) (need_eq (same_agg rfl) (need_eq (same_agg rfl) (need_eq (same_agg rfl) (need_eq (same_agg rfl) (need_eq (same_agg rfl) (need_eq (same_agg rfl) (need_eq (same_agg rfl) rfl)))))))
end Go.Proofs.YtdhloodnajdfbaaGreat.auditNil
