/- The run of the law 'AuditNil'. Conditions: none. -/
import Derived.Test.YtdhloodnajdfbaaGreatAuditNilM0
import Derived.Test.YtdhloodnajdfbaaGreatAuditNilM1
import Derived.Test.YtdhloodnajdfbaaGreatAuditNilM2
import Derived.Test.YtdhloodnajdfbaaGreatAuditNilM3
namespace Go.Proofs.YtdhloodnajdfbaaGreat.auditNil
theorem noNum : VS.noNum Tryz.prog = true := by kernel_rfl
noncomputable def ct : VS.Ct := VS.addMemo [m0, m1, m2, m3, m4, m5, m6, m7, m8, m9, m10, m11, m12, m13, m14] VS.noCt
theorem ok {m : VS.Memo} (h : VS.memoQ Tryz.prog (VS.engM Tryz.prog) VS.noCt 1000000 m = true) : VS.MemoOk Tryz.prog m := VS.MemoOk.of (VS.engM_ok _ _) noNum (VS.noCt_ok _) h
theorem ct_ok : VS.CtOk Tryz.prog ct := VS.addMemo_ok (VS.noCt_ok _) (VS.memos_cons (ok m0_ok) (VS.memos_cons (ok m1_ok) (VS.memos_cons (ok m2_ok) (VS.memos_cons (ok m3_ok) (VS.memos_cons (ok m4_ok) (VS.memos_cons (ok m5_ok) (VS.memos_cons (ok m6_ok) (VS.memos_cons (ok m7_ok) (VS.memos_cons (ok m8_ok) (VS.memos_cons (ok m9_ok) (VS.memos_cons (ok m10_ok) (VS.memos_cons (ok m11_ok) (VS.memos_cons (ok m12_ok) (VS.memos_cons (ok m13_ok) (VS.memos_cons (ok m14_ok) (VS.memos_nil))))))))))))))))
end Go.Proofs.YtdhloodnajdfbaaGreat.auditNil
