/- The run of the law 'AuditNames'. Conditions: none. -/
import Derived.Test.YtdhloodnajdfbaaGreatAuditNamesM0
import Derived.Test.YtdhloodnajdfbaaGreatAuditNamesM1
import Derived.Test.YtdhloodnajdfbaaGreatAuditNamesM2
import Derived.Test.YtdhloodnajdfbaaGreatAuditNamesM3
import Derived.Test.YtdhloodnajdfbaaGreatAuditNamesM4
import Derived.Test.YtdhloodnajdfbaaGreatAuditNamesM5
import Derived.Test.YtdhloodnajdfbaaGreatAuditNamesM6
import Derived.Test.YtdhloodnajdfbaaGreatAuditNamesM7
import Derived.Test.YtdhloodnajdfbaaGreatAuditNamesM8
import Derived.Test.YtdhloodnajdfbaaGreatAuditNamesM9
namespace Go.Proofs.YtdhloodnajdfbaaGreat.auditNames
theorem noNum : VS.noNum Tryz.prog = true := by kernel_rfl
noncomputable def ct : VS.Ct := VS.addMemo [m0, m1, m2, m3, m4, m5, m6, m7, m8, m9, m10, m11, m12, m13, m14, m15, m16, m17, m18, m19, m20, m21, m22, m23, m24, m25, m26, m27, m28, m29, m30, m31] VS.noCt
theorem ok {m : VS.Memo} (h : VS.memoQ Tryz.prog (VS.engM Tryz.prog) VS.noCt 1000000 m = true) : VS.MemoOk Tryz.prog m := VS.MemoOk.of (VS.engM_ok _ _) noNum (VS.noCt_ok _) h
theorem ct_ok : VS.CtOk Tryz.prog ct := VS.addMemo_ok (VS.noCt_ok _) (VS.memos_cons (ok m0_ok) (VS.memos_cons (ok m1_ok) (VS.memos_cons (ok m2_ok) (VS.memos_cons (ok m3_ok) (VS.memos_cons (ok m4_ok) (VS.memos_cons (ok m5_ok) (VS.memos_cons (ok m6_ok) (VS.memos_cons (ok m7_ok) (VS.memos_cons (ok m8_ok) (VS.memos_cons (ok m9_ok) (VS.memos_cons (ok m10_ok) (VS.memos_cons (ok m11_ok) (VS.memos_cons (ok m12_ok) (VS.memos_cons (ok m13_ok) (VS.memos_cons (ok m14_ok) (VS.memos_cons (ok m15_ok) (VS.memos_cons (ok m16_ok) (VS.memos_cons (ok m17_ok) (VS.memos_cons (ok m18_ok) (VS.memos_cons (ok m19_ok) (VS.memos_cons (ok m20_ok) (VS.memos_cons (ok m21_ok) (VS.memos_cons (ok m22_ok) (VS.memos_cons (ok m23_ok) (VS.memos_cons (ok m24_ok) (VS.memos_cons (ok m25_ok) (VS.memos_cons (ok m26_ok) (VS.memos_cons (ok m27_ok) (VS.memos_cons (ok m28_ok) (VS.memos_cons (ok m29_ok) (VS.memos_cons (ok m30_ok) (VS.memos_cons (ok m31_ok) (VS.memos_nil)))))))))))))))))))))))))))))))))
set_option maxRecDepth 10000000 in
theorem runs : VS.trueE Tryz.prog (VS.engM Tryz.prog) ct 1000000 6 [] = true := by kernel_rfl
end Go.Proofs.YtdhloodnajdfbaaGreat.auditNames
