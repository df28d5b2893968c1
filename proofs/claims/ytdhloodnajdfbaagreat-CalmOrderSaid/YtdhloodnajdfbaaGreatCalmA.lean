/- What the order of measures, and the bound, come to. No conditions. -/
import Derived.Test.YtdhloodnajdfbaaGreatVsLaws
import Derived.Test.YtdhloodnajdfbaaGreatCalmL
import Derived.KernelRfl
namespace Go.VS.Tryz
set_option linter.unusedSimpArgs false
set_option linter.unusedVariables false
set_option maxRecDepth 1000000
open Go.VS
noncomputable abbrev P : Program := Go.Proofs.Tryz.prog
noncomputable abbrev E : Eng := engS P
theorem noNum : VS.noNum P = true := by kernel_rfl
theorem engOk (ct : Ct) : EngOk P ct E := engS_ok P ct

/-- A measure. -/
def msr (a b c : Int) : Value := .agg ⟨[.int .i64 a, .int .i64 b, .int .i64 c]⟩
def lessM (a b c x y z : Int) : Bool := bif neI a x then ltI a x else bif neI b y then ltI b y else ltI c z

theorem dec_cmp (x y : Int) : callQ P E noCt 50 127 [.int .i64 x, .int .i64 y] =
  (iteB (Go.VS.neI x x)
   (iteB (Go.VS.neI y y)
    (some ((Go.Value.int Go.IntKind.i64 (0 : Int)), (Go.VS.mkSt [])))
    (some ((Go.Value.int Go.IntKind.i64 (-1 : Int)), (Go.VS.mkSt []))))
   (iteB (Go.VS.neI y y)
    (some ((Go.Value.int Go.IntKind.i64 (1 : Int)), (Go.VS.mkSt [])))
    (iteB (Go.VS.ltI x y)
     (some ((Go.Value.int Go.IntKind.i64 (-1 : Int)), (Go.VS.mkSt [])))
     (iteB (Go.VS.gtI x y)
      (some ((Go.Value.int Go.IntKind.i64 (1 : Int)), (Go.VS.mkSt [])))
      (some ((Go.Value.int Go.IntKind.i64 (0 : Int)), (Go.VS.mkSt []))))))) := by kernel_rfl
theorem dec_rless (a b c x y z : Int) : callQ P E noCt 50 59 [.agg ⟨[.int .i64 a, .int .i64 b, .int .i64 c]⟩, .agg ⟨[.int .i64 x, .int .i64 y, .int .i64 z]⟩] =
  (iteB (Go.VS.neI a x)
   (some ((Go.Value.bool (Go.VS.ltI a x)), (Go.VS.mkSt [])))
   (iteB (Go.VS.neI b y)
    (some ((Go.Value.bool (Go.VS.ltI b y)), (Go.VS.mkSt [])))
    (some ((Go.Value.bool (Go.VS.ltI c z)), (Go.VS.mkSt []))))) := by kernel_rfl
theorem dec_bound (x : Int) : callQ P E noCt 50 60 [.int .i64 x] =
  (iteB (Go.VS.ltI x (0 : Int))
   (some ((Go.Value.int Go.IntKind.i64 (0 : Int)), (Go.VS.mkSt [])))
   (iteB (Go.VS.gtI x (1048576 : Int))
    (some ((Go.Value.int Go.IntKind.i64 (0 : Int)), (Go.VS.mkSt [])))
    (some ((Go.Value.int Go.IntKind.i64 (Go.VS.mulI Go.IntKind.i64 (36 : Int) (Go.VS.addI Go.IntKind.i64 x (1 : Int)))), (Go.VS.mkSt []))))) := by kernel_rfl
theorem dec_rbound (x : Int) : callQ P E noCt 50 61 [.int .i64 x] =
  (iteB (Go.VS.ltI x (0 : Int))
   (some ((Go.Value.int Go.IntKind.i64 (0 : Int)), (Go.VS.mkSt [])))
   (iteB (Go.VS.gtI x (1048576 : Int))
    (some ((Go.Value.int Go.IntKind.i64 (0 : Int)), (Go.VS.mkSt [])))
    (some ((Go.Value.int Go.IntKind.i64 (Go.VS.mulI Go.IntKind.i64 (36 : Int) (Go.VS.addI Go.IntKind.i64 x (1 : Int)))), (Go.VS.mkSt []))))) := by kernel_rfl

theorem ok_of {ct : Ct} (hct : CtOk P ct) {g n : Nat} {R : CallFn} (h : ∀ args t, R args = some t → ∀ v bs, t.eval = some (v, bs) → callQ P E ct n g args = some (v, mkSt bs)) : CallOkR P g R :=
  ⟨fun args t hR v bs hev => CR.of (engOk ct) noNum hct (h args t hR v bs hev)⟩

theorem ne_self (x : Int) : neI x x = false := by simp [neI]
def cmpI (x y : Int) : Int := bif ltI x y then -1 else bif gtI x y then 1 else 0
def Rcmp : CallFn
  | [.int .i64 x, .int .i64 y] => some (.leaf (.int .i64 (cmpI x y), []))
  | _ => none
theorem cmp_ok : CallOkR P 127 Rcmp := by
  refine ok_of (noCt_ok P) (n := 50) fun args t hR v bs hev => ?_
  unfold Rcmp at hR
  split at hR
  · rename_i x y
    obtain rfl := Option.some.inj hR
    simp only [DT.eval, Option.some.injEq, Prod.mk.injEq] at hev
    obtain ⟨rfl, rfl⟩ := hev
    rw [dec_cmp]
    refine ite_f (ne_self x) (ite_f (ne_self y) ?_)
    unfold cmpI
    cases ltI x y <;> cases gtI x y <;> rfl
  · cases hR

def Rless : CallFn
  | [.agg ⟨[.int .i64 a, .int .i64 b, .int .i64 c]⟩, .agg ⟨[.int .i64 x, .int .i64 y, .int .i64 z]⟩] => some (.leaf (.bool (lessM a b c x y z), []))
  | _ => none
theorem rless_ok : CallOkR P 59 Rless := by
  refine ok_of (noCt_ok P) (n := 50) fun args t hR v bs hev => ?_
  unfold Rless at hR
  split at hR
  · rename_i a b c x y z
    obtain rfl := Option.some.inj hR
    simp only [DT.eval, Option.some.injEq, Prod.mk.injEq] at hev
    obtain ⟨rfl, rfl⟩ := hev
    rw [dec_rless]
    unfold lessM
    cases neI a x <;> cases neI b y <;> rfl
  · cases hR
def boundM (x : Int) : Int := bif ltI x 0 then 0 else bif gtI x 1048576 then 0 else mulI .i64 36 (addI .i64 x 1)
def Rbound : CallFn
  | [.int .i64 x] => some (.leaf (.int .i64 (boundM x), []))
  | _ => none
theorem bound_ok : CallOkR P 60 Rbound := by
  refine ok_of (noCt_ok P) (n := 50) fun args t hR v bs hev => ?_
  unfold Rbound at hR
  split at hR
  · rename_i x
    obtain rfl := Option.some.inj hR
    simp only [DT.eval, Option.some.injEq, Prod.mk.injEq] at hev
    obtain ⟨rfl, rfl⟩ := hev
    rw [dec_bound]
    unfold boundM
    cases ltI x 0 <;> cases gtI x 1048576 <;> rfl
  · cases hR
theorem rbound_ok : CallOkR P 61 Rbound := by
  refine ok_of (noCt_ok P) (n := 50) fun args t hR v bs hev => ?_
  unfold Rbound at hR
  split at hR
  · rename_i x
    obtain rfl := Option.some.inj hR
    simp only [DT.eval, Option.some.injEq, Prod.mk.injEq] at hev
    obtain ⟨rfl, rfl⟩ := hev
    rw [dec_rbound]
    unfold boundM
    cases ltI x 0 <;> cases gtI x 1048576 <;> rfl
  · cases hR
noncomputable def ct1 : Ct := addCall P 127 Rcmp (addCall P 59 Rless (addCall P 60 Rbound (addCall P 61 Rbound noCt)))
theorem ct1_ok : CtOk P ct1 := addCall_ok (addCall_ok (addCall_ok (addCall_ok (noCt_ok P) rbound_ok) bound_ok) rless_ok) cmp_ok

theorem dec_less (a b c x y z : Int) : callQ P E ct1 50 58 [.agg ⟨[.int .i64 a, .int .i64 b, .int .i64 c]⟩, .agg ⟨[.int .i64 x, .int .i64 y, .int .i64 z]⟩] =
  (iteB (Go.VS.neI (Go.VS.Tryz.cmpI a x) (0 : Int))
   (needB (Go.VS.beqV (Go.Value.int Go.IntKind.i64 b) (Go.Value.int Go.IntKind.i64 b))
    (needB (Go.VS.beqV (Go.Value.int Go.IntKind.i64 y) (Go.Value.int Go.IntKind.i64 y))
     (needB (Go.VS.beqV (Go.Value.int Go.IntKind.i64 c) (Go.Value.int Go.IntKind.i64 c))
      (needB (Go.VS.beqV (Go.Value.int Go.IntKind.i64 c) (Go.Value.int Go.IntKind.i64 c))
       (needB (Go.VS.beqV (Go.Value.int Go.IntKind.i64 z) (Go.Value.int Go.IntKind.i64 z))
        (needB (Go.VS.beqV (Go.Value.int Go.IntKind.i64 z) (Go.Value.int Go.IntKind.i64 z))
         (some ((Go.Value.bool (Go.VS.ltI (Go.VS.Tryz.cmpI a x) (0 : Int))), (Go.VS.mkSt [])))))))))
   (iteB (Go.VS.neI (Go.VS.Tryz.cmpI b y) (0 : Int))
    (needB (Go.VS.beqV (Go.Value.int Go.IntKind.i64 b) (Go.Value.int Go.IntKind.i64 b))
     (needB (Go.VS.beqV (Go.Value.int Go.IntKind.i64 y) (Go.Value.int Go.IntKind.i64 y))
      (needB (Go.VS.beqV (Go.Value.int Go.IntKind.i64 c) (Go.Value.int Go.IntKind.i64 c))
       (needB (Go.VS.beqV (Go.Value.int Go.IntKind.i64 c) (Go.Value.int Go.IntKind.i64 c))
        (needB (Go.VS.beqV (Go.Value.int Go.IntKind.i64 z) (Go.Value.int Go.IntKind.i64 z))
         (needB (Go.VS.beqV (Go.Value.int Go.IntKind.i64 z) (Go.Value.int Go.IntKind.i64 z))
          (some ((Go.Value.bool (Go.VS.ltI (Go.VS.Tryz.cmpI b y) (0 : Int))), (Go.VS.mkSt [])))))))))
    (iteB (Go.VS.neI (Go.VS.Tryz.cmpI c z) (0 : Int))
     (needB (Go.VS.beqV (Go.Value.int Go.IntKind.i64 b) (Go.Value.int Go.IntKind.i64 b))
      (needB (Go.VS.beqV (Go.Value.int Go.IntKind.i64 y) (Go.Value.int Go.IntKind.i64 y))
       (needB (Go.VS.beqV (Go.Value.int Go.IntKind.i64 c) (Go.Value.int Go.IntKind.i64 c))
        (needB (Go.VS.beqV (Go.Value.int Go.IntKind.i64 c) (Go.Value.int Go.IntKind.i64 c))
         (needB (Go.VS.beqV (Go.Value.int Go.IntKind.i64 z) (Go.Value.int Go.IntKind.i64 z))
          (needB (Go.VS.beqV (Go.Value.int Go.IntKind.i64 z) (Go.Value.int Go.IntKind.i64 z))
           (some ((Go.Value.bool (Go.VS.ltI (Go.VS.Tryz.cmpI c z) (0 : Int))), (Go.VS.mkSt [])))))))))
     (needB (Go.VS.beqV (Go.Value.int Go.IntKind.i64 b) (Go.Value.int Go.IntKind.i64 b))
      (needB (Go.VS.beqV (Go.Value.int Go.IntKind.i64 y) (Go.Value.int Go.IntKind.i64 y))
       (needB (Go.VS.beqV (Go.Value.int Go.IntKind.i64 c) (Go.Value.int Go.IntKind.i64 c))
        (needB (Go.VS.beqV (Go.Value.int Go.IntKind.i64 c) (Go.Value.int Go.IntKind.i64 c))
         (needB (Go.VS.beqV (Go.Value.int Go.IntKind.i64 z) (Go.Value.int Go.IntKind.i64 z))
          (needB (Go.VS.beqV (Go.Value.int Go.IntKind.i64 z) (Go.Value.int Go.IntKind.i64 z))
           (some ((Go.Value.bool (Go.VS.ltI (0 : Int) (0 : Int))), (Go.VS.mkSt [])))))))))))) := by kernel_rfl
theorem same_int (k : IntKind) (x : Int) : beqV (.int k x) (.int k x) = true := by simp [beqV]
theorem cmpI_lt (x y : Int) : ltI (cmpI x y) 0 = ltI x y := by
  unfold cmpI
  cases h : ltI x y with
  | true => rfl
  | false => cases gtI x y <;> rfl
theorem cmpI_ne (x y : Int) : neI (cmpI x y) 0 = neI x y := by
  unfold cmpI
  cases h : ltI x y with
  | true =>
    simp only [ltI, decide_eq_true_eq] at h
    have : neI x y = true := by simp [neI]; omega
    rw [this]; rfl
  | false =>
    cases h2 : gtI x y with
    | true =>
      simp only [gtI, decide_eq_true_eq] at h2
      have : neI x y = true := by simp [neI]; omega
      rw [this]; rfl
    | false =>
      simp only [ltI, decide_eq_false_iff_not] at h
      simp only [gtI, decide_eq_false_iff_not] at h2
      have : neI x y = false := by simp [neI]; omega
      rw [this]; rfl
theorem same6 {b y c z : Int} {x r : Res} (h : x = r) : needB (beqV (.int .i64 b) (.int .i64 b)) (needB (beqV (.int .i64 y) (.int .i64 y)) (needB (beqV (.int .i64 c) (.int .i64 c)) (needB (beqV (.int .i64 c) (.int .i64 c)) (needB (beqV (.int .i64 z) (.int .i64 z)) (needB (beqV (.int .i64 z) (.int .i64 z)) x))))) = r := by
  simp only [same_int]; exact h
theorem less_ok : CallOkR P 58 Rless := by
  refine ok_of ct1_ok (n := 50) fun args t hR v bs hev => ?_
  unfold Rless at hR
  split at hR
  · rename_i a b c x y z
    obtain rfl := Option.some.inj hR
    simp only [DT.eval, Option.some.injEq, Prod.mk.injEq] at hev
    obtain ⟨rfl, rfl⟩ := hev
    rw [dec_less]
    simp only [cmpI_ne, cmpI_lt, same_int]
    unfold lessM
    cases h1 : neI a x with
    | true => rfl
    | false =>
      cases h2 : neI b y with
      | true => rfl
      | false =>
        cases h3 : neI c z with
        | true => rfl
        | false =>
          have : ltI c z = false := by simp [neI] at h3; simp [ltI]; omega
          simp only [cond_false, this]
          rfl
  · cases hR
def Rlives : CallFn
  | [] => some (.leaf (.bool true, []))
  | _ => none
theorem lives_ok : CallOkR P 57 Rlives := by
  refine ⟨fun args t hR v bs hev => ?_⟩
  unfold Rlives at hR
  split at hR
  · obtain rfl := Option.some.inj hR
    simp only [DT.eval, Option.some.injEq, Prod.mk.injEq] at hev
    obtain ⟨rfl, rfl⟩ := hev
    exact CR.is (engM_ok P noCt) noNum (noCt_ok P) lives_run
  · cases hR
noncomputable def ct2 : Ct := addCall P 57 Rlives (addCall P 58 Rless ct1)
theorem ct2_ok : CtOk P ct2 := addCall_ok (addCall_ok ct1_ok less_ok) lives_ok

theorem dec_pure (a b c x y z o : Int) : callQ P E ct2 50 9 [.agg ⟨[.int .i64 a, .int .i64 b, .int .i64 c]⟩, .agg ⟨[.int .i64 x, .int .i64 y, .int .i64 z]⟩, .int .i64 o] =
  (iteB (Go.VS.eqB (Go.VS.Tryz.lessM a b c x y z) (Go.VS.Tryz.lessM a b c x y z))
   (needB (Go.VS.beqV (Go.Value.agg (Array.mk [(Go.Value.int Go.IntKind.i64 a), (Go.Value.int Go.IntKind.i64 b), (Go.Value.int Go.IntKind.i64 c)])) (Go.Value.agg (Array.mk [(Go.Value.int Go.IntKind.i64 a), (Go.Value.int Go.IntKind.i64 b), (Go.Value.int Go.IntKind.i64 c)])))
    (needB (Go.VS.beqV (Go.Value.agg (Array.mk [(Go.Value.int Go.IntKind.i64 x), (Go.Value.int Go.IntKind.i64 y), (Go.Value.int Go.IntKind.i64 z)])) (Go.Value.agg (Array.mk [(Go.Value.int Go.IntKind.i64 x), (Go.Value.int Go.IntKind.i64 y), (Go.Value.int Go.IntKind.i64 z)])))
     (some ((Go.Value.bool (Go.VS.eqI (Go.VS.Tryz.boundM o) (Go.VS.Tryz.boundM o))), (Go.VS.mkSt [])))))
   (needB (Go.VS.beqV (Go.Value.agg (Array.mk [(Go.Value.int Go.IntKind.i64 a), (Go.Value.int Go.IntKind.i64 b), (Go.Value.int Go.IntKind.i64 c)])) (Go.Value.agg (Array.mk [(Go.Value.int Go.IntKind.i64 a), (Go.Value.int Go.IntKind.i64 b), (Go.Value.int Go.IntKind.i64 c)])))
    (needB (Go.VS.beqV (Go.Value.agg (Array.mk [(Go.Value.int Go.IntKind.i64 x), (Go.Value.int Go.IntKind.i64 y), (Go.Value.int Go.IntKind.i64 z)])) (Go.Value.agg (Array.mk [(Go.Value.int Go.IntKind.i64 x), (Go.Value.int Go.IntKind.i64 y), (Go.Value.int Go.IntKind.i64 z)])))
     (some ((Go.Value.bool Bool.false), (Go.VS.mkSt [])))))) := by kernel_rfl
theorem dec_order (a b c x y z p q r : Int) : callQ P E ct2 50 10 [.agg ⟨[.int .i64 a, .int .i64 b, .int .i64 c]⟩, .agg ⟨[.int .i64 x, .int .i64 y, .int .i64 z]⟩, .agg ⟨[.int .i64 p, .int .i64 q, .int .i64 r]⟩] =
  (needB (Go.VS.beqV (Go.Value.agg (Array.mk [(Go.Value.int Go.IntKind.i64 x), (Go.Value.int Go.IntKind.i64 y), (Go.Value.int Go.IntKind.i64 z)])) (Go.Value.agg (Array.mk [(Go.Value.int Go.IntKind.i64 x), (Go.Value.int Go.IntKind.i64 y), (Go.Value.int Go.IntKind.i64 z)])))
   (needB (Go.VS.beqV (Go.Value.agg (Array.mk [(Go.Value.int Go.IntKind.i64 a), (Go.Value.int Go.IntKind.i64 b), (Go.Value.int Go.IntKind.i64 c)])) (Go.Value.agg (Array.mk [(Go.Value.int Go.IntKind.i64 a), (Go.Value.int Go.IntKind.i64 b), (Go.Value.int Go.IntKind.i64 c)])))
    (needB (Go.VS.beqV (Go.Value.agg (Array.mk [(Go.Value.int Go.IntKind.i64 x), (Go.Value.int Go.IntKind.i64 y), (Go.Value.int Go.IntKind.i64 z)])) (Go.Value.agg (Array.mk [(Go.Value.int Go.IntKind.i64 x), (Go.Value.int Go.IntKind.i64 y), (Go.Value.int Go.IntKind.i64 z)])))
     (needB (Go.VS.beqV (Go.Value.agg (Array.mk [(Go.Value.int Go.IntKind.i64 x), (Go.Value.int Go.IntKind.i64 y), (Go.Value.int Go.IntKind.i64 z)])) (Go.Value.agg (Array.mk [(Go.Value.int Go.IntKind.i64 x), (Go.Value.int Go.IntKind.i64 y), (Go.Value.int Go.IntKind.i64 z)])))
      (needB (Go.VS.beqV (Go.Value.agg (Array.mk [(Go.Value.int Go.IntKind.i64 p), (Go.Value.int Go.IntKind.i64 q), (Go.Value.int Go.IntKind.i64 r)])) (Go.Value.agg (Array.mk [(Go.Value.int Go.IntKind.i64 p), (Go.Value.int Go.IntKind.i64 q), (Go.Value.int Go.IntKind.i64 r)])))
       (needB (Go.VS.beqV (Go.Value.agg (Array.mk [(Go.Value.int Go.IntKind.i64 p), (Go.Value.int Go.IntKind.i64 q), (Go.Value.int Go.IntKind.i64 r)])) (Go.Value.agg (Array.mk [(Go.Value.int Go.IntKind.i64 p), (Go.Value.int Go.IntKind.i64 q), (Go.Value.int Go.IntKind.i64 r)])))
        (needB (Go.VS.beqV (Go.Value.agg (Array.mk [(Go.Value.int Go.IntKind.i64 a), (Go.Value.int Go.IntKind.i64 b), (Go.Value.int Go.IntKind.i64 c)])) (Go.Value.agg (Array.mk [(Go.Value.int Go.IntKind.i64 a), (Go.Value.int Go.IntKind.i64 b), (Go.Value.int Go.IntKind.i64 c)])))
         (needB (Go.VS.beqV (Go.Value.agg (Array.mk [(Go.Value.int Go.IntKind.i64 a), (Go.Value.int Go.IntKind.i64 b), (Go.Value.int Go.IntKind.i64 c)])) (Go.Value.agg (Array.mk [(Go.Value.int Go.IntKind.i64 a), (Go.Value.int Go.IntKind.i64 b), (Go.Value.int Go.IntKind.i64 c)])))
          (needB (Go.VS.beqV (Go.Value.agg (Array.mk [(Go.Value.int Go.IntKind.i64 a), (Go.Value.int Go.IntKind.i64 b), (Go.Value.int Go.IntKind.i64 c)])) (Go.Value.agg (Array.mk [(Go.Value.int Go.IntKind.i64 a), (Go.Value.int Go.IntKind.i64 b), (Go.Value.int Go.IntKind.i64 c)])))
           (needB (Go.VS.beqV (Go.Value.agg (Array.mk [(Go.Value.int Go.IntKind.i64 p), (Go.Value.int Go.IntKind.i64 q), (Go.Value.int Go.IntKind.i64 r)])) (Go.Value.agg (Array.mk [(Go.Value.int Go.IntKind.i64 p), (Go.Value.int Go.IntKind.i64 q), (Go.Value.int Go.IntKind.i64 r)])))
            (needB (Go.VS.beqV (Go.Value.agg (Array.mk [(Go.Value.int Go.IntKind.i64 p), (Go.Value.int Go.IntKind.i64 q), (Go.Value.int Go.IntKind.i64 r)])) (Go.Value.agg (Array.mk [(Go.Value.int Go.IntKind.i64 p), (Go.Value.int Go.IntKind.i64 q), (Go.Value.int Go.IntKind.i64 r)])))
             (needB (Go.VS.beqV (Go.Value.agg (Array.mk [(Go.Value.int Go.IntKind.i64 p), (Go.Value.int Go.IntKind.i64 q), (Go.Value.int Go.IntKind.i64 r)])) (Go.Value.agg (Array.mk [(Go.Value.int Go.IntKind.i64 p), (Go.Value.int Go.IntKind.i64 q), (Go.Value.int Go.IntKind.i64 r)])))
              (iteB (Go.VS.Tryz.lessM a b c x y z)
               (iteB (Go.VS.Tryz.lessM x y z a b c)
                (some ((Go.Value.bool Bool.false), (Go.VS.mkSt [])))
                (iteB (Go.VS.notB (Go.VS.Tryz.lessM a b c x y z))
                 (iteB (Go.VS.notB (Go.VS.Tryz.lessM x y z a b c))
                  (iteB (Go.VS.notB (Bool.and (Go.VS.eqI a x) (Bool.and (Go.VS.eqI b y) (Bool.and (Go.VS.eqI c z) Bool.true))))
                   (some ((Go.Value.bool Bool.false), (Go.VS.mkSt [])))
                   (iteB (Go.VS.Tryz.lessM a b c x y z)
                    (iteB (Go.VS.Tryz.lessM x y z p q r)
                     (iteB (Go.VS.notB (Go.VS.Tryz.lessM a b c p q r))
                      (some ((Go.Value.bool Bool.false), (Go.VS.mkSt [])))
                      (iteB (Go.VS.geI a (0 : Int))
                       (iteB (Go.VS.geI b (0 : Int))
                        (iteB (Go.VS.notB (Go.VS.geI c (0 : Int)))
                         (some ((Go.Value.bool Bool.true), (Go.VS.mkSt [])))
                         (some ((Go.Value.bool (Go.VS.notB (Go.VS.Tryz.lessM a b c (0 : Int) (0 : Int) (0 : Int)))), (Go.VS.mkSt []))))
                        (some ((Go.Value.bool Bool.true), (Go.VS.mkSt []))))
                       (some ((Go.Value.bool Bool.true), (Go.VS.mkSt [])))))
                     (iteB (Go.VS.geI a (0 : Int))
                      (iteB (Go.VS.geI b (0 : Int))
                       (iteB (Go.VS.notB (Go.VS.geI c (0 : Int)))
                        (some ((Go.Value.bool Bool.true), (Go.VS.mkSt [])))
                        (some ((Go.Value.bool (Go.VS.notB (Go.VS.Tryz.lessM a b c (0 : Int) (0 : Int) (0 : Int)))), (Go.VS.mkSt []))))
                       (some ((Go.Value.bool Bool.true), (Go.VS.mkSt []))))
                      (some ((Go.Value.bool Bool.true), (Go.VS.mkSt [])))))
                    (iteB (Go.VS.geI a (0 : Int))
                     (iteB (Go.VS.geI b (0 : Int))
                      (iteB (Go.VS.notB (Go.VS.geI c (0 : Int)))
                       (some ((Go.Value.bool Bool.true), (Go.VS.mkSt [])))
                       (some ((Go.Value.bool (Go.VS.notB (Go.VS.Tryz.lessM a b c (0 : Int) (0 : Int) (0 : Int)))), (Go.VS.mkSt []))))
                      (some ((Go.Value.bool Bool.true), (Go.VS.mkSt []))))
                     (some ((Go.Value.bool Bool.true), (Go.VS.mkSt []))))))
                  (iteB (Go.VS.Tryz.lessM a b c x y z)
                   (iteB (Go.VS.Tryz.lessM x y z p q r)
                    (iteB (Go.VS.notB (Go.VS.Tryz.lessM a b c p q r))
                     (some ((Go.Value.bool Bool.false), (Go.VS.mkSt [])))
                     (iteB (Go.VS.geI a (0 : Int))
                      (iteB (Go.VS.geI b (0 : Int))
                       (iteB (Go.VS.notB (Go.VS.geI c (0 : Int)))
                        (some ((Go.Value.bool Bool.true), (Go.VS.mkSt [])))
                        (some ((Go.Value.bool (Go.VS.notB (Go.VS.Tryz.lessM a b c (0 : Int) (0 : Int) (0 : Int)))), (Go.VS.mkSt []))))
                       (some ((Go.Value.bool Bool.true), (Go.VS.mkSt []))))
                      (some ((Go.Value.bool Bool.true), (Go.VS.mkSt [])))))
                    (iteB (Go.VS.geI a (0 : Int))
                     (iteB (Go.VS.geI b (0 : Int))
                      (iteB (Go.VS.notB (Go.VS.geI c (0 : Int)))
                       (some ((Go.Value.bool Bool.true), (Go.VS.mkSt [])))
                       (some ((Go.Value.bool (Go.VS.notB (Go.VS.Tryz.lessM a b c (0 : Int) (0 : Int) (0 : Int)))), (Go.VS.mkSt []))))
                      (some ((Go.Value.bool Bool.true), (Go.VS.mkSt []))))
                     (some ((Go.Value.bool Bool.true), (Go.VS.mkSt [])))))
                   (iteB (Go.VS.geI a (0 : Int))
                    (iteB (Go.VS.geI b (0 : Int))
                     (iteB (Go.VS.notB (Go.VS.geI c (0 : Int)))
                      (some ((Go.Value.bool Bool.true), (Go.VS.mkSt [])))
                      (some ((Go.Value.bool (Go.VS.notB (Go.VS.Tryz.lessM a b c (0 : Int) (0 : Int) (0 : Int)))), (Go.VS.mkSt []))))
                     (some ((Go.Value.bool Bool.true), (Go.VS.mkSt []))))
                    (some ((Go.Value.bool Bool.true), (Go.VS.mkSt []))))))
                 (iteB (Go.VS.Tryz.lessM a b c x y z)
                  (iteB (Go.VS.Tryz.lessM x y z p q r)
                   (iteB (Go.VS.notB (Go.VS.Tryz.lessM a b c p q r))
                    (some ((Go.Value.bool Bool.false), (Go.VS.mkSt [])))
                    (iteB (Go.VS.geI a (0 : Int))
                     (iteB (Go.VS.geI b (0 : Int))
                      (iteB (Go.VS.notB (Go.VS.geI c (0 : Int)))
                       (some ((Go.Value.bool Bool.true), (Go.VS.mkSt [])))
                       (some ((Go.Value.bool (Go.VS.notB (Go.VS.Tryz.lessM a b c (0 : Int) (0 : Int) (0 : Int)))), (Go.VS.mkSt []))))
                      (some ((Go.Value.bool Bool.true), (Go.VS.mkSt []))))
                     (some ((Go.Value.bool Bool.true), (Go.VS.mkSt [])))))
                   (iteB (Go.VS.geI a (0 : Int))
                    (iteB (Go.VS.geI b (0 : Int))
                     (iteB (Go.VS.notB (Go.VS.geI c (0 : Int)))
                      (some ((Go.Value.bool Bool.true), (Go.VS.mkSt [])))
                      (some ((Go.Value.bool (Go.VS.notB (Go.VS.Tryz.lessM a b c (0 : Int) (0 : Int) (0 : Int)))), (Go.VS.mkSt []))))
                     (some ((Go.Value.bool Bool.true), (Go.VS.mkSt []))))
                    (some ((Go.Value.bool Bool.true), (Go.VS.mkSt [])))))
                  (iteB (Go.VS.geI a (0 : Int))
                   (iteB (Go.VS.geI b (0 : Int))
                    (iteB (Go.VS.notB (Go.VS.geI c (0 : Int)))
                     (some ((Go.Value.bool Bool.true), (Go.VS.mkSt [])))
                     (some ((Go.Value.bool (Go.VS.notB (Go.VS.Tryz.lessM a b c (0 : Int) (0 : Int) (0 : Int)))), (Go.VS.mkSt []))))
                    (some ((Go.Value.bool Bool.true), (Go.VS.mkSt []))))
                   (some ((Go.Value.bool Bool.true), (Go.VS.mkSt [])))))))
               (iteB (Go.VS.notB (Go.VS.Tryz.lessM a b c x y z))
                (iteB (Go.VS.notB (Go.VS.Tryz.lessM x y z a b c))
                 (iteB (Go.VS.notB (Bool.and (Go.VS.eqI a x) (Bool.and (Go.VS.eqI b y) (Bool.and (Go.VS.eqI c z) Bool.true))))
                  (some ((Go.Value.bool Bool.false), (Go.VS.mkSt [])))
                  (iteB (Go.VS.Tryz.lessM a b c x y z)
                   (iteB (Go.VS.Tryz.lessM x y z p q r)
                    (iteB (Go.VS.notB (Go.VS.Tryz.lessM a b c p q r))
                     (some ((Go.Value.bool Bool.false), (Go.VS.mkSt [])))
                     (iteB (Go.VS.geI a (0 : Int))
                      (iteB (Go.VS.geI b (0 : Int))
                       (iteB (Go.VS.notB (Go.VS.geI c (0 : Int)))
                        (some ((Go.Value.bool Bool.true), (Go.VS.mkSt [])))
                        (some ((Go.Value.bool (Go.VS.notB (Go.VS.Tryz.lessM a b c (0 : Int) (0 : Int) (0 : Int)))), (Go.VS.mkSt []))))
                       (some ((Go.Value.bool Bool.true), (Go.VS.mkSt []))))
                      (some ((Go.Value.bool Bool.true), (Go.VS.mkSt [])))))
                    (iteB (Go.VS.geI a (0 : Int))
                     (iteB (Go.VS.geI b (0 : Int))
                      (iteB (Go.VS.notB (Go.VS.geI c (0 : Int)))
                       (some ((Go.Value.bool Bool.true), (Go.VS.mkSt [])))
                       (some ((Go.Value.bool (Go.VS.notB (Go.VS.Tryz.lessM a b c (0 : Int) (0 : Int) (0 : Int)))), (Go.VS.mkSt []))))
                      (some ((Go.Value.bool Bool.true), (Go.VS.mkSt []))))
                     (some ((Go.Value.bool Bool.true), (Go.VS.mkSt [])))))
                   (iteB (Go.VS.geI a (0 : Int))
                    (iteB (Go.VS.geI b (0 : Int))
                     (iteB (Go.VS.notB (Go.VS.geI c (0 : Int)))
                      (some ((Go.Value.bool Bool.true), (Go.VS.mkSt [])))
                      (some ((Go.Value.bool (Go.VS.notB (Go.VS.Tryz.lessM a b c (0 : Int) (0 : Int) (0 : Int)))), (Go.VS.mkSt []))))
                     (some ((Go.Value.bool Bool.true), (Go.VS.mkSt []))))
                    (some ((Go.Value.bool Bool.true), (Go.VS.mkSt []))))))
                 (iteB (Go.VS.Tryz.lessM a b c x y z)
                  (iteB (Go.VS.Tryz.lessM x y z p q r)
                   (iteB (Go.VS.notB (Go.VS.Tryz.lessM a b c p q r))
                    (some ((Go.Value.bool Bool.false), (Go.VS.mkSt [])))
                    (iteB (Go.VS.geI a (0 : Int))
                     (iteB (Go.VS.geI b (0 : Int))
                      (iteB (Go.VS.notB (Go.VS.geI c (0 : Int)))
                       (some ((Go.Value.bool Bool.true), (Go.VS.mkSt [])))
                       (some ((Go.Value.bool (Go.VS.notB (Go.VS.Tryz.lessM a b c (0 : Int) (0 : Int) (0 : Int)))), (Go.VS.mkSt []))))
                      (some ((Go.Value.bool Bool.true), (Go.VS.mkSt []))))
                     (some ((Go.Value.bool Bool.true), (Go.VS.mkSt [])))))
                   (iteB (Go.VS.geI a (0 : Int))
                    (iteB (Go.VS.geI b (0 : Int))
                     (iteB (Go.VS.notB (Go.VS.geI c (0 : Int)))
                      (some ((Go.Value.bool Bool.true), (Go.VS.mkSt [])))
                      (some ((Go.Value.bool (Go.VS.notB (Go.VS.Tryz.lessM a b c (0 : Int) (0 : Int) (0 : Int)))), (Go.VS.mkSt []))))
                     (some ((Go.Value.bool Bool.true), (Go.VS.mkSt []))))
                    (some ((Go.Value.bool Bool.true), (Go.VS.mkSt [])))))
                  (iteB (Go.VS.geI a (0 : Int))
                   (iteB (Go.VS.geI b (0 : Int))
                    (iteB (Go.VS.notB (Go.VS.geI c (0 : Int)))
                     (some ((Go.Value.bool Bool.true), (Go.VS.mkSt [])))
                     (some ((Go.Value.bool (Go.VS.notB (Go.VS.Tryz.lessM a b c (0 : Int) (0 : Int) (0 : Int)))), (Go.VS.mkSt []))))
                    (some ((Go.Value.bool Bool.true), (Go.VS.mkSt []))))
                   (some ((Go.Value.bool Bool.true), (Go.VS.mkSt []))))))
                (iteB (Go.VS.Tryz.lessM a b c x y z)
                 (iteB (Go.VS.Tryz.lessM x y z p q r)
                  (iteB (Go.VS.notB (Go.VS.Tryz.lessM a b c p q r))
                   (some ((Go.Value.bool Bool.false), (Go.VS.mkSt [])))
                   (iteB (Go.VS.geI a (0 : Int))
                    (iteB (Go.VS.geI b (0 : Int))
                     (iteB (Go.VS.notB (Go.VS.geI c (0 : Int)))
                      (some ((Go.Value.bool Bool.true), (Go.VS.mkSt [])))
                      (some ((Go.Value.bool (Go.VS.notB (Go.VS.Tryz.lessM a b c (0 : Int) (0 : Int) (0 : Int)))), (Go.VS.mkSt []))))
                     (some ((Go.Value.bool Bool.true), (Go.VS.mkSt []))))
                    (some ((Go.Value.bool Bool.true), (Go.VS.mkSt [])))))
                  (iteB (Go.VS.geI a (0 : Int))
                   (iteB (Go.VS.geI b (0 : Int))
                    (iteB (Go.VS.notB (Go.VS.geI c (0 : Int)))
                     (some ((Go.Value.bool Bool.true), (Go.VS.mkSt [])))
                     (some ((Go.Value.bool (Go.VS.notB (Go.VS.Tryz.lessM a b c (0 : Int) (0 : Int) (0 : Int)))), (Go.VS.mkSt []))))
                    (some ((Go.Value.bool Bool.true), (Go.VS.mkSt []))))
                   (some ((Go.Value.bool Bool.true), (Go.VS.mkSt [])))))
                 (iteB (Go.VS.geI a (0 : Int))
                  (iteB (Go.VS.geI b (0 : Int))
                   (iteB (Go.VS.notB (Go.VS.geI c (0 : Int)))
                    (some ((Go.Value.bool Bool.true), (Go.VS.mkSt [])))
                    (some ((Go.Value.bool (Go.VS.notB (Go.VS.Tryz.lessM a b c (0 : Int) (0 : Int) (0 : Int)))), (Go.VS.mkSt []))))
                   (some ((Go.Value.bool Bool.true), (Go.VS.mkSt []))))
                  (some ((Go.Value.bool Bool.true), (Go.VS.mkSt []))))))))))))))))))) := by kernel_rfl
end Go.VS.Tryz
