/- What the small functions of words come to. No conditions. -/
import Derived.Test.YtbdeppefllcocaaVsSymDraw
import Derived.Test.YtbdeppefllcocaaProg
import Derived.KernelRfl
namespace Go.VS.Try
set_option linter.unusedSimpArgs false
set_option linter.unusedVariables false
set_option maxRecDepth 1000000
open Go.VS
noncomputable abbrev P : Program := Go.Proofs.Try.prog
noncomputable abbrev E : Eng := engS P
theorem noNum : VS.noNum P = true := by kernel_rfl
theorem engOk (ct : Ct) : EngOk P ct E := engS_ok P ct

/-- A known call of ints alone. -/
theorem ok_of {ct : Ct} (hct : CtOk P ct) {g n : Nat} {R : CallFn} (h : ∀ args t, R args = some t → ∀ v bs, t.eval = some (v, bs) → callQ P E ct n g args = some (v, mkSt bs)) : CallOkR P g R :=
  ⟨fun args t hR v bs hev => CR.of (engOk ct) noNum hct (h args t hR v bs hev)⟩

/-! ### plain -/
theorem dec_plain (x : Int) : callQ P E noCt 50 43 [.int .u8 x] =
  (iteB (Go.VS.gtI x (32 : Int))
   (iteB (Go.VS.ltI x (127 : Int))
    (iteB (Go.VS.neI x (34 : Int))
     (some ((Go.Value.bool (Go.VS.neI x (92 : Int))), (Go.VS.mkSt [])))
     (some ((Go.Value.bool Bool.false), (Go.VS.mkSt []))))
    (some ((Go.Value.bool Bool.false), (Go.VS.mkSt []))))
   (some ((Go.Value.bool Bool.false), (Go.VS.mkSt [])))) := by kernel_rfl
def plainM (x : Int) : Bool := gtI x 32 && ltI x 127 && neI x 34 && neI x 92
def Rplain : CallFn
  | [.int .u8 x] => some (.leaf (.bool (plainM x), []))
  | _ => none
theorem plain_ok : CallOkR P 43 Rplain := by
  refine ok_of (noCt_ok P) (n := 50) fun args t hR v bs hev => ?_
  unfold Rplain at hR
  split at hR
  · rename_i x
    obtain rfl := Option.some.inj hR
    simp only [DT.eval, Option.some.injEq, Prod.mk.injEq] at hev
    obtain ⟨rfl, rfl⟩ := hev
    rw [dec_plain]
    unfold plainM
    cases gtI x 32 <;> cases ltI x 127 <;> cases neI x 34 <;> rfl
  · cases hR

/-! ### plain of the answer -/
theorem dec_rplain (x : Int) : callQ P E noCt 50 46 [.int .u8 x] =
  (iteB (Go.VS.geI x (33 : Int))
   (iteB (Go.VS.leI x (126 : Int))
    (iteB (Go.VS.neI x (34 : Int))
     (some ((Go.Value.bool (Go.VS.neI x (92 : Int))), (Go.VS.mkSt [])))
     (some ((Go.Value.bool Bool.false), (Go.VS.mkSt []))))
    (some ((Go.Value.bool Bool.false), (Go.VS.mkSt []))))
   (some ((Go.Value.bool Bool.false), (Go.VS.mkSt [])))) := by kernel_rfl
def rplainM (x : Int) : Bool := geI x 33 && leI x 126 && neI x 34 && neI x 92
def Rrplain : CallFn
  | [.int .u8 x] => some (.leaf (.bool (rplainM x), []))
  | _ => none
theorem rplain_ok : CallOkR P 46 Rrplain := by
  refine ok_of (noCt_ok P) (n := 50) fun args t hR v bs hev => ?_
  unfold Rrplain at hR
  split at hR
  · rename_i x
    obtain rfl := Option.some.inj hR
    simp only [DT.eval, Option.some.injEq, Prod.mk.injEq] at hev
    obtain ⟨rfl, rfl⟩ := hev
    rw [dec_rplain]
    unfold rplainM
    cases geI x 33 <;> cases leI x 126 <;> cases neI x 34 <;> rfl
  · cases hR

/-! ### digit -/
theorem dec_digit (x : Int) : callQ P E noCt 50 44 [.int .u8 x] =
  (iteB (Go.VS.geI x (48 : Int))
   (iteB (Go.VS.leI x (57 : Int))
    (some ((Go.Value.tuple (Array.mk [(Go.Value.int Go.IntKind.u8 (Go.VS.subI Go.IntKind.u8 x (48 : Int))), (Go.Value.bool Bool.true)])), (Go.VS.mkSt [])))
    (iteB (Go.VS.geI x (97 : Int))
     (iteB (Go.VS.leI x (102 : Int))
      (some ((Go.Value.tuple (Array.mk [(Go.Value.int Go.IntKind.u8 (Go.VS.addI Go.IntKind.u8 (Go.VS.subI Go.IntKind.u8 x (97 : Int)) (10 : Int))), (Go.Value.bool Bool.true)])), (Go.VS.mkSt [])))
      (some ((Go.Value.tuple (Array.mk [(Go.Value.int Go.IntKind.u8 (0 : Int)), (Go.Value.bool Bool.false)])), (Go.VS.mkSt []))))
     (some ((Go.Value.tuple (Array.mk [(Go.Value.int Go.IntKind.u8 (0 : Int)), (Go.Value.bool Bool.false)])), (Go.VS.mkSt [])))))
   (iteB (Go.VS.geI x (97 : Int))
    (iteB (Go.VS.leI x (102 : Int))
     (some ((Go.Value.tuple (Array.mk [(Go.Value.int Go.IntKind.u8 (Go.VS.addI Go.IntKind.u8 (Go.VS.subI Go.IntKind.u8 x (97 : Int)) (10 : Int))), (Go.Value.bool Bool.true)])), (Go.VS.mkSt [])))
     (some ((Go.Value.tuple (Array.mk [(Go.Value.int Go.IntKind.u8 (0 : Int)), (Go.Value.bool Bool.false)])), (Go.VS.mkSt []))))
    (some ((Go.Value.tuple (Array.mk [(Go.Value.int Go.IntKind.u8 (0 : Int)), (Go.Value.bool Bool.false)])), (Go.VS.mkSt []))))) := by kernel_rfl
def digV (x : Int) : Int := bif geI x 48 && leI x 57 then subI .u8 x 48 else bif geI x 97 && leI x 102 then addI .u8 (subI .u8 x 97) 10 else 0
def digB (x : Int) : Bool := (geI x 48 && leI x 57) || (geI x 97 && leI x 102)
def Rdigit : CallFn
  | [.int .u8 x] => some (.leaf (.tuple ⟨[.int .u8 (digV x), .bool (digB x)]⟩, []))
  | _ => none
theorem digit_ok : CallOkR P 44 Rdigit := by
  refine ok_of (noCt_ok P) (n := 50) fun args t hR v bs hev => ?_
  unfold Rdigit at hR
  split at hR
  · rename_i x
    obtain rfl := Option.some.inj hR
    simp only [DT.eval, Option.some.injEq, Prod.mk.injEq] at hev
    obtain ⟨rfl, rfl⟩ := hev
    rw [dec_digit]
    unfold digV digB
    cases geI x 48 <;> cases leI x 57 <;> cases geI x 97 <;> cases leI x 102 <;> rfl
  · cases hR

/-! ### hex -/
theorem dec_hex (x : Int) : callQ P E noCt 50 47 [.int .u8 x] =
  (needB (Go.VS.inI x 16)
   (some ((Go.Value.int Go.IntKind.u8 (Go.VS.bAt (ByteArray.mk #[48, 49, 50, 51, 52, 53, 54, 55, 56, 57, 97, 98, 99, 100, 101, 102]) x)), (Go.VS.mkSt [])))) := by kernel_rfl
def hexD : ByteArray := ⟨#[48, 49, 50, 51, 52, 53, 54, 55, 56, 57, 97, 98, 99, 100, 101, 102]⟩
def Rhex : CallFn
  | [.int .u8 x] => some (.ite (inI x 16) (.leaf (.int .u8 (bAt hexD x), [])) .fail)
  | _ => none
theorem hex_ok : CallOkR P 47 Rhex := by
  refine ok_of (noCt_ok P) (n := 50) fun args t hR v bs hev => ?_
  unfold Rhex at hR
  split at hR
  · rename_i x
    obtain rfl := Option.some.inj hR
    cases hb : inI x 16 with
    | false => rw [hb] at hev; cases hev
    | true =>
      rw [hb] at hev
      simp only [DT.eval, Option.some.injEq, Prod.mk.injEq] at hev
      obtain ⟨rfl, rfl⟩ := hev
      rw [dec_hex, hb]
      rfl
  · cases hR
end Go.VS.Try
