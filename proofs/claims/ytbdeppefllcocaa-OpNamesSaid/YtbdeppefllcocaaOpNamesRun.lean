/- The law 'OpNames': its run. Conditions: none. -/
import Derived.Test.YtbdeppefllcocaaShelf
import Derived.Test.YtbdeppefllcocaaVsKnown
import Derived.Test.YtbdeppefllcocaaVsDrawM
import Derived.KernelRfl
namespace Go.Proofs.Ytbdeppefllcocaa.opNames
set_option linter.unusedSimpArgs false
set_option linter.unusedVariables false
set_option maxRecDepth 1000000
open Go.VS
theorem noNum : VS.noNum Try.prog = true := by kernel_rfl
/-- What strings.Repeat answers. -/
def Rrep : CallFn
  | [.string s, .int .i64 (.ofNat c)] => some (.ite (and (Nat.ble c 9223372036854775807) (Nat.ble (s.size * c) 140737488355328)) (.leaf (.string ⟨(Lib.repeatL s.data.toList c).toArray⟩, [])) .fail)
  | _ => none
theorem rep_ok : CallOkR Try.prog 42 Rrep := by
  refine ⟨fun args t hR v bs hev => ?_⟩
  unfold Rrep at hR
  split at hR
  · rename_i s c
    obtain rfl := Option.some.inj hR
    cases hc : and (Nat.ble c 9223372036854775807) (Nat.ble (s.size * c) 140737488355328) with
    | false => rw [hc] at hev; cases hev
    | true =>
      rw [hc] at hev
      simp only [DT.eval, Option.some.injEq, Prod.mk.injEq] at hev
      obtain ⟨rfl, rfl⟩ := hev
      simp only [Bool.and_eq_true] at hc
      refine CR.ofCalls rfl fun w args' ha => ?_
      simp only [VRL] at ha
      obtain ⟨y, ys, e, hy, z, zs, rfl, hz, rfl⟩ := ha
      have hy : y = .string s := hy
      have hz : z = .int .i64 c := hz
      subst hy hz
      obtain ⟨l⟩ := args'
      simp only at e
      subst e
      exact Try.strings_Repeat s c w (Nat.le_of_ble_eq_true hc.1) (Nat.le_of_ble_eq_true hc.2)
  · cases hR
noncomputable def ct : Ct := addCall Try.prog 42 Rrep noCt
theorem ct_ok : CtOk Try.prog ct := addCall_ok (noCt_ok _) rep_ok
set_option maxRecDepth 10000000 in
theorem runs : trueE Try.prog (engM Try.prog) ct 1000000 11 [] = true := by kernel_rfl
end Go.Proofs.Ytbdeppefllcocaa.opNames
