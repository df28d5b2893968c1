/- The law 'OpWords', where what it reads is of bulk at most 1048576: the call returns true. Conditions: none. -/
import Derived.Test.YtbdeppefllcocaaRows
import Derived.Test.YtbdeppefllcocaaOp10
import Derived.WalkKit
import Derived.ProofKit
import Derived.OpenShut
import Derived.JoinedCond
namespace Go.Proofs.Ytbdeppefllcocaa.opWords
open Go.ChangeShapes Go.WideShapes Go.ChangeAt Go.RowKit
open Go.ChangeMaps (open_string shut_string)
set_option linter.unusedVariables false
set_option linter.unusedSimpArgs false

theorem own : ownKnob Try.prog.godebug = none := by kernel_rfl

theorem calls_of {P : Program} {g : FuncId} {args : List Value} {v : Value} {bs : List VS.Blk} (h : VS.CR P g args v bs) {w : World} {args' : Array Value} (ha : VS.VRL (VS.envOf w) args args'.toList) :
    Calls P g args' w fun e w' => (∃ β v', e = .returned v' ∧ VS.VR β v v') ∧ Below w.heap.size w w' := by
  intro cs
  obtain ⟨β', fr, w', v', h1, h2, h3, h4, h5, h6⟩ := h w args' .normal cs VS.noObs ha
  exact ⟨.returned v', w', fr, ⟨⟨β', v', rfl, h5⟩, h4.below⟩, h1, h6.2.2.2.1, h6.1, h6.2.1, h6.2.2.1, by rw [h6.2.2.2.1]; exact h6.2.2.2.2⟩

theorem runs (s t : ByteArray) (hs : s.size ≤ 1048576) (ht : t.size ≤ 1048576) : VS.callQ VS.Try.P VS.Try.E VS.Try.ct7 200 7 [.string s, .string t] = some (.bool true, VS.mkSt []) := by
  rw [VS.Try.dec_words]
  refine VS.need_eq (VS.ble_ok (by omega)) ?_
  refine VS.need_eq (VS.ble_ok (show 3 * t.size ≤ 4194304 by omega)) ?_
  refine VS.need_eq (VS.ble_ok (show 3 * s.size ≤ 4194304 by omega)) ?_
  refine VS.need_eq (VS.ble_ok (show 3 * s.size ≤ 4194304 by omega)) ?_
  refine VS.ite_t (by rw [VS.eqS_eq]; exact beq_self_eq_true _) ?_
  refine VS.ite_t (by rw [VS.eqS_eq]; exact beq_self_eq_true _) ?_
  refine VS.leaf_eq ?_ rfl
  have : VS.eqI (VS.Try.bytesM t.data.toList).2 (VS.Try.bytesM t.data.toList).2 = true := beq_self_eq_true _
  exact congrArg Value.bool this

theorem walk (s t : ByteArray) (w : World) (hs : s.size ≤ 1048576) (ht : t.size ≤ 1048576) :
    Calls Try.prog 7 #[.string s, .string t] w fun e w' => e = .returned (.bool true) ∧ Below w.heap.size w w' :=
  (calls_of (VS.CR.of (VS.Try.engOk VS.Try.ct7) VS.Try.noNum VS.Try.ct7_ok (runs s t hs ht)) (args' := #[.string s, .string t]) (VS.VRL.cons rfl (VS.VRL.cons rfl VS.VRL.nil))).mono fun e w' ⟨⟨β, v', h1, h2⟩, h3⟩ => ⟨by rw [h1, h2.bool'], h3⟩

theorem short {H : Type} {s t : ByteArray} (hk : Rows.uptoSmall H [.lit (.string s.data.toList), .lit (.string t.data.toList)] = true) : s.size ≤ 1048576 ∧ t.size ≤ 1048576 := by
  have h : Rows.uptoBulkAll [DataW.lit (H := H) (.string s.data.toList), .lit (.string t.data.toList)] ≤ 1048576 := of_decide_eq_true hk
  simp only [Rows.uptoBulkAll, Rows.uptoBulk] at h
  have e : s.data.toList.length = s.size := by rw [Array.length_toList]; rfl
  have e' : t.data.toList.length = t.size := by rw [Array.length_toList]; rfl
  omega

theorem contract (H : Type) (enc : TypeId × Value → H) (W : World) (base : Nat) (args : Array Value) (ds gs : List (DataW H)) (before : List MemPlace)
    (hval : ∀ (j : Nat) t v, Try.f7.params[j]? = some t → args[j]? = some v → Value.okWide Try.prog W .any base t v)
    (hW : DataW.Whole enc Try.prog Try.f7.params.toList Rows.opWordsSpec.vars false W args.toList ds gs before) (hk : Rows.uptoSmall H (ds ++ gs) = true) :
    Calls Try.prog 7 args W fun e W' => ∃ v, e = .returned v ∧ Rows.opWordsSpec.post enc Try.prog Try.f7 false true false false W args v W' := by
  have hW' := hW
  obtain ⟨p, q, hA0, hV, rfl, hfz, hnd⟩ := hW
  have hA : DataW.TrodAll enc Try.prog W 0 (fun _ => true) true Try.f7.params.toList args.toList ds p := hA0
  rw [Try.params7] at hA hval
  obtain ⟨v0, vs0, d0, ds0, p0, q0, hargs, rfl, rfl, h0, r0⟩ := trodAll_cons hA
  obtain ⟨v1, vs1, d1, ds1, p1, q1, rfl, rfl, rfl, h1, r1⟩ := trodAll_cons r0
  obtain ⟨rfl, rfl, rfl⟩ := trodAll_nil r1
  obtain rfl : args = #[v0, v1] := by cases args; simp_all
  obtain ⟨rfl, rfl⟩ := trodVars_none hV
  obtain ⟨s, rfl, rfl, rfl, hmax⟩ := open_string Try.underlying9 (hval 0 9 v0 rfl rfl) h0
  obtain ⟨t, rfl, rfl, rfl, hmax1⟩ := open_string Try.underlying9 (hval 1 9 v1 rfl rfl) h1
  clear hA0
  simp only [List.append_nil] at hW' hk
  obtain ⟨hs, ht⟩ := short hk
  refine (walk s t W hs ht).mono fun e W' ⟨he, hg⟩ => ?_
  subst he
  refine ⟨_, rfl, _, _, _, [], [], [], hW', ?_, ?_, rfl, hg.frame _, fun h => by cases h⟩
  · exact trodAll_cons_mk (shut_bool Try.underlying4 _) trodAll_mk0
  · exact trodAll_cons_mk (shut_string Try.underlying9 hmax) (trodAll_cons_mk (shut_string Try.underlying9 hmax1) trodAll_mk0)

set_option maxRecDepth 100000 in
theorem lifted (os : Os) (started : os.Started) (H : Type) (enc : TypeId × Value → H) (F : Stop.Interp) :
    ReturnsInHanded {} Try.checked os 7 .any ((Rows.OpenSpec.upto Rows.opWordsSpec).pre6 enc Try.prog Try.f7 Rows.opWordsUptoRow.domain false) (((Rows.OpenSpec.upto Rows.opWordsSpec).at F).post enc Try.prog Try.f7 false true false false) := by
  refine returnsInHanded_of_cond (C := Try.checked) (s := Rows.OpenSpec.upto Rows.opWordsSpec) (k := Rows.uptoSmall) rfl own started (by kernel_rfl) Try.func7
    (OpenSpec.witness (enc := enc) (C := Try.checked) (s := Rows.OpenSpec.upto Rows.opWordsSpec) (k := Rows.uptoSmall) rfl false ⟨#[], #[.string .empty, .string .empty], []⟩ 8 (by kernel_rfl) (by kernel_rfl) (by kernel_rfl)
      (x := ([.lit (.string []), .lit (.string [])], [], [])) (by kernel_rfl) rfl (by kernel_rfl)) ?_
  intro W base args ds gs before hval hW _ hk _
  exact contract H enc W base args ds gs before hval hW hk

theorem proved : Rows.OpWordsUptoSaid :=
  OpenClaim.holds_of_cond 7 Try.f7 rfl rfl rfl rfl rfl rfl rfl ⟨rfl, rfl, rfl, rfl, rfl⟩ rfl rfl rfl rfl rfl (by kernel_rfl) Try.func7 (by kernel_rfl)
    (of_decide_eq_true (by kernel_rfl)) (by unfold Func.isWrapper; first | (rw [if_pos (by decide +kernel)]; kernel_rfl) | (rw [if_neg (by decide +kernel)]; exact ⟨rfl, rfl⟩))
    (fun os started H enc _ F => lifted os started H enc F)
#print axioms proved
end Go.Proofs.Ytbdeppefllcocaa.opWords
