/- The law 'AuditNil': whatever its arguments, the call returns true. Conditions: none. -/
import Derived.Test.YtdhloodnajdfbaaGreatRows
import Derived.Test.YtdhloodnajdfbaaGreatVsArgs
import Derived.Test.YtdhloodnajdfbaaGreatAuditNilT
import Derived.Test.YtdhloodnajdfbaaGreatAuditNilFacts
namespace Go.Proofs.YtdhloodnajdfbaaGreat.auditNil
open Go.ChangeShapes Go.WideShapes Go.ChangeAt Go.RowKit
set_option linter.unusedVariables false
set_option linter.unusedSimpArgs false

theorem own : ownKnob Tryz.prog.godebug = none := Facts.own
theorem laidOut : laidOutB Tryz.prog = true := Facts.laid

theorem walk (v0 v1 : Value) {x0_0 x0_1 x1_0 : Int} (w : World) (h0 : VS.VR (VS.envOf w) (.agg ⟨[.int .i64 x0_0, .int .i64 x0_1, .chan (some 0)]⟩) v0) (h1 : VS.VR (VS.envOf w) (.int .i64 x1_0) v1) : Calls Tryz.prog 7 #[v0, v1] w fun e w' => e = .returned (.bool true) ∧ Below w.heap.size w w' :=
  VS.CR.true_calls (VS.CR.of (VS.engM_ok _ _) noNum ct_ok (runs x0_0 x0_1 x1_0)) (by simpa using VS.VRL.cons h0 (VS.VRL.cons h1 (VS.VRL.nil)))

set_option maxRecDepth 100000 in
theorem open0 {W : World} {base : Nat} {v : Value} (h : Value.okWide Tryz.prog W .any base 102 v) : ∃ x0_0 x0_1 : Int, VS.VR (VS.envOf W) (.agg ⟨[.int .i64 x0_0, .int .i64 x0_1, .chan (some 0)]⟩) v := by
  obtain ⟨l, rfl, hl, hc⟩ := VS.struct_cells (ts := [3, 3, 22]) Tryz.underlying102 (by kernel_rfl) (by kernel_rfl) h
  match l, hl with
  | [c0, c1, c2], _ =>
    obtain ⟨x0_0, rfl⟩ := VS.cell_int Tryz.underlying3 (hc 0 _ _ rfl rfl)
    obtain ⟨x0_1, rfl⟩ := VS.cell_int Tryz.underlying3 (hc 1 _ _ rfl rfl)
    exact ⟨x0_0, x0_1, VS.vr_agg (VS.VRL.cons (VS.vr_int) (VS.VRL.cons (VS.vr_int) (VS.VRL.cons (VS.vr_top (VS.cell_one (hc 2 _ _ rfl rfl))) (VS.VRL.nil))))⟩

set_option maxRecDepth 100000 in
theorem open1 {W : World} {base : Nat} {v : Value} (h : Value.okWide Tryz.prog W .any base 3 v) : ∃ x1_0 : Int, VS.VR (VS.envOf W) (.int .i64 x1_0) v := by
  obtain ⟨n, rfl⟩ := okWide_int Tryz.underlying3 h
  exact ⟨n, rfl⟩

set_option maxRecDepth 100000 in
theorem lifted (os : Os) (started : os.Started) (H : Type) (enc : TypeId × Value → H) :
    ReturnsInHanded {} Tryz.checked os 7 .any (Rows.auditNilSpec.pre6 enc Tryz.prog Tryz.f7 Rows.auditNilRow.domain false) (Rows.auditNilSpec.post enc Tryz.prog Tryz.f7 false true false false) := by
  refine returnsInHanded_of_change (C := Tryz.checked) own started (by kernel_rfl) Tryz.func7
    (ChangeSpec.witness6 (enc := enc) (C := Tryz.checked) false ⟨#[], #[.agg #[.int .i64 0, .int .i64 0, .slice none 0 0], .int .i64 0], []⟩ 8 (by kernel_rfl) (by kernel_rfl) (by kernel_rfl) (by kernel_rfl)) ?_
  intro W base args ds gs before hval0 hW hcnd _
  have hval : ∀ (j : Nat) t v, Tryz.f7.params[j]? = some t → args[j]? = some v → Value.okWide Tryz.prog W .any base t v := hval0
  have hW' := hW
  obtain ⟨p, q, hA0, hV, rfl, hfz, hnd⟩ := hW
  have hA : DataW.TrodAll enc Tryz.prog W 0 (fun _ => true) true Tryz.f7.params.toList args.toList ds p := hA0
  rw [Tryz.params7] at hA hval
  obtain ⟨v0, vs0, d0, ds0, p0, q0, hargs, rfl, rfl, h0, r0⟩ := trodAll_cons hA
  obtain ⟨v1, vs1, d1, ds1, p1, q1, rfl, rfl, rfl, h1, r1⟩ := trodAll_cons r0
  obtain ⟨rfl, rfl, rfl⟩ := trodAll_nil r1
  obtain rfl : args = #[v0, v1] := by cases args; simp_all
  obtain ⟨rfl, rfl⟩ := trodVars_none hV
  have g0 := open0 (hval 0 102 v0 rfl rfl)
  obtain ⟨x0_0, x0_1, g0⟩ := g0
  have g1 := open1 (hval 1 3 v1 rfl rfl)
  obtain ⟨x1_0, g1⟩ := g1
  clear hA0 hval0
  simp only [List.append_nil] at hW'
  have hlt0 : ∀ x ∈ p0, x.block < W.heap.size := fun x hx => by simpa using hW'.lt x (by simp [hx])
  have hlt1 : ∀ x ∈ p1, x.block < W.heap.size := fun x hx => by simpa using hW'.lt x (by simp [hx])
  refine (walk v0 v1 W g0 g1).mono fun e W' ⟨he, hg⟩ => ?_
  subst he
  refine ⟨_, rfl, _, _, _, [], p0 ++ (p1), [], hW', ?_, ?_, rfl, hg.frame _, fun h => by cases h⟩
  · exact trodAll_cons_mk (shut_bool Tryz.underlying4 _) trodAll_mk0
  · have T2 := (trodAll_mk0 : DataW.TrodAll enc Tryz.prog W' 0 (fun b => decide (b < W.heap.size)) true [] [] [] [])
    have T1 := trodAll_cons_mk (Below.trod laidOut (by kernel_rfl) (of_decide_eq_true (by kernel_rfl)) h1 hg hlt1) T2
    have T0 := trodAll_cons_mk (Below.trod laidOut (by kernel_rfl) (of_decide_eq_true (by kernel_rfl)) h0 hg hlt0) T1
    simp only [List.append_nil] at T0
    exact T0

theorem over : Rows.auditNilRow.holds Tryz.pinned (OpenSpec.ofChange Rows.auditNilSpec) :=
  OpenClaim.holds_of_wide 7 Tryz.f7 rfl rfl rfl rfl rfl rfl rfl ⟨rfl, rfl, rfl, rfl, rfl⟩ rfl rfl rfl rfl rfl k_func Tryz.func7 closed
    (of_decide_eq_true (by kernel_rfl)) (by unfold Func.isWrapper; first | (rw [if_pos (by decide +kernel)]; kernel_rfl) | (rw [if_neg (by decide +kernel)]; exact ⟨rfl, rfl⟩))
    (fun os started H enc _ => lifted os started H enc)

theorem proved : Rows.AuditNilSaid :=
  over
#print axioms proved
end Go.Proofs.YtdhloodnajdfbaaGreat.auditNil
