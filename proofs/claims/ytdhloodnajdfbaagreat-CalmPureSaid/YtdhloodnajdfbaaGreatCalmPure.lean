/- The law 'CalmPure': whatever its arguments, the call returns true. Conditions: none. -/
import Derived.Test.YtdhloodnajdfbaaGreatRows
import Derived.Test.YtdhloodnajdfbaaGreatVsArgs
import Derived.Test.YtdhloodnajdfbaaGreatCalmPureT
import Derived.Test.YtdhloodnajdfbaaGreatCalmPureFacts
namespace Go.Proofs.YtdhloodnajdfbaaGreat.calmPure
open Go.ChangeShapes Go.WideShapes Go.ChangeAt Go.RowKit
set_option linter.unusedVariables false
set_option linter.unusedSimpArgs false

theorem own : ownKnob Tryz.prog.godebug = none := Facts.own
theorem laidOut : laidOutB Tryz.prog = true := Facts.laid

theorem walk (v0 v1 v2 : Value) {x0_0 x0_1 x0_2 x1_0 x1_1 x1_2 x2_0 : Int} (w : World) (h0 : VS.VR (VS.envOf w) (.agg ⟨[.int .i64 x0_0, .int .i64 x0_1, .int .i64 x0_2]⟩) v0) (h1 : VS.VR (VS.envOf w) (.agg ⟨[.int .i64 x1_0, .int .i64 x1_1, .int .i64 x1_2]⟩) v1) (h2 : VS.VR (VS.envOf w) (.int .i64 x2_0) v2) : Calls Tryz.prog 9 #[v0, v1, v2] w fun e w' => e = .returned (.bool true) ∧ Below w.heap.size w w' :=
  VS.CR.true_calls (VS.CR.of (VS.engS_ok _ _) noNum ct_ok (runs x0_0 x0_1 x0_2 x1_0 x1_1 x1_2 x2_0)) (by simpa using VS.VRL.cons h0 (VS.VRL.cons h1 (VS.VRL.cons h2 (VS.VRL.nil))))

set_option maxRecDepth 100000 in
theorem open0 {W : World} {base : Nat} {v : Value} (h : Value.okWide Tryz.prog W .any base 115 v) : ∃ x0_0 x0_1 x0_2 : Int, VS.VR (VS.envOf W) (.agg ⟨[.int .i64 x0_0, .int .i64 x0_1, .int .i64 x0_2]⟩) v := by
  obtain ⟨l, rfl, hl, hc⟩ := VS.struct_cells (ts := [3, 3, 3]) Tryz.underlying115 (by kernel_rfl) (by kernel_rfl) h
  match l, hl with
  | [c0, c1, c2], _ =>
    obtain ⟨x0_0, rfl⟩ := VS.cell_int Tryz.underlying3 (hc 0 _ _ rfl rfl)
    obtain ⟨x0_1, rfl⟩ := VS.cell_int Tryz.underlying3 (hc 1 _ _ rfl rfl)
    obtain ⟨x0_2, rfl⟩ := VS.cell_int Tryz.underlying3 (hc 2 _ _ rfl rfl)
    exact ⟨x0_0, x0_1, x0_2, VS.vr_agg (VS.VRL.cons (VS.vr_int) (VS.VRL.cons (VS.vr_int) (VS.VRL.cons (VS.vr_int) (VS.VRL.nil))))⟩

set_option maxRecDepth 100000 in
theorem open1 {W : World} {base : Nat} {v : Value} (h : Value.okWide Tryz.prog W .any base 115 v) : ∃ x1_0 x1_1 x1_2 : Int, VS.VR (VS.envOf W) (.agg ⟨[.int .i64 x1_0, .int .i64 x1_1, .int .i64 x1_2]⟩) v := by
  obtain ⟨l, rfl, hl, hc⟩ := VS.struct_cells (ts := [3, 3, 3]) Tryz.underlying115 (by kernel_rfl) (by kernel_rfl) h
  match l, hl with
  | [c0, c1, c2], _ =>
    obtain ⟨x1_0, rfl⟩ := VS.cell_int Tryz.underlying3 (hc 0 _ _ rfl rfl)
    obtain ⟨x1_1, rfl⟩ := VS.cell_int Tryz.underlying3 (hc 1 _ _ rfl rfl)
    obtain ⟨x1_2, rfl⟩ := VS.cell_int Tryz.underlying3 (hc 2 _ _ rfl rfl)
    exact ⟨x1_0, x1_1, x1_2, VS.vr_agg (VS.VRL.cons (VS.vr_int) (VS.VRL.cons (VS.vr_int) (VS.VRL.cons (VS.vr_int) (VS.VRL.nil))))⟩

set_option maxRecDepth 100000 in
theorem open2 {W : World} {base : Nat} {v : Value} (h : Value.okWide Tryz.prog W .any base 3 v) : ∃ x2_0 : Int, VS.VR (VS.envOf W) (.int .i64 x2_0) v := by
  obtain ⟨n, rfl⟩ := okWide_int Tryz.underlying3 h
  exact ⟨n, rfl⟩

set_option maxRecDepth 100000 in
theorem lifted (os : Os) (started : os.Started) (H : Type) (enc : TypeId × Value → H) :
    ReturnsInHanded {} Tryz.checked os 9 .any (Rows.calmPureSpec.pre6 enc Tryz.prog Tryz.f9 Rows.calmPureRow.domain false) (Rows.calmPureSpec.post enc Tryz.prog Tryz.f9 false true false false) := by
  refine returnsInHanded_of_change (C := Tryz.checked) own started (by kernel_rfl) Tryz.func9
    (ChangeSpec.witness6 (enc := enc) (C := Tryz.checked) false ⟨#[], #[.agg #[.int .i64 0, .int .i64 0, .int .i64 0], .agg #[.int .i64 0, .int .i64 0, .int .i64 0], .int .i64 0], []⟩ 8 (by kernel_rfl) (by kernel_rfl) (by kernel_rfl) (by kernel_rfl)) ?_
  intro W base args ds gs before hval0 hW hcnd _
  have hval : ∀ (j : Nat) t v, Tryz.f9.params[j]? = some t → args[j]? = some v → Value.okWide Tryz.prog W .any base t v := hval0
  have hW' := hW
  obtain ⟨p, q, hA0, hV, rfl, hfz, hnd⟩ := hW
  have hA : DataW.TrodAll enc Tryz.prog W 0 (fun _ => true) true Tryz.f9.params.toList args.toList ds p := hA0
  rw [Tryz.params9] at hA hval
  obtain ⟨v0, vs0, d0, ds0, p0, q0, hargs, rfl, rfl, h0, r0⟩ := trodAll_cons hA
  obtain ⟨v1, vs1, d1, ds1, p1, q1, rfl, rfl, rfl, h1, r1⟩ := trodAll_cons r0
  obtain ⟨v2, vs2, d2, ds2, p2, q2, rfl, rfl, rfl, h2, r2⟩ := trodAll_cons r1
  obtain ⟨rfl, rfl, rfl⟩ := trodAll_nil r2
  obtain rfl : args = #[v0, v1, v2] := by cases args; simp_all
  obtain ⟨rfl, rfl⟩ := trodVars_none hV
  have g0 := open0 (hval 0 115 v0 rfl rfl)
  obtain ⟨x0_0, x0_1, x0_2, g0⟩ := g0
  have g1 := open1 (hval 1 115 v1 rfl rfl)
  obtain ⟨x1_0, x1_1, x1_2, g1⟩ := g1
  have g2 := open2 (hval 2 3 v2 rfl rfl)
  obtain ⟨x2_0, g2⟩ := g2
  clear hA0 hval0
  simp only [List.append_nil] at hW'
  have hlt0 : ∀ x ∈ p0, x.block < W.heap.size := fun x hx => by simpa using hW'.lt x (by simp [hx])
  have hlt1 : ∀ x ∈ p1, x.block < W.heap.size := fun x hx => by simpa using hW'.lt x (by simp [hx])
  have hlt2 : ∀ x ∈ p2, x.block < W.heap.size := fun x hx => by simpa using hW'.lt x (by simp [hx])
  refine (walk v0 v1 v2 W g0 g1 g2).mono fun e W' ⟨he, hg⟩ => ?_
  subst he
  refine ⟨_, rfl, _, _, _, [], p0 ++ (p1 ++ (p2)), [], hW', ?_, ?_, rfl, hg.frame _, fun h => by cases h⟩
  · exact trodAll_cons_mk (shut_bool Tryz.underlying4 _) trodAll_mk0
  · have T3 := (trodAll_mk0 : DataW.TrodAll enc Tryz.prog W' 0 (fun b => decide (b < W.heap.size)) true [] [] [] [])
    have T2 := trodAll_cons_mk (Below.trod laidOut (by kernel_rfl) (of_decide_eq_true (by kernel_rfl)) h2 hg hlt2) T3
    have T1 := trodAll_cons_mk (Below.trod laidOut (by kernel_rfl) (of_decide_eq_true (by kernel_rfl)) h1 hg hlt1) T2
    have T0 := trodAll_cons_mk (Below.trod laidOut (by kernel_rfl) (of_decide_eq_true (by kernel_rfl)) h0 hg hlt0) T1
    simp only [List.append_nil] at T0
    exact T0

theorem over : Rows.calmPureRow.holds Tryz.pinned (OpenSpec.ofChange Rows.calmPureSpec) :=
  OpenClaim.holds_of_wide 9 Tryz.f9 rfl rfl rfl rfl rfl rfl rfl ⟨rfl, rfl, rfl, rfl, rfl⟩ rfl rfl rfl rfl rfl k_func Tryz.func9 closed
    (of_decide_eq_true (by kernel_rfl)) (by unfold Func.isWrapper; first | (rw [if_pos (by decide +kernel)]; kernel_rfl) | (rw [if_neg (by decide +kernel)]; exact ⟨rfl, rfl⟩))
    (fun os started H enc _ => lifted os started H enc)

theorem proved : Rows.CalmPureSaid :=
  over
#print axioms proved
end Go.Proofs.YtdhloodnajdfbaaGreat.calmPure
