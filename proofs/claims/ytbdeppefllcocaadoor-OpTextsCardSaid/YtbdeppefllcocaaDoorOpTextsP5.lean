/- The law 'OpTexts': whatever its arguments, the call returns true; the row and its tied card. Conditions: none. -/
import Derived.Test.YtbdeppefllcocaaDoorOpTextsP3
import Derived.Test.YtbdeppefllcocaaDoorOpTextsP4
import Derived.WalkKit
import Derived.ProofKit
import Derived.OpenShut
import Derived.Carry
import Derived.ChangeSlices
import Derived.Test.YtbdeppefllcocaaDoorRows
import Derived.Test.YtbdeppefllcocaaDoorCards
import Derived.Test.YtbdeppefllcocaaDoorTie
import Derived.LaidMore
import Derived.Lay
import Derived.SevenTiedAt
import Derived.Stop.Joined
section
namespace Go.VS
set_option linter.unusedSimpArgs false
set_option linter.unusedVariables false
section
variable {P : Program}

theorem cell_one {w : World} {r : Reach} {base : Nat} {t : TypeId} {v : Value} (h : Cell.okWide P w r base t v) : v.oneCell' = true := by
  cases v with
  | agg cs => cases hu : P.underlying t with
    | none => simp [Cell.okWide, Cell.ok, hu] at h
    | some d => cases d <;> simp [Cell.okWide, Cell.ok, hu] at h
  | tuple cs => cases hu : P.underlying t with
    | none => simp [Cell.okWide, Cell.ok, hu] at h
    | some d => cases d <;> simp [Cell.okWide, Cell.ok, hu] at h
  | _ => rfl

theorem vrl_tops {β : Env} : ∀ (l : List Value), (∀ v ∈ l, v.oneCell' = true) → VRL β (List.replicate l.length (.chan (some 0))) l
  | [], _ => VRL.nil
  | v :: l, h => VRL.cons (h v (by simp)) (vrl_tops l fun x hx => h x (by simp [hx]))

theorem top_struct {β : Env} {w : World} {r : Reach} {base : Nat} {t : TypeId} {v : Value} {fs : Array Field} {n : Nat} (ht : P.underlying t = some (.struct fs)) (hn : P.cellsOf t = n) (h : Value.okWide P w r base t v) :
    VR β (.agg ⟨List.replicate n (.chan (some 0))⟩) v := by
  unfold Value.okWide at h
  rw [ht] at h
  obtain ⟨cs, rfl, hsz, ts, _, _, hc⟩ := h
  refine ⟨cs, rfl, ?_⟩
  obtain ⟨l⟩ := cs
  have hl : l.length = n := by rw [← hn, ← hsz]; rfl
  show VRL β (List.replicate n (.chan (some 0))) l
  rw [← hl]
  refine vrl_tops l fun v hv => ?_
  obtain ⟨i, hi⟩ := List.getElem?_of_mem hv
  obtain ⟨u, _, hu⟩ := hc i v (by simpa using hi)
  exact cell_one hu

theorem top_int {β : Env} {w : World} {r : Reach} {base : Nat} {t : TypeId} {v : Value} {k : IntKind} (ht : P.underlying t = some (.int k)) (h : Value.okWide P w r base t v) : VR β (.chan (some 0)) v := by
  unfold Value.okWide at h
  rw [ht] at h
  exact cell_one h

theorem struct_cells {w : World} {r : Reach} {base : Nat} {t : TypeId} {v : Value} {fs : Array Field} {ts : List TypeId} (ht : P.underlying t = some (.struct fs)) (hts : P.cellTypes P.depth t = some ts) (hn : P.cellsOf t = ts.length) (h : Value.okWide P w r base t v) :
    ∃ l : List Value, v = .agg ⟨l⟩ ∧ l.length = ts.length ∧ ∀ (i : Nat) u x, ts[i]? = some u → l[i]? = some x → Cell.okWide P w r base u x := by
  unfold Value.okWide at h
  rw [ht] at h
  obtain ⟨cs, rfl, hsz, ts', h1, _, hc⟩ := h
  rw [hts] at h1
  obtain rfl := Option.some.inj h1
  obtain ⟨l⟩ := cs
  have hl : l.length = ts.length := by rw [← hn, ← hsz]; rfl
  refine ⟨l, rfl, hl, fun i u x hu hx => ?_⟩
  obtain ⟨u', h1, h2⟩ := hc i x (by simpa using hx)
  have : i < ts.length := (List.getElem?_eq_some_iff.1 hu).1
  rw [Nat.mod_eq_of_lt this, hu] at h1
  obtain rfl := Option.some.inj h1
  exact h2
theorem cell_int {w : World} {r : Reach} {base : Nat} {t : TypeId} {k : IntKind} {v : Value} (ht : P.underlying t = some (.int k)) (h : Cell.okWide P w r base t v) : ∃ n, v = .int k n :=
  WideShapes.okWide_int ht (by unfold Value.okWide; rw [ht]; exact h)
theorem cell_string {w : World} {r : Reach} {base : Nat} {t : TypeId} {v : Value} (ht : P.underlying t = some .string) (h : Cell.okWide P w r base t v) : ∃ s, v = .string s :=
  WideShapes.okWide_string ht (by unfold Value.okWide; rw [ht]; exact h)
theorem cell_bool {w : World} {r : Reach} {base : Nat} {t : TypeId} {v : Value} (ht : P.underlying t = some .bool) (h : Cell.okWide P w r base t v) : ∃ b, v = .bool b :=
  WideShapes.okWide_bool ht (by unfold Value.okWide; rw [ht]; exact h)
theorem vr_agg {β : Env} {l l' : List Value} (h : VRL β l l') : VR β (.agg ⟨l⟩) (.agg ⟨l'⟩) := ⟨_, rfl, h⟩
theorem vr_int {β : Env} {k : IntKind} {n : Int} : VR β (.int k n) (.int k n) := rfl
theorem vr_string {β : Env} {s : ByteArray} : VR β (.string s) (.string s) := rfl
theorem vr_bool {β : Env} {b : Bool} : VR β (.bool b) (.bool b) := rfl
theorem vr_top {β : Env} {v : Value} (h : v.oneCell' = true) : VR β (.chan (some 0)) v := h
end
end Go.VS
end

section
namespace Go.VS
set_option linter.unusedSimpArgs false
set_option linter.unusedVariables false
section
variable {P : Program}

theorem add_zero (a : Addr) : a.add 0 = a := by unfold Addr.add; simp
theorem spot_none {w : World} {a : Addr} {v : Value} (h : w.cell? (a.add 0) = some v) : a.spot = none := by
  rw [add_zero] at h
  unfold World.cell? at h
  split at h
  · cases hs : a.spot with
    | none => rfl
    | some s => rw [hs] at h; cases h
  · cases h
theorem cell_get {w : World} {a : Addr} {i : Nat} {v : Value} (hs : a.spot = none) (h : w.cell? (a.add i) = some v) : ∃ c e f, w.heap[a.block]? = some (.cells c e f) ∧ c[a.off + i]? = some v := by
  have : a.add i = ⟨a.block, a.off + i, none⟩ := by
    obtain ⟨b, o, s⟩ := a
    cases hs; simp [Addr.add]
  rw [this] at h
  unfold World.cell? at h
  split at h
  · rename_i c e f hg
    exact ⟨c, e, f, hg, by simpa using h⟩
  · cases h

theorem seg_vr {w : World} {a : Addr} {cs : List Value} {n sz cap : Nat} (hsz : sz ≠ 0) (hcap : n ≤ cap) (hlen : cs.length = n * sz) (hf : flatL cs = true) (hc : ∀ i v, cs[i]? = some v → w.cell? (a.add i) = some v) (h1 : ∀ v ∈ cs, v.oneCell' = true) : VR (envOf w) (mkFz sz n 0 cs) (.slice (some a) n cap) := by
  refine fz_mk hsz ?_
  unfold FrzR
  rw [if_neg hsz]
  refine ⟨hlen, ?_⟩
  by_cases hn : n = 0
  · exact Or.inr (Or.inl ⟨hn, a, cap, by rw [hn], fun h => absurd rfl h⟩)
  · have h0 : 0 < cs.length := by rw [hlen]; exact Nat.mul_pos (by omega) (by omega)
    obtain ⟨v0, hv0⟩ : ∃ v, cs[0]? = some v := ⟨_, List.getElem?_eq_getElem h0⟩
    have g2 := spot_none (hc 0 v0 hv0)
    obtain ⟨c, e, f, g1, g3⟩ := cell_get g2 (hc 0 v0 hv0)
    have hget : ∀ i v, cs[i]? = some v → c[a.off + i]? = some v := by
      intro i v hi
      obtain ⟨c', e', f', k1, k3⟩ := cell_get g2 (hc i v hi)
      rw [g1] at k1
      simp only [Option.some.injEq, Obj.cells.injEq] at k1
      obtain ⟨rfl, rfl, rfl⟩ := k1
      exact k3
    have hseg : (c.toList.drop a.off).take cs.length = cs := by
      apply List.ext_getElem?
      intro i
      rw [List.getElem?_take]
      split
      · rename_i hi
        rw [List.getElem?_drop, List.getElem?_eq_getElem hi]
        have := hget i _ (List.getElem?_eq_getElem hi)
        rw [Array.getElem?_toList]; exact this
      · rename_i hi
        rw [List.getElem?_eq_none (by omega)]
    have hle : a.off + cs.length ≤ c.size := by
      have := hget (cs.length - 1) _ (List.getElem?_eq_getElem (by omega))
      have := (Array.getElem?_eq_some_iff.1 this).1
      omega
    have haddr : a = ⟨a.block, a.off, none⟩ := by
      obtain ⟨b, o, s⟩ := a
      cases g2; rfl
    have henv : envOf w (Int.negSucc a.block) = some ⟨a.block, 0, 0, 0, some (.cells c e f), false⟩ := by simp [envOf, g1]
    refine Or.inr (Or.inr ⟨by omega, a.block, a.off, cap, c, e, f, _, by rw [← haddr], fun h => absurd rfl h, henv, rfl, hle, ?_, ?_⟩)
    · rw [negE_envOf, hseg]
      exact VRL.flat_refl _ hf
    · exact hcap

variable {H : Type} {enc : TypeId × Value → H}
open Go.ChangeShapes in
/-- A list of ints that came in. -/
theorem open_ints_vr {w : World} {t e : TypeId} {k : IntKind} {v : Value} {d : DataW H} {ps : List MemPlace} {r : Reach} {b0 : Nat} (ht : P.underlying t = some (.slice e)) (he : P.underlying e = some (.int k)) (hc : P.cellsOf e = 1)
    (hval : Value.okWide P w r b0 t v) (h : DataW.Trod enc P w 0 (fun _ => true) true t v d ps) :
    ∃ zs rest : List Int, VR (envOf w) (mkFz 1 zs.length 0 (zs.map (Value.int k))) v ∧ (d = .nil ∧ zs = [] ∨ d = .slice (lits k zs) (lits k rest)) ∧ ∀ n ∈ zs, (Lit.int k n).wf = true := by
  have hv : v.cells = #[v] := by
    unfold Value.okWide at hval
    rw [ht] at hval
    have := cell_one hval
    cases v <;> first | rfl | simp [Value.oneCell'] at this
  obtain ⟨fuel, h⟩ := h
  rw [hv] at h
  rcases open_ints ht he hc h with ⟨h1, h2⟩ | ⟨a, len, cap, zs, h1, h2, h3, h4, h5, h6, h7, h8⟩
  · simp only [List.cons.injEq, and_true] at h1
    subst h1
    simp only [Prod.mk.injEq] at h2
    refine ⟨[], [], ?_, Or.inl ⟨h2.1, rfl⟩, by simp⟩
    refine fz_mk (by decide) ?_
    unfold FrzR
    rw [if_neg (by decide)]
    exact ⟨rfl, Or.inl ⟨rfl, by omega, rfl⟩⟩
  · simp only [List.cons.injEq, and_true] at h1
    subst h1
    simp only [if_true] at h5
    simp only [Prod.mk.injEq] at h6
    refine ⟨zs.take len, zs.drop len, ?_, Or.inr h6.1, fun n hn => h8 n (List.mem_of_mem_take hn)⟩
    have hl : (zs.take len).length = len := by rw [List.length_take]; omega
    rw [hl]
    refine seg_vr (by decide) h3 (by rw [List.length_map, hl, Nat.mul_one]) ?_ ?_ ?_
    · generalize zs.take len = l
      induction l with
      | nil => rfl
      | cons x l ih => simpa [flatL, flat] using ih
    · intro i v hi
      rw [List.getElem?_map, Option.map_eq_some_iff] at hi
      obtain ⟨n, hn, rfl⟩ := hi
      have hi : i < len := by have := (List.getElem?_eq_some_iff.1 hn).1; omega
      rw [h7 i (by omega)]
      rw [List.getElem?_take, if_pos hi] at hn
      rw [List.getD_eq_getElem?_getD, hn]; rfl
    · intro v hv
      obtain ⟨n, _, rfl⟩ := List.mem_map.1 hv
      rfl
theorem bytes_of : ∀ {zs : List Int}, (∀ n ∈ zs, (Lit.int .u8 n).wf = true) → ∃ l : List UInt8, zs.map (Value.int .u8) = l.map (fun b => Value.int .u8 b.toNat) ∧ l.length = zs.length
  | [], _ => ⟨[], rfl, rfl⟩
  | n :: zs, h => by
    obtain ⟨l, h1, h2⟩ := bytes_of (zs := zs) fun m hm => h m (by simp [hm])
    have hn := h n (by simp)
    have hn : 0 ≤ n ∧ n < 256 := by
      simp only [Lit.wf, Bool.and_eq_true, decide_eq_true_eq, show IntKind.u8.min = 0 from rfl, show IntKind.u8.max = 255 from rfl] at hn
      omega
    refine ⟨UInt8.ofNat n.toNat :: l, ?_, by simp [h2]⟩
    simp only [List.map_cons, h1, List.cons.injEq, and_true]
    congr 1
    simp only [UInt8.toNat_ofNat']
    omega
end
end Go.VS
end

section
namespace Go.Proofs.YtbdeppefllcocaaDoor.opTexts
open Go.ChangeShapes Go.WideShapes Go.ChangeAt Go.RowKit
set_option linter.unusedVariables false
set_option linter.unusedSimpArgs false

theorem own : ownKnob Tryd.prog.godebug = none := by kernel_rfl
theorem laidOut : laidOutB Tryd.prog = true := by kernel_rfl

theorem walk {p : Bool} {k u : ByteArray} {p' : Bool} {k' u' : ByteArray} {v0 v1 : Value} (w : World) (h0 : VS.VR (VS.envOf w) (.agg ⟨[.bool p, .string k, .string u]⟩) v0) (h1 : VS.VR (VS.envOf w) (.agg ⟨[.bool p', .string k', .string u']⟩) v1) :
    Calls Tryd.prog 3 #[v0, v1] w fun e w' => e = .returned (.bool true) ∧ Below w.heap.size w w' :=
  VS.CR.true_calls (VS.CR.of (VS.Tryd.engMnOk VS.Tryd.ctX) VS.Tryd.noNum VS.Tryd.ctX_ok (VS.Tryd.opTexts_run p k u p' k' u')) (args' := #[v0, v1]) (VS.VRL.cons h0 (VS.VRL.cons h1 VS.VRL.nil))
set_option maxRecDepth 100000 in
theorem openOp {W : World} {base : Nat} {v : Value} (h : Value.okWide Tryd.prog W .any base 23 v) : ∃ (p : Bool) (k u : ByteArray), VS.VR (VS.envOf W) (.agg ⟨[.bool p, .string k, .string u]⟩) v := by
  obtain ⟨l, rfl, hl, hc⟩ := VS.struct_cells (ts := [4, 9, 9]) Tryd.underlying23 (by kernel_rfl) (by kernel_rfl) h
  match l, hl with
  | [c0, c1, c2], _ =>
    obtain ⟨p, rfl⟩ := VS.cell_bool Tryd.underlying4 (hc 0 _ _ rfl rfl)
    obtain ⟨k, rfl⟩ := VS.cell_string Tryd.underlying9 (hc 1 _ _ rfl rfl)
    obtain ⟨u, rfl⟩ := VS.cell_string Tryd.underlying9 (hc 2 _ _ rfl rfl)
    exact ⟨p, k, u, VS.vr_agg (VS.VRL.cons rfl (VS.VRL.cons rfl (VS.VRL.cons rfl VS.VRL.nil)))⟩

set_option maxRecDepth 100000 in
theorem lifted (os : Os) (started : os.Started) (H : Type) (enc : TypeId × Value → H) :
    ReturnsInHanded {} Tryd.checked os 3 .any (fun w args => (Rows.opTextsSpec.pre enc Tryd.prog Tryd.f3 Rows.opTextsRow.domain false w args ∧ laidMetH Tryd.prog Rows.opTextsRow.laid w) ∧ sizedMet enc Tryd.prog Tryd.f3 (OpenSpec.ofChange Rows.opTextsSpec) false w args)
      (Rows.opTextsSpec.post enc Tryd.prog Tryd.f3 false true false false) := by
  refine returnsInHanded_of_change_and (C := Tryd.checked) (X := fun w _ => laidMetH Tryd.prog Rows.opTextsRow.laid w) (fun _ _ _ hh h => h.of_heap hh) own started (by kernel_rfl) Tryd.func3
    (ChangeSpec.witness_shaped (enc := enc) (C := Tryd.checked) (os := os) (X := fun w _ => laidMetH Tryd.prog Rows.opTextsRow.laid w) false (World.laidAll Tryd.prog os Rows.opTextsRow.laid) #[.agg #[.bool false, .string .empty, .string .empty], .agg #[.bool false, .string .empty, .string .empty]] 8 (World.laidAll_os _ _ _)
      (World.shaped_of_ZipB (by kernel_rfl) (by kernel_rfl)) (by kernel_rfl) (by kernel_rfl) (by kernel_rfl)
      (by rw [MakeChecks.laidMetH_plain _ _ _ (by kernel_rfl)]; exact laidMet_laidAll _ (by kernel_rfl) (by kernel_rfl))) ?_
  intro W base args ds gs before hval0 hW hc _ hL _
  have hval : ∀ (j : Nat) t v, Tryd.f3.params[j]? = some t → args[j]? = some v → Value.okWide Tryd.prog W .any base t v := hval0
  have hW' := hW
  obtain ⟨p, q, hA0, hV, rfl, _, _⟩ := hW
  have hA : DataW.TrodAll enc Tryd.prog W 0 (fun _ => true) true Tryd.f3.params.toList args.toList ds p := hA0
  rw [Tryd.params3] at hA hval
  obtain ⟨v0, vs0, d0, ds0, p0, q0, hargs, rfl, rfl, h0, r0⟩ := trodAll_cons hA
  obtain ⟨v1, vs1, d1, ds1, p1, q1, rfl, rfl, rfl, h1, r1⟩ := trodAll_cons r0
  obtain ⟨rfl, rfl, rfl⟩ := trodAll_nil r1
  obtain rfl : args = #[v0, v1] := by cases args; simp_all
  obtain ⟨rfl, rfl⟩ := trodVars_none hV
  obtain ⟨a0, b0, c0, g0⟩ := openOp (hval 0 23 v0 rfl rfl)
  obtain ⟨a1, b1, c1, g1⟩ := openOp (hval 1 23 v1 rfl rfl)
  clear hA0 hval0
  simp only [List.append_nil] at hW'
  have hlt0 : ∀ x ∈ p0, x.block < W.heap.size := fun x hx => by simpa using hW'.lt x (by simp [hx])
  have hlt1 : ∀ x ∈ p1, x.block < W.heap.size := fun x hx => by simpa using hW'.lt x (by simp [hx])
  refine (walk W g0 g1).mono fun e W' ⟨he, hg⟩ => ?_
  subst he
  refine ⟨_, rfl, _, _, _, [], p0 ++ p1, [], hW', ?_, ?_, rfl, hg.frame _, fun h => by cases h⟩
  · exact trodAll_cons_mk (shut_bool Tryd.underlying4 _) trodAll_mk0
  · have T2 := (trodAll_mk0 : DataW.TrodAll enc Tryd.prog W' 0 (fun b => decide (b < W.heap.size)) true [] [] [] [])
    have T1 := trodAll_cons_mk (Below.trod laidOut (by kernel_rfl) (of_decide_eq_true (by kernel_rfl)) h1 hg hlt1) T2
    have T0 := trodAll_cons_mk (Below.trod laidOut (by kernel_rfl) (of_decide_eq_true (by kernel_rfl)) h0 hg hlt0) T1
    simp only [List.append_nil] at T0
    exact T0

theorem over : Rows.OpTextsSaid :=
  OpenClaim.holds_of_wide 3 Tryd.f3 rfl rfl rfl rfl rfl rfl rfl ⟨rfl, rfl, rfl, rfl, rfl⟩ rfl rfl rfl rfl rfl (by kernel_rfl) Tryd.func3 (by kernel_rfl)
    (of_decide_eq_true (by kernel_rfl)) (by unfold Func.isWrapper; first | (rw [if_pos (by decide +kernel)]; kernel_rfl) | (rw [if_neg (by decide +kernel)]; exact ⟨rfl, rfl⟩))
    (fun os started H enc _ => lifted os started H enc)
theorem proved : Rows.OpTextsCardSaid :=
  Claim7.holds_tied_plain_at .later [] [.data, .pinned] true (true, "56caada270f9a969d7cb61484ff6852358c46f04a5e318239271ca87df2ea96c") false over (fun _ h => by cases h) (by kernel_rfl) (fun _ h => by cases h) opTexts_row_tie rfl ⟨rfl, rfl⟩ (by kernel_rfl) rfl
    (fun f fn hf hfn => by
      obtain rfl : f = 3 := Option.some.inj ((show Tryd.prog.funcNamed "lagleash/lagleashlaw02.OpTexts" = some 3 by kernel_rfl).symm.trans hf) |>.symm
      obtain rfl : fn = Tryd.f3 := (Option.some.inj (Tryd.func3.symm.trans hfn)).symm
      exact ⟨by kernel_rfl, fun j t ht => by
        rw [Tryd.params3] at ht
        have hm : t ∈ [23] := by
          have := Array.mem_of_getElem? ht
          simpa using this
        have hall : ([23].all fun u => !Tryd.prog.wantsStandIn u) = true := by kernel_rfl
        exact (show Tryd.prog.wantsStandIn t = false by simpa using List.all_eq_true.1 hall t hm)⟩)
    (by kernel_rfl)
#print axioms proved
end Go.Proofs.YtbdeppefllcocaaDoor.opTexts
end
