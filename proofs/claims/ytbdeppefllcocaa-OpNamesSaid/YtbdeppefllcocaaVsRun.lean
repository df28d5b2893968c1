/- The evaluator's code is the machine's. No conditions. -/
import Derived.Test.YtbdeppefllcocaaVsStep
namespace Go.VS
set_option linter.unusedSimpArgs false
set_option linter.unusedVariables false
open Go.RowKit

def DefsR (β : Env) : List Deferred → List Deferred → Prop
  | [], l => l = []
  | d :: ds, l => ∃ d' ds', l = d' :: ds' ∧ DefR β d d' ∧ DefsR β ds ds'
theorem DefsR.mono {β β' : Env} (h : β.le β') : ∀ {a b : List Deferred}, DefsR β a b → DefsR β' a b
  | [], _, e => e
  | d :: ds, _, ⟨d', ds', e, h1, h2⟩ => ⟨d', ds', e, h1.mono h, h2.mono h⟩

def RoundOfR (β : Env) : Option Nat → Option Nat → Prop
  | none, r => r = none
  | some i, r => ∃ l, β i = some l ∧ r = some l.blk
theorem RoundOfR.mono {β β' : Env} (h : β.le β') : ∀ {a b : Option Nat}, RoundOfR β a b → RoundOfR β' a b
  | none, _, e => e
  | some _, _, ⟨l, hl, e⟩ => ⟨l, h _ _ hl, e⟩

structure FrR (β : Env) (f : Fr) (fr : Frame) : Prop where
  slots : SlotsR β f.slots f.ntmps fr.tmps
  defers : DefsR β f.defers fr.defers
  round : RoundOfR β f.roundOf fr.roundOf
  mode : fr.mode = .run

theorem FrR.mono {β β' : Env} (h : β.le β') {f : Fr} {fr : Frame} (r : FrR β f fr) : FrR β' f fr := ⟨r.slots.mono h, r.defers.mono h, r.round.mono h, r.mode⟩

section
variable {P : Program} {K : Prot} {β : Env} {st : St} {w : World}

theorem FrR.eval {f : Fr} {fr : Frame} (h : FrR β f fr) : ∀ x, VR β (f.eval x) (fr.eval x)
  | .tmp t => h.slots.2 t
  | .const v => by
    simp only [Fr.eval, Frame.eval]
    split
    · exact VR.flat_refl v ‹_›
    · exact trivial
  | .global g => rfl
  | .func g => ⟨_, _, _, rfl, rfl, VRL.nil (β := β), VRL.nil (β := β)⟩

theorem slots_put {t : Trie Value} {n d : Nat} {tmps : Array Value} {v v' : Value} (h : SlotsR β t n tmps) (hd : d < n) (hv : VR β v v') : SlotsR β (t.set d v) n (tmps.setIfInBounds d v') := by
  obtain ⟨h1, h2⟩ := h
  refine ⟨by simp [h1], fun i => ?_⟩
  rw [Trie.get_set]
  by_cases hi : i = d
  · subst hi
    rw [if_pos rfl]
    have : (tmps.setIfInBounds i v').getD i undef = v' := by
      simp [Array.getD_eq_getD_getElem?, Array.getElem?_setIfInBounds, h1, hd]
    rw [this]; exact hv
  · rw [if_neg hi]
    have : (tmps.setIfInBounds d v').getD i undef = tmps.getD i undef := by
      have hne : ¬ d = i := fun e => hi e.symm
      simp [Array.getD_eq_getD_getElem?, Array.getElem?_setIfInBounds, hne]
    rw [this]; exact h2 i

theorem FrR.put {f f' : Fr} {fr : Frame} {o : Oper} {v v' : Value} (h : FrR β f fr) (hp : f.put o.dst v = some f') (hv : VR β v v') (todo : List Item) : FrR β f' (putF fr o v' todo) := by
  unfold Fr.put at hp
  cases hd : o.dst with
  | none =>
    simp only [hd] at hp
    obtain rfl := Option.some.inj hp
    refine ⟨?_, h.defers, h.round, h.mode⟩
    simpa [putF, hd] using h.slots
  | some d =>
    simp only [hd] at hp
    split at hp
    · rename_i hlt
      obtain rfl := Option.some.inj hp
      refine ⟨?_, h.defers, h.round, h.mode⟩
      simp only [putF, hd]
      exact slots_put h.slots hlt hv
    · cases hp

/-- What a frame has come to where code ended so. -/
def TodoR (e : Ex) (k t : List Item) : Prop :=
  match e with
  | .normal => t = k
  | .exit id => ∃ k2, t = .code (.exit id) :: k2 ∧ exitTo id k2 = exitTo id k
  | .ret => ∃ k2, t = .code .ret :: k2

/-- From a frame the machine comes to one as told. -/
def Reaches (P : Program) (K : Prot) (β : Env) (fr : Frame) (cs : List Frame) (w : World) (e : Ex) (k : List Item) (f' : Fr) (st' : St) : Prop :=
  ∃ β' fr' w', Steps P (lone fr cs w) (lone fr' cs w') ∧ β.le β' ∧ Rel P K β' st' w' ∧ Bel K w w' ∧ FrR β' f' fr' ∧ fr'.kind = fr.kind ∧ fr'.fn = fr.fn ∧ fr'.roundOf = fr.roundOf ∧ TodoR e k fr'.todo

theorem Reaches.steps {fr fr1 : Frame} {cs : List Frame} {w w1 : World} {β1 : Env} {e : Ex} {k : List Item} {f' : Fr} {st' : St} (hs : Steps P (lone fr cs w) (lone fr1 cs w1)) (hle : β.le β1) (hb : Bel K w w1) (hk : fr1.kind = fr.kind) (hf : fr1.fn = fr.fn) (hr : fr1.roundOf = fr.roundOf)
    (h : Reaches P K β1 fr1 cs w1 e k f' st') : Reaches P K β fr cs w e k f' st' := by
  obtain ⟨β', fr', w', h1, h2, h3, h4, h5, h6, h7, h8, h9⟩ := h
  exact ⟨β', fr', w', hs.trans h1, hle.trans h2, h3, hb.trans h4, h5, h6.trans hk, h7.trans hf, h8.trans hr, h9⟩

/-- The same frame with other things to do. -/
theorem Reaches.step {fr : Frame} {cs : List Frame} {w : World} {td : List Item} {e : Ex} {k : List Item} {f' : Fr} {st' : St} (hs : step P (lone fr cs w) = .next (lone { fr with todo := td } cs w))
    (h : Reaches P K β { fr with todo := td } cs w e k f' st') : Reaches P K β fr cs w e k f' st' :=
  h.steps (.one hs) (Env.le.refl _) (Bel.refl _ _) rfl rfl rfl

theorem FrR.todo {f : Fr} {fr : Frame} (h : FrR β f fr) (td : List Item) : FrR β f { fr with todo := td } := ⟨h.slots, h.defers, h.round, h.mode⟩

/-- What a frame has come to that is left. -/
def Left (P : Program) (fr : Frame) (g : FuncId) (kind : CallKind) (v : Value) (w : World) : Prop :=
  fr.mode = .returning ∧ fr.defers = [] ∧ fr.kind = kind ∧ fr.fn = g ∧ ∃ fn, P.funcs[g]? = some fn ∧ (results fn fr.tmps).run P w = .ok v w

def CallReach (P : Program) (K : Prot) (β : Env) (g : FuncId) (args' : Array Value) (kind : CallKind) (cs : List Frame) (w : World) (v : Value) (st' : St) : Prop :=
  ∃ β' fr w' v', Steps P (lone (Frame.enter P g args' kind) cs w) (lone fr cs w') ∧ β.le β' ∧ Rel P K β' st' w' ∧ Bel K w w' ∧ VR β' v v' ∧ Left P fr g kind v' w'

theorem wantedF_eq' {f : Fr} {fr : Frame} (ops : Array Oper) {o : Oper} {b : Bool} (h : ∀ d, d ∈ tmpsOf ops o → VR β ((f.slots.get d).getD undef) (fr.tmps.getD d undef)) (hw : wantedF ops f o = some b) : Region.wanted o (yielded ops fr.tmps) = b := by
  unfold wantedF at hw
  unfold Region.wanted
  split at hw
  · rename_i hg; rw [hg]; simpa using hw
  · rename_i j want hg
    rw [hg]
    simp only
    unfold yielded
    split at hw
    · rename_i hd
      rw [hd]
      simp at hw; subst hw; rfl
    · rename_i d hd
      rw [hd]
      have hv := h d (by simp [tmpsOf, hg, hd])
      simp only [Option.bind_some]
      split at hw
      · rename_i b' hb
        rw [hb] at hv
        have hv := hv.bool'
        have : fr.tmps[d]? = some (.bool b') := by
          rw [Array.getD_eq_getD_getElem?] at hv
          cases hx : fr.tmps[d]? with
          | none => simp [hx, undef] at hv
          | some y => simp [hx] at hv; rw [hv]
        rw [this]
        simp at hw ⊢; exact hw
      · rename_i a hb
        rw [hb] at hv
        obtain ⟨a', hv, _⟩ := hv
        have : ∀ b', fr.tmps[d]? ≠ some (.bool b') := by
          intro b' hx
          rw [Array.getD_eq_getD_getElem?, hx] at hv
          simp at hv
        simp at hw; subst hw
        cases hx : fr.tmps[d]? with
        | none => rfl
        | some y => cases y <;> first | rfl | exact absurd hx (this _)
      · cases hw

theorem wantedF_eq {f : Fr} {fr : Frame} (h : FrR β f fr) (ops : Array Oper) {o : Oper} {b : Bool} (hw : wantedF ops f o = some b) : Region.wanted o (yielded ops fr.tmps) = b :=
  wantedF_eq' ops (fun d _ => h.slots.2 d) hw

def resC (tmps : Array Value) : ResultVar → Sem Value
  | .tmp t => pure (tmps.getD t undef)
  | .cell a t => do loadVar t (← asAddr (tmps.getD a undef))

theorem resultV_run (hr : Rel P K β st w) {f : Fr} {tmps : Array Value} (hf : SlotsR β f.slots f.ntmps tmps) {r : ResultVar} {v : Value} (h : resultV P f st r = some v) : ∃ v', (resC tmps r).run P w = .ok v' w ∧ VR β v v' := by
  cases r with
  | tmp t => simp [resultV] at h; subst h; exact ⟨_, rfl, hf.2 t⟩
  | cell a t =>
    simp only [resultV] at h
    have hv := hf.2 a
    cases hg : f.slots.get a with
    | none => simp [hg] at h
    | some x =>
      rw [hg] at hv h
      simp only [Option.getD_some] at hv
      split at h
      · rename_i ad e
        cases e
        obtain ⟨_, lo, hlo, e⟩ := hv.ptr'
        obtain ⟨v', g1, g2⟩ := loadV_run hr h hlo
        exact ⟨v', by simp [resC, e, asAddr, g1], g2⟩
      · cases h

theorem resultsV_run (hr : Rel P K β st w) {f : Fr} {tmps : Array Value} (hf : SlotsR β f.slots f.ntmps tmps) : ∀ {rs : List ResultVar} {vs : List Value}, rs.mapM (resultV P f st) = some vs → ∃ vs', (rs.mapM (resC tmps)).run P w = .ok vs' w ∧ VRL β vs vs'
  | [], vs, h => by simp at h; subst h; exact ⟨[], by simp, VRL.nil⟩
  | r :: rs, vs, h => by
    simp only [List.mapM_cons, Option.bind_eq_bind, Option.pure_def] at h
    cases h1 : resultV P f st r with
    | none => simp [h1] at h
    | some v =>
      cases h2 : rs.mapM (resultV P f st) with
      | none => simp [h1, h2] at h
      | some vs0 =>
        simp [h1, h2] at h
        subst h
        obtain ⟨v', g1, g2⟩ := resultV_run hr hf h1
        obtain ⟨vs', g3, g4⟩ := resultsV_run hr hf h2
        exact ⟨v' :: vs', by simp [List.mapM_cons, g1, g3], VRL.cons g2 g4⟩

theorem results_run (hr : Rel P K β st w) {fn : Func} {f : Fr} {tmps : Array Value} (hf : SlotsR β f.slots f.ntmps tmps) {vs : List Value} (h : resultsV P fn f st = some vs) :
    ∃ v', (results fn tmps).run P w = .ok v' w ∧ VR β (resultOf vs) v' := by
  unfold resultsV at h
  obtain ⟨vs', h1, h2⟩ := resultsV_run hr hf h
  have hfun : results fn tmps = (do let vs ← fn.results.mapM (resC tmps); pure (if h : vs.size = 1 then vs[0] else .tuple vs)) := by
    unfold results
    have : (fun r => match r with | .tmp t => (pure (tmps.getD t undef) : Sem Value) | .cell a t => do loadVar t (← asAddr (tmps.getD a undef))) = resC tmps := by
      funext r; cases r <;> rfl
    rfl
  have hrun : (fn.results.mapM (resC tmps)).run P w = .ok ⟨vs'⟩ w := by
    rw [Array.mapM_eq_mapM_toList]
    simp [h1]
  refine ⟨if h : (⟨vs'⟩ : Array Value).size = 1 then (⟨vs'⟩ : Array Value)[0] else .tuple ⟨vs'⟩, ?_, ?_⟩
  · simp only [hfun, Sem.run_bind, hrun, Result.andThen, Sem.run_pure]
  · have hl := h2.length
    match vs, vs', h2, hl with
    | [], [], h2, _ => exact ⟨_, rfl, h2⟩
    | [v], [v'], h2, _ =>
      simp only [VRL] at h2
      obtain ⟨y, ys, e, hy, _⟩ := h2
      simp at e
      obtain ⟨rfl, _⟩ := e
      simpa [resultOf] using hy
    | v :: v2 :: vs, v' :: v2' :: vs', h2, _ =>
      simp only [List.size_toArray, List.length_cons]
      rw [dif_neg (by omega)]
      exact ⟨_, rfl, h2⟩
end
end Go.VS
