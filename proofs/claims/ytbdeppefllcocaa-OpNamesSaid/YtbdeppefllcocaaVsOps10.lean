/- One operation of the evaluator is one of the model: calls; all operations together. No conditions. -/
import Derived.Test.YtbdeppefllcocaaVsOps9
namespace Go.VS
set_option linter.unusedSimpArgs false
set_option linter.unusedVariables false
open Go.RowKit

/-- No function of the program has a name that the model takes for its own. -/
def noNum (P : Program) : Bool := P.funcs.toList.all fun f => f.name != "runtime.NumGoroutine"

section
variable {P : Program} {K : Prot} {β : Env} {st : St} {w : World}

theorem callF_run (hN : noNum P = true) {f : FuncId} {args : List Value} {args' : Array Value} {out : Out} (ha : VRL β args args'.toList) (h : callF P f args st = some out) :
    OutR P K β st w ((callFunc f args').run P w) out := by
  unfold callF at h
  split at h
  · rename_i fn hf
    split at h
    · rename_i c hb
      obtain rfl := Option.some.inj h
      refine ⟨rfl, args', ?_, ha⟩
      have hn : ¬ fn.name = "runtime.NumGoroutine" := by
        have hm : fn ∈ P.funcs.toList := by
          have := Array.mem_of_getElem? hf
          exact Array.mem_toList_iff.2 this
        have := List.all_eq_true.1 hN fn hm
        simpa using this
      simp [callFunc, hf, hn, hb]
    · cases h
  · cases h

theorem method_run {t : TypeId} {name : String} {f : FuncId} (h : methodOf P t name = some f) (k : Nat) (v : Value) (w : World) : (method (k + 1) t v name).run P w = .ok (f, v) w := by
  unfold methodOf at h
  split at h
  · rename_i i hi
    split at h
    · rename_i m hm
      split at h
      · rename_i hp
        have hp' : m.path.toList = [] := by simpa using hp
        split at h
        · rename_i g e hf hu
          obtain rfl := Option.some.inj h
          simp [method, typeInfo, hi, hm, hp', follow, hf, receiverAt, run_underlying hu, Place.get]
        · cases h
        · rename_i g d hne hf hu
          obtain rfl := Option.some.inj h
          cases d <;> first | exact absurd rfl (hne _) | simp [method, typeInfo, hi, hm, hp', follow, hf, receiverAt, run_underlying hu, Place.get]
        · cases h
      · cases h
    · cases h
  · cases h

theorem invokeV_run (hN : noNum P = true) {tg tg' : Target} {args : List Value} {args' : Array Value} {out : Out} (ht : TgtR β tg tg') (ha : VRL β args args'.toList) (h : invokeV P tg args st = some out) :
    OutR P K β st w ((invoke tg' args').run P w) out := by
  unfold invokeV at h
  split at h
  · rename_i f captured
    obtain ⟨f', c', rfl, hf, hc⟩ := ht
    have hf : f' = .func f := hf
    subst hf
    simp only [invoke]
    refine callF_run hN ?_ h
    simp only [Array.toList_append]
    exact ha.append (VRA_iff.1 hc)
  · rename_i name captured
    obtain ⟨f', c', rfl, hf, hc⟩ := ht
    have hf : f' = .method name := hf
    subst hf
    split at h
    · rename_i t v rest
      split at h
      case isFalse => cases h
      rename_i htl
      split at h
      · rename_i f hm
        simp only [VRL] at ha
        obtain ⟨y, ys, hy, hiv, hrest⟩ := ha
        obtain ⟨v', rfl, hv⟩ := hiv.iface_of htl
        have h0 : args'[0]? = some (.iface t v') := by
          rw [← Array.getElem?_toList, hy]; rfl
        have h1 : (args'.extract 1 args'.size).toList = ys := by
          have hsz : args'.size = ys.length + 1 := by rw [← Array.length_toList, hy]; simp
          simp [hy, hsz]
        obtain ⟨k, hk⟩ : ∃ k, P.types.size + Made.depth = k + 1 := by
          unfold Made.depth; exact ⟨_, rfl⟩
        have hrun : (invoke (.fn (.method name) c') args').run P w = (callFunc f (#[v'] ++ args'.extract 1 args'.size)).run P w := by
          simp only [invoke, h0, callMethod]
          simp only [Sem.run_bind, run_program, Result.andThen, hk, method_run hm]
        rw [hrun]
        refine callF_run hN ?_ h
        simp only [Array.toList_append, h1]
        exact VRL.cons hv hrest
      · cases h
    · cases h
  · rename_i l captured
    obtain ⟨f', c', rfl, hf, hc⟩ := ht
    obtain ⟨ll, hl, rfl⟩ := hf
    obtain rfl := Option.some.inj h
    exact ⟨rfl, ll, args', hl, ha, rfl⟩
  · cases h

theorem sound_builtin (hr : Rel P K β st w) {b : Builtin} {argTypes : Array TypeId} {type : TypeId} {consts : Array Bool} {args : List Value} {args' : Array Value} {out : Out} (ha : VRL β args args'.toList) (h : builtinS P b argTypes type consts args st = some out) :
    OutR P K β st w ((builtin b argTypes type consts args').run P w) out := by
  unfold builtinS at h
  split at h
  · rename_i s x
    simp only [VRL] at ha
    obtain ⟨s', ys, hy, hs, x', zs, hz, hx, hzs⟩ := ha
    subst hz hzs
    have hargs : args' = #[s', x'] := by apply Array.ext'; simpa using hy
    subst hargs
    split at h
    · rename_i sT xT h0 h1
      split at h
      · rename_i v st2 hap
        obtain rfl := Option.some.inj h
        unfold appendS at hap
        split at hap
        · rename_i e xt hu hux
          split at hap
          · rename_i ei z hie hz
            obtain ⟨i, hi, hzz, hfl⟩ := zeroOfT_spec hz
            obtain rfl : i = ei := by rw [hi] at hie; exact Option.some.inj hie
            split at hap
            · cases hap
            · rename_i hc
              simp only [Bool.or_eq_true, decide_eq_true_eq, not_or, ne_eq, Decidable.not_not] at hc
              obtain ⟨⟨c1, c2⟩, c3⟩ := hc
              split at hap
              · rename_i n new htail
                split at hap
                · rename_i hone
                  obtain ⟨new', hsrc, hnew⟩ := tailOf_src hr hx hux htail hone
                  obtain ⟨β', w', v', r1, r2, r3, r4, r5⟩ := appendTo_run (ty := type) hr hu hi hzz c3 c1 (by omega) hs hsrc hnew hap
                  refine ⟨β', w', v', ?_, r2, r3, r4, r5⟩
                  have r1' : (Builtin.append_ argTypes type #[s', x']).run P w = .ok v' w' := by
                    rw [← r1]
                    unfold Builtin.append_
                    simp [h0, h1]
                  simp [builtin, r1']
                · cases hap
              · cases hap
          · cases hap
        · cases hap
      · cases h
    · cases h
  · rename_i x
    simp only [VRL] at ha
    obtain ⟨x', ys, hy, hx, hys⟩ := ha
    subst hys
    have hargs : args' = #[x'] := by apply Array.ext'; simpa using hy
    subst hargs
    split at h
    · rename_i t h0
      split at h
      · rename_i s hu
        obtain rfl := Option.some.inj h
        have hx := hx.string'
        subst hx
        exact OutR.same hr (v' := .int .i64 s.size) (by simp [builtin, Builtin.len_, h0, run_underlying hu, goInt]) rfl
      · rename_i n e hu
        obtain rfl := Option.some.inj h
        exact OutR.same hr (v' := .int .i64 n) (by simp [builtin, Builtin.len_, h0, run_underlying hu, goInt]) rfl
      · rename_i e a n c hu
        obtain rfl := Option.some.inj h
        have : ∃ a' c', x' = .slice a' n c' := by
          cases a with
          | none => exact ⟨none, c, hx⟩
          | some a =>
            obtain ⟨_, l, _, hsl⟩ := hx
            obtain ⟨h0, _, _, e1⟩ | ⟨a', c', e1, _⟩ := hsl.form
            · exact ⟨none, 0, by rw [e1, h0]⟩
            · exact ⟨_, _, e1⟩
        obtain ⟨a', c', rfl⟩ := this
        exact OutR.same hr (v' := .int .i64 n) (by simp [builtin, Builtin.len_, h0, run_underlying hu, goInt]) rfl
      · rename_i x0 e hu hns
        split at h
        · rename_i z hz
          obtain rfl := Option.some.inj h
          obtain ⟨hs0, r⟩ := fzOf_rel hz hx
          have : ∃ a' c', x' = .slice a' z.n c' := by
            unfold FrzR at r
            rw [if_neg hs0] at r
            obtain ⟨r0, ⟨r1, _, r3⟩ | ⟨r1, p, cap, r2, r3⟩ | ⟨rp, k0, o0, cap, cs, e0, f0, lc, r2, r3⟩⟩ := r
            · exact ⟨_, _, by rw [r3, r1]⟩
            · exact ⟨_, _, by rw [r2, r1]⟩
            · exact ⟨_, _, r2⟩
          obtain ⟨a', c', rfl⟩ := this
          exact OutR.same hr (v' := .int .i64 z.n) (by simp [builtin, Builtin.len_, h0, run_underlying hu, goInt]) rfl
        · cases h
      · rename_i k e x0 hu
        split at h
        · rename_i n hn
          obtain rfl := Option.some.inj h
          unfold lenV at hn
          split at hn
          · obtain rfl := Option.some.inj hn
            have hx : x' = .map none := hx
            subst hx
            exact OutR.same hr (v' := .int .i64 (0 : Nat)) (by simp [builtin, Builtin.len_, h0, run_underlying hu, goInt]) rfl
          · rename_i r
            split at hn
            · rename_i es c hg
              obtain rfl := Option.some.inj hn
              obtain ⟨l, hl, rfl⟩ := hx
              obtain ⟨l', es', g1, g2, g3, g4⟩ := hr.get_map hg
              obtain rfl : l' = l := by rw [g1] at hl; exact Option.some.inj hl
              have hlen : ∀ {a b : List MapEntry}, ERL β a b → a.length = b.length := by
                intro a
                induction a with
                | nil => intro b h; have h : b = [] := h; subst h; rfl
                | cons x xs ih => rintro b ⟨y, ys, rfl, _, _, _, h4⟩; simp [ih h4]
              refine OutR.same hr (v' := .int .i64 es'.size) (by simp [builtin, Builtin.len_, h0, run_underlying hu, goInt, MapKept.run_getObj_map g3]) ?_
              have := hlen g4
              simp at this
              rw [this]; rfl
            · cases hn
          · cases hn
        · cases h
      · cases h
    · cases h
  · rename_i x
    simp only [VRL] at ha
    obtain ⟨x', ys, hy, hx, hys⟩ := ha
    subst hys
    have hargs : args' = #[x'] := by apply Array.ext'; simpa using hy
    subst hargs
    split at h
    · rename_i t h0
      split at h
      · rename_i e a n c hu
        obtain ⟨hs, l, hl, hsl⟩ := hx
        split at h
        · rename_i hn
          subst hn
          obtain rfl := Option.some.inj h
          obtain ⟨_, _, _, e1⟩ | ⟨a', c', e1, _⟩ := hsl.form
          · exact OutR.same hr (v' := .tuple #[]) (by simp [builtin, Builtin.clear_, h0, run_underlying hu, e1]) ⟨#[], rfl, VRL.nil (β := β)⟩
          exact OutR.same hr (v' := .tuple #[]) (by simp [builtin, Builtin.clear_, h0, run_underlying hu, e1]) ⟨#[], rfl, VRL.nil (β := β)⟩
        · rename_i hn
          split at h
          · rename_i z hz
            obtain ⟨i, hi, hzz, hfl⟩ := zeroOfT_spec hz
            split at h
            · rename_i hfc
              split at h
              · rename_i st2 hset
                obtain rfl := Option.some.inj h
                obtain ⟨w', r1, r2, r3, _⟩ := hr.setCells hset (VRL.flat_refl _ hfc) hl
                have hx' : ∃ c', x' = .slice (some ⟨l.blk, l.base + a.off, none⟩) n c' := by
                  unfold SliceR at hsl
                  split at hsl
                  · exact absurd hsl.1 hn
                  split at hsl
                  · exact ⟨_, hsl⟩
                  · split at hsl
                    · exact ⟨_, hsl.1⟩
                    · exact absurd hsl.1 hn
                obtain ⟨c', hx'⟩ := hx'
                refine ⟨β, w', .tuple #[], ?_, Env.le.refl _, r2, ⟨#[], rfl, VRL.nil (β := β)⟩, r3⟩
                obtain ⟨m, rfl⟩ : ∃ m, n = m + 1 := ⟨n - 1, by omega⟩
                simp [builtin, Builtin.clear_, h0, run_underlying hu, hx', run_zeroValue hi hzz, r1]
              · cases h
            · cases h
          · cases h
      · rename_i e n c hu
        obtain rfl := Option.some.inj h
        have hx : x' = .slice none n c := hx
        exact OutR.same hr (v' := .tuple #[]) (by simp [builtin, Builtin.clear_, h0, run_underlying hu, hx]) ⟨#[], rfl, VRL.nil (β := β)⟩
      · cases h
    · cases h
  · split at h
    · rename_i hfl
      split at h
      · rename_i v hv
        split at h
        · rename_i hfv
          obtain rfl := Option.some.inj h
          have := VRL.of_flat _ _ hfl ha
          have e : args' = ⟨args⟩ := by apply Array.ext'; exact this
          rw [e]
          exact OutR.same hr (pureRun_run _ _ _ hv) (VR.flat_refl v hfv)
        · cases h
      · cases h
    · cases h

theorem VRL.mapArgs {ρ ρ' : Operand → Value} (hρ : ∀ x, VR β (ρ x) (ρ' x)) (a : Array Operand) : VRL β (a.toList.map ρ) (a.map ρ').toList := by
  simp only [Array.toList_map]
  exact VRL.map _ _ _ fun x _ => hρ x

theorem sound_call (hN : noNum P = true) (hr : Rel P K β st w) {ρ ρ' : Operand → Value} (hρ : ∀ x, VR β (ρ x) (ρ' x)) {o : Oper} {out : Out} {c : Call} (ho : o.op = .call c) (h : evOp P ρ o st = some out) :
    OutR P K β st w ((execOp ρ' o).run P w) out := by
  simp only [evOp, ho] at h
  obtain ⟨callee, args, argTypes⟩ := c
  have hargs := VRL.mapArgs hρ args
  cases callee with
  | builtin b =>
    simp only at h
    have := sound_builtin (w := w) hr hargs h
    have e2 : ∀ (g : Operand → Bool), (∀ x, g x = constB x) → args.map g = args.map constB := fun g hg => by rw [funext hg]
    simp only [execOp, ho, resolve, invoke, Sem.run_bind, Sem.run_pure, Result.andThen]
    rw [e2 _ (fun x => by cases x <;> rfl)]
    exact this
  | invoke recv name =>
    simp only at h
    have := invokeV_run (K := K) (w := w) (st := st) hN (tg := .fn (.method name) #[]) (tg' := .fn (.method name) #[]) (args' := #[ρ' recv] ++ args.map ρ') ⟨_, _, rfl, rfl, VRL.nil (β := β)⟩ (by simpa using VRL.cons (hρ recv) (by simpa using hargs)) h
    simpa [execOp, ho, resolve] using this
  | value f =>
    simp only at h
    have hf := hρ f
    split at h
    · rename_i fn first captured hfv
      rw [hfv] at hf
      obtain ⟨fn', first', captured', hf', hfn, hfirst, hcap⟩ := hf
      have := invokeV_run (K := K) (w := w) (st := st) hN (tg := .fn fn captured) (tg' := .fn fn' captured') (args' := first' ++ args.map ρ') ⟨_, _, rfl, hfn, hcap⟩ (by simpa using (VRA_iff.1 hfirst).append (by simpa using hargs)) h
      simpa [execOp, ho, resolve, Deferred.ofValue, hf'] using this
    · cases h

theorem sound_defer (hr : Rel P K β st w) {ρ ρ' : Operand → Value} (hρ : ∀ x, VR β (ρ x) (ρ' x)) {o : Oper} {out : Out} {c : Call} (ho : o.op = .defer c) (h : evOp P ρ o st = some out) :
    OutR P K β st w ((execOp ρ' o).run P w) out := by
  simp only [evOp, ho] at h
  obtain ⟨callee, args, argTypes⟩ := c
  have hargs := VRL.mapArgs hρ args
  cases callee with
  | builtin b => simp at h
  | invoke recv name =>
    simp only at h
    obtain rfl := Option.some.inj h
    refine ⟨rfl, { target := .fn (.method name) #[], args := #[ρ' recv] ++ args.map ρ' }, by simp [execOp, ho, resolve], ⟨_, _, rfl, rfl, VRL.nil (β := β)⟩, ?_⟩
    rw [VRA_iff]
    simpa using VRL.cons (hρ recv) (by simpa using hargs)
  | value f =>
    simp only at h
    have hf := hρ f
    split at h
    · rename_i fn first captured hfv
      obtain rfl := Option.some.inj h
      rw [hfv] at hf
      obtain ⟨fn', first', captured', hf', hfn, hfirst, hcap⟩ := hf
      refine ⟨rfl, { target := .fn fn' captured', args := first' ++ args.map ρ' }, by simp [execOp, ho, resolve, Deferred.ofValue, hf'], ⟨_, _, rfl, hfn, hcap⟩, ?_⟩
      rw [VRA_iff]
      simpa using (VRA_iff.1 hfirst).append (by simpa using hargs)
    · cases h

/-- ONE OPERATION. -/
theorem evOp_sound (hN : noNum P = true) (hr : Rel P K β st w) {ρ ρ' : Operand → Value} (hρ : ∀ x, VR β (ρ x) (ρ' x)) {o : Oper} {out : Out} (h : evOp P ρ o st = some out) :
    OutR P K β st w ((execOp ρ' o).run P w) out := by
  cases ho : o.op with
  | move x => exact sound_move hr hρ (Or.inl ho) h
  | assign x => exact sound_move hr hρ (Or.inr ho) h
  | pick c a b => exact sound_pick hr hρ ho h
  | alloc e => exact sound_alloc hr ho h
  | box e x => exact sound_box hr hρ ho h
  | build t p => exact sound_build hr hρ ho h
  | buildSlice t l p => exact sound_buildSlice hr hρ ho h
  | insert t m k x => exact sound_mapUpdate hr hρ (Or.inr ho) h
  | load t x => exact sound_load hr hρ ho h
  | store t x v => exact sound_store hr hρ ho h
  | nilCheck x => exact sound_nilCheck hr hρ ho h
  | binOp op t x y t' => exact sound_binOp hr hρ ho h
  | unOp op t x => exact sound_unOp hr hρ ho h
  | convert s d x => exact sound_convert hr hρ ho h
  | makeInterface t x => exact sound_makeInterface hr hρ ho h
  | makeFunc f a b => exact sound_makeFunc hr hρ ho h
  | makeMap t r => exact sound_makeMap hr hρ ho h
  | makeSlice t l c => exact sound_makeSlice hr hρ ho h
  | slice t x l h' m => exact sound_slice hr hρ ho h
  | fieldAddr t x i => exact sound_fieldAddr hr hρ ho h
  | field t x i => exact sound_field hr hρ ho h
  | indexAddr t x i => exact sound_indexAddr hr hρ ho h
  | index t x i => exact sound_index hr hρ ho h
  | lookup t x k b => exact sound_lookup hr hρ ho h
  | mapUpdate t m k x => exact sound_mapUpdate hr hρ (Or.inl ho) h
  | mapEntry t m k => exact sound_mapEntry hr hρ ho h
  | entryStore t m k x => exact sound_entryStore hr hρ ho h
  | range t x => exact sound_range hr hρ ho h
  | next it b => cases b with
    | true => exact sound_next_string hr hρ ho h
    | false => exact sound_next_map hr hρ ho h
  | entry it => exact sound_entry hr hρ ho h
  | typeAssert x t a b => exact sound_typeAssert hr hρ ho h
  | extract t i => exact sound_extract hr hρ ho h
  | call c => exact sound_call hN hr hρ ho h
  | defer c => exact sound_defer hr hρ ho h
  | _ => simp [evOp, ho] at h

end
end Go.VS
