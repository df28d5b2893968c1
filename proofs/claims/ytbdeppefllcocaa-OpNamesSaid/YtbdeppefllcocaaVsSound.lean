/- The evaluator's code is the machine's: all together. No conditions. -/
import Derived.Test.YtbdeppefllcocaaVsDraw8
namespace Go.VS
set_option linter.unusedSimpArgs false
set_option linter.unusedVariables false
open Go.RowKit
section
variable {P : Program} {ct : Ct} {K : Prot}

theorem argSlots_get : ∀ (args : List Value) (i : Nat) (t : Trie Value) (j : Nat), (argSlots args i t).get j = if i ≤ j ∧ j < i + args.length then args[j - i]? else t.get j
  | [], i, t, j => by simp [argSlots]; omega
  | v :: l, i, t, j => by
    simp only [argSlots]
    rw [argSlots_get l (i + 1), Trie.get_set]
    simp only [List.length_cons]
    by_cases h1 : j = i
    · subst h1
      rw [if_neg (by omega), if_pos rfl, if_pos (by omega)]
      simp
    · rw [if_neg h1]
      by_cases h2 : i + 1 ≤ j ∧ j < i + 1 + l.length
      · rw [if_pos h2, if_pos (by omega)]
        have : j - i = (j - (i + 1)) + 1 := by omega
        rw [this]; simp
      · rw [if_neg h2, if_neg (by omega)]

theorem enter_slots {β : Env} {args : List Value} {args' : Array Value} (h : VRL β args args'.toList) (n : Nat) : SlotsR β (argSlots args 0 .leaf) (max n args.length) (args' ++ Array.replicate (n - args'.size) undef) := by
  have hl := h.length
  simp only [Array.length_toList] at hl
  refine ⟨by simp; omega, fun i => ?_⟩
  rw [argSlots_get]
  by_cases hi : i < args.length
  · rw [if_pos (by omega)]
    have hv : args[i]? = some args[i] := List.getElem?_eq_getElem hi
    obtain ⟨v', h1, h2⟩ := h.get hv
    have : (args' ++ Array.replicate (n - args'.size) undef).getD i undef = v' := by
      have h1' : args'[i]? = some v' := by simpa using h1
      rw [Array.getD_eq_getD_getElem?, Array.getElem?_append_left (by omega), h1']; rfl
    simp only [Nat.sub_zero]
    rw [this, hv]; exact h2
  · rw [if_neg (by omega)]
    have : (args' ++ Array.replicate (n - args'.size) undef).getD i undef = undef := by
      rw [Array.getD_eq_getD_getElem?, Array.getElem?_append_right (by omega), Array.getElem?_replicate]
      split <;> rfl
    rw [this]
    simp only [Trie.get, Option.getD_none]
    exact ⟨#[], rfl, VRL.nil (β := β)⟩

variable (hN : noNum P = true)

theorem code_skip_like {f : Fr} {st : St} {β : Env} {w : World} {fr : Frame} {cs : List Frame} {k : List Item} (hs : step P (lone fr cs w) = .next (lone { fr with todo := k } cs w)) (hf : FrR β f fr) (hr : Rel P K β st w) : Reaches P K β fr cs w .normal k f st :=
  ⟨β, { fr with todo := k }, w, .one hs, Env.le.refl _, hr, Bel.refl _ _, hf.todo k, rfl, rfl, rfl, rfl⟩

theorem exitTo_skip {id : Nat} {x : Item} {k : List Item} (hx : ∀ i, x ≠ .inBlock i) : exitTo id (x :: k) = exitTo id k := by
  cases x <;> first | rfl | exact absurd rfl (hx _)

/-- Where code of a sequence, a loop or a scope ended otherwise than by its end, so did the whole. -/
theorem Reaches.under {β : Env} {fr : Frame} {cs : List Frame} {w : World} {e : Ex} {x : Item} {k : List Item} {f' : Fr} {st' : St} (he : e ≠ .normal) (hx : ∀ i, x ≠ .inBlock i) (h : Reaches P K β fr cs w e (x :: k) f' st') : Reaches P K β fr cs w e k f' st' := by
  obtain ⟨β', fr', w', h1, h2, h3, h4, h5, h6, h7, h8, h9⟩ := h
  refine ⟨β', fr', w', h1, h2, h3, h4, h5, h6, h7, h8, ?_⟩
  cases e with
  | normal => exact absurd rfl he
  | exit id => obtain ⟨k2, e1, e2⟩ := h9; exact ⟨k2, e1, by rw [e2, exitTo_skip hx]⟩
  | ret => exact h9

theorem Reaches.andThen {β : Env} {fr : Frame} {cs : List Frame} {w : World} {e : Ex} {k k2 : List Item} {f1 f2 : Fr} {st1 st2 : St} (h : Reaches P K β fr cs w .normal k f1 st1)
    (hn : ∀ β1 fr1 w1, fr1.todo = k → fr1.fn = fr.fn → FrR β1 f1 fr1 → Rel P K β1 st1 w1 → Reaches P K β1 fr1 cs w1 e k2 f2 st2) : Reaches P K β fr cs w e k2 f2 st2 := by
  obtain ⟨β', fr', w', h1, h2, h3, h4, h5, h6, h7, h8, h9⟩ := h
  exact (hn β' fr' w' h9 h7 h5 h3).steps h1 h2 h4 h6 h7 h8

theorem sound_zero : Snd P ct K 0 where
  code := by intro fid c f st e f' st' h; simp [evCode] at h
  ops := by intro ops l f st f' st' h; simp [evOps] at h
  inloop := by intro fid c f st e f' st' h; simp [evCode] at h
  call := by intro g args st v st' h; simp [evCall] at h
  defers := by intro ds st st' h; simp [evDefers] at h
  round := by intro l args st v st' h; simp [evRound] at h
  out := by intro ρ o st x v st' h h2; simp [evOut] at h2

theorem sound_ops {n : Nat} (hN : noNum P = true) (ih : Snd P ct K n) : ∀ ops l f st f' st', evOps P ct (n + 1) ops l f st = some (f', st') → ∀ β w fr cs k, fr.todo = .inRegion ops l :: k → FrR β f fr → Rel P K β st w → Reaches P K β fr cs w .normal k f' st' := by
  intro ops l f st f' st' h β w fr cs k ht hf hr
  cases l with
  | nil =>
    simp only [evOps, Option.some.injEq, Prod.mk.injEq] at h
    obtain ⟨rfl, rfl⟩ := h
    exact ⟨β, { fr with todo := k }, w, .one (s_region_end hf.mode ht), Env.le.refl _, hr, Bel.refl _ _, hf.todo k, rfl, rfl, rfl, rfl⟩
  | cons i rest =>
    simp only [evOps] at h
    split at h
    · cases h
    · rename_i o ho
      have go : ∀ {f1 : Fr} {st1 : St} {β1 : Env} {fr1 : Frame} {w1 : World}, evOps P ct n ops rest f1 st1 = some (f', st') → Steps P (lone fr cs w) (lone fr1 cs w1) → β.le β1 → Rel P K β1 st1 w1 → Bel K w w1 → FrR β1 f1 fr1 → fr1.todo = .inRegion ops rest :: k →
          fr1.kind = fr.kind → fr1.fn = fr.fn → fr1.roundOf = fr.roundOf → Reaches P K β fr cs w .normal k f' st' := by
        intro f1 st1 β1 fr1 w1 he hs hle hr1 hb hf1 ht1 hk hfn hro
        exact (ih.ops ops rest f1 st1 f' st' he β1 w1 fr1 cs k ht1 hf1 hr1).steps hs hle hb hk hfn hro
      split at h
      · cases h
      · rename_i hw
        have hw' := wantedF_eq hf ops hw
        split at h
        · rename_i f1 hp
          exact go h (.one (s_op_skip hf.mode ht ho hw')) (Env.le.refl _) hr (Bel.refl _ _) (hf.put hp ⟨#[], rfl, VRL.nil (β := β)⟩ _) rfl rfl rfl rfl
        · cases h
      · rename_i hw
        have hw' := wantedF_eq hf ops hw
        split at h
        · cases h
        · rename_i hnd
          have hnd' : fr.roundOf = none ∨ isDefer o.op = false := by
            have hro := hf.round
            cases hfr : f.roundOf with
            | none => rw [hfr] at hro; exact Or.inl hro
            | some r => right; simpa [hfr] using hnd
          have und : ∀ β' : Env, VR β' undef undef := fun β' => ⟨#[], rfl, VRL.nil (β := β')⟩
          split at h
          · rename_i v st1 hop
            obtain ⟨β1, w1, v', r1, r2, r3, r4, r5⟩ := evOp_sound hN hr hf.eval hop
            split at h
            · rename_i f1 hp
              exact go h (.one (s_op_value hf.mode ht ho hw' hnd' r1)) r2 r3 r5 ((hf.mono r2).put hp r4 _) rfl rfl rfl rfl
            · cases h
          · rename_i st1 hop
            obtain ⟨β1, w1, r1, r2, r3, r5⟩ := evOp_sound hN hr hf.eval hop
            split at h
            · rename_i f1 hp
              exact go h (.one (s_op_unit hf.mode ht ho hw' hnd' r1)) r2 r3 r5 ((hf.mono r2).put hp (und _) _) rfl rfl rfl rfl
            · cases h
          · rename_i d st1 hop
            obtain ⟨rfl, d', r1, r2⟩ := evOp_sound hN hr hf.eval hop
            split at h
            · rename_i f1 hp
              have hf2 : FrR β { f with defers := d :: f.defers } { fr with defers := d' :: fr.defers } := ⟨hf.slots, ⟨d', fr.defers, rfl, r2, hf.defers⟩, hf.round, hf.mode⟩
              exact go h (.one (s_op_defer hf.mode ht ho hw' hnd' r1)) (Env.le.refl _) hr (Bel.refl _ _) (hf2.put hp (und _) _) rfl rfl rfl rfl
            · cases h
          · rename_i g args st1 hop
            obtain ⟨rfl, args', r1, r2⟩ := evOp_sound hN hr hf.eval hop
            split at h
            · rename_i v st2 hcall
              obtain ⟨β1, fr1, w1, v', q1, q2, q3, q4, q5, q6, q7, q8, q9, fn, q10, q11⟩ := ih.call g args _ v st2 hcall β w args' .normal (fr :: cs) (Or.inl rfl) r2 hr
              split at h
              · rename_i f1 hp
                have hs1 := s_op_enter (P := P) (cs := cs) hf.mode ht ho hw' hnd' r1
                have hs2 := s_return (P := P) (cs := cs) (c := fr) q6 q7 q8 (by rw [q9]; exact q10) q11
                rw [finish_region ht ho] at hs2
                exact go h ((Steps.one (by exact hs1)).trans (q1.trans (.one hs2))) q2 q3 q4 ((hf.mono q2).put hp q5 _) rfl rfl rfl rfl
              · cases h
            · cases h
          · rename_i l args st1 hop
            obtain ⟨rfl, ll, args', r1, r2, r3⟩ := evOp_sound hN hr hf.eval hop
            split at h
            · rename_i v st2 hround
              obtain ⟨g, tmps, a, b, q0, β1, w1, v', q1, q2, q3, q4, q5⟩ := ih.round l args _ v st2 hround β w ll args' fr cs _ r1 r2 hr rfl
              split at h
              · rename_i f1 hp
                have hs1 := s_op_round (P := P) (cs := cs) hf.mode ht ho hw' hnd' (by rw [r3]; exact q0)
                rw [finish_region ht ho] at q1
                exact go h ((Steps.one hs1).trans q1) q2 q3 q4 ((hf.mono q2).put hp q5 _) rfl rfl rfl rfl
              · cases h
            · cases h
          · cases h

theorem VR.loopId {β : Env} {l : Nat} {ll : Loc} (h : β l = some ll) : VR β (.func (.yield l) #[] #[]) (.func (.yield ll.blk) #[] #[]) := ⟨_, _, _, rfl, ⟨ll, h, rfl⟩, VRL.nil (β := β), VRL.nil (β := β)⟩

theorem enterA_run {fid : FuncId} {f f1 : Fr} {st st2 : St} {params : Array Tmp} {assign body : Code} {l : Nat} {β : Env} {fr : Frame} {w : World} (h : enterA fid f st params assign body = some (l, f1, st2)) (hf : FrR β f fr) (hfid : fr.fn = fid) (hocc : Occ P fid assign ∧ Occ P fid body) (hr : Rel P K β st w) :
    ∃ β' ll mark w1, (Instr.enterLoop fr.fn fr.tmps params assign body fr.roundOf).run P w = .ok (ll.blk, mark) w1 ∧ β.le β' ∧ Rel P K β' st2 w1 ∧ Bel K w w1 ∧ β' l = some ll ∧ DefsR β' f1.defers (mark ++ fr.defers) ∧ f1.slots = f.slots ∧ f1.ntmps = f.ntmps ∧ f1.roundOf = f.roundOf := by
  unfold enterA at h
  have hro := hf.round
  split at h
  · rename_i hfr
    rw [hfr] at hro
    have hro : fr.roundOf = none := hro
    simp at h
    obtain ⟨rfl, rfl, rfl⟩ := h
    have h1 := hr.alloc (.deferred (some [])) .deferred rfl 0 0 ⟨rfl, rfl⟩
    have le1 := hr.le_put (l := ⟨w.heap.size, 0, 0, 0, none, false⟩)
    have hlp : LoopR (β.put st.next ⟨w.heap.size, 0, 0, 0, none, false⟩) { state := .ready, pending := none, fn := fid, slots := f.slots, ntmps := f.ntmps, params, assign, body, defers := st.next } { state := .ready, pending := none, fn := fr.fn, tmps := fr.tmps, params, assign, body, defers := w.heap.size } :=
      ⟨rfl, rfl, hfid, rfl, rfl, rfl, hf.slots.mono le1, ⟨_, put_same _ _ _, rfl⟩⟩
    have h2 := h1.alloc (.loop { state := .ready, pending := none, fn := fr.fn, tmps := fr.tmps, params, assign, body, defers := w.heap.size }) (.loop { state := .ready, pending := none, fn := fid, slots := f.slots, ntmps := f.ntmps, params, assign, body, defers := st.next }) rfl 0 0 ⟨rfl, hocc, _, rfl, hlp⟩
    have le2 := h1.le_put (l := ⟨(w.alloc (.deferred (some []))).heap.size, 0, 0, 0, none, false⟩)
    refine ⟨_, ⟨(w.alloc (.deferred (some []))).heap.size, 0, 0, 0, none, false⟩, [{ target := .collected w.heap.size, args := #[] }], _, ?_, le1.trans le2, h2, ((Bel.refl _ _).alloc hr.base _).alloc (fun k hk => by rw [size_alloc]; have := hr.base k hk; omega) _, ?_, ?_, rfl, rfl, hfr.symm ▸ rfl⟩
    · simp [Instr.enterLoop, hro]
    · exact put_same _ _ _
    · exact ⟨_, _, rfl, ⟨⟨_, le2 _ _ (put_same _ _ _), rfl⟩, rfl⟩, hf.defers.mono (le1.trans le2)⟩
  · rename_i r hfr
    rw [hfr] at hro
    obtain ⟨lr, hlr, hro⟩ := hro
    split at h
    · rename_i R hg
      simp at h
      obtain ⟨rfl, rfl, rfl⟩ := h
      obtain ⟨l', g1, g2, gv, go, y, g3, g4⟩ := hr.blk _ _ hg rfl
      obtain rfl : l' = lr := by rw [g1] at hlr; exact Option.some.inj hlr
      have hlp : LoopR β { state := .ready, pending := none, fn := fid, slots := f.slots, ntmps := f.ntmps, params, assign, body, defers := R.defers } { state := .ready, pending := none, fn := fr.fn, tmps := fr.tmps, params, assign, body, defers := y.defers } :=
        ⟨rfl, rfl, hfid, rfl, rfl, rfl, hf.slots, g4.defers⟩
      have h2 := hr.alloc (.loop { state := .ready, pending := none, fn := fr.fn, tmps := fr.tmps, params, assign, body, defers := y.defers }) (.loop { state := .ready, pending := none, fn := fid, slots := f.slots, ntmps := f.ntmps, params, assign, body, defers := R.defers }) rfl 0 0 ⟨rfl, hocc, _, rfl, hlp⟩
      refine ⟨_, ⟨w.heap.size, 0, 0, 0, none, false⟩, [], _, ?_, hr.le_put _, h2, (Bel.refl _ _).alloc hr.base _, put_same _ _ _, hf.defers.mono (hr.le_put _), rfl, rfl, rfl⟩
      simp [Instr.enterLoop, hro, Instr.getLoop, run_getObj_of g3 (by intros; simp)]
    · cases h

theorem endA_run {st st' : St} {l : Nat} {jump : Option Code} {β : Env} {w : World} {ll : Loc} (h : endA st l = some (jump, st')) (hl : β l = some ll) (hr : Rel P K β st w) :
    ∃ w', (Instr.endLoop ll.blk).run P w = .ok jump w' ∧ Rel P K β st' w' ∧ Bel K w w' := by
  unfold endA at h
  split at h
  · rename_i r hg
    split at h
    · cases h
    · rename_i hb
      simp at h
      obtain ⟨rfl, rfl⟩ := h
      obtain ⟨l', g1, g2, gv, go, y, g3, g4⟩ := hr.blk _ _ hg rfl
      obtain rfl : l' = ll := by rw [g1] at hl; exact Option.some.inj hl
      have hlp : BlkR P β l' (.loop { r with state := .exhausted }) (some (.loop { y with state := .exhausted })) := ⟨gv, go, _, rfl, ⟨rfl, g4.pending, g4.fn, g4.params, g4.assign, g4.body, g4.slots, g4.defers⟩⟩
      obtain ⟨q1, q2⟩ := hr.putObj hg rfl g1 hlp
      refine ⟨_, ?_, q1, q2⟩
      have hyb : ¬ y.state = .busy := by rw [g4.state]; exact hb
      simp [Instr.endLoop, Instr.getLoop, run_getObj_of g3 (by intros; simp), hyb, run_setObj_of g3 (by intros; simp), g4.pending]
  · cases h

theorem loop_body {n : Nat} (ih : Snd P ct K n) : ∀ fid c f st e f' st', (match evCode P ct n fid c f st with
      | some (.normal, f, st) => evCode P ct n fid (.loop c) f st
      | r => r) = some (e, f', st') → Occ P fid (.loop c) → ∀ β w fr cs k, fr.todo = .code c :: .inLoop c :: k → fr.fn = fid → FrR β f fr → Rel P K β st w → Reaches P K β fr cs w e k f' st' := by
  intro fid c f st e f' st' h hocc β w fr cs k ht hfid hf hr
  have hc := hocc.sub (.loop (.refl c))
  split at h
  · rename_i f1 st1 ha
    refine (ih.code fid c f st _ f1 st1 ha hc β w fr cs (.inLoop c :: k) ht hfid hf hr).andThen ?_
    intro β1 fr2 w1 ht2 hfn2 hf2 hr2
    exact ih.inloop fid c f1 st1 e f' st' h hocc β1 w1 fr2 cs k ht2 (hfn2.trans hfid) hf2 hr2
  · rename_i r hne
    refine Reaches.under (x := .inLoop c) ?_ (by simp) (ih.code fid c f st e f' st' h hc β w fr cs (.inLoop c :: k) ht hfid hf hr)
    rintro rfl
    exact hne _ _ h

theorem sound_inloop {n : Nat} (ih : Snd P ct K n) : ∀ fid c f st e f' st', evCode P ct (n + 1) fid (.loop c) f st = some (e, f', st') → Occ P fid (.loop c) → ∀ β w fr cs k, fr.todo = .inLoop c :: k → fr.fn = fid → FrR β f fr → Rel P K β st w → Reaches P K β fr cs w e k f' st' := by
  intro fid c f st e f' st' h hocc β w fr cs k ht hfid hf hr
  simp only [evCode] at h
  refine Reaches.step (s_inLoop hf.mode ht) ?_
  exact loop_body ih fid c f st e f' st' h hocc β w { fr with todo := .code c :: .inLoop c :: k } cs k rfl hfid (hf.todo _) hr

theorem sound_code {n : Nat} (hN : noNum P = true) (hct : CtOk P ct) (ihA : ∀ K, Snd P ct K n) : ∀ fid c f st e f' st', evCode P ct (n + 1) fid c f st = some (e, f', st') → Occ P fid c → ∀ β w fr cs k, fr.todo = .code c :: k → fr.fn = fid → FrR β f fr → Rel P K β st w → Reaches P K β fr cs w e k f' st' := by
  intro fid c f st e f' st' h hocc β w fr cs k ht hfid hf hr
  have ih := ihA K
  simp only [evCode] at h
  split at h
  · simp at h; obtain ⟨rfl, rfl, rfl⟩ := h
    exact code_skip_like (s_skip hf.mode ht) hf hr
  · simp at h; obtain ⟨rfl, rfl, rfl⟩ := h
    exact code_skip_like (s_label hf.mode ht) hf hr
  · rename_i id
    simp at h; obtain ⟨rfl, rfl, rfl⟩ := h
    exact ⟨β, fr, w, Steps.refl _ _, Env.le.refl _, hr, Bel.refl _ _, hf, rfl, rfl, rfl, k, ht, rfl⟩
  · simp at h; obtain ⟨rfl, rfl, rfl⟩ := h
    exact ⟨β, fr, w, Steps.refl _ _, Env.le.refl _, hr, Bel.refl _ _, hf, rfl, rfl, rfl, k, ht⟩
  · rename_i a b
    refine Reaches.step (s_seq hf.mode ht) ?_
    split at h
    · rename_i f1 st1 ha
      refine (ih.code fid a f st _ f1 st1 ha (hocc.sub (.seql (.refl _))) β w { fr with todo := .code a :: .code b :: k } cs (.code b :: k) rfl hfid (hf.todo _) hr).andThen ?_
      intro β1 fr1 w1 ht1 hfn1 hf1 hr1
      exact ih.code fid b f1 st1 e f' st' h (hocc.sub (.seqr (.refl _))) β1 w1 fr1 cs k ht1 (hfn1.trans hfid) hf1 hr1
    · rename_i r hne
      obtain ⟨e1, f1, st1⟩ := (⟨e, f', st'⟩ : Ex × Fr × St)
      have ha := h
      refine Reaches.under (x := .code b) ?_ (by simp) (ih.code fid a f st e f' st' ha (hocc.sub (.seql (.refl _))) β w { fr with todo := .code a :: .code b :: k } cs (.code b :: k) rfl hfid (hf.todo _) hr)
      rintro rfl
      exact hne _ _ ha
  · rename_i c a b
    split at h
    · rename_i hc
      have hv := hf.eval c
      rw [hc] at hv
      refine Reaches.step (s_cond (t := true) hf.mode ht hv.bool') ?_
      exact ih.code fid a f st e f' st' h (hocc.sub (.condl (.refl _))) β w { fr with todo := .code a :: k } cs k rfl hfid (hf.todo _) hr
    · rename_i hc
      have hv := hf.eval c
      rw [hc] at hv
      refine Reaches.step (s_cond (t := false) hf.mode ht hv.bool') ?_
      exact ih.code fid b f st e f' st' h (hocc.sub (.condr (.refl _))) β w { fr with todo := .code b :: k } cs k rfl hfid (hf.todo _) hr
    · cases h
  · rename_i id c
    split at h
    · rename_i t0 hloop
      split at h
      · rename_i e0 s0 st0 hev
        simp only [Option.some.injEq, Prod.mk.injEq] at h
        obtain ⟨rfl, rfl, rfl⟩ := h
        exact hct.loop K fid id c f st _ _ _ (by rw [hloop]; exact hev) hocc β w fr cs k ht hfid hf hr
      · cases h
    refine Reaches.step (s_block hf.mode ht) ?_
    have hend : ∀ {e1 : Ex} {f1 : Fr} {st1 : St}, evCode P ct n fid c f st = some (e1, f1, st1) → Reaches P K β { fr with todo := .code c :: .inBlock id :: k } cs w e1 (.inBlock id :: k) f1 st1 :=
      fun ha => ih.code fid c f st _ _ _ ha (hocc.sub (.block (.refl _))) β w { fr with todo := .code c :: .inBlock id :: k } cs (.inBlock id :: k) rfl hfid (hf.todo _) hr
    split at h
    · rename_i id' f1 st1 ha
      obtain ⟨β', fr', w', h1, h2, h3, h4, h5, h6, h7, h8, k2, h9, h10⟩ := hend ha
      split at h
      · rename_i hid
        simp at h; obtain ⟨rfl, rfl, rfl⟩ := h
        subst hid
        have hx : exitTo id' k2 = some k := by rw [h10]; simp [exitTo]
        exact ⟨β', { fr' with todo := k }, w', h1.trans (.one (s_exit h5.mode h9 hx)), h2, h3, h4, h5.todo k, h6, h7, h8, rfl⟩
      · rename_i hid
        simp at h; obtain ⟨rfl, rfl, rfl⟩ := h
        refine ⟨β', fr', w', h1, h2, h3, h4, h5, h6, h7, h8, k2, h9, ?_⟩
        rw [h10]
        have : (id == id') = false := by simp; exact fun ee => hid ee.symm
        simp [exitTo, this]
    · rename_i r hne
      obtain ⟨β', fr', w', h1, h2, h3, h4, h5, h6, h7, h8, h9⟩ := hend h
      cases e with
      | exit id' => exact absurd h (hne _ _ _)
      | normal => exact ⟨β', { fr' with todo := k }, w', h1.trans (.one (s_inBlock h5.mode h9)), h2, h3, h4, h5.todo k, h6, h7, h8, rfl⟩
      | ret => exact ⟨β', fr', w', h1, h2, h3, h4, h5, h6, h7, h8, h9⟩
  · rename_i c
    refine Reaches.step (s_loop hf.mode ht) ?_
    exact loop_body ih fid c f st e f' st' h hocc β w { fr with todo := .code c :: .inLoop c :: k } cs k rfl hfid (hf.todo _) hr
  · rename_i c
    refine Reaches.step (s_scope hf.mode ht) ?_
    have hend := ih.code fid c f st e f' st' h (hocc.sub (.scope (.refl _))) β w { fr with todo := .code c :: .inScope c :: k } cs (.inScope c :: k) rfl hfid (hf.todo _) hr
    cases e with
    | normal =>
      obtain ⟨β', fr', w', h1, h2, h3, h4, h5, h6, h7, h8, h9⟩ := hend
      exact ⟨β', { fr' with todo := k }, w', h1.trans (.one (s_inScope h5.mode h9)), h2, h3, h4, h5.todo k, h6, h7, h8, rfl⟩
    | exit id => exact Reaches.under (by simp) (by simp) hend
    | ret => exact Reaches.under (by simp) (by simp) hend
  · rename_i id ops
    split at h
    · rename_i f1 st1 hops
      simp at h; obtain ⟨rfl, rfl, rfl⟩ := h
      exact draw_sound hN ihA hops ht hf hr
    · cases h
  · rename_i id ops
    split at h
    · rename_i f1 st1 hops
      simp at h; obtain ⟨rfl, rfl, rfl⟩ := h
      refine Reaches.step (s_region hf.mode ht) ?_
      exact ih.ops ops _ f st _ _ hops β w { fr with todo := .inRegion ops (List.range ops.size) :: k } cs k rfl (hf.todo _) hr
    · cases h
  · rename_i g params assign body
    split at h
    · cases h
    · rename_i l f1 st2 hent
      obtain ⟨β1, ll, mark, w1, e1, e2, e3, e4, e5, e6, e7, e8, e9⟩ := enterA_run hent hf hfid ⟨hocc.sub (.rangel (.refl _)), hocc.sub (.ranger (.refl _))⟩ hr
      have hev : f1.eval g = f.eval g := by cases g <;> simp [Fr.eval, e7]
      split at h
      · rename_i fn first captured hg
        rw [hev] at hg
        have hgv := (hf.eval g).mono' e2
        rw [hg] at hgv
        obtain ⟨fn', first', captured', hg', hfn, hfirst, hcap⟩ := hgv
        split at h
        · rename_i f' args st3 hinv
          have hout := invokeV_run (K := K) (w := w1) hN (β := β1) (tg := .fn fn captured) (tg' := .fn fn' captured') (args' := first' ++ #[.func (.yield ll.blk) #[] #[]]) ⟨_, _, rfl, hfn, hcap⟩ (by simpa using (VRA_iff.1 hfirst).append (VRL.cons (VR.loopId e5) VRL.nil)) hinv
          obtain ⟨rfl, args', r1, r2⟩ := hout
          split at h
          · rename_i v st4 hcall
            have hs1 := s_rangeFunc (P := P) (cs := cs) hf.mode ht e1 hg' r1
            obtain ⟨β2, fr2, w2, v', q1, q2, q3, q4, q5, q6, q7, q8, q9, fnn, q10, q11⟩ := ih.call f' args _ v st4 hcall β1 w1 args' .normal ({ fr with todo := .inRangeFunc ll.blk :: k, defers := mark ++ fr.defers } :: cs) (Or.inl rfl) r2 e3
            have hs2 := s_return (P := P) (cs := cs) (c := { fr with todo := .inRangeFunc ll.blk :: k, defers := mark ++ fr.defers }) q6 q7 q8 (by rw [q9]; exact q10) q11
            have hfin : ({ fr with todo := .inRangeFunc ll.blk :: k, defers := mark ++ fr.defers } : Frame).finish v' = { fr with todo := .endRangeFunc ll.blk :: k, defers := mark ++ fr.defers } := rfl
            rw [hfin] at hs2
            have fin : ∀ {jump : Option Code} {st5 : St}, endA st4 l = some (jump, st5) → ∀ e, TodoR e k ((jump.map Item.code).toList ++ k) → Reaches P K β fr cs w e k f1 st5 := by
              intro jump st5 hend e hto
              obtain ⟨w3, t1, t2, t3⟩ := endA_run hend (q2 _ _ e5) q3
              have hs3 := s_endRangeFunc (P := P) (cs := cs) (fr := { fr with todo := .endRangeFunc ll.blk :: k, defers := mark ++ fr.defers }) hf.mode rfl t1
              refine ⟨β2, { fr with todo := (jump.map Item.code).toList ++ k, defers := mark ++ fr.defers }, w3, ((Steps.one hs1).trans (q1.trans (.one hs2))).trans (.one hs3), e2.trans q2, t2, (e4.trans q4).trans t3, ?_, rfl, rfl, rfl, hto⟩
              refine ⟨?_, e6.mono q2, ?_, hf.mode⟩
              · rw [e7, e8]; exact hf.slots.mono (e2.trans q2)
              · rw [e9]; exact hf.round.mono (e2.trans q2)
            split at h
            · rename_i st5 hend
              simp at h; obtain ⟨rfl, rfl, rfl⟩ := h
              exact fin hend .normal rfl
            · rename_i id st5 hend
              simp at h; obtain ⟨rfl, rfl, rfl⟩ := h
              exact fin hend (.exit id) ⟨k, rfl, rfl⟩
            · rename_i st5 hend
              simp at h; obtain ⟨rfl, rfl, rfl⟩ := h
              exact fin hend .ret ⟨k, rfl⟩
            · cases h
          · cases h
        · cases h
      · cases h
  · cases h
end
end Go.VS
