/- The evaluator's calls are the machine's. No conditions. -/
import Derived.Test.YtbdeppefllcocaaVsSound
namespace Go.VS
set_option linter.unusedSimpArgs false
set_option linter.unusedVariables false
open Go.RowKit
section
variable {P : Program} {ct : Ct} {K : Prot}

theorem sound_defers {n : Nat} (hN : noNum P = true) (ih : Snd P ct K n) : ∀ ds st st', evDefers P ct (n + 1) ds st = some st' → ∀ β w fr cs, fr.mode = .returning → DefsR β ds fr.defers → Rel P K β st w →
    ∃ β' w', Steps P (lone fr cs w) (lone { fr with defers := [] } cs w') ∧ β.le β' ∧ Rel P K β' st' w' ∧ Bel K w w' := by
  intro ds st st' h β w fr cs hm hd hr
  cases ds with
  | nil =>
    simp only [evDefers, Option.some.injEq] at h
    subst h
    have hd : fr.defers = [] := hd
    refine ⟨β, w, ?_, Env.le.refl _, hr, Bel.refl _ _⟩
    have : { fr with defers := [] } = fr := by cases fr; simp_all
    rw [this]; exact Steps.refl _ _
  | cons d ds =>
    obtain ⟨d', ds', hde, hdr, hds⟩ := hd
    simp only [evDefers] at h
    split at h
    · rename_i i hi
      split at h
      · rename_i hg
        obtain ⟨ht, _⟩ := hdr
        rw [hi] at ht
        obtain ⟨l, hl, ht⟩ := ht
        obtain ⟨l', g1, g2, gv, g3⟩ := hr.blk _ _ hg rfl
        obtain rfl : l' = l := by rw [g1] at hl; exact Option.some.inj hl
        have g3 : w.heap[l'.blk]? = some (.deferred (some [])) := g3
        have hs := s_collected (P := P) (cs := cs) hm hde ht g3
        obtain ⟨q1, q2⟩ := hr.putObj (b' := .dead) (o := .deferred none) hg rfl g1 trivial
        obtain ⟨β', w', r1, r2, r3, r4⟩ := ih.defers ds _ st' h β _ { fr with defers := ds' } cs hm hds q1
        exact ⟨β', w', (Steps.one hs).trans r1, r2, r3, q2.trans r4⟩
      · cases h
    · rename_i hnc
      split at h
      · rename_i g args st1 hinv
        obtain ⟨ht, ha⟩ := hdr
        have hout := invokeV_run (K := K) (w := w) hN ht (VRA_iff.1 ha) hinv
        obtain ⟨rfl, args', r1, r2⟩ := hout
        split at h
        · cases h
        rename_i hno
        split at h
        · rename_i v st2 hcall
          obtain ⟨β1, fr1, w1, v', q1, q2, q3, q4, q5, q6, q7, q8, q9, fn, q10, q11⟩ := ih.call g args _ v st2 hcall β w args' .deferred ({ fr with defers := ds' } :: cs) (Or.inr hno) r2 hr
          have hc : ∀ r, d'.target ≠ .collected r := by
            intro r e
            rw [e] at ht
            cases hdt : d.target with
            | fn f c => rw [hdt] at ht; obtain ⟨_, _, e2, _⟩ := ht; cases e2
            | collected j => exact hnc j hdt
            | _ => rw [hdt] at ht; exact ht
          have hn : d'.target ≠ .nil := by
            intro e
            rw [e] at ht
            cases hdt : d.target with
            | fn f c => rw [hdt] at ht; obtain ⟨_, _, e2, _⟩ := ht; cases e2
            | collected j => exact hnc j hdt
            | _ => rw [hdt] at ht; exact ht
          have hs1 := s_defer (P := P) (cs := cs) hm hde hc hn r1
          have hs2 := s_return_deferred (P := P) (cs := cs) (c := { fr with defers := ds' }) q6 q7 q8 (by rw [q9]; exact q10) q11 hm
          obtain ⟨β', w', t1, t2, t3, t4⟩ := ih.defers ds _ st' h β1 w1 { fr with defers := ds' } cs hm (hds.mono q2) q3
          exact ⟨β', w', ((Steps.one hs1).trans (q1.trans (.one hs2))).trans t1, q2.trans t2, t3, q4.trans t4⟩
        · cases h
      · cases h

theorem sound_callF {n : Nat} (hct : CtOk P ct) (ih : Snd P ct K n) : ∀ g args st v st', evCall P ct (n + 1) g args st = some (v, st') → ∀ β w args' kind cs, (kind = .normal ∨ ct.call g args st = none) → VRL β args args'.toList → Rel P K β st w → CallReach P K β g args' kind cs w v st' := by
  intro g args st v st' h β w args' kind cs hkind ha hr
  simp only [evCall] at h
  split at h
  · rename_i t ht
    rcases hkind with rfl | hno
    · exact hct.call K g args st v st' (by rw [ht]; exact h) β w args' cs ha hr
    · rw [hno] at ht; cases ht
  split at h
  · cases h
  · rename_i fn hfn
    split at h
    · cases h
    · rename_i c hb
      have hl := ha.length
      have henter : Frame.enter P g args' kind = { fn := g, tmps := args' ++ Array.replicate (fn.ntmps - args'.size) undef, todo := [.code c], defers := [], mode := .run, kind } := by
        simp [Frame.enter, hfn, hb]
      have hf0 : FrR β { slots := argSlots args 0 .leaf, ntmps := max fn.ntmps args.length, defers := [] } (Frame.enter P g args' kind) := by
        rw [henter]
        exact ⟨enter_slots ha fn.ntmps, rfl, rfl, rfl⟩
      have fin : ∀ {e : Ex} {f : Fr} {st1 : St}, evCode P ct n g c { slots := argSlots args 0 .leaf, ntmps := max fn.ntmps args.length, defers := [] } st = some (e, f, st1) → (e = .normal ∨ e = .ret) →
          (match evDefers P ct n f.defers st1 with
            | some st => match resultsV P fn f st with
              | some vs => some (resultOf vs, st)
              | none => none
            | none => none) = some (v, st') → CallReach P K β g args' kind cs w v st' := by
        intro e f st1 hcode he h
        obtain ⟨β1, fr1, w1, h1, h2, h3, h4, h5, h6, h7, h8, h9⟩ := ih.code g c _ st e f st1 hcode ⟨fn, c, hfn, hb, .refl _⟩ β w (Frame.enter P g args' kind) cs [] (by rw [henter]) (by rw [henter]) hf0 hr
        have hro : fr1.roundOf = none := by rw [h8, henter]
        have hs1 : step P (lone fr1 cs w1) = .next (lone { fr1 with mode := .returning } cs w1) := by
          rcases he with rfl | rfl
          · exact s_leave_end h5.mode h9 hro
          · obtain ⟨k2, h9⟩ := h9; exact s_leave_ret h5.mode h9 hro
        split at h
        · rename_i st2 hdef
          obtain ⟨β2, w2, t1, t2, t3, t4⟩ := ih.defers f.defers st1 st2 hdef β1 w1 { fr1 with mode := .returning } cs rfl h5.defers h3
          split at h
          · rename_i vs hres
            simp at h
            obtain ⟨rfl, rfl⟩ := h
            obtain ⟨v', r1, r2⟩ := results_run t3 (tmps := fr1.tmps) (h5.slots.mono t2) hres
            refine ⟨β2, { fr1 with mode := .returning, defers := [] }, w2, v', (h1.trans (.one hs1)).trans t1, h2.trans t2, t3, h4.trans t4, r2, rfl, rfl, ?_, ?_, fn, hfn, r1⟩
            · show fr1.kind = kind; rw [h6, henter]
            · show fr1.fn = g; rw [h7, henter]
          · cases h
        · cases h
      split at h
      · rename_i f st1 hcode
        exact fin hcode (Or.inl rfl) h
      · rename_i f st1 hcode
        exact fin hcode (Or.inr rfl) h
      · cases h

theorem putAll_spec {β : Env} {n : Nat} : ∀ {ps : List Tmp} {args args' : List Value} {t t' : Trie Value} {tmps : Array Value}, VRL β args args' → putAll n (ps.zip args) t = some t' → SlotsR β t n tmps →
    SlotsR β t' n ((ps.zip args').foldl (fun tmps (x : Tmp × Value) => tmps.setIfInBounds x.1 x.2) tmps)
  | [], args, args', t, t', tmps, ha, h, hs => by simp [putAll] at h; subst h; simpa using hs
  | p :: ps, [], args', t, t', tmps, ha, h, hs => by
    have ha : args' = [] := ha
    subst ha
    simp [putAll] at h; subst h; simpa using hs
  | p :: ps, v :: args, _, t, t', tmps, ⟨v', args', e, hv, ha⟩, h, hs => by
    subst e
    simp only [List.zip_cons_cons, putAll] at h
    split at h
    · rename_i hlt
      simp only [List.zip_cons_cons, List.foldl_cons]
      exact putAll_spec ha h (slots_put hs hlt hv)
    · cases h

theorem sound_round {n : Nat} (ih : Snd P ct K n) : ∀ l args st v st', evRound P ct (n + 1) l args st = some (v, st') → ∀ β w ll args' c cs nx, β l = some ll → VRL β args args'.toList → Rel P K β st w → (Instr.yield ll.blk args').run P w = nx →
    ∃ g tmps a b, nx = .ok (.round ll.blk g tmps a b) w ∧ ∃ β' w' v', Steps P (lone (Frame.round ll.blk g tmps a b .normal) (c :: cs) w) (lone (c.finish v') cs w') ∧ β.le β' ∧ Rel P K β' st' w' ∧ Bel K w w' ∧ VR β' v v' := by
  intro l args st v st' h β w ll args' c cs nx hl ha hr hnx
  simp only [evRound] at h
  split at h
  · rename_i r hg
    obtain ⟨l', g1, g2, gv, go, y, g3, g4⟩ := hr.blk _ _ hg rfl
    obtain rfl : l' = ll := by rw [g1] at hl; exact Option.some.inj hl
    split at h
    · cases h
    · rename_i hc
      simp only [Bool.or_eq_true, decide_eq_true_eq, not_or, ne_eq, Decidable.not_not] at hc
      split at h
      · cases h
      · rename_i slots hput
        have hlen := ha.length
        simp only [Array.length_toList] at hlen
        have hps : y.params.toList = r.params.toList := by rw [g4.params]
        have hyield : (Instr.yield l'.blk args').run P w = .ok (.round l'.blk y.fn ((y.params.zip args').foldl (fun tmps (t, a) => tmps.setIfInBounds t a) y.tmps) y.assign y.body) w := by
          have hsz : args'.size = y.params.size := by rw [g4.params, ← hlen]; exact hc.1
          simp [Instr.yield, Instr.getLoop, run_getObj_of g3 (by intros; simp), hsz]
        rw [hyield] at hnx
        subst hnx
        refine ⟨y.fn, _, y.assign, y.body, rfl, ?_⟩
        have htm : (y.params.zip args').foldl (fun tmps (t, a) => tmps.setIfInBounds t a) y.tmps = (r.params.toList.zip args'.toList).foldl (fun tmps (x : Tmp × Value) => tmps.setIfInBounds x.1 x.2) y.tmps := by
          rw [← Array.foldl_toList, Array.toList_zip, hps]
        rw [htm]
        have hslots := putAll_spec ha hput g4.slots
        generalize (r.params.toList.zip args'.toList).foldl (fun tmps (x : Tmp × Value) => tmps.setIfInBounds x.1 x.2) y.tmps = tmps at hslots
        have hf0 : FrR β { slots, ntmps := r.ntmps, defers := [], roundOf := some l } (Frame.round l'.blk y.fn tmps y.assign y.body .normal) := ⟨hslots, rfl, ⟨l', g1, rfl⟩, rfl⟩
        split at h
        · rename_i f1 st1 hassign
          obtain ⟨β1, fr1, w1, h1, h2, h3, h4, h5, h6, h7, h8, h9⟩ := ih.code r.fn r.assign _ st .normal f1 st1 hassign go.1 β w (Frame.round l'.blk y.fn tmps y.assign y.body .normal) (c :: cs) [.beginRound, .code y.body] (by simp [Frame.round, g4.assign]) g4.fn hf0 hr
          split at h
          · cases h
          · rename_i st2 hbegin
            unfold beginA at hbegin
            split at hbegin
            · rename_i r2 hg2
              split at hbegin
              · rename_i hready
                obtain rfl := Option.some.inj hbegin
                obtain ⟨l2, k1, k2, kv, ko, y2, k3, k4⟩ := h3.blk _ _ hg2 rfl
                obtain rfl : l2 = l' := by have := h2 _ _ g1; rw [k1] at this; exact Option.some.inj this
                have hlp : BlkR P β1 l2 (.loop { r2 with state := .busy }) (some (.loop { y2 with state := .busy })) := ⟨kv, ko, _, rfl, ⟨rfl, k4.pending, k4.fn, k4.params, k4.assign, k4.body, k4.slots, k4.defers⟩⟩
                obtain ⟨q1, q2⟩ := h3.putObj hg2 rfl k1 hlp
                have hbr : (Instr.beginRound l2.blk).run P w1 = .ok () { w1 with heap := w1.heap.setIfInBounds l2.blk (.loop { y2 with state := .busy }) } := by
                  have hy2 : y2.state = .ready := by rw [k4.state]; exact hready
                  simp [Instr.beginRound, Instr.getLoop, run_getObj_of k3 (by intros; simp), run_setObj_of k3 (by intros; simp), hy2]
                have hro1 : fr1.roundOf = some l2.blk := by rw [h8]; rfl
                have hs1 := s_beginRound (P := P) (cs := c :: cs) h5.mode h9 hro1 hbr
                split at h
                · rename_i e f3 st3 hbody
                  obtain ⟨β3, fr3, w3, t1, t2, t3, t4, t5, t6, t7, t8, t9⟩ := ih.code r.fn r.body f1 _ e f3 st3 hbody go.2 β1 _ { fr1 with todo := [.code y.body] } (c :: cs) [] (by simp [g4.body]) (by show fr1.fn = r.fn; rw [h7]; exact g4.fn) (h5.todo _) q1
                  split at h
                  · rename_i st4 hd3 hend
                    unfold roundEndA at hend
                    split at hend
                    · rename_i r3 hg3
                      obtain rfl := Option.some.inj hend
                      simp only [Option.some.injEq, Prod.mk.injEq] at h
                      obtain ⟨rfl, rfl⟩ := h
                      obtain ⟨l3, m1, m2, mv, mo, y3, m3, m4⟩ := t3.blk _ _ hg3 rfl
                      obtain rfl : l3 = l2 := by have := t2 _ _ k1; rw [m1] at this; exact Option.some.inj this
                      have hlp3 : BlkR P β3 l3 (.loop { r3 with state := if (codeOfEx e).isNone then .ready else .done, pending := codeOfEx e }) (some (.loop { y3 with state := if (codeOfEx e).isNone then .ready else .done, pending := codeOfEx e })) := ⟨mv, mo, _, rfl, ⟨rfl, rfl, m4.fn, m4.params, m4.assign, m4.body, m4.slots, m4.defers⟩⟩
                      obtain ⟨u1, u2⟩ := t3.putObj hg3 rfl m1 hlp3
                      have her : (Instr.endRound l3.blk (codeOfEx e)).run P w3 = .ok (.bool (codeOfEx e).isNone) { w3 with heap := w3.heap.setIfInBounds l3.blk (.loop { y3 with state := if (codeOfEx e).isNone then .ready else .done, pending := codeOfEx e }) } := by
                        simp [Instr.endRound, Instr.getLoop, run_getObj_of m3 (by intros; simp), run_setObj_of m3 (by intros; simp)]
                      have hro3 : fr3.roundOf = some l3.blk := by rw [t8]; exact hro1
                      have hk3 : fr3.kind = .normal := by rw [t6]; show fr1.kind = _; rw [h6]; rfl
                      have hs3 := s_endRound (P := P) (c := c) (cs := cs) (jump := codeOfEx e) t5.mode hro3 hk3 (by
                        cases e with
                        | normal => exact Or.inl ⟨rfl, t9⟩
                        | exit id => obtain ⟨k2, e1, e2⟩ := t9; exact Or.inr (Or.inr ⟨id, k2, rfl, e1, by rw [e2]; rfl⟩)
                        | ret => obtain ⟨k2, e1⟩ := t9; exact Or.inr (Or.inl ⟨rfl, k2, e1⟩)) her
                      exact ⟨β3, _, _, ((h1.trans (.one hs1)).trans t1).trans (.one hs3), h2.trans t2, u1, ((h4.trans q2).trans t4).trans u2, rfl⟩
                    · cases hend
                  · cases h
                · cases h
              · cases hbegin
            · cases hbegin
        · cases h
  · cases h

theorem sound_all (hN : noNum P = true) (hct : CtOk P ct) : ∀ n K, Snd P ct K n
  | 0, _ => sound_zero
  | n + 1, K => ⟨sound_code hN hct (sound_all hN hct n), sound_ops hN (sound_all hN hct n K), sound_inloop (sound_all hN hct n K), sound_callF hct (sound_all hN hct n K), sound_defers hN (sound_all hN hct n K), sound_round (sound_all hN hct n K), sound_out hN (sound_all hN hct n K)⟩
end
end Go.VS
