/- Regions whose order is drawn are the machine's. No conditions. -/
import Derived.Test.YtbdeppefllcocaaVsDraw7
namespace Go.VS
set_option linter.unusedSimpArgs false
set_option linter.unusedVariables false
open Go.RowKit
section
variable {P : Program} {ct : Ct} {K : Prot} {ops : Array Oper} {bs cs : List Nat} {base : Nat} {R : Nat → Rec} {out : Out → Option (Value × St)} {ct : Ct}

def doneOf (listed : Array Bool) : Nat → Bool := fun j => listed.getD j true

theorem doneOf_set {listed : Array Bool} {i : Nat} (hi : i < listed.size) : doneOf (listed.setIfInBounds i true) = upd (doneOf listed) i := by
  funext j
  unfold doneOf upd
  simp only [Array.getD_eq_getD_getElem?, Array.getElem?_setIfInBounds]
  by_cases h : i = j
  · subst h; simp [hi]
  · have h' : ¬ j = i := fun e => h e.symm
    simp [h, h']

theorem getD_of {listed : Array Bool} {j : Nat} (h : listed.getD j false = true) : doneOf listed j = true := by
  unfold doneOf
  simp only [Array.getD_eq_getD_getElem?] at h ⊢
  cases hj : listed[j]? with
  | none => rfl
  | some b => rw [hj] at h; simpa using h

theorem done_getD {listed : Array Bool} {j : Nat} (h : doneOf listed j = true) (hj : j < listed.size) : listed.getD j false = true := by
  unfold doneOf at h
  simp only [Array.getD_eq_getD_getElem?] at h ⊢
  rw [Array.getElem?_eq_getElem hj] at h ⊢
  simpa using h

theorem draw_run {n : Nat} (hN : noNum P = true) (ih : ∀ K, Snd P ct K n) (hp : Plan P (evOut P ct n) ops bs cs base R) {css : List Frame} {k : List Item} :
    ∀ (fuel t : Nat) (listed : Array Bool) (m : Nat) (β : Env) (fr : Frame) (w : World), listed.size = ops.size → listed.toList.count false ≤ fuel → Inv P K ops bs base R (doneOf listed) m β fr w →
      fr.todo = .inRegion ops (Region.linearise.go .any ops fuel t listed []) :: k →
      ∃ m' β' fr' w', Steps P (lone fr css w) (lone fr' css w') ∧ β.le β' ∧ Bel K w w' ∧ fr'.kind = fr.kind ∧ fr'.fn = fr.fn ∧ fr'.roundOf = fr.roundOf ∧ fr'.todo = .inRegion ops [] :: k ∧ Inv P K ops bs base R (fun _ => true) m' β' fr' w' := by
  intro fuel
  induction fuel with
  | zero =>
    intro t listed m β fr w hsz hc hI ht
    have hall : doneOf listed = fun _ => true := by
      funext j
      unfold doneOf
      rw [Array.getD_eq_getD_getElem?]
      cases hj : listed[j]? with
      | none => rfl
      | some b =>
        cases b with
        | true => rfl
        | false =>
          have hm : false ∈ listed.toList := List.mem_of_getElem? (i := j) (by simpa using hj)
          have := List.count_pos_iff.2 hm
          omega
    rw [hall] at hI
    exact ⟨m, β, fr, w, Steps.refl _ _, Env.le.refl _, Bel.refl _ _, rfl, rfl, rfl, by simpa [Region.linearise.go] using ht, hI⟩
  | succ fuel ihf =>
    intro t listed m β fr w hsz hc hI ht
    simp only [Region.linearise.go] at ht
    change fr.todo = .inRegion ops (match (Region.ready .any ops listed)[t % (Region.ready .any ops listed).length]? with
      | some i => Region.linearise.go .any ops fuel (t / (Region.ready .any ops listed).length) (listed.setIfInBounds i true) [i]
      | none => [].reverse) :: k at ht
    cases hi : (Region.ready .any ops listed)[t % (Region.ready .any ops listed).length]? with
    | none =>
      have hnil : Region.ready .any ops listed = [] := by
        cases hr : Region.ready .any ops listed with
        | nil => rfl
        | cons x xs =>
          rw [hr] at hi
          have hlt : t % (x :: xs).length < (x :: xs).length := Nat.mod_lt _ (by simp)
          simp at hi
          simp at hlt
          omega
      have hall : ∀ j, doneOf listed j = true := by
        intro j
        induction j using Nat.strongRecOn with
        | _ j ihj =>
          cases hd : doneOf listed j with
          | true => rfl
          | false =>
            exfalso
            have hj : j < listed.size := by
              by_cases hj : j < listed.size
              · exact hj
              · unfold doneOf at hd
                rw [Array.getD_eq_getD_getElem?, Array.getElem?_eq_none (by omega)] at hd
                cases hd
            have hjo : ops[j]? = some ops[j] := Array.getElem?_eq_getElem (by omega)
            have : j ∈ Region.ready .any ops listed := by
              unfold Region.ready
              rw [List.mem_filter]
              refine ⟨List.mem_range.2 (by omega), ?_⟩
              have h1 : listed.getD j true = false := hd
              rw [h1, hjo]
              simp only [Bool.not_false, Bool.true_and, Option.map_some, Option.getD_some]
              rw [Array.all_eq_true_iff_forall_mem]
              intro e he
              cases hb : Region.binds .any e with
              | false => rfl
              | true =>
                have hlt := hp.edges j _ hjo e he hb
                simp [done_getD (ihj e.on hlt) (by omega)]
            rw [hnil] at this
            cases this
      have hall' : doneOf listed = fun _ => true := funext hall
      rw [hi] at ht
      rw [hall'] at hI
      exact ⟨m, β, fr, w, Steps.refl _ _, Env.le.refl _, Bel.refl _ _, rfl, rfl, rfl, ht, hI⟩
    | some i =>
      rw [hi] at ht
      simp only at ht
      rw [linearise_go_acc, List.reverse_singleton, List.singleton_append] at ht
      have hmem := List.mem_of_getElem? hi
      unfold Region.ready at hmem
      rw [List.mem_filter, Bool.and_eq_true, Bool.not_eq_true', List.mem_range] at hmem
      obtain ⟨hlt, hDi, hrdy⟩ := hmem
      have ho : ops[i]? = some ops[i] := Array.getElem?_eq_getElem hlt
      rw [ho] at hrdy
      simp only [Option.map_some, Option.getD_some] at hrdy
      rw [Array.all_eq_true_iff_forall_mem] at hrdy
      have hready : ∀ j, bitOf bs i j = true → doneOf listed j = true := by
        intro j hb
        obtain ⟨e, h1, h2, h3⟩ := hp.bits i _ j ho hb
        have he := hrdy e h1
        rw [h2] at he
        have hdone := getD_of (by simpa using he)
        rcases h3 with h3 | h3
        · rw [← h3]; exact hdone
        · exact hI.closed e.on j (by have := hp.edges i _ ho e h1 h2; omega) hdone h3
      obtain ⟨m1, β1, v', w1, q1, q2, q3, q4⟩ := hI.one (css := css) hN ih hp ho hDi hready ht
      rw [← doneOf_set (by omega)] at q4
      have hcount : (listed.setIfInBounds i true).toList.count false ≤ fuel := by
        have hli : i < listed.toList.length := by simp; omega
        have hfalse : listed.toList[i] = false := by
          have : doneOf listed i = false := hDi
          unfold doneOf at this
          rw [Array.getD_eq_getD_getElem?, Array.getElem?_eq_getElem (by omega)] at this
          simpa using this
        rw [Array.toList_setIfInBounds, List.count_set hli, hfalse]
        generalize listed.toList.count false = c at hc ⊢
        simp
        omega
      obtain ⟨m', β', fr', w', r1, r2, r3, r4, r5, r6, r7, r8⟩ := ihf (t / (Region.ready .any ops listed).length) (listed.setIfInBounds i true) m1 β1 _ w1 (by simp [hsz]) hcount q4 rfl
      exact ⟨m', β', fr', w', q1.trans r1, q2.trans r2, q3.trans r3, r4, r5, r6, r7, r8⟩

theorem Inv.start {β : Env} {f : Fr} {st : St} {fr : Frame} {w : World} (hp : Plan P out ops bs cs st.next R) (hf : FrR β f fr) (hr : Rel P K β st w) (h0 : (R 0).f = f) (h1 : (R 0).st = { st with next := st.next + ops.size }) (todo : List Item) :
    Inv P K ops bs st.next R (doneOf (Array.replicate ops.size false)) 0 β { fr with todo := todo } w.drew := by
  have hd : ∀ j, j < ops.size → doneOf (Array.replicate ops.size false) j = false := by
    intro j hj
    simp [doneOf, Array.getD_eq_getD_getElem?, Array.getElem?_replicate, hj]
  refine ⟨fun i j hi h => ?_, fun a ha => (hr.res a ha).1, Or.inl rfl, fun c o hc _ => ?_, fun j hj => ?_, ?_, fun t => ?_, ?_, ?_, hf.mode, ?_, fun j b hj h => ?_, fun j j' b b' l l' hj _ h => ?_⟩
  · rw [hd i hi] at h; cases h
  · rw [hd c (Array.getElem?_eq_some_iff.1 hc).1]; simp
  · rw [hp.m0] at hj; simp at hj
  · rw [h0]; exact hf.slots.1
  · have hs : ∀ n, n ≤ ops.size → sv ops R (doneOf (Array.replicate ops.size false)) n t = (R 0).f.slots.get t := by
      intro n
      induction n with
      | zero => intro _; rfl
      | succ n ih =>
        intro h
        simp only [sv, hd n (by omega)]
        simpa using ih (by omega)
    rw [hs ops.size (Nat.le_refl _), h0]; exact hf.slots.2 t
  · rw [h0]; exact hf.defers
  · rw [h0]; exact hf.round
  · rw [h1]
    have hr := hr.drew
    have hblk : ∀ k, (KD K ops st.next R (doneOf (Array.replicate ops.size false)) 0 β).blk k → K k := by
      rintro k (h | ⟨j, b, l, g1, g2, g3, _⟩)
      · exact h
      · rw [hd j g2] at g3; cases g3
    have hblkz : ∀ k, (KD K ops st.next R (doneOf (Array.replicate ops.size false)) 0 β).nofz k → K.nofz k := by
      rintro k (h | ⟨j, b, l, g1, g2, g3, _⟩)
      · exact h
      · rw [hd j g2] at g3; cases g3
    refine ⟨fun k hk => hr.base k (hblk k hk), fun i l hi => ?_, fun i b hi hb => ?_, hr.inj, fun a ha => ?_, fun k l hk hn => hr.nofz k l hk (hblkz k hn), hr.frz, hr.objs.step rfl (Env.le.refl _) (Nat.le_refl _) (fun _ _ _ => rfl) (fun _ _ => Iff.rfl) (fun i k o l _ _ _ hKk hf hj => ⟨rfl, fun hk => hKk (hblk k hk), hf, hj⟩)⟩
    · obtain ⟨g1, g2⟩ := hr.dom i l hi
      exact ⟨Nat.lt_of_lt_of_le g1 (Nat.le_add_right _ _), g2⟩
    · obtain ⟨l, g1, g2, g3⟩ := hr.blk i b hi hb
      exact ⟨l, g1, fun hv hk => g2 hv (hblk _ hk), g3⟩
    · rcases ha with ha | ⟨j, g1, g2, g3⟩
      · obtain ⟨q1, q2⟩ := hr.res a ha
        exact ⟨Nat.lt_of_lt_of_le q1 (Nat.le_add_right _ _), q2⟩
      · refine ⟨by show a < st.next + ops.size; omega, ?_⟩
        cases hb : β a with
        | none => rfl
        | some l => have := (hr.dom a l hb).1; omega
  · rw [hd j hj] at h; cases h
  · rw [hd j hj] at h; cases h

theorem draw_sound {n : Nat} (hN : noNum P = true) (ih : ∀ K, Snd P ct K n) {id : Nat} {f f' : Fr} {st st' : St} (h : drawRegion P (evOut P ct n) ops f st = some (f', st')) {β : Env} {w : World} {fr : Frame} {css : List Frame} {k : List Item}
    (ht : fr.todo = .code (.region id ops true) :: k) (hf : FrR β f fr) (hr : Rel P K β st w) : Reaches P K β fr css w .normal k f' st' := by
  obtain ⟨hm, bs, cs, R, hp, h0, h1, h2, h3⟩ := drawRegion_spec h
  obtain ⟨t, hs⟩ := s_region_draw (P := P) (cs := css) (w := w) hf.mode ht
  rw [hm] at hs
  simp only [Region.schedule, Bool.true_or, if_true] at hs
  unfold Region.linearise at hs
  have hI := Inv.start hp hf hr h0 h1 (.inRegion ops (Region.linearise.go .any ops ops.size t (Array.replicate ops.size false) []) :: k)
  obtain ⟨m', β', fr', w', r1, r2, r3, r4, r5, r6, r7, r8⟩ := draw_run (css := css) (k := k) hN ih hp ops.size t (Array.replicate ops.size false) 0 β _ _ (by simp) (by
    refine Nat.le_trans (List.count_le_length) ?_
    simp) hI rfl
  have hmsz : m' ≤ ops.size := by
    rcases r8.rep with h | ⟨c, o, hc, _, h⟩
    · omega
    · have := (Array.getElem?_eq_some_iff.1 hc).1; omega
  obtain ⟨e1, e2, _⟩ := hp.seg m' (ops.size - m') (by omega) (fun c o hc hcc h5 h6 => by
    have := (r8.chain c o hc hcc).1 rfl
    omega)
  have hme : m' + (ops.size - m') = ops.size := by omega
  rw [hme] at e1 e2
  obtain ⟨f1, f2, f3, f4⟩ := hp.frame ops.size (Nat.le_refl _)
  refine ⟨β', { fr' with todo := k }, w', ((Steps.one hs).trans r1).trans (.one (s_region_end r8.mode r7)), r2, ?_, ?_, ?_, r4, r5, r6, rfl⟩
  · rw [h3, e1]
    have hsel : ∀ j b, (j, b) ∈ (R ops.size).pend → (!(R ops.size).m.testBit j) = true → j < ops.size ∧ (R j).b = some b ∧ (R m').m.testBit j = false := by
      intro j b hj hs
      obtain ⟨g1, g2⟩ := (hp.pend ops.size (Nat.le_refl _) j b).1 hj
      exact ⟨g1, g2, by rw [← e2]; simpa using hs⟩
    refine r8.rel.wake (K' := K) rfl (fun k hk => Or.inl hk) (fun i hi => Or.inl hi) (fun k hk => Or.inl hk) ?_ ?_
    · intro j b hj hs
      obtain ⟨a1, a2, a3⟩ := hsel j b hj hs
      obtain ⟨l, g1, g2, g3, g5, g4⟩ := r8.news j b a1 rfl a2 a3
      exact ⟨l, g1, Or.inr ⟨j, b, l, a2, a1, rfl, a3, g1, rfl⟩, g3, ⟨g5.1, g5.2, Or.inr ⟨j, b, l, a2, a1, rfl, a3, g1, rfl⟩⟩, g4⟩
    · intro j b j' b' l l' hj hs hj' hs' hl hl' e
      obtain ⟨a1, a2, a3⟩ := hsel j b hj hs
      obtain ⟨c1, c2, c3⟩ := hsel j' b' hj' hs'
      exact r8.apart j j' b b' l l' a1 c1 rfl rfl a2 c2 a3 c3 hl hl' e
  · exact ((Bel.refl K w).drew).trans r3
  · refine ⟨⟨?_, fun t => ?_⟩, ?_, ?_, r8.mode⟩
    · rw [h2, f1]; exact r8.size
    · rw [h2, f4 t]; exact r8.slot t
    · rw [h2, f2]; exact r8.defers
    · rw [h2, f3]; exact r8.round

theorem sound_out {n : Nat} (hN : noNum P = true) (ih : Snd P ct K n) : ∀ ρ o st x v st', evOp P ρ o st = some x → evOut P ct (n + 1) x = some (v, st') → ∀ β w fr cs k ops i rest, fr.mode = .run → fr.todo = .inRegion ops (i :: rest) :: k → ops[i]? = some o → Region.wanted o (yielded ops fr.tmps) = true →
    (∀ y, VR β (ρ y) (fr.eval y)) → Rel P K β st w →
    ∃ β1 w1 v', Steps P (lone fr cs w) (lone (putF fr o v' (.inRegion ops rest :: k)) cs w1) ∧ β.le β1 ∧ Rel P K β1 st' w1 ∧ Bel K w w1 ∧ VR β1 v v' := by
  intro ρ o st x v st' hop hout β w fr cs k ops i rest hm ht ho hw hρ hr
  have und : ∀ β' : Env, VR β' undef undef := fun β' => ⟨#[], rfl, VRL.nil (β := β')⟩
  have hnd : (∀ d s, x ≠ .defer d s) → fr.roundOf = none ∨ isDefer o.op = false := by
    intro hne
    right
    cases hd : isDefer o.op with
    | false => rfl
    | true =>
      exfalso
      obtain ⟨dst, op, type, pos, after, guard⟩ := o
      cases op <;> first | (simp [isDefer] at hd; done) | skip
      rename_i c
      simp only [evOp] at hop
      split at hop
      · cases hop
      · obtain rfl := Option.some.inj hop; exact hne _ _ rfl
      · split at hop
        · obtain rfl := Option.some.inj hop; exact hne _ _ rfl
        · cases hop
  cases x with
  | val v1 st1 =>
    simp only [evOut, Option.some.injEq, Prod.mk.injEq] at hout
    obtain ⟨rfl, rfl⟩ := hout
    obtain ⟨β1, w1, v', r1, r2, r3, r4, r5⟩ := evOp_sound hN hr hρ hop
    exact ⟨β1, w1, v', .one (s_op_value hm ht ho hw (hnd (by intros; simp)) r1), r2, r3, r5, r4⟩
  | skip st1 =>
    simp only [evOut, Option.some.injEq, Prod.mk.injEq] at hout
    obtain ⟨rfl, rfl⟩ := hout
    obtain ⟨β1, w1, r1, r2, r3, r5⟩ := evOp_sound hN hr hρ hop
    exact ⟨β1, w1, undef, .one (s_op_unit hm ht ho hw (hnd (by intros; simp)) r1), r2, r3, r5, und _⟩
  | enter g args st1 =>
    simp only [evOut] at hout
    obtain ⟨rfl, args', r1, r2⟩ := evOp_sound hN hr hρ hop
    obtain ⟨β1, fr1, w1, v', q1, q2, q3, q4, q5, q6, q7, q8, q9, fn, q10, q11⟩ := ih.call g args _ v st' hout β w args' .normal (fr :: cs) (Or.inl rfl) r2 hr
    have hs1 := s_op_enter (P := P) (cs := cs) hm ht ho hw (hnd (by intros; simp)) r1
    have hs2 := s_return (P := P) (cs := cs) (c := fr) q6 q7 q8 (by rw [q9]; exact q10) q11
    rw [finish_region ht ho] at hs2
    exact ⟨β1, w1, v', (Steps.one (by exact hs1)).trans (q1.trans (.one hs2)), q2, q3, q4, q5⟩
  | defer d st1 => simp [evOut] at hout
  | round l args st1 =>
    simp only [evOut] at hout
    obtain ⟨rfl, ll, args', r1, r2, r3⟩ := evOp_sound hN hr hρ hop
    obtain ⟨g, tmps, a, b, q0, β1, w1, v', q1, q2, q3, q4, q5⟩ := ih.round l args _ v st' hout β w ll args' fr cs _ r1 r2 hr rfl
    have hs1 := s_op_round (P := P) (cs := cs) hm ht ho hw (hnd (by intros; simp)) (by rw [r3]; exact q0)
    rw [finish_region ht ho] at q1
    exact ⟨β1, w1, v', (Steps.one hs1).trans q1, q2, q3, q4, q5⟩
end
end Go.VS
