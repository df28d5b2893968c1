/- Calls whose outcome was reckoned ahead, with all that they read and leave in memory. No conditions. -/
import Derived.Test.YtdhloodnajdfbaaGreatVsFast3
namespace Go.VS
set_option linter.unusedSimpArgs false
set_option linter.unusedVariables false
open Go.RowKit
section
variable {P : Program} {ct : Ct}

/-- A part of the memory is taken out and put back: the rest stays. -/
theorem Rel.part {K : Prot} {β : Env} {st st0 : St} {w : World} (h : Rel P K β st w) (hnx : st0.next = st.next) (hsub : ∀ i b, st0.heap.get i = some b → b.live = true → st.heap.get i = some b)
    (hno : ∀ i o, st0.heap.get i ≠ some (.obj o)) :
    ∃ K' : Prot, (∀ k, K k → K' k) ∧ K'.id = K.id ∧ Rel P K' β st0 w ∧ ∀ (β' : Env) (st1 st2 : St) (w' : World), β.le β' → Rel P K' β' st1 w' → Bel K' w w' → st.next ≤ st1.next → (∀ i o, st1.heap.get i ≠ some (.obj o)) →
      st2.next = st1.next → (∀ i b, st2.heap.get i = some b → b.live = true → st1.heap.get i = some b ∨ ((∀ c, st1.heap.get i = some c → c.live = false) ∧ (∀ c, st0.heap.get i = some c → c.live = false) ∧ st.heap.get i = some b)) →
      (∀ i o, st.heap.get i = some (.obj o) → (∀ c, st1.heap.get i = some c → c.live = false) → st2.heap.get i = some (.obj o)) → Rel P K β' st2 w' := by
  obtain ⟨fp, o1, o2⟩ := h.objs
  have hobjs := h.objs
  let gone : Nat → Prop := fun k => ∃ i b l, st.heap.get i = some b ∧ b.live = true ∧ (∀ c, st0.heap.get i = some c → c.live = false) ∧ β (i : Int) = some l ∧ l.virt = false ∧ l.blk = k
  let foot : Nat → Prop := fun k => ∃ i, fp i k
  let K' : Prot := ⟨fun k => K k ∨ gone k ∨ foot k, K.id, fun k => K.nofz k ∨ gone k ∨ foot k, K.obs⟩
  have hr0 : Rel P K' β st0 w := by
    refine ⟨fun k hk => ?_, fun i l hi => by rw [hnx]; exact h.dom i l hi, fun i b hi hb => ?_, fun i j bi bj li lj hi hbi hj hbj => h.inj i j bi bj li lj (hsub i bi hi hbi) hbi (hsub j bj hj hbj) hbj, fun i hi => by rw [hnx]; exact h.res i hi, fun k l hk => ?_, fun k l hk => ?_, ?_⟩
    · rcases hk with hk | ⟨i, b, l, a1, a2, a3, a4, a5, rfl⟩ | ⟨i, hk⟩
      · exact h.base k hk
      · exact (h.dom i l a4).2 a5
      · exact (o2 i k hk).2.1
    · obtain ⟨l, c1, c2, c3⟩ := h.blk i b (hsub i b hi hb) hb
      refine ⟨l, c1, fun hv hK => ?_, c3⟩
      rcases hK with hK | ⟨j, bj, lj, a1, a2, a3, a4, a5, a6⟩ | ⟨j, hK⟩
      · exact c2 hv hK
      · have := h.inj i j b bj l lj (hsub i b hi hb) hb a1 a2 c1 a4 hv a5 a6.symm
        subst this
        have := a3 b hi
        rw [hb] at this; cases this
      · have := (o2 j _ hK).2.2.2.2.2 i b l (hsub i b hi hb) hb c1 hv rfl
        subst this
        obtain ⟨⟨o, ho⟩, _⟩ := o2 i _ hK
        rw [hsub i b hi hb] at ho
        cases ho
        exact hno i o hi
    · rintro (hf | ⟨j, bj, lj, a1, a2, a3, a4, a5, a6⟩ | ⟨j, hK⟩)
      · exact h.nofz k l hk hf
      · exact (h.frz k l hk).2.2 j bj lj a1 a2 a4 a5 a6
      · have := (o2 j k hK).2.2.2.1
        rw [hk] at this; cases this
    · obtain ⟨f1, f2, f3⟩ := h.frz k l hk
      exact ⟨f1, f2, fun j bj lj hj hbj => f3 j bj lj (hsub j bj hj hbj) hbj⟩
    · exact ⟨fun _ _ => False, fun i o hi => absurd hi (hno i o), fun i k hk => hk.elim⟩
  refine ⟨K', fun k hk => Or.inl hk, rfl, hr0, fun β' st1 st2 w' hle h1 hb hnx1 hno1 hnx2 hget hobj => ?_⟩
  have hrest : ∀ (i : Nat) b, st.heap.get i = some b → b.live = true → (∀ c, st0.heap.get i = some c → c.live = false) → ∃ l, β i = some l ∧ β' i = some l ∧ (l.virt = false → ¬ K l.blk ∧ gone l.blk) ∧ BlkR P β' l b w'.heap[l.blk]? := by
    intro i b hi hl hn
    obtain ⟨l, c1, c2, c3⟩ := h.blk i b hi hl
    refine ⟨l, c1, hle _ _ c1, fun hv => ⟨c2 hv, ⟨i, b, l, hi, hl, hn, c1, hv, rfl⟩⟩, ?_⟩
    cases hv : l.virt with
    | true => exact (c3.mono hle).anywhere hv _
    | false => rw [hb.block l.blk (Or.inr (Or.inl ⟨i, b, l, hi, hl, hn, c1, hv, rfl⟩))]; exact c3.mono hle
  refine ⟨fun k hk => Nat.lt_of_lt_of_le (h.base k hk) hb.size, fun i l hi => by rw [hnx2]; exact h1.dom i l hi, fun i b hi hl => ?_, fun i j bi bj li lj hi hbi hj hbj hli hlj v1 v2 e => ?_, fun i hi => by rw [hnx2]; exact h1.res i hi, fun k l hk hf => h1.nofz k l hk (Or.inl hf), fun k l hk => ?_, ?_⟩
  · rcases hget i b hi hl with g | ⟨_, g2, g3⟩
    · obtain ⟨l, c1, c2, c3⟩ := h1.blk i b g hl
      exact ⟨l, c1, fun hv hK => c2 hv (Or.inl hK), c3⟩
    · obtain ⟨l, _, c1, c2, c3⟩ := hrest i b g3 hl g2
      exact ⟨l, c1, fun hv => (c2 hv).1, c3⟩
  · rcases hget i bi hi hbi with g | ⟨_, g2, g3⟩ <;> rcases hget j bj hj hbj with g' | ⟨_, g2', g3'⟩
    · exact h1.inj i j bi bj li lj g hbi g' hbj hli hlj v1 v2 e
    · obtain ⟨l, c0, c1, c2, _⟩ := hrest j bj g3' hbj g2'
      rw [c1] at hlj; obtain rfl := Option.some.inj hlj
      obtain ⟨l', d1, d2, _⟩ := h1.blk i bi g hbi
      rw [d1] at hli; obtain rfl := Option.some.inj hli
      exact absurd (Or.inr (Or.inl (e ▸ (c2 v2).2))) (d2 v1)
    · obtain ⟨l, c0, c1, c2, _⟩ := hrest i bi g3 hbi g2
      rw [c1] at hli; obtain rfl := Option.some.inj hli
      obtain ⟨l', d1, d2, _⟩ := h1.blk j bj g' hbj
      rw [d1] at hlj; obtain rfl := Option.some.inj hlj
      exact absurd (Or.inr (Or.inl (e ▸ (c2 v1).2))) (d2 v2)
    · obtain ⟨l, c0, c1, _⟩ := hrest i bi g3 hbi g2
      obtain ⟨l', c0', c1', _⟩ := hrest j bj g3' hbj g2'
      rw [c1] at hli; obtain rfl := Option.some.inj hli
      rw [c1'] at hlj; obtain rfl := Option.some.inj hlj
      exact h.inj i j bi bj _ _ g3 hbi g3' hbj c0 c0' v1 v2 e
  · obtain ⟨f1, f2, f3⟩ := h1.frz k l hk
    refine ⟨f1, f2, fun j bj lj hj hbj hlj hv => ?_⟩
    rcases hget j bj hj hbj with g | ⟨_, g2, g3⟩
    · exact f3 j bj lj g hbj hlj hv
    · obtain ⟨l', _, c1, c2, _⟩ := hrest j bj g3 hbj g2
      rw [c1] at hlj; obtain rfl := Option.some.inj hlj
      intro e
      exact h1.nofz k l hk (Or.inr (Or.inl (e ▸ (c2 hv).2)))
  · refine ⟨fp, fun i o hi => ?_, fun i k hk => ?_⟩
    · have hi' : st.heap.get i = some (.obj o) := by
        rcases hget i _ hi rfl with g | ⟨_, _, g⟩
        · exact absurd g (hno1 i o)
        · exact g
      obtain ⟨l, a, b, c⟩ := o1 i o hi'
      refine ⟨l, hle _ _ a, b, K.obs.mono _ _ _ _ _ _ _ c (negE_mono hle) hb.size (fun k hk => hb.block k (Or.inr (Or.inr ⟨i, hk⟩))) fun k l hk => ?_⟩
      obtain ⟨_, f2, _⟩ := h.frz k l hk
      obtain ⟨_, f2', _⟩ := h1.frz k l (hle _ _ hk)
      rw [f2, f2']
    · obtain ⟨⟨o, ho⟩, a1, a2, a3, a4, a5⟩ := o2 i k hk
      have hdead : ∀ c, st1.heap.get i = some c → c.live = false := by
        intro c hc
        cases hcl : c.live with
        | false => rfl
        | true =>
          obtain ⟨l', d1, d2, _⟩ := h1.blk i c hc hcl
          obtain ⟨l, e1, e2, e3⟩ := h.blk i _ ho rfl
          have e3 : l.virt = false := e3
          rw [hle _ _ e1] at d1
          obtain rfl := Option.some.inj d1
          refine absurd (Or.inr (Or.inl ⟨i, .obj o, l, ho, rfl, fun c hc => ?_, e1, e3, rfl⟩)) (d2 e3)
          cases hcl : c.live with
          | false => rfl
          | true =>
            have := hsub i c hc hcl
            rw [ho] at this
            obtain rfl := Option.some.inj this
            exact absurd hc (hno i o)
      refine ⟨⟨o, hobj i o ho hdead⟩, Nat.lt_of_lt_of_le a1 hb.size, a2, ?_, a4, fun j bj lj hj hbj hlj hv e => ?_⟩
      · cases hx : β' (Int.negSucc k) with
        | none => rfl
        | some l => exact absurd (Or.inr (Or.inr ⟨i, hk⟩)) (h1.nofz k l hx)
      · rcases hget j bj hj hbj with g | ⟨_, g2, g3⟩
        · obtain ⟨l', d1, d2, _⟩ := h1.blk j bj g hbj
          rw [d1] at hlj; obtain rfl := Option.some.inj hlj
          exact absurd (Or.inr (Or.inr ⟨i, e ▸ hk⟩)) (d2 hv)
        · obtain ⟨l', c0, c1, _⟩ := hrest j bj g3 hbj g2
          rw [c1] at hlj; obtain rfl := Option.some.inj hlj
          exact a5 j bj _ g3 hbj c0 hv e

/-! ### a call, its arguments, all that it reads; what it answers, and leaves -/
structure Memo where
  g : FuncId
  args : List Value
  next : Nat
  pre : List (Nat × Blk)
  v : Value
  next' : Nat
  post : List (Nat × Blk)

/-- Bytes as cells. -/
noncomputable def u8s (l : List Nat) : List Value := @List.rec Nat (fun _ => List Value) [] (fun n _ ih => .int .u8 (.ofNat n) :: ih) l
noncomputable def putM (l : List (Nat × Blk)) : Trie Blk → Trie Blk :=
  @List.rec (Nat × Blk) (fun _ => Trie Blk → Trie Blk) (fun t => t) (fun p _ ih t => ih (setP (path p.1) t p.2)) l
noncomputable def deadM (l : List (Nat × Blk)) : Trie Blk → Trie Blk :=
  @List.rec (Nat × Blk) (fun _ => Trie Blk → Trie Blk) (fun t => t) (fun p _ ih t => ih (setP (path p.1) t .dead)) l
noncomputable def stOf (l : List (Nat × Blk)) (next : Nat) : St := ⟨putM l .leaf, next⟩

def beqE : List MapEntry → List MapEntry → Bool
  | [], [] => true
  | x :: xs, y :: ys => beqV x.key y.key && beqV x.val y.val && Nat.beq x.born y.born && beqE xs ys
  | _, _ => false
def beqB : Blk → Blk → Bool
  | .cells c e x, .cells c' e' x' => Nat.beq e e' && (x == x') && beqVL c c'
  | .map es c, .map es' c' => Nat.beq c c' && beqE es es'
  | _, _ => false
theorem beqE_eq : ∀ {a b : List MapEntry}, beqE a b = true → a = b
  | [], [], _ => rfl
  | [], _ :: _, h => by cases h
  | _ :: _, [], h => by cases h
  | x :: xs, y :: ys, h => by
    simp only [beqE, Bool.and_eq_true] at h
    obtain ⟨⟨⟨h1, h2⟩, h3⟩, h4⟩ := h
    obtain ⟨k, v, b⟩ := x
    obtain ⟨k', v', b'⟩ := y
    simp only at h1 h2 h3
    rw [beqV_eq _ _ h1, beqV_eq _ _ h2, Nat.eq_of_beq_eq_true h3, beqE_eq h4]
theorem beqB_eq {a b : Blk} (h : beqB a b = true) : a = b := by
  unfold beqB at h
  split at h
  · simp only [Bool.and_eq_true, beq_iff_eq] at h
    rw [Nat.eq_of_beq_eq_true h.1.1, h.1.2, beqVL_eq _ _ h.2]
  · simp only [Bool.and_eq_true] at h
    rw [Nat.eq_of_beq_eq_true h.1, beqE_eq h.2]
  · cases h
theorem beqB_live {a b : Blk} (h : beqB a b = true) : a.live = true ∧ a.isObj = false := by
  unfold beqB at h
  split at h <;> first | exact ⟨rfl, rfl⟩ | cases h

noncomputable def hasM (t : Trie Blk) (l : List (Nat × Blk)) : Bool :=
  @List.rec (Nat × Blk) (fun _ => Bool) true (fun p _ ih => match getP (path p.1) t with
    | some b => @Bool.rec (fun _ => Bool) false ih (beqB p.2 b)
    | none => false) l

def lastM (l : List (Nat × Blk)) (i : Nat) (d : Option Blk) : Option Blk := match l with
  | [] => d
  | p :: l => lastM l i (if i = p.1 then some p.2 else d)
theorem putM_get : ∀ (l : List (Nat × Blk)) (t : Trie Blk) (i : Nat), (putM l t).get i = lastM l i (t.get i)
  | [], t, i => rfl
  | p :: l, t, i => by
    show (putM l (setP (path p.1) t p.2)).get i = _
    rw [putM_get l, setP_path, Trie.get_set]
    rfl
theorem deadM_get : ∀ (l : List (Nat × Blk)) (t : Trie Blk) (i : Nat), (deadM l t).get i = if i ∈ l.map (·.1) then some .dead else t.get i
  | [], t, i => by simp [deadM]
  | p :: l, t, i => by
    show (deadM l (setP (path p.1) t .dead)).get i = _
    rw [deadM_get l, setP_path, Trie.get_set]
    by_cases h : i ∈ l.map (·.1)
    · rw [if_pos h, if_pos (by simp only [List.map_cons, List.mem_cons]; exact Or.inr h)]
    · rw [if_neg h]
      by_cases h2 : i = p.1
      · rw [if_pos h2, if_pos (by simp [h2])]
      · rw [if_neg h2, if_neg (by simp only [List.map_cons, List.mem_cons, not_or]; exact ⟨h2, h⟩)]
theorem lastM_cases : ∀ (l : List (Nat × Blk)) (i : Nat) (d : Option Blk), (i ∉ l.map (·.1) ∧ lastM l i d = d) ∨ (i ∈ l.map (·.1) ∧ ∃ b, (i, b) ∈ l ∧ lastM l i d = some b)
  | [], i, d => Or.inl ⟨by simp, rfl⟩
  | p :: l, i, d => by
    simp only [lastM]
    rcases lastM_cases l i (if i = p.1 then some p.2 else d) with ⟨h1, h2⟩ | ⟨h1, b, h2, h3⟩
    · by_cases h : i = p.1
      · refine Or.inr ⟨by simp [h], p.2, by rw [h]; simp, ?_⟩
        rw [h2, if_pos h]
      · refine Or.inl ⟨by simp only [List.map_cons, List.mem_cons, not_or]; exact ⟨h, h1⟩, ?_⟩
        rw [h2, if_neg h]
    · exact Or.inr ⟨by simp only [List.map_cons, List.mem_cons]; exact Or.inr h1, b, List.mem_cons_of_mem _ h2, h3⟩
theorem lastM_any {i : Nat} : ∀ {l : List (Nat × Blk)}, i ∈ l.map (·.1) → ∀ (d d' : Option Blk), lastM l i d = lastM l i d'
  | [], h, _, _ => by cases h
  | p :: l, h, d, d' => by
    simp only [lastM]
    by_cases hp : i = p.1
    · rw [if_pos hp, if_pos hp]
    · rw [if_neg hp, if_neg hp]
      simp only [List.map_cons, List.mem_cons] at h
      exact lastM_any (h.resolve_left hp) d d'
theorem hasM_mem {t : Trie Blk} : ∀ {l : List (Nat × Blk)}, hasM t l = true → ∀ {i b}, (i, b) ∈ l → t.get i = some b ∧ b.live = true ∧ b.isObj = false
  | [], _, i, b, h => by cases h
  | p :: l, hm, i, b, h => by
    change (match getP (path p.1) t with
      | some b => @Bool.rec (fun _ => Bool) false (hasM t l) (beqB p.2 b)
      | none => false) = true at hm
    rw [getP_path] at hm
    split at hm
    · rename_i b' hb'
      cases hq : beqB p.2 b' with
      | false => rw [hq] at hm; cases hm
      | true =>
        rw [hq] at hm
        rcases List.mem_cons.1 h with h | h
        · subst h
          obtain rfl := beqB_eq hq
          exact ⟨hb', beqB_live hq⟩
        · exact hasM_mem hm h
    · cases hm

/-- Does what was reckoned ahead fit here? -/
noncomputable def fitsM (m : Memo) (g : FuncId) (args : List Value) (st : St) : Bool := and (Nat.beq m.next st.next) (and (beqVL m.args args) (hasM st.heap m.pre))
noncomputable def overM (m : Memo) (st : St) : St := ⟨putM m.post (deadM m.pre st.heap), m.next'⟩

def MemoOk (P : Program) (m : Memo) : Prop := ∀ K β w args' cs, VRL β m.args args'.toList → Rel P K β (stOf m.pre m.next) w → CallReach P K β m.g args' .normal cs w m.v (stOf m.post m.next') ∧ m.next ≤ m.next' ∧ ∀ i b, (i, b) ∈ m.post → b.live = true ∧ b.isObj = false

noncomputable def memoCt (l : List Memo) (g : FuncId) (args : List Value) (st : St) (other : Option (DT (Value × St))) : Option (DT (Value × St)) :=
  @List.rec Memo (fun _ => Option (DT (Value × St))) other (fun m _ ih => match and (Nat.beq m.g g) (Nat.beq m.next st.next) with
    | true => some (.ite (fitsM m g args st) (.leaf (m.v, overM m st)) .fail)
    | false => ih) l
noncomputable def addMemo (l : List Memo) (ct : Ct) : Ct where
  call := fun g args st => memoCt l g args st (ct.call g args st)
  loop := ct.loop

theorem memo_use {m : Memo} (hm : MemoOk P m) {K : Prot} {β : Env} {st : St} {w : World} {args : List Value} {args' : Array Value} {cs : List Frame} (hf : fitsM m m.g args st = true) (ha : VRL β args args'.toList) (hr : Rel P K β st w) :
    CallReach P K β m.g args' .normal cs w m.v (overM m st) := by
  unfold fitsM at hf
  simp only [Bool.and_eq_true] at hf
  obtain ⟨f1, f2, f3⟩ := hf
  have f1 := Nat.eq_of_beq_eq_true f1
  obtain rfl := beqVL_eq _ _ f2
  have h0 : ∀ i, (stOf m.pre m.next).heap.get i = lastM m.pre i none := by
    intro i
    show (putM m.pre .leaf).get i = _
    rw [putM_get]; rfl
  obtain ⟨K', k1, k2, k3, k4⟩ := hr.part (st0 := stOf m.pre m.next) f1 (fun i b hi _ => by
    rw [h0] at hi
    rcases lastM_cases m.pre i none with ⟨_, e⟩ | ⟨_, b', hb', e⟩
    · rw [e] at hi; cases hi
    · rw [e] at hi; obtain rfl := Option.some.inj hi
      exact (hasM_mem f3 hb').1) (fun i o hi => by
    rw [h0] at hi
    rcases lastM_cases m.pre i none with ⟨_, e⟩ | ⟨_, b', hb', e⟩
    · rw [e] at hi; cases hi
    · rw [e] at hi; obtain rfl := Option.some.inj hi
      have := (hasM_mem f3 hb').2.2
      cases this)
  obtain ⟨⟨β', fr, w', v', c1, c2, c3, c4, c5, c6⟩, hn, hob⟩ := hm K' β w args' cs ha k3
  have h1 : ∀ i, (stOf m.post m.next').heap.get i = lastM m.post i none := by
    intro i
    show (putM m.post .leaf).get i = _
    rw [putM_get]; rfl
  have h2 : ∀ i, (overM m st).heap.get i = lastM m.post i (if i ∈ m.pre.map (·.1) then some .dead else st.heap.get i) := by
    intro i
    show (putM m.post (deadM m.pre st.heap)).get i = _
    rw [putM_get, deadM_get]
  have hno1 : ∀ i o, (stOf m.post m.next').heap.get i ≠ some (.obj o) := by
    intro i o hi
    rw [h1] at hi
    rcases lastM_cases m.post i none with ⟨_, e⟩ | ⟨_, b', hb', e⟩
    · rw [e] at hi; cases hi
    · rw [e] at hi; obtain rfl := Option.some.inj hi
      have := (hob i _ hb').2
      cases this
  refine ⟨β', fr, w', v', c1, c2, k4 β' _ (overM m st) w' c2 c3 c4 (by rw [← f1]; exact hn) hno1 rfl (fun i b hi hl => ?_) (fun i o hi hdead => ?_), c4.mono k1, c5, c6⟩
  · rw [h2] at hi
    rw [h1, h0]
    rcases lastM_cases m.post i (if i ∈ m.pre.map (·.1) then some .dead else st.heap.get i) with ⟨n1, e⟩ | ⟨n1, b', hb', e⟩
    · rw [e] at hi
      have e1 : lastM m.post i none = none := by
        rcases lastM_cases m.post i none with ⟨_, e⟩ | ⟨n, _⟩
        · exact e
        · exact absurd n n1
      by_cases hp : i ∈ m.pre.map (·.1)
      · rw [if_pos hp] at hi
        obtain rfl := Option.some.inj hi
        cases hl
      · rw [if_neg hp] at hi
        refine Or.inr ⟨fun c hc => (by rw [e1] at hc; cases hc), fun c hc => ?_, hi⟩
        rcases lastM_cases m.pre i none with ⟨_, e⟩ | ⟨n, _⟩
        · rw [e] at hc; cases hc
        · exact absurd n hp
    · refine Or.inl ?_
      rw [e] at hi
      rw [← hi]
      rw [← e]; exact lastM_any n1 _ _
  · rw [h2]
    have hnp : i ∉ m.pre.map (·.1) := by
      intro hp
      obtain ⟨⟨j, b⟩, hq, rfl⟩ := List.mem_map.1 hp
      obtain ⟨q1, q2, q3⟩ := hasM_mem f3 hq
      rw [hi] at q1
      obtain rfl := Option.some.inj q1
      cases q3
    rcases lastM_cases m.post i (if i ∈ m.pre.map (·.1) then some .dead else st.heap.get i) with ⟨_, e⟩ | ⟨n1, b', hb', e⟩
    · rw [e, if_neg hnp]; exact hi
    · have := hdead b' (by rw [h1, lastM_any n1 none (if i ∈ m.pre.map (·.1) then some .dead else st.heap.get i)]; exact e)
      rw [(hob i b' hb').1] at this
      cases this

theorem addMemo_ok {l : List Memo} (hct : CtOk P ct) (h : ∀ m ∈ l, MemoOk P m) : CtOk P (addMemo l ct) where
  loop := hct.loop
  call := by
    intro K g args st v st' hl β w args' cs ha hr
    simp only [addMemo] at hl
    induction l with
    | nil => exact hct.call K g args st v st' hl β w args' cs ha hr
    | cons m l ih =>
      change (match and (Nat.beq m.g g) (Nat.beq m.next st.next) with
        | true => some (DT.ite (fitsM m g args st) (.leaf (m.v, overM m st)) .fail)
        | false => memoCt l g args st (ct.call g args st)).bind DT.eval = some (v, st') at hl
      split at hl
      · rename_i hb
        simp only [Bool.and_eq_true] at hb
        obtain rfl := Nat.eq_of_beq_eq_true hb.1
        simp only [Option.bind_some] at hl
        cases hf : fitsM m m.g args st with
        | false => rw [hf] at hl; cases hl
        | true =>
          rw [hf] at hl
          simp only [DT.eval, Option.some.injEq, Prod.mk.injEq] at hl
          obtain ⟨rfl, rfl⟩ := hl
          exact memo_use (h m (by simp)) hf ha hr
      · exact ih (fun m hm => h m (by simp [hm])) hl

/-! ### a call is reckoned -/
noncomputable def kontM (m : Memo) (v : Value) (st : St) : Res :=
  @Bool.rec (fun _ => Res) none (some (.bool true, st)) (and (beqV m.v v) (and (Nat.beq m.next' st.next) (and (hasM st.heap m.post) (Nat.ble m.next m.next'))))
noncomputable def memoQ (P : Program) (E : Eng) (ct : Ct) (n : Nat) (m : Memo) : Bool :=
  match (knotQ P E ct n n).call m.g m.args (stOf m.pre m.next) (kontM m) with
  | some _ => true
  | none => false
theorem MemoOk.of {E : Eng} (hE : EngOk P ct E) (hN : noNum P = true) (hct : CtOk P ct) {n : Nat} {m : Memo} (h : memoQ P E ct n m = true) : MemoOk P m := by
  intro K β w args' cs ha hr
  unfold memoQ at h
  split at h
  · rename_i r hk
    obtain ⟨i, v1, st1, h1, h2⟩ := (knotQ_ok hE n n).call _ _ _ _ _ hk
    obtain ⟨β1, fr, w1, v', a1, a2, a3, a4, a5, a6⟩ := (sound_all hN hct i K).call m.g m.args (stOf m.pre m.next) v1 st1 h1 β w args' .normal cs (Or.inl rfl) ha hr
    unfold kontM at h2
    cases hb : (and (beqV m.v v1) (and (Nat.beq m.next' st1.next) (and (hasM st1.heap m.post) (Nat.ble m.next m.next')))) with
    | false => rw [hb] at h2; cases h2
    | true =>
      simp only [Bool.and_eq_true] at hb
      obtain ⟨b1, b2, b3, b4⟩ := hb
      obtain rfl := beqV_eq _ _ b1
      have b2 := Nat.eq_of_beq_eq_true b2
      refine ⟨⟨β1, fr, w1, v', a1, a2, ?_, a4, a5, a6⟩, Nat.le_of_ble_eq_true b4, fun i b hi => (hasM_mem b3 hi).2⟩
      have hg : ∀ i b, (stOf m.post m.next').heap.get i = some b → st1.heap.get i = some b ∧ b.isObj = false := by
        intro i b hi
        have : (stOf m.post m.next').heap.get i = lastM m.post i none := by
          show (putM m.post .leaf).get i = _
          rw [putM_get]; rfl
        rw [this] at hi
        rcases lastM_cases m.post i none with ⟨_, e⟩ | ⟨_, b', hb', e⟩
        · rw [e] at hi; cases hi
        · rw [e] at hi; obtain rfl := Option.some.inj hi
          obtain ⟨q1, q2, q3⟩ := hasM_mem b3 hb'
          exact ⟨q1, q3⟩
      refine ⟨a3.base, fun i l hi => by show i < m.next' ∧ _; rw [b2]; exact a3.dom i l hi, fun i b hi hl => a3.blk i b (hg i b hi).1 hl, fun i j bi bj li lj hi hbi hj hbj => a3.inj i j bi bj li lj (hg i bi hi).1 hbi (hg j bj hj).1 hbj,
        fun i hi => by show i < m.next' ∧ _; rw [b2]; exact a3.res i hi, a3.nofz, fun k l hk => ?_, ?_⟩
      · obtain ⟨f1, f2, f3⟩ := a3.frz k l hk
        exact ⟨f1, f2, fun j bj lj hj hbj => f3 j bj lj (hg j bj hj).1 hbj⟩
      · exact ⟨fun _ _ => False, fun i o hi => (by have := (hg i _ hi).2; cases this), fun i k hk => hk.elim⟩
  · cases h
theorem memos_nil : ∀ m ∈ ([] : List Memo), MemoOk P m := by simp
theorem memos_cons {m : Memo} {l : List Memo} (h : MemoOk P m) (hl : ∀ m ∈ l, MemoOk P m) : ∀ x ∈ m :: l, MemoOk P x := by
  intro x hx
  rcases List.mem_cons.1 hx with rfl | hx
  · exact h
  · exact hl x hx
end
end Go.VS
