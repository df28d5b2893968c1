/- Regions whose order is drawn: what the evaluator's pass through one has shown. No conditions. -/
import Derived.Test.YtbdeppefllcocaaVsDraw2
namespace Go.VS
set_option linter.unusedSimpArgs false
set_option linter.unusedVariables false
open Go.RowKit
section
variable {P : Program} {out : Out → Option (Value × St)} {ops : Array Oper} {bs : List Nat} {base : Nat}

/-- One operation of the pass. -/
def StepOk (P : Program) (out : Out → Option (Value × St)) (ops : Array Oper) (bs : List Nat) (base i : Nat) (o : Oper) (r r' : Rec) : Prop :=
  ∃ wd, wantedF ops r.f o = some wd ∧ r.f.put o.dst r.v = some r'.f ∧
    match kindOf P o with
    | .quiet => r'.st = r.st ∧ r'.m = r.m ∧ r'.pend = r.pend ∧ r'.rep = r.rep ∧ r.b = none ∧ (if wd then ∃ st', evOp P r.f.eval o r.st = some (.val r.v st') else r.v = undef)
    | .new => r'.st = r.st ∧ r'.m = r.m ∧ r'.rep = r.rep ∧ (if wd then ∃ b, r.b = some b ∧ evNew (evOp P) r.f.eval o (base + i) = some (r.v, b) ∧ r'.pend = r.pend ++ [(i, b)] else r.v = undef ∧ r.b = none ∧ r'.pend = r.pend)
    | .chain => r'.m = r.m ||| bs.getD i 0 ∧ r'.pend = r.pend ∧ r'.rep = i + 1 ∧ r.b = none ∧
        (if wd then ∃ x, evOp P r.f.eval o (wake base (fun j => bitOf bs i j && !r.m.testBit j) r.pend r.st) = some x ∧ out x = some (r.v, r'.st)
         else r.v = undef ∧ r'.st = wake base (fun j => bitOf bs i j && !r.m.testBit j) r.pend r.st)

theorem drawPass_spec : ∀ (os : List Oper) (i : Nat) (f : Fr) (st : St) (m : Nat) (pend : List (Nat × Blk)) (rep : Nat) (l : List Rec), drawPass P (evOp P) Fr.eval out ops bs base os i f st m pend rep = some l →
    l.length = os.length + 1 ∧ (∃ r0, l[0]? = some r0 ∧ r0.f = f ∧ r0.st = st ∧ r0.m = m ∧ r0.pend = pend ∧ r0.rep = rep) ∧
    ∀ j o, os[j]? = some o → ∃ r r', l[j]? = some r ∧ l[j + 1]? = some r' ∧ StepOk P out ops bs base (i + j) o r r'
  | [], i, f, st, m, pend, rep, l, h => by
    simp only [drawPass, Option.some.injEq] at h
    subst h
    exact ⟨rfl, ⟨_, rfl, rfl, rfl, rfl, rfl, rfl⟩, fun j o hj => by simp at hj⟩
  | o :: os, i, f, st, m, pend, rep, l, h => by
    simp only [drawPass] at h
    split at h
    · cases h
    · rename_i wd hw
      have key : ∀ {f' st' m' pend' rep' l' r}, drawPass P (evOp P) Fr.eval out ops bs base os (i + 1) f' st' m' pend' rep' = some l' → l = r :: l' → r.f = f → r.st = st → r.m = m → r.pend = pend → r.rep = rep →
          (∀ r', r'.f = f' → r'.st = st' → r'.m = m' → r'.pend = pend' → r'.rep = rep' → StepOk P out ops bs base i o r r') →
          l.length = (o :: os).length + 1 ∧ (∃ r0, l[0]? = some r0 ∧ r0.f = f ∧ r0.st = st ∧ r0.m = m ∧ r0.pend = pend ∧ r0.rep = rep) ∧
          ∀ j o', (o :: os)[j]? = some o' → ∃ r r', l[j]? = some r ∧ l[j + 1]? = some r' ∧ StepOk P out ops bs base (i + j) o' r r' := by
        intro f' st' m' pend' rep' l' r hrec hl h1 h2 h3 h4 h5 hs
        obtain ⟨g1, ⟨r0, g2, g3, g4, g5, g6, g7⟩, g8⟩ := drawPass_spec os (i + 1) f' st' m' pend' rep' l' hrec
        subst hl
        refine ⟨by simp [g1], ⟨r, rfl, h1, h2, h3, h4, h5⟩, fun j o' hj => ?_⟩
        cases j with
        | zero =>
          simp at hj; subst hj
          exact ⟨r, r0, rfl, by simpa using g2, hs r0 g3 g4 g5 g6 g7⟩
        | succ j =>
          obtain ⟨a, b, e1, e2, e3⟩ := g8 j o' (by simpa using hj)
          exact ⟨a, b, by simpa using e1, by simpa using e2, by rw [show i + (j + 1) = i + 1 + j by omega]; exact e3⟩
      split at h
      · rename_i hk
        split at h
        · cases h
        · rename_i v hv
          split at h
          · cases h
          · rename_i f' hp
            split at h
            · cases h
            · rename_i l' hl'
              simp at h
              refine key hl' h.symm rfl rfl rfl rfl rfl fun r' e1 e2 e3 e4 e5 => ⟨wd, hw, by rw [e1]; exact hp, ?_⟩
              rw [hk]
              refine ⟨e2, e3, e4, e5, rfl, ?_⟩
              cases wd with
              | true =>
                simp only [if_true] at hv ⊢
                split at hv
                · rename_i v' st' hop
                  simp at hv; subst hv
                  exact ⟨_, hop⟩
                · cases hv
              | false => simpa using hv.symm
      · rename_i hk
        split at h
        · cases h
        · rename_i v b hv
          split at h
          · cases h
          · rename_i f' hp
            split at h
            · cases h
            · rename_i l' hl'
              simp at h
              refine key hl' h.symm rfl rfl rfl rfl rfl fun r' e1 e2 e3 e4 e5 => ⟨wd, hw, by rw [e1]; exact hp, ?_⟩
              rw [hk]
              refine ⟨e2, e3, e5, ?_⟩
              cases wd with
              | true =>
                simp only [if_true] at hv ⊢
                split at hv
                · rename_i v' b' hop
                  simp at hv
                  obtain ⟨rfl, rfl⟩ := hv
                  exact ⟨b', rfl, hop, by simpa using e4⟩
                · cases hv
              | false =>
                simp at hv ⊢
                obtain ⟨rfl, rfl⟩ := hv
                exact ⟨rfl, rfl, by simpa using e4⟩
      · rename_i hk
        split at h
        · cases h
        · rename_i v st' hv
          split at h
          · cases h
          · rename_i f' hp
            split at h
            · cases h
            · rename_i l' hl'
              simp at h
              refine key hl' h.symm rfl rfl rfl rfl rfl fun r' e1 e2 e3 e4 e5 => ⟨wd, hw, by rw [e1]; exact hp, ?_⟩
              rw [hk]
              refine ⟨e3, e4, e5, rfl, ?_⟩
              cases wd with
              | true =>
                simp only [if_true] at hv ⊢
                split at hv
                · rename_i x hop
                  exact ⟨x, hop, by rw [hv, e2]⟩
                · cases hv
              | false =>
                simp at hv ⊢
                exact ⟨hv.1.symm, by rw [e2]; exact hv.2.symm⟩

/-! ### what the checks of a region say -/
theorem edgesOk_spec : ∀ (os : List Oper) (i : Nat), edgesOk os i = true → ∀ j o, os[j]? = some o → ∀ e ∈ o.after, Region.binds .any e = true → e.on < i + j
  | [], _, _, j, o, hj => by simp at hj
  | o :: os, i, h, j, o', hj => by
    simp only [edgesOk, Bool.and_eq_true] at h
    intro e he hb
    cases j with
    | zero =>
      simp at hj; subst hj
      have := List.all_eq_true.1 h.1 e (by simpa using he)
      simpa [hb] using this
    | succ j =>
      have := edgesOk_spec os (i + 1) h.2 j o' (by simpa using hj) e he hb
      omega

theorem fold_bits (bsf : Nat → Nat) (j : Nat) : ∀ (es : List Edge) (s : Nat), (es.foldl (fun s e => if Region.binds .any e then s ||| 2 ^ e.on ||| bsf e.on else s) s).testBit j = true →
    s.testBit j = true ∨ ∃ e ∈ es, Region.binds .any e = true ∧ (e.on = j ∨ (bsf e.on).testBit j = true)
  | [], s, h => Or.inl h
  | e :: es, s, h => by
    simp only [List.foldl_cons] at h
    rcases fold_bits bsf j es _ h with h1 | ⟨e', h1, h2⟩
    · split at h1
      · rename_i hb
        simp only [Nat.testBit_or, Bool.or_eq_true] at h1
        rcases h1 with (h1 | h1) | h1
        · exact Or.inl h1
        · right
          refine ⟨e, by simp, hb, Or.inl ?_⟩
          rw [Nat.testBit_two_pow] at h1; simpa using h1
        · exact Or.inr ⟨e, by simp, hb, Or.inr h1⟩
      · exact Or.inl h1
    · exact Or.inr ⟨e', by simp [h1], h2⟩

theorem bitsL_spec : ∀ (os : List Oper) (acc : List Nat), (∀ i, i < acc.length → (bitsL os acc)[i]? = acc[i]?) ∧ (bitsL os acc).length = acc.length + os.length ∧
    ∀ k o, os[k]? = some o → (∀ e ∈ o.after, Region.binds .any e = true → e.on < acc.length + k) → ∀ j, bitOf (bitsL os acc) (acc.length + k) j = true → ∃ e ∈ o.after, Region.binds .any e = true ∧ (e.on = j ∨ bitOf (bitsL os acc) e.on j = true)
  | [], acc => ⟨fun _ _ => rfl, by simp [bitsL], fun k o hk => by simp at hk⟩
  | o :: os, acc => by
    simp only [bitsL]
    generalize hX : o.after.toList.foldl (fun s e => if Region.binds .any e then s ||| 2 ^ e.on ||| acc.getD e.on 0 else s) 0 = X
    obtain ⟨h1, h2, h3⟩ := bitsL_spec os (acc ++ [X])
    have hold : ∀ i, i < acc.length → (bitsL os (acc ++ [X]))[i]? = acc[i]? := by
      intro i hi
      rw [h1 i (by simp; omega), List.getElem?_append_left hi]
    refine ⟨hold, by rw [h2]; simp; omega, fun k o' hk he j hj => ?_⟩
    cases k with
    | zero =>
      simp at hk; subst hk
      have hx : (bitsL os (acc ++ [X]))[acc.length]? = some X := by
        rw [h1 acc.length (by simp)]; simp
      have hj : X.testBit j = true := by
        have : bitOf (bitsL os (acc ++ [X])) acc.length j = X.testBit j := by
          unfold bitOf; rw [List.getD_eq_getElem?_getD, hx]; rfl
        rw [← this]; exact hj
      rw [← hX] at hj
      rcases fold_bits (fun k => acc.getD k 0) j _ _ hj with hb | ⟨e, g1, g2, g3⟩
      · simp at hb
      · refine ⟨e, by simpa using g1, g2, ?_⟩
        rcases g3 with g3 | g3
        · exact Or.inl g3
        · right
          have hlt := he e (by simpa using g1) g2
          unfold bitOf
          rw [List.getD_eq_getElem?_getD, hold e.on (by simpa using hlt), ← List.getD_eq_getElem?_getD]
          exact g3
    | succ k =>
      have := h3 k o' (by simpa using hk) (fun e h hb => by have := he e h hb; simp; omega) j (by simpa [Nat.add_assoc, Nat.add_comm 1] using hj)
      exact this

theorem chainsL_mem {c : Nat} : ∀ (os : List Oper) (i : Nat), c ∈ chainsL P os i ↔ ∃ j o, os[j]? = some o ∧ isChain P o = true ∧ c = i + j
  | [], i => by simp [chainsL]
  | o :: os, i => by
    simp only [chainsL]
    have ih := chainsL_mem (c := c) os (i + 1)
    constructor
    · intro h
      by_cases ho : isChain P o = true
      · rw [if_pos ho] at h
        rcases List.mem_cons.1 h with rfl | h
        · exact ⟨0, o, rfl, ho, rfl⟩
        · obtain ⟨j, o', h1, h2, h3⟩ := ih.1 h
          exact ⟨j + 1, o', by simpa using h1, h2, by omega⟩
      · rw [if_neg ho] at h
        obtain ⟨j, o', h1, h2, h3⟩ := ih.1 h
        exact ⟨j + 1, o', by simpa using h1, h2, by omega⟩
    · rintro ⟨j, o', h1, h2, h3⟩
      cases j with
      | zero =>
        simp at h1; subst h1
        rw [if_pos h2]
        simp [h3]
      | succ j =>
        have := ih.2 ⟨j, o', by simpa using h1, h2, by omega⟩
        split
        · exact List.mem_cons_of_mem _ this
        · exact this

theorem writersL_mem {p : Nat × Tmp} : ∀ (os : List Oper) (i : Nat), (∃ j o, os[j]? = some o ∧ o.dst = some p.2 ∧ p.1 = i + j) → p ∈ writersL os i
  | [], i, ⟨j, o, h, _⟩ => by simp at h
  | o :: os, i, ⟨j, o', h1, h2, h3⟩ => by
    simp only [writersL]
    cases j with
    | zero =>
      simp at h1; subst h1
      obtain ⟨a, b⟩ := p
      simp at h2 h3
      rw [h2]
      simp [h3]
    | succ j =>
      have := writersL_mem (p := p) os (i + 1) ⟨j, o', by simpa using h1, h2, by omega⟩
      split
      · exact List.mem_cons_of_mem _ this
      · exact this

theorem tmpsOk_spec {ws : List (Nat × Tmp)} : ∀ (os : List Oper) (i : Nat), tmpsOk ops bs ws os i = true → ∀ k o, os[k]? = some o → ∀ t ∈ tmpsOf ops o, ∀ j, (j, t) ∈ ws → j ≠ i + k → if j < i + k then bitOf bs (i + k) j = true else bitOf bs j (i + k) = true
  | [], _, _, k, o, hk => by simp at hk
  | o :: os, i, h, k, o', hk => by
    intro t ht j hj hne
    simp only [tmpsOk, Bool.and_eq_true] at h
    cases k with
    | zero =>
      simp at hk; subst hk
      have h1 := List.all_eq_true.1 (List.all_eq_true.1 h.1 t ht) _ hj
      simp only [bne_self_eq_false, Bool.false_or, Bool.or_eq_true, beq_iff_eq] at h1
      rcases h1 with h1 | h1
      · exact absurd h1 hne
      · simp only [Nat.add_zero]
        split <;> simp_all
    | succ k =>
      have := tmpsOk_spec os (i + 1) h.2 k o' (by simpa using hk) t ht j hj (by omega)
      rw [show i + (k + 1) = i + 1 + k by omega]; exact this

theorem chainOk_spec : ∀ (cs : List Nat), chainOk bs cs = true → cs.Pairwise fun c d => bitOf bs d c = true
  | [], _ => List.Pairwise.nil
  | c :: cs, h => by
    simp only [chainOk, Bool.and_eq_true] at h
    exact List.Pairwise.cons (fun d hd => List.all_eq_true.1 h.1 d hd) (chainOk_spec cs h.2)

theorem chainsL_sorted : ∀ (os : List Oper) (i : Nat), (chainsL P os i).Pairwise (· < ·) ∧ ∀ c ∈ chainsL P os i, i ≤ c
  | [], i => ⟨List.Pairwise.nil, fun c h => by simp [chainsL] at h⟩
  | o :: os, i => by
    obtain ⟨h1, h2⟩ := chainsL_sorted os (i + 1)
    simp only [chainsL]
    split
    · refine ⟨List.Pairwise.cons (fun d hd => h2 d hd) h1, fun c hc => ?_⟩
      rcases List.mem_cons.1 hc with rfl | hc
      · exact Nat.le_refl _
      · have := h2 c hc; omega
    · exact ⟨h1, fun c hc => by have := h2 c hc; omega⟩

theorem pairwise_lt {α : Type} {r s : α → α → Prop} {l : List α} (h1 : l.Pairwise r) (h2 : l.Pairwise s) (hs : ∀ a b, s a b → ¬ s b a) (hirr : ∀ a, ¬ s a a) {a b : α} (ha : a ∈ l) (hb : b ∈ l) (hab : s a b) : r a b := by
  induction l with
  | nil => cases ha
  | cons x l ih =>
    rw [List.pairwise_cons] at h1 h2
    rcases List.mem_cons.1 ha with rfl | ha'
    · rcases List.mem_cons.1 hb with rfl | hb'
      · exact absurd hab (hirr _)
      · exact h1.1 b hb'
    · rcases List.mem_cons.1 hb with rfl | hb'
      · exact absurd (h2.1 a ha') (hs _ _ hab)
      · exact ih h1.2 h2.2 ha' hb'

theorem repsL_mem : ∀ (os : List Oper) (l : List Rec) (i : Nat), l.length = os.length + 1 → ∀ j o r, os[j]? = some o → isChain P o = true → l[j + 1]? = some r → (i + j + 1, r.st) ∈ repsL P os l i
  | [], l, i, _, j, o, r, hj => by simp at hj
  | o :: os, [], i, hl, _, _, _, _ => by simp at hl
  | o :: os, [_], i, hl, _, _, _, _ => by simp at hl
  | o :: os, r0 :: r1 :: l, i, hl, j, o', r, hj => by
    intro hc hr
    simp only [repsL]
    cases j with
    | zero =>
      simp at hj hr; subst hj hr
      rw [if_pos hc]; simp
    | succ j =>
      have := repsL_mem os (r1 :: l) (i + 1) (by simpa using hl) j o' r (by simpa using hj) hc (by simpa using hr)
      rw [show i + (j + 1) + 1 = i + 1 + j + 1 by omega]
      split
      · exact List.mem_cons_of_mem _ this
      · exact this

theorem quietOk_spec {cs : List Nat} {reps : List (Nat × St)} : ∀ (os : List Oper) (l : List Rec) (i : Nat), quietOk P (evOp P) Fr.eval ops bs cs reps os l i = true → ∀ j o r, os[j]? = some o → l[j]? = some r → kindOf P o = .quiet → wantedF ops r.f o = some true →
    noHeap o = true ∨ ∀ p ∈ reps, p.1 = r.rep ∨ admits bs cs (i + j) p.1 = false ∨ ∃ st', evOp P r.f.eval o p.2 = some (.val r.v st')
  | [], _, i, _, j, o, r, hj => by simp at hj
  | _ :: _, [], i, _, j, o, r, _ => by intro hl; simp at hl
  | o :: os, r :: rs, i, h, j, o', r', hj => by
    intro hl hk hw
    simp only [quietOk, Bool.and_eq_true] at h
    cases j with
    | zero =>
      simp at hj hl; subst hj hl
      have h1 := h.1
      rw [hk, hw] at h1
      simp only [Bool.or_eq_true] at h1
      rcases h1 with h1 | h1
      · exact Or.inl h1
      right
      intro p hp
      have h2 := List.all_eq_true.1 h1 p hp
      simp only [Bool.or_eq_true, beq_iff_eq, Bool.not_eq_true'] at h2
      rcases h2 with (h2 | h2) | h2
      · exact Or.inl h2
      · exact Or.inr (Or.inl h2)
      · right; right
        split at h2
        · rename_i v st' hop
          exact ⟨st', by rw [hop, beqV_eq _ _ h2]⟩
        · cases h2
    | succ j =>
      have := quietOk_spec os rs (i + 1) h.2 j o' r' (by simpa using hj) (by simpa using hl) hk hw
      rw [show i + (j + 1) = i + 1 + j by omega]; exact this
end
end Go.VS
