/- Regions whose order is drawn: what holds behind some of their operations, whichever came first. No conditions. -/
import Derived.Test.YtbdeppefllcocaaVsDraw4
namespace Go.VS
set_option linter.unusedSimpArgs false
set_option linter.unusedVariables false
open Go.RowKit
section
variable {P : Program} {K : Prot} {ops : Array Oper} {bs cs : List Nat} {base : Nat} {R : Nat → Rec} {out : Out → Option (Value × St)}

/-- What a temporary holds where the operations D have been done. -/
def sv (ops : Array Oper) (R : Nat → Rec) (D : Nat → Bool) : Nat → Tmp → Option Value
  | 0, t => (R 0).f.slots.get t
  | j + 1, t => if D j = true ∧ (ops[j]?).bind (·.dst) = some t then some (R j).v else sv ops R D j t

def upd (D : Nat → Bool) (i : Nat) : Nat → Bool := fun j => if j = i then true else D j

theorem sv_cut {D : Nat → Bool} {i : Nat} {t : Tmp} (h : ∀ j, (ops[j]?).bind (·.dst) = some t → (j < i → D j = true) ∧ (i ≤ j → D j = false)) : ∀ n, sv ops R D n t = sv ops R (fun _ => true) (min n i) t
  | 0 => by simp [sv]
  | n + 1 => by
    have ih := sv_cut h n
    by_cases hn : n < i
    · have h1 : min (n + 1) i = n + 1 := by omega
      have h2 : min n i = n := by omega
      rw [h1]; rw [h2] at ih
      simp only [sv]
      by_cases hd : (ops[n]?).bind (·.dst) = some t
      · simp [hd, (h n hd).1 hn]
      · simp [hd, ih]
    · have h1 : min (n + 1) i = i := by omega
      have h2 : min n i = i := by omega
      rw [h1]; rw [h2] at ih
      rw [← ih]
      simp only [sv]
      by_cases hd : (ops[n]?).bind (·.dst) = some t
      · simp [(h n hd).2 (by omega)]
      · simp [hd]

theorem sv_low {D : Nat → Bool} {i : Nat} {t : Tmp} : ∀ n, n ≤ i → sv ops R (upd D i) n t = sv ops R D n t
  | 0, _ => rfl
  | n + 1, h => by
    have hne : n ≠ i := by omega
    have ih := sv_low (D := D) (i := i) (t := t) n (by omega)
    have hu : upd D i n = D n := by simp [upd, hne]
    simp only [sv, hu, ih]

theorem sv_put {D : Nat → Bool} {i : Nat} {t : Tmp} (h : ∀ j, (ops[j]?).bind (·.dst) = some t → (ops[i]?).bind (·.dst) = some t → i < j → D j = false) : ∀ n, i < n → sv ops R (upd D i) n t = if (ops[i]?).bind (·.dst) = some t then some (R i).v else sv ops R D n t
  | 0, hn => by omega
  | n + 1, hn => by
    by_cases hni : n = i
    · subst hni
      simp only [sv, upd, if_true, true_and]
      split
      · rfl
      · rename_i hne
        rw [if_neg (by simp [hne])]
        exact sv_low n (Nat.le_refl _)
    · have ih := sv_put h n (by omega)
      have hu : upd D i n = D n := by simp [upd, hni]
      simp only [sv, hu]
      by_cases hd : (ops[n]?).bind (·.dst) = some t
      · by_cases hi : (ops[i]?).bind (·.dst) = some t
        · have := h n hd hi (by omega)
          simp [this, hi, ih]
        · simp only [hd, and_true, if_neg hi] at ih ⊢
          rw [ih]
      · simp only [hd, and_false, if_false, ih]

variable (hp : Plan P out ops bs cs base R)
include hp

theorem Plan.frame : ∀ i, i ≤ ops.size → (R i).f.ntmps = (R 0).f.ntmps ∧ (R i).f.defers = (R 0).f.defers ∧ (R i).f.roundOf = (R 0).f.roundOf ∧ ∀ t, (R i).f.slots.get t = sv ops R (fun _ => true) i t
  | 0, _ => ⟨rfl, rfl, rfl, fun _ => rfl⟩
  | i + 1, h => by
    obtain ⟨h1, h2, h3, h4⟩ := Plan.frame i (by omega)
    have ho : ops[i]? = some ops[i] := Array.getElem?_eq_getElem (by omega)
    obtain ⟨wd, _, hput, _⟩ := hp.step i _ ho
    unfold Fr.put at hput
    split at hput
    · rename_i hd
      obtain hput := Option.some.inj hput
      rw [← hput]
      refine ⟨h1, h2, h3, fun t => ?_⟩
      simp only [sv, ho, Option.bind_some, hd]
      simp [h4]
    · rename_i d hd
      split at hput
      · obtain hput := Option.some.inj hput
        rw [← hput]
        refine ⟨h1, h2, h3, fun t => ?_⟩
        simp only [sv, ho, Option.bind_some, hd, Trie.get_set, Option.some.injEq, true_and]
        by_cases ht : t = d
        · subst ht; simp
        · have : ¬ d = t := fun e => ht e.symm
          simp [ht, this, h4]
      · cases hput

theorem Plan.bits_lt : ∀ i, i < ops.size → ∀ j, bitOf bs i j = true → j < i := by
  intro i
  induction i using Nat.strongRecOn with
  | _ i ih =>
    intro hi j hb
    obtain ⟨e, h1, h2, h3⟩ := hp.bits i _ j (Array.getElem?_eq_getElem hi) hb
    have := hp.edges i _ (Array.getElem?_eq_getElem hi) e h1 h2
    rcases h3 with h3 | h3
    · omega
    · have := ih e.on this (by omega) j h3
      omega

theorem Plan.pend : ∀ i, i ≤ ops.size → ∀ j b, (j, b) ∈ (R i).pend ↔ j < i ∧ (R j).b = some b
  | 0, _, j, b => by rw [hp.pend0]; simp
  | i + 1, h, j, b => by
    have ih := Plan.pend i (by omega) j b
    have ho : ops[i]? = some ops[i] := Array.getElem?_eq_getElem (by omega)
    obtain ⟨wd, _, _, hs⟩ := hp.step i _ ho
    have same : (R (i + 1)).pend = (R i).pend → (R i).b = none → ((j, b) ∈ (R (i + 1)).pend ↔ j < i + 1 ∧ (R j).b = some b) := by
      intro h1 h2
      rw [h1, ih]
      constructor
      · rintro ⟨a, c⟩; exact ⟨by omega, c⟩
      · rintro ⟨a, c⟩
        refine ⟨?_, c⟩
        rcases Nat.lt_succ_iff_lt_or_eq.1 a with a | rfl
        · exact a
        · rw [h2] at c; cases c
    split at hs
    · exact same hs.2.2.1 hs.2.2.2.2.1
    · obtain ⟨_, _, _, hs⟩ := hs
      split at hs
      · obtain ⟨b0, h1, _, h3⟩ := hs
        rw [h3, List.mem_append, ih]
        simp only [List.mem_singleton, Prod.mk.injEq]
        constructor
        · rintro (⟨a, c⟩ | ⟨rfl, rfl⟩)
          · exact ⟨by omega, c⟩
          · exact ⟨by omega, h1⟩
        · rintro ⟨a, c⟩
          rcases Nat.lt_succ_iff_lt_or_eq.1 a with a | rfl
          · exact Or.inl ⟨a, c⟩
          · rw [h1] at c; exact Or.inr ⟨rfl, (Option.some.inj c).symm⟩
      · exact same hs.2.2 hs.2.1
    · exact same hs.2.1 hs.2.2.2.1

/-- Where no operation of the chain lies between, memory is the same. -/
theorem Plan.seg (m : Nat) : ∀ d, m + d ≤ ops.size → (∀ c o, ops[c]? = some o → isChain P o = true → m ≤ c → c < m + d → False) → (R (m + d)).st = (R m).st ∧ (R (m + d)).m = (R m).m ∧ (R (m + d)).rep = (R m).rep
  | 0, _, _ => ⟨rfl, rfl, rfl⟩
  | d + 1, h, hc => by
    obtain ⟨h1, h2, h3⟩ := Plan.seg m d (by omega) (fun c o a b e f => hc c o a b e (by omega))
    have ho : ops[m + d]? = some ops[m + d] := Array.getElem?_eq_getElem (by omega)
    obtain ⟨wd, _, _, hs⟩ := hp.step (m + d) _ ho
    rw [← Nat.add_assoc]
    split at hs
    · obtain ⟨a, b, _, c, _⟩ := hs
      exact ⟨a.trans h1, b.trans h2, c.trans h3⟩
    · obtain ⟨a, b, c, _⟩ := hs
      exact ⟨a.trans h1, b.trans h2, c.trans h3⟩
    · rename_i hk
      exact (hc (m + d) _ ho (by simp [isChain, hk]) (by omega) (by omega)).elim

theorem Plan.rep_st : ∀ i, i ≤ ops.size → (R i).st = (R (R i).rep).st
  | 0, _ => by rw [hp.rep0]
  | i + 1, h => by
    have ih := Plan.rep_st i (by omega)
    have ho : ops[i]? = some ops[i] := Array.getElem?_eq_getElem (by omega)
    obtain ⟨wd, _, _, hs⟩ := hp.step i _ ho
    split at hs
    · rw [hs.1, hs.2.2.2.1]; exact ih
    · rw [hs.1, hs.2.2.1]; exact ih
    · rw [hs.2.2.1]
omit hp

/-! ### what is kept out of reach meanwhile -/
def KD (K : Prot) (ops : Array Oper) (base : Nat) (R : Nat → Rec) (D : Nat → Bool) (m : Nat) (β : Env) : Prot where
  blk k := K k ∨ ∃ j b l, (R j).b = some b ∧ j < ops.size ∧ D j = true ∧ (R m).m.testBit j = false ∧ β (base + j : Nat) = some l ∧ l.blk = k
  id i := K.id i ∨ ∃ j, j < ops.size ∧ D j = false ∧ i = base + j
  nofz k := K.nofz k ∨ ∃ j b l, (R j).b = some b ∧ j < ops.size ∧ D j = true ∧ (R m).m.testBit j = false ∧ β (base + j : Nat) = some l ∧ l.blk = k
  obs := K.obs

structure Inv (P : Program) (K : Prot) (ops : Array Oper) (bs : List Nat) (base : Nat) (R : Nat → Rec) (D : Nat → Bool) (m : Nat) (β : Env) (fr : Frame) (w : World) : Prop where
  closed : ∀ i j, i < ops.size → D i = true → bitOf bs i j = true → D j = true
  low : ∀ a, K.id a → a < base
  rep : IsRep P ops m
  chain : ∀ c o, ops[c]? = some o → isChain P o = true → (D c = true ↔ c < m)
  mask : ∀ j, (R m).m.testBit j = true → D j = true
  size : fr.tmps.size = (R 0).f.ntmps
  slot : ∀ t, VR β ((sv ops R D ops.size t).getD undef) (fr.tmps.getD t undef)
  defers : DefsR β (R 0).f.defers fr.defers
  round : RoundOfR β (R 0).f.roundOf fr.roundOf
  mode : fr.mode = .run
  rel : Rel P (KD K ops base R D m β) β (R m).st w
  news : ∀ j b, j < ops.size → D j = true → (R j).b = some b → (R m).m.testBit j = false → ∃ l, β (base + j : Nat) = some l ∧ l.blk < w.heap.size ∧ ¬ K l.blk ∧ (l.virt = false ∧ b.isObj = false) ∧ BlkR P β l b w.heap[l.blk]?
  apart : ∀ j j' b b' l l', j < ops.size → j' < ops.size → D j = true → D j' = true → (R j).b = some b → (R j').b = some b' → (R m).m.testBit j = false → (R m).m.testBit j' = false →
    β (base + j : Nat) = some l → β (base + j' : Nat) = some l' → l.blk = l'.blk → j = j'

theorem Rel.weaken {β : Env} {st : St} {w : World} (h : Rel P K β st w) {K' : Prot} (hobs : K'.obs = K.obs) (hK : ∀ k, K' k → K k) (hid : ∀ i, K'.id i → K.id i) (hnf : ∀ k, K'.nofz k → K.nofz k) : Rel P K' β st w :=
  ⟨fun k hk => h.base k (hK k hk), h.dom, fun i b hi hb => let ⟨l, h1, h2, h3⟩ := h.blk i b hi hb; ⟨l, h1, fun hv hk => h2 hv (hK _ hk), h3⟩, h.inj, fun i hi => h.res i (hid i hi), fun k l hk hn => h.nofz k l hk (hnf k hn), h.frz,
    h.objs.step hobs (Env.le.refl _) (Nat.le_refl _) (fun _ _ _ => rfl) (fun _ _ => Iff.rfl) (fun i k o l _ _ _ hKk hf hj => ⟨rfl, fun hk => hKk (hK k hk), hf, hj⟩)⟩

theorem wake_get {base : Nat} {sel : Nat → Bool} : ∀ {L : List (Nat × Blk)} {st : St} {i : Nat} {x : Blk}, (wake base sel L st).heap.get i = some x → (∃ j b, (j, b) ∈ L ∧ sel j = true ∧ i = base + j ∧ x = b) ∨ st.heap.get i = some x
  | [], _, _, _, h => Or.inr h
  | (j, b) :: L, st, i, x, h => by
    simp only [wake] at h
    rcases wake_get h with ⟨j', b', h1, h2, h3, h4⟩ | h1
    · exact Or.inl ⟨j', b', by simp [h1], h2, h3, h4⟩
    · split at h1
      · rename_i hs
        simp only [Trie.get_set] at h1
        split at h1
        · rename_i hi
          exact Or.inl ⟨j, b, by simp, hs, hi, (Option.some.inj h1).symm⟩
        · exact Or.inr h1
      · exact Or.inr h1
theorem wake_next {base : Nat} {sel : Nat → Bool} : ∀ {L : List (Nat × Blk)} {st : St}, (wake base sel L st).next = st.next
  | [], _ => rfl
  | (j, b) :: L, st => by
    simp only [wake]
    rw [wake_next]
    split <;> rfl

theorem wake_obj {base : Nat} {sel : Nat → Bool} {L : List (Nat × Blk)} {st : St} {i : Nat} {o : Ob} (hL : ∀ j b, (j, b) ∈ L → sel j = true → b.isObj = false) (hst : ∀ j b, (j, b) ∈ L → sel j = true → ∀ o, st.heap.get (base + j) ≠ some (.obj o)) :
    (wake base sel L st).heap.get i = some (.obj o) ↔ st.heap.get i = some (.obj o) := by
  constructor
  · intro h
    rcases wake_get h with ⟨j, b, h1, h2, h3, h4⟩ | h
    · have := hL j b h1 h2
      rw [← h4] at this; cases this
    · exact h
  · intro h
    induction L generalizing st with
    | nil => exact h
    | cons x L ih =>
      obtain ⟨j, b⟩ := x
      simp only [VS.wake]
      refine ih (fun j b hj hs => hL j b (by simp [hj]) hs) (fun j' b' hj hs o' => ?_) ?_
      · split
        · rename_i hsel
          intro e
          simp only [Trie.get_set] at e
          split at e
          · have := hL j b (by simp) hsel
            cases e; cases this
          · exact hst j' b' (by simp [hj]) hs o' e
        · exact hst j' b' (by simp [hj]) hs o'
      · split
        · rename_i hsel
          simp only [Trie.get_set]
          rw [if_neg (by rintro rfl; exact hst j b (by simp) hsel o h)]; exact h
        · exact h

theorem Rel.wake {β : Env} {st : St} {w : World} (h : Rel P K β st w) {K' : Prot} (hobs : K'.obs = K.obs) {sel : Nat → Bool} {L : List (Nat × Blk)} (hK : ∀ k, K' k → K k) (hid : ∀ i, K'.id i → K.id i) (hnf : ∀ k, K'.nofz k → K.nofz k)
    (hw : ∀ j b, (j, b) ∈ L → sel j = true → ∃ l, β (base + j : Nat) = some l ∧ K l.blk ∧ ¬ K' l.blk ∧ (l.virt = false ∧ b.isObj = false ∧ K.nofz l.blk) ∧ BlkR P β l b w.heap[l.blk]?)
    (hd : ∀ j b j' b' l l', (j, b) ∈ L → sel j = true → (j', b') ∈ L → sel j' = true → β (base + j : Nat) = some l → β (base + j' : Nat) = some l' → l.blk = l'.blk → j = j') :
    Rel P K' β (wake base sel L st) w := by
  have hno : ∀ j b, (j, b) ∈ L → sel j = true → ∀ o, st.heap.get (base + j) ≠ some (.obj o) := by
    intro j b hj hs o e
    obtain ⟨l, g1, g2, g3, g4, g5⟩ := hw j b hj hs
    obtain ⟨l', q1, q2, q3⟩ := h.blk _ _ e rfl
    rw [g1] at q1; cases q1
    exact q2 g4.1 g2
  refine ⟨fun k hk => h.base k (hK k hk), fun i l hi => by rw [wake_next]; exact h.dom i l hi, fun i b hi hb => ?_, fun i j bi bj li lj hi hbi hj hbj hli hlj v1 v2 e => ?_, fun i hi => by rw [wake_next]; exact h.res i (hid i hi), fun k l hk hn => h.nofz k l hk (hnf k hn), fun k lk hk => ?_, ?_⟩
  · rcases wake_get hi with ⟨j, b', h1, h2, rfl, rfl⟩ | h1
    · obtain ⟨l, g1, g2, g3, _, g4⟩ := hw j _ h1 h2
      exact ⟨l, g1, fun _ => g3, g4⟩
    · obtain ⟨l, g1, g2, g3⟩ := h.blk i b h1 hb
      exact ⟨l, g1, fun hv hk => g2 hv (hK _ hk), g3⟩
  · rcases wake_get hi with ⟨i', bi', h1, h2, rfl, rfl⟩ | h1 <;> rcases wake_get hj with ⟨j', bj', k1, k2, rfl, rfl⟩ | k1
    · rw [hd _ _ _ _ _ _ h1 h2 k1 k2 hli hlj e]
    · obtain ⟨l, g1, g2, _, _⟩ := hw _ _ h1 h2
      obtain ⟨l', q1, q2, _⟩ := h.blk j bj k1 hbj
      rw [g1] at hli; rw [q1] at hlj
      cases hli; cases hlj
      exact absurd (e ▸ g2) (q2 v2)
    · obtain ⟨l, g1, g2, _, _⟩ := hw _ _ k1 k2
      obtain ⟨l', q1, q2, _⟩ := h.blk i bi h1 hbi
      rw [g1] at hlj; rw [q1] at hli
      cases hli; cases hlj
      exact absurd (e ▸ g2) (q2 v1)
    · exact h.inj i j bi bj li lj h1 hbi k1 hbj hli hlj v1 v2 e
  · obtain ⟨f1, f2, f3⟩ := h.frz k lk hk
    refine ⟨f1, f2, fun j bj lj hj hbj hlj hv e => ?_⟩
    rcases wake_get hj with ⟨j', bj', k1, k2, rfl, rfl⟩ | k1
    · obtain ⟨l, g1, g2, g3, g4, _⟩ := hw _ _ k1 k2
      rw [g1] at hlj; cases hlj
      exact h.nofz k lk hk (e ▸ g4.2.2)
    · exact f3 j bj lj k1 hbj hlj hv e
  · refine h.objs.step hobs (Env.le.refl _) (Nat.le_refl _) (fun _ _ _ => rfl) (fun i o => wake_obj (fun j b hj hs => let ⟨_, _, _, _, g, _⟩ := hw j b hj hs; g.2.1) hno) (fun i k o l _ _ _ hKk hf hj => ⟨rfl, fun hk => hKk (hK k hk), hf, fun m bm lm hm hbm hlm hv e => ?_⟩)
    rcases wake_get hm with ⟨j', bj', k1, k2, rfl, rfl⟩ | k1
    · obtain ⟨l, g1, g2, g3, g4, _⟩ := hw _ _ k1 k2
      rw [g1] at hlm; cases hlm
      exact absurd (e ▸ g2) hKk
    · exact hj m bm lm k1 hbm hlm hv e
end
end Go.VS
