/- Regions whose order is drawn: any order comes to what the order of the text comes to. No conditions. -/
import Derived.Test.YtbdeppefllcocaaVsDraw6
namespace Go.VS
set_option linter.unusedSimpArgs false
set_option linter.unusedVariables false
open Go.RowKit
section
variable {P : Program} {ct : Ct} {K : Prot} {ops : Array Oper} {bs cs : List Nat} {base : Nat} {R : Nat → Rec} {out : Out → Option (Value × St)} {ct : Ct}
variable {D : Nat → Bool} {m : Nat} {β : Env} {fr : Frame} {w : World} {i : Nat} {o : Oper}

/-- Where the chain comes to one of its operations. -/
theorem Inv.atChain (hp : Plan P out ops bs cs base R) (hI : Inv P K ops bs base R D m β fr w) (ho : ops[i]? = some o) (hDi : D i = false) (hready : ∀ j, bitOf bs i j = true → D j = true) (hk : isChain P o = true) :
    (R i).st = (R m).st ∧ (R i).m = (R m).m ∧ (R i).b = none ∧ (R (i + 1)).m = (R m).m ||| bs.getD i 0 ∧ ∀ c o, ops[c]? = some o → isChain P o = true → (upd D i c = true ↔ c < i + 1) := by
  have hi : i < ops.size := (Array.getElem?_eq_some_iff.1 ho).1
  have hmi : m ≤ i := by
    have h := hI.chain i o ho hk
    rw [hDi] at h
    have : ¬ i < m := fun hh => by have := h.2 hh; cases this
    omega
  have hbefore : ∀ c oc, ops[c]? = some oc → isChain P oc = true → c < i → D c = true := fun c oc hc hcc hlt => hready c (hp.chain c i oc o hc hcc ho hk hlt)
  have hafter : ∀ c oc, ops[c]? = some oc → isChain P oc = true → i < c → D c = false := by
    intro c oc hc hcc hlt
    cases h : D c with
    | false => rfl
    | true =>
      have := hI.closed c i (Array.getElem?_eq_some_iff.1 hc).1 h (hp.chain i c o oc ho hk hc hcc hlt)
      rw [hDi] at this; cases this
  obtain ⟨h1, h2, _⟩ := hp.seg m (i - m) (by omega) (fun c oc hc hcc h3 h4 => by
    have := (hI.chain c oc hc hcc).1 (hbefore c oc hc hcc (by omega))
    omega)
  have hmi' : m + (i - m) = i := by omega
  rw [hmi'] at h1 h2
  obtain ⟨wd, _, _, hs⟩ := hp.step i o ho
  have hkk : kindOf P o = .chain := by
    unfold isChain at hk
    split at hk
    · assumption
    · cases hk
  rw [hkk] at hs
  obtain ⟨s1, s2, s3, s4, _⟩ := hs
  refine ⟨h1, h2, s4, by rw [s1, h2], fun c oc hc hcc => ?_⟩
  rcases Nat.lt_trichotomy c i with h | h | h
  · rw [upd_true (hbefore c oc hc hcc h)]; simp; omega
  · subst h; rw [upd_self]; simp
  · rw [upd_ne (by omega), hafter c oc hc hcc h]; simp; omega

theorem Inv.woken (hp : Plan P out ops bs cs base R) (hI : Inv P K ops bs base R D m β fr w) (ho : ops[i]? = some o) (hDi : D i = false) (hready : ∀ j, bitOf bs i j = true → D j = true) (hk : isChain P o = true) :
    Rel P (KD K ops base R (upd D i) (i + 1) β) β (wake base (fun j => bitOf bs i j && !(R i).m.testBit j) (R i).pend (R i).st) w := by
  have hi : i < ops.size := (Array.getElem?_eq_some_iff.1 ho).1
  obtain ⟨h1, h2, h3, h4, h5⟩ := hI.atChain hp ho hDi hready hk
  have hmask : ∀ j, (R (i + 1)).m.testBit j = false → (R m).m.testBit j = false ∧ bitOf bs i j = false := by
    intro j hj
    rw [h4, Nat.testBit_or] at hj
    simp at hj
    exact ⟨hj.1, by simpa [bitOf, List.getD_eq_getElem?_getD] using hj.2⟩
  have hne : ∀ {j b}, (R j).b = some b → j ≠ i := by rintro j b h rfl; rw [h3] at h; cases h
  have hsel : ∀ j b, (j, b) ∈ (R i).pend → (bitOf bs i j && !(R i).m.testBit j) = true → j < ops.size ∧ D j = true ∧ (R j).b = some b ∧ (R m).m.testBit j = false ∧ bitOf bs i j = true := by
    intro j b hj hs
    obtain ⟨g1, g2⟩ := (hp.pend i (by omega) j b).1 hj
    simp only [Bool.and_eq_true, Bool.not_eq_true'] at hs
    exact ⟨by omega, hready j hs.1, g2, by rw [← h2]; exact hs.2, hs.1⟩
  rw [h1]
  refine hI.rel.wake (K' := KD K ops base R (upd D i) (i + 1) β) rfl ?_ ?_ ?_ ?_ ?_
  · rintro k (h | ⟨j, b, l, g1, g2, g3, g4, g5, g6⟩)
    · exact Or.inl h
    · rw [upd_ne (hne g1)] at g3
      exact Or.inr ⟨j, b, l, g1, g2, g3, (hmask j g4).1, g5, g6⟩
  · rintro a (h | ⟨j, g1, g2, g3⟩)
    · exact Or.inl h
    · exact Or.inr ⟨j, g1, upd_false g2, g3⟩
  · rintro k (h | ⟨j, b, l, g1, g2, g3, g4, g5, g6⟩)
    · exact Or.inl h
    · rw [upd_ne (hne g1)] at g3
      exact Or.inr ⟨j, b, l, g1, g2, g3, (hmask j g4).1, g5, g6⟩
  · intro j b hj hs
    obtain ⟨a1, a2, a3, a4, a5⟩ := hsel j b hj hs
    obtain ⟨l, g1, g2, g3, g5, g4⟩ := hI.news j b a1 a2 a3 a4
    refine ⟨l, g1, Or.inr ⟨j, b, l, a3, a1, a2, a4, g1, rfl⟩, ?_, ⟨g5.1, g5.2, Or.inr ⟨j, b, l, a3, a1, a2, a4, g1, rfl⟩⟩, g4⟩
    rintro (h | ⟨j', b', l', q1, q2, q3, q4, q5, q6⟩)
    · exact g3 h
    · rw [upd_ne (hne q1)] at q3
      obtain ⟨q7, q8⟩ := hmask j' q4
      have := hI.apart j' j b' b l' l q2 a1 q3 a2 q1 a3 q7 a4 q5 g1 q6
      subst this
      rw [q8] at a5; cases a5
  · intro j b j' b' l l' hj hs hj' hs' hl hl' e
    obtain ⟨a1, a2, a3, a4, a5⟩ := hsel j b hj hs
    obtain ⟨c1, c2, c3, c4, c5⟩ := hsel j' b' hj' hs'
    exact hI.apart j j' b b' l l' a1 c1 a2 c2 a3 c3 a4 c4 hl hl' e

theorem Inv.chained (hp : Plan P out ops bs cs base R) (hI : Inv P K ops bs base R D m β fr w) (ho : ops[i]? = some o) (hDi : D i = false) (hready : ∀ j, bitOf bs i j = true → D j = true) (hk : isChain P o = true)
    {β1 : Env} {w1 : World} {v' : Value} {todo : List Item} (hle : β.le β1) (hv : VR β1 (R i).v v') (hrel : Rel P (KD K ops base R (upd D i) (i + 1) β) β1 (R (i + 1)).st w1) (hbel : Bel (KD K ops base R (upd D i) (i + 1) β) w w1) :
    Inv P K ops bs base R (upd D i) (i + 1) β1 (putF fr o v' todo) w1 := by
  obtain ⟨h1, h2, h3, h4, h5⟩ := hI.atChain hp ho hDi hready hk
  have hmask : ∀ j, (R (i + 1)).m.testBit j = false → (R m).m.testBit j = false := by
    intro j hj
    rw [h4, Nat.testBit_or] at hj
    simp at hj
    exact hj.1
  have hne : ∀ {j b}, (R j).b = some b → j ≠ i := by rintro j b h rfl; rw [h3] at h; cases h
  refine hI.next hp ho hDi hready hle hv (Or.inr ⟨i, o, ho, hk, rfl⟩) h5 ?_ (hrel.weaken rfl ?_ (fun a h => h) ?_) ?_ ?_
  · intro j hj
    rw [h4, Nat.testBit_or, Bool.or_eq_true] at hj
    rcases hj with hj | hj
    · exact upd_true (hI.mask j hj)
    · exact upd_true (hready j hj)
  · rintro k (h | ⟨j, b, l, g1, g2, g3, g4, g5, g6⟩)
    · exact Or.inl h
    · have g3' := g3
      rw [upd_ne (hne g1)] at g3
      obtain ⟨l0, q1, _⟩ := hI.news j b g2 g3 g1 (hmask j g4)
      have := hle _ _ q1
      rw [g5] at this; cases this
      exact Or.inr ⟨j, b, l, g1, g2, g3', g4, q1, g6⟩
  · rintro k (h | ⟨j, b, l, g1, g2, g3, g4, g5, g6⟩)
    · exact Or.inl h
    · have g3' := g3
      rw [upd_ne (hne g1)] at g3
      obtain ⟨l0, q1, _⟩ := hI.news j b g2 g3 g1 (hmask j g4)
      have := hle _ _ q1
      rw [g5] at this; cases this
      exact Or.inr ⟨j, b, l, g1, g2, g3', g4, q1, g6⟩
  · intro j b hj hD hjb hm
    have hD' := hD
    rw [upd_ne (hne hjb)] at hD
    obtain ⟨l, g1, g2, g3, g5, g4⟩ := hI.news j b hj hD hjb (hmask j hm)
    refine ⟨l, hle _ _ g1, Nat.lt_of_lt_of_le g2 hbel.size, g3, g5, ?_⟩
    rw [hbel.block l.blk (Or.inr ⟨j, b, l, hjb, hj, hD', hm, g1, rfl⟩)]
    exact g4.mono hle
  · intro j j' b b' l l' h1 h2 h3 h4 h5 h6 h7 h8 h9 h10 h11
    rw [upd_ne (hne h5)] at h3
    rw [upd_ne (hne h6)] at h4
    obtain ⟨l0, g1, _⟩ := hI.news j b h1 h3 h5 (hmask j h7)
    obtain ⟨l1, q1, _⟩ := hI.news j' b' h2 h4 h6 (hmask j' h8)
    have e1 := hle _ _ g1
    have e2 := hle _ _ q1
    rw [h9] at e1; rw [h10] at e2
    cases e1; cases e2
    exact hI.apart j j' b b' l l' h1 h2 h3 h4 h5 h6 (hmask j h7) (hmask j' h8) g1 q1 h11

/-- What the operands read. -/
def rho (ops : Array Oper) (R : Nat → Rec) (D : Nat → Bool) (i : Nat) : Operand → Value
  | .tmp t => (sv ops R D ops.size t).getD undef
  | x => (R i).f.eval x

theorem Inv.sv_at (hp : Plan P out ops bs cs base R) (hI : Inv P K ops bs base R D m β fr w) (ho : ops[i]? = some o) (hDi : D i = false) (hready : ∀ j, bitOf bs i j = true → D j = true) {t : Tmp} (ht : t ∈ tmpsOf ops o) :
    sv ops R D ops.size t = (R i).f.slots.get t := by
  have hi : i < ops.size := (Array.getElem?_eq_some_iff.1 ho).1
  rw [sv_cut (i := i) (fun j hj => ?_) ops.size, (hp.frame i (by omega)).2.2.2 t]
  · congr 1; omega
  · cases hoj : ops[j]? with
    | none => rw [hoj] at hj; cases hj
    | some oj =>
      rw [hoj] at hj
      by_cases hji : j = i
      · subst hji; exact ⟨fun h => absurd h (Nat.lt_irrefl _), fun _ => hDi⟩
      · have hb := hp.tmps i o t j oj ho ht hoj (by simpa using hj) hji
        refine ⟨fun h => ?_, fun h => ?_⟩
        · rw [if_pos h] at hb; exact hready j hb
        · rw [if_neg (by omega)] at hb
          cases hDj : D j with
          | false => rfl
          | true =>
            have := hI.closed j i (Array.getElem?_eq_some_iff.1 hoj).1 hDj hb
            rw [hDi] at this; cases this

theorem Inv.rho_eval (hI : Inv P K ops bs base R D m β fr w) (i : Nat) : ∀ x, VR β (rho ops R D i x) (fr.eval x)
  | .tmp t => hI.slot t
  | .const v => by
    simp only [rho, Fr.eval, Frame.eval]
    split
    · exact VR.flat_refl v ‹_›
    · exact trivial
  | .global g => rfl
  | .func g => ⟨_, _, _, rfl, rfl, VRL.nil (β := β), VRL.nil (β := β)⟩

theorem Inv.rho_op (hp : Plan P out ops bs cs base R) (hI : Inv P K ops bs base R D m β fr w) (ho : ops[i]? = some o) (hDi : D i = false) (hready : ∀ j, bitOf bs i j = true → D j = true) (st : St) : evOp P (rho ops R D i) o st = evOp P (R i).f.eval o st := by
  refine evOp_congr o st fun x hx => ?_
  cases x with
  | tmp t =>
    have : t ∈ tmpsOf ops o := by
      simp only [tmpsOf, List.mem_append, List.mem_filterMap]
      exact Or.inl (Or.inr ⟨.tmp t, by simpa using hx, rfl⟩)
    simp only [rho, Fr.eval, hI.sv_at hp ho hDi hready this]
  | _ => rfl

theorem Inv.wanted (hp : Plan P out ops bs cs base R) (hI : Inv P K ops bs base R D m β fr w) (ho : ops[i]? = some o) (hDi : D i = false) (hready : ∀ j, bitOf bs i j = true → D j = true) {wd : Bool} (hw : wantedF ops (R i).f o = some wd) : Region.wanted o (yielded ops fr.tmps) = wd :=
  wantedF_eq' (β := β) ops (fun d hd => by rw [← hI.sv_at hp ho hDi hready hd]; exact hI.slot d) hw

theorem defer_chain (h : isDefer o.op = true) : kindOf P o = .chain := by
  obtain ⟨dst, op, type, pos, after, guard⟩ := o
  cases op <;> first | rfl | (simp [isDefer] at h)

/-- One operation more. -/
theorem Inv.one {n : Nat} (hN : noNum P = true) (ih : ∀ K, Snd P ct K n) (hp : Plan P (evOut P ct n) ops bs cs base R) (hI : Inv P K ops bs base R D m β fr w) (ho : ops[i]? = some o) (hDi : D i = false) (hready : ∀ j, bitOf bs i j = true → D j = true)
    {css : List Frame} {rest : List Nat} {k : List Item} (ht : fr.todo = .inRegion ops (i :: rest) :: k) :
    ∃ m' β' v' w', Steps P (lone fr css w) (lone (putF fr o v' (.inRegion ops rest :: k)) css w') ∧ β.le β' ∧ Bel K w w' ∧ Inv P K ops bs base R (upd D i) m' β' (putF fr o v' (.inRegion ops rest :: k)) w' := by
  have hi : i < ops.size := (Array.getElem?_eq_some_iff.1 ho).1
  have hst := hp.step i o ho
  obtain ⟨wd, hw, hput, hs⟩ := hst
  have hwd := hI.wanted hp ho hDi hready hw
  have und : ∀ β' : Env, VR β' undef undef := fun β' => ⟨#[], rfl, VRL.nil (β := β')⟩
  have subK : ∀ {D m β} {k}, K k → (KD K ops base R D m β).blk k := fun h => Or.inl h
  have hnd : kindOf P o ≠ .chain → fr.roundOf = none ∨ isDefer o.op = false := by
    intro h
    right
    cases hh : isDefer o.op with
    | false => rfl
    | true => exact absurd (defer_chain hh) h
  cases hk : kindOf P o with
  | quiet =>
    rw [hk] at hs
    have hc : isChain P o = false := by simp [isChain, hk]
    obtain ⟨s1, s2, s3, s4, s5, s6⟩ := hs
    cases wd with
    | false =>
      simp at s6
      exact ⟨m, β, undef, w, .one (s_op_skip hI.mode ht ho hwd), Env.le.refl _, Bel.refl _ _, hI.same hp ho hDi hready s5 hc (Env.le.refl _) (by rw [s6]; exact und _) hI.rel (Bel.refl _ _)⟩
    | true =>
      have hev : ∃ st', evOp P (R i).f.eval o (R m).st = some (.val (R i).v st') := by
        rcases hp.quiet i o ho hk hw with hnh | hq
        · obtain ⟨st0, h0⟩ : ∃ st', evOp P (R i).f.eval o (R i).st = some (.val (R i).v st') := by simpa using s6
          exact noHeap_spec hnh h0 _
        rcases hq m hI.rep with h | h | h
        · rw [h, ← hp.rep_st i (by omega)]; simpa using s6
        · exfalso
          unfold admits at h
          rw [List.all_eq_false] at h
          obtain ⟨c, hc1, hc2⟩ := h
          obtain ⟨oc, ho1, ho2⟩ := hp.csm c hc1
          have hch := hI.chain c oc ho1 ho2
          split at hc2
          · rename_i hlt
            simp only [Bool.not_eq_true', Bool.not_eq_false] at hc2
            have := hI.closed c i (Array.getElem?_eq_some_iff.1 ho1).1 (hch.2 hlt) hc2
            rw [hDi] at this; cases this
          · rename_i hlt
            simp only [Bool.not_eq_true', Bool.not_eq_false] at hc2
            exact hlt (hch.1 (hready c hc2))
        · exact h
      obtain ⟨st', hev⟩ := hev
      obtain rfl := evOp_quiet hk hev
      rw [← hI.rho_op hp ho hDi hready] at hev
      obtain ⟨β1, w1, v', r1, r2, r3, r4, r5⟩ := evOp_sound hN hI.rel (hI.rho_eval i) hev
      exact ⟨m, β1, v', w1, .one (s_op_value hI.mode ht ho hwd (hnd (by rw [hk]; simp)) r1), r2, r5.mono fun _ h => subK h, hI.same hp ho hDi hready s5 hc r2 r4 r3 r5⟩
  | new =>
    rw [hk] at hs
    have hc : isChain P o = false := by simp [isChain, hk]
    obtain ⟨s1, s2, s3, s4⟩ := hs
    cases wd with
    | false =>
      simp at s4
      exact ⟨m, β, undef, w, .one (s_op_skip hI.mode ht ho hwd), Env.le.refl _, Bel.refl _ _, hI.same hp ho hDi hready s4.2.1 hc (Env.le.refl _) (by rw [s4.1]; exact und _) hI.rel (Bel.refl _ _)⟩
    | true =>
      simp only [if_true] at s4
      obtain ⟨b, hb, hev, _⟩ := s4
      have hnone : β (base + i : Nat) = none := (hI.rel.res (base + i) (Or.inr ⟨i, hi, hDi, rfl⟩)).2
      have hev' : evNew (evOp P) (rho ops R D i) o (base + i) = some ((R i).v, b) := by
        unfold evNew at hev ⊢
        rw [hI.rho_op hp ho hDi hready]; exact hev
      obtain ⟨l, ob, v', w1, r1, ⟨rv1, rv2, r2⟩, r3, r4, r5, r6, r7, r8, r9⟩ := sound_new (w := w) hnone (hI.rho_eval i) hk hev'
      obtain ⟨q1, q2, q3⟩ := hI.new (todo := .inRegion ops rest :: k) hp ho hDi hready hb hc ⟨rv1, rv2⟩ r2 r3 r4 r5 r6 r8 r9
      exact ⟨m, _, v', w1, .one (s_op_value hI.mode ht ho hwd (hnd (by rw [hk]; simp)) r1), q1, q2, q3⟩
  | chain =>
    rw [hk] at hs
    have hc : isChain P o = true := by simp [isChain, hk]
    obtain ⟨s1, s2, s3, s4, s5⟩ := hs
    have hrel := hI.woken hp ho hDi hready hc
    cases wd with
    | false =>
      simp only [Bool.false_eq_true, if_false] at s5
      refine ⟨i + 1, β, undef, w, .one (s_op_skip hI.mode ht ho hwd), Env.le.refl _, Bel.refl _ _, hI.chained hp ho hDi hready hc (Env.le.refl _) (by rw [s5.1]; exact und _) (by rw [s5.2]; exact hrel) (Bel.refl _ _)⟩
    | true =>
      simp only [if_true] at s5
      obtain ⟨x, hev, hout⟩ := s5
      rw [← hI.rho_op hp ho hDi hready] at hev
      obtain ⟨β1, w1, v', r1, r2, r3, r4, r5⟩ := (ih (KD K ops base R (upd D i) (i + 1) β)).out _ o _ x _ _ hev hout β w fr css k ops i rest hI.mode ht ho hwd (hI.rho_eval i) hrel
      exact ⟨i + 1, β1, v', w1, r1, r2, r4.mono fun _ h => subK h, hI.chained hp ho hDi hready hc r2 r5 r3 r4⟩
end
end Go.VS
