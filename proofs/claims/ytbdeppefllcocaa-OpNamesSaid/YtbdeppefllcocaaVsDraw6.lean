/- Regions whose order is drawn: one operation more. No conditions. -/
import Derived.Test.YtbdeppefllcocaaVsDraw5
namespace Go.VS
set_option linter.unusedSimpArgs false
set_option linter.unusedVariables false
open Go.RowKit
section
variable {P : Program} {K : Prot} {ops : Array Oper} {bs cs : List Nat} {base : Nat} {R : Nat → Rec} {out : Out → Option (Value × St)}
variable {D : Nat → Bool} {m : Nat} {β : Env} {fr : Frame} {w : World} {i : Nat} {o : Oper}

theorem upd_true {j : Nat} (h : D j = true) : upd D i j = true := by unfold upd; split <;> simp [h]
theorem upd_self : upd D i i = true := by simp [upd]
theorem upd_ne {j : Nat} (h : j ≠ i) : upd D i j = D j := by simp [upd, h]
theorem upd_false {j : Nat} (h : upd D i j = false) : D j = false := by
  unfold upd at h; split at h
  · cases h
  · exact h

theorem dst_of (ho : ops[i]? = some o) : (ops[i]?).bind (·.dst) = o.dst := by rw [ho]; rfl

theorem Inv.next (hp : Plan P out ops bs cs base R) (hI : Inv P K ops bs base R D m β fr w) (ho : ops[i]? = some o) (hDi : D i = false) (hready : ∀ j, bitOf bs i j = true → D j = true)
    {m' : Nat} {β1 : Env} {w1 : World} {v' : Value} {todo : List Item} (hle : β.le β1) (hv : VR β1 (R i).v v') (hrep : IsRep P ops m')
    (hchain : ∀ c o, ops[c]? = some o → isChain P o = true → (upd D i c = true ↔ c < m'))
    (hmask : ∀ j, (R m').m.testBit j = true → upd D i j = true)
    (hrel : Rel P (KD K ops base R (upd D i) m' β1) β1 (R m').st w1)
    (hnews : ∀ j b, j < ops.size → upd D i j = true → (R j).b = some b → (R m').m.testBit j = false → ∃ l, β1 (base + j : Nat) = some l ∧ l.blk < w1.heap.size ∧ ¬ K l.blk ∧ (l.virt = false ∧ b.isObj = false) ∧ BlkR P β1 l b w1.heap[l.blk]?)
    (hapart : ∀ j j' b b' l l', j < ops.size → j' < ops.size → upd D i j = true → upd D i j' = true → (R j).b = some b → (R j').b = some b' → (R m').m.testBit j = false → (R m').m.testBit j' = false →
      β1 (base + j : Nat) = some l → β1 (base + j' : Nat) = some l' → l.blk = l'.blk → j = j') :
    Inv P K ops bs base R (upd D i) m' β1 (putF fr o v' todo) w1 := by
  have hi : i < ops.size := (Array.getElem?_eq_some_iff.1 ho).1
  have hlast : ∀ t j, (ops[j]?).bind (·.dst) = some t → (ops[i]?).bind (·.dst) = some t → i < j → D j = false := by
    intro t j hj hit hlt
    cases hoj : ops[j]? with
    | none => rw [hoj] at hj; cases hj
    | some oj =>
      rw [hoj] at hj
      rw [dst_of ho] at hit
      have hb := hp.tmps i o t j oj ho (by simp [tmpsOf, hit]) hoj (by simpa using hj) (by omega)
      rw [if_neg (by omega)] at hb
      cases hDj : D j with
      | false => rfl
      | true =>
        have := hI.closed j i (Array.getElem?_eq_some_iff.1 hoj).1 hDj hb
        rw [hDi] at this; cases this
  refine ⟨fun a j ha hDa hb => ?_, hI.low, hrep, hchain, hmask, ?_, fun t => ?_, ?_, ?_, ?_, hrel, hnews, hapart⟩
  · by_cases hai : a = i
    · subst hai; exact upd_true (hready j hb)
    · rw [upd_ne hai] at hDa
      exact upd_true (hI.closed a j ha hDa hb)
  · cases hd : o.dst <;> simp [putF, hd, hI.size]
  · rw [sv_put (fun j h1 h2 h3 => hlast t j h1 h2 h3) ops.size hi, dst_of ho]
    cases hd : o.dst with
    | none => simpa [putF, hd] using (hI.slot t).mono' hle
    | some d =>
      have hdlt : d < fr.tmps.size := by
        obtain ⟨wd, _, hput, _⟩ := hp.step i o ho
        rw [hd] at hput
        unfold Fr.put at hput
        simp only at hput
        split at hput
        · rename_i hlt
          rw [hI.size, ← (hp.frame i (by omega)).1]; exact hlt
        · cases hput
      simp only [putF, hd, Option.some.injEq]
      by_cases ht : d = t
      · subst ht
        rw [if_pos rfl]
        have : (fr.tmps.setIfInBounds d v').getD d undef = v' := by
          simp [Array.getD_eq_getD_getElem?, Array.getElem?_setIfInBounds, hdlt]
        rw [this]; exact hv
      · rw [if_neg ht]
        have : (fr.tmps.setIfInBounds d v').getD t undef = fr.tmps.getD t undef := by
          simp [Array.getD_eq_getD_getElem?, Array.getElem?_setIfInBounds, ht]
        rw [this]; exact (hI.slot t).mono' hle
  · exact hI.defers.mono hle
  · exact hI.round.mono hle
  · exact hI.mode

theorem KD_sub (hI : Inv P K ops bs base R D m β fr w) {β1 : Env} (hle : β.le β1) (hb : (R i).b = none) {k : Nat} (h : (KD K ops base R (upd D i) m β1).blk k) : (KD K ops base R D m β).blk k := by
  rcases h with h | ⟨j, b, l, h1, h2, h3, h4, h5, h6⟩
  · exact Or.inl h
  · have hji : j ≠ i := by rintro rfl; rw [hb] at h1; cases h1
    rw [upd_ne hji] at h3
    obtain ⟨l0, g1, _⟩ := hI.news j b h2 h3 h1 h4
    have := hle _ _ g1
    rw [h5] at this; cases this
    exact Or.inr ⟨j, b, l, h1, h2, h3, h4, g1, h6⟩

theorem KD_subz (hI : Inv P K ops bs base R D m β fr w) {β1 : Env} (hle : β.le β1) (hb : (R i).b = none) {k : Nat} (h : (KD K ops base R (upd D i) m β1).nofz k) : (KD K ops base R D m β).nofz k := by
  rcases h with h | ⟨j, b, l, h1, h2, h3, h4, h5, h6⟩
  · exact Or.inl h
  · have hji : j ≠ i := by rintro rfl; rw [hb] at h1; cases h1
    rw [upd_ne hji] at h3
    obtain ⟨l0, g1, _⟩ := hI.news j b h2 h3 h1 h4
    have := hle _ _ g1
    rw [h5] at this; cases this
    exact Or.inr ⟨j, b, l, h1, h2, h3, h4, g1, h6⟩

/-- An operation that is none of the chain and has made no block. -/
theorem Inv.same (hp : Plan P out ops bs cs base R) (hI : Inv P K ops bs base R D m β fr w) (ho : ops[i]? = some o) (hDi : D i = false) (hready : ∀ j, bitOf bs i j = true → D j = true) (hb : (R i).b = none) (hk : isChain P o = false)
    {β1 : Env} {w1 : World} {v' : Value} {todo : List Item} (hle : β.le β1) (hv : VR β1 (R i).v v') (hrel : Rel P (KD K ops base R D m β) β1 (R m).st w1) (hbel : Bel (KD K ops base R D m β) w w1) :
    Inv P K ops bs base R (upd D i) m β1 (putF fr o v' todo) w1 := by
  have hne : ∀ {j b}, (R j).b = some b → j ≠ i := by rintro j b h rfl; rw [hb] at h; cases h
  refine hI.next hp ho hDi hready hle hv hI.rep (fun c oc hoc hcc => ?_) (fun j hj => upd_true (hI.mask j hj)) (hrel.weaken rfl (fun k hk => KD_sub hI hle hb hk) ?_ (fun k hk => KD_subz hI hle hb hk)) ?_ ?_
  · have : c ≠ i := by rintro rfl; rw [ho] at hoc; cases hoc; rw [hk] at hcc; cases hcc
    rw [upd_ne this]; exact hI.chain c oc hoc hcc
  · rintro j (h | ⟨a, h1, h2, h3⟩)
    · exact Or.inl h
    · exact Or.inr ⟨a, h1, upd_false h2, h3⟩
  · intro j b hj hD hjb hm
    rw [upd_ne (hne hjb)] at hD
    obtain ⟨l, g1, g2, g3, g5, g4⟩ := hI.news j b hj hD hjb hm
    refine ⟨l, hle _ _ g1, Nat.lt_of_lt_of_le g2 hbel.size, g3, g5, ?_⟩
    rw [hbel.block l.blk (Or.inr ⟨j, b, l, hjb, hj, hD, hm, g1, rfl⟩)]
    exact g4.mono hle
  · intro j j' b b' l l' h1 h2 h3 h4 h5 h6 h7 h8 h9 h10 h11
    rw [upd_ne (hne h5)] at h3
    rw [upd_ne (hne h6)] at h4
    obtain ⟨l0, g1, _⟩ := hI.news j b h1 h3 h5 h7
    obtain ⟨l1, q1, _⟩ := hI.news j' b' h2 h4 h6 h8
    have e1 := hle _ _ g1
    have e2 := hle _ _ q1
    rw [h9] at e1; rw [h10] at e2
    cases e1; cases e2
    exact hI.apart j j' b b' l l' h1 h2 h3 h4 h5 h6 h7 h8 g1 q1 h11

theorem BlkR.push {β : Env} {l : Loc} {b : Blk} {o : Obj} {w w' : World} (h : BlkR P β l b w.heap[l.blk]?) (hl : l.blk < w.heap.size) (hw : w'.heap = w.heap.push o) : BlkR P β l b w'.heap[l.blk]? := by
  rw [hw, Array.getElem?_push_lt hl, ← Array.getElem?_eq_getElem hl]; exact h

/-- An operation that has made a block. -/
theorem Inv.new (hp : Plan P out ops bs cs base R) (hI : Inv P K ops bs base R D m β fr w) (ho : ops[i]? = some o) (hDi : D i = false) (hready : ∀ j, bitOf bs i j = true → D j = true) {b : Blk} (hb : (R i).b = some b) (hk : isChain P o = false)
    {todo : List Item} {w1 : World} {l : Loc} {ob : Obj} {v' : Value} (hvo : l.virt = false ∧ b.isObj = false) (hl : l.blk = w.heap.size) (hw : w1.heap = w.heap.push ob) (hos : w1.os = w.os) (htp : w1.tape = w.tape) (hout : w1.output = w.output)
    (hblk : BlkR P (β.put (base + i) l) l b (some ob)) (hv : VR (β.put (base + i) l) (R i).v v') :
    β.le (β.put (base + i) l) ∧ Bel K w w1 ∧ Inv P K ops bs base R (upd D i) m (β.put (base + i) l) (putF fr o v' todo) w1 := by
  have hi : i < ops.size := (Array.getElem?_eq_some_iff.1 ho).1
  have hnone : β (base + i : Nat) = none := (hI.rel.res (base + i) (Or.inr ⟨i, hi, hDi, rfl⟩)).2
  have hlt : base + i < (R m).st.next := (hI.rel.res (base + i) (Or.inr ⟨i, hi, hDi, rfl⟩)).1
  have hle : β.le (β.put (base + i) l) := le_put' hnone l
  have hKb : ∀ k, (KD K ops base R D m β).blk k → k < w.heap.size := hI.rel.base
  have hsz : w1.heap.size = w.heap.size + 1 := by rw [hw]; simp
  have hold : ∀ k, k < w.heap.size → w1.heap[k]? = w.heap[k]? := by
    intro k hk; rw [hw, Array.getElem?_push_lt hk, ← Array.getElem?_eq_getElem hk]
  have hnew : w1.heap[l.blk]? = some ob := by rw [hw, hl]; simp
  have hmi : (R m).m.testBit i = false := by
    cases h : (R m).m.testBit i with
    | false => rfl
    | true => have := hI.mask i h; rw [hDi] at this; cases this
  have hKl : ¬ K l.blk := fun hk => by have := hKb l.blk (Or.inl hk); omega
  have hput : ∀ j, j ≠ i → (β.put (base + i) l) (base + j : Nat) = β (base + j : Nat) := by
    intro j hj
    exact β.put_nat _ _ _ (by omega)
  refine ⟨hle, ⟨hos, htp, hout, by omega, fun k hk => hold k (hKb k (Or.inl hk))⟩, ?_⟩
  refine hI.next hp ho hDi hready hle hv hI.rep (fun c oc hoc hcc => ?_) (fun j hj => upd_true (hI.mask j hj)) ?_ ?_ ?_
  · have : c ≠ i := by rintro rfl; rw [ho] at hoc; cases hoc; rw [hk] at hcc; cases hcc
    rw [upd_ne this]; exact hI.chain c oc hoc hcc
  · have hsub : ∀ k, (KD K ops base R (upd D i) m (β.put (base + i) l)).blk k → (KD K ops base R D m β).blk k ∨ k = l.blk := by
      rintro k (h | ⟨j, b', l', h1, h2, h3, h4, h5, h6⟩)
      · exact Or.inl (Or.inl h)
      · by_cases hji : j = i
        · subst hji
          rw [put_same] at h5
          cases h5
          right; exact h6.symm
        · rw [upd_ne hji] at h3
          rw [hput j hji] at h5
          exact Or.inl (Or.inr ⟨j, b', l', h1, h2, h3, h4, h5, h6⟩)
    have hsubz : ∀ k, (KD K ops base R (upd D i) m (β.put (base + i) l)).nofz k → (KD K ops base R D m β).nofz k ∨ k = l.blk := by
      rintro k (h | ⟨j, b', l', h1, h2, h3, h4, h5, h6⟩)
      · exact Or.inl (Or.inl h)
      · by_cases hji : j = i
        · subst hji
          rw [put_same] at h5
          cases h5
          right; exact h6.symm
        · rw [upd_ne hji] at h3
          rw [hput j hji] at h5
          exact Or.inl (Or.inr ⟨j, b', l', h1, h2, h3, h4, h5, h6⟩)
    have hfl : ∀ k lk, β (Int.negSucc k) = some lk → k < w.heap.size := fun k lk hk => frz_lt hI.rel hk
    have hback : ∀ (a : Nat) la ba, (R m).st.heap.get a = some ba → ba.live = true → (β.put (base + i) l) a = some la → β a = some la := by
      intro a la ba ha hba hla
      obtain ⟨la', h1, _⟩ := hI.rel.blk a ba ha hba
      have e1 := hle _ _ h1
      rw [hla] at e1; cases e1; exact h1
    refine ⟨fun k hk => ?_, fun a la ha => ?_, fun a ba ha hba => ?_, fun a c ba bc la lc ha hba hc hbc hla hlc v1 v2 e => ?_, fun a ha => ?_, fun k lk hk hn => ?_, fun k lk hk => ?_, ?_⟩
    · rcases hsub k hk with h | h
      · have := hKb k h; omega
      · omega
    · by_cases hai : a = base + i
      · subst hai
        rw [put_same] at ha
        cases ha
        exact ⟨hlt, fun _ => by omega⟩
      · rw [β.put_nat _ _ _ hai] at ha
        obtain ⟨h1, h2⟩ := hI.rel.dom a la ha
        exact ⟨h1, fun hv => by have := h2 hv; omega⟩
    · obtain ⟨la, h1, h2, h3⟩ := hI.rel.blk a ba ha hba
      have hlt' := (hI.rel.dom a la h1).2
      refine ⟨la, hle _ _ h1, fun hv hk => ?_, ?_⟩
      · rcases hsub _ hk with h | h
        · exact h2 hv h
        · have := hlt' hv; omega
      · cases hv : la.virt with
        | false => rw [hold _ (hlt' hv)]; exact h3.mono hle
        | true => exact (h3.anywhere hv _).mono hle
    · exact hI.rel.inj a c ba bc la lc ha hba hc hbc (hback a la ba ha hba hla) (hback c lc bc hc hbc hlc) v1 v2 e
    · rcases ha with ha | ⟨j, h1, h2, h3⟩
      · obtain ⟨g1, g2⟩ := hI.rel.res a (Or.inl ha)
        refine ⟨g1, ?_⟩
        have := hI.low a ha
        rw [β.put_nat _ _ _ (by omega)]; exact g2
      · have hji : j ≠ i := by rintro rfl; rw [upd_self] at h2; cases h2
        obtain ⟨g1, g2⟩ := hI.rel.res a (Or.inr ⟨j, h1, upd_false h2, h3⟩)
        refine ⟨g1, ?_⟩
        rw [h3, hput j hji, ← h3]; exact g2
    · rw [β.put_neg] at hk
      rcases hsubz k hn with h | h
      · exact hI.rel.nofz k lk hk h
      · have := hfl k lk hk; omega
    · rw [β.put_neg] at hk
      obtain ⟨f1, f2, f3⟩ := hI.rel.frz k lk hk
      refine ⟨f1, by rw [hold _ (hfl k lk hk)]; exact f2, fun j bj lj hj hbj hlj hv e => ?_⟩
      exact f3 j bj lj hj hbj (hback j lj bj hj hbj hlj) hv e
    · refine hI.rel.objs.step rfl hle (by omega) (fun k lk hk => hold _ (hfl k lk hk)) (fun _ _ => Iff.rfl) (fun a k o la _ _ hk hKk hf hj => ⟨hold _ hk, fun hk' => ?_, by rw [β.put_neg]; exact hf, fun c bc lc hc hbc hlc hv e => hj c bc lc hc hbc (hback c lc bc hc hbc hlc) hv e⟩)
      rcases hsub k hk' with h | h
      · exact hKk h
      · omega
  · intro j b' hj hD hjb hm
    by_cases hji : j = i
    · subst hji
      rw [hb] at hjb; cases hjb
      exact ⟨l, put_same _ _ _, by omega, hKl, hvo, by rw [hnew]; exact hblk⟩
    · rw [upd_ne hji] at hD
      obtain ⟨l', g1, g2, g3, g5, g4⟩ := hI.news j b' hj hD hjb hm
      exact ⟨l', hle _ _ g1, by omega, g3, g5, by rw [hold _ g2]; exact g4.mono hle⟩
  · intro j j' b1 b2 l1 l2 h1 h2 h3 h4 h5 h6 h7 h8 h9 h10 h11
    by_cases hji : j = i <;> by_cases hji' : j' = i
    · rw [hji, hji']
    · subst hji
      rw [upd_ne hji'] at h4
      obtain ⟨l', g1, g2, _⟩ := hI.news j' b2 h2 h4 h6 h8
      rw [hput j' hji', g1] at h10
      rw [put_same] at h9
      cases h10; cases h9; omega
    · subst hji'
      rw [upd_ne hji] at h3
      obtain ⟨l', g1, g2, _⟩ := hI.news j b1 h1 h3 h5 h7
      rw [hput j hji, g1] at h9
      rw [put_same] at h10
      cases h9; cases h10; omega
    · rw [upd_ne hji] at h3
      rw [upd_ne hji'] at h4
      rw [hput j hji] at h9
      rw [hput j' hji'] at h10
      exact hI.apart j j' b1 b2 l1 l2 h1 h2 h3 h4 h5 h6 h7 h8 h9 h10 h11
end
end Go.VS
