/- How the evaluator's memory stands to the world's, and what reads, writes and new blocks do to that. No conditions. -/
import Derived.Test.YtdhloodnajdfbaaGreatVsMem
import Derived.Laws.CopyOwn
import Derived.Below
namespace Go.VS
set_option linter.unusedSimpArgs false
set_option linter.unusedVariables false
open Go.RowKit


/-- What is kept out of a run's reach: blocks of the world, and numbers of the evaluator's that stand for nothing yet. -/
structure Prot where
  blk : Nat → Prop
  id : Nat → Prop
instance : CoeFun Prot (fun _ => Nat → Prop) := ⟨Prot.blk⟩

/-- The blocks of K are as they were, and nothing has gone. -/
structure Bel (K : Prot) (w w' : World) : Prop where
  os : w'.os = w.os
  tape : w'.tape = w.tape
  output : w'.output = w.output
  size : w.heap.size ≤ w'.heap.size
  block : ∀ k, K k → w'.heap[k]? = w.heap[k]?

theorem Bel.refl (K : Prot) (w : World) : Bel K w w := ⟨rfl, rfl, rfl, Nat.le_refl _, fun _ _ => rfl⟩
theorem Bel.trans {K : Prot} {a b c : World} (h : Bel K a b) (k : Bel K b c) : Bel K a c :=
  ⟨k.os.trans h.os, k.tape.trans h.tape, k.output.trans h.output, Nat.le_trans h.size k.size, fun i hi => (k.block i hi).trans (h.block i hi)⟩
theorem Bel.drew {K : Prot} {a w : World} (h : Bel K a w) : Bel K a w.drew := ⟨h.os, h.tape, h.output, h.size, h.block⟩
theorem Bel.alloc {K : Prot} {a w : World} (h : Bel K a w) (hB : ∀ k, K k → k < w.heap.size) (o : Obj) : Bel K a (w.alloc o) :=
  h.trans ⟨rfl, rfl, rfl, by show w.heap.size ≤ (w.heap.push o).size; simp, fun k hk => Below.heap_alloc _ _ _ (hB k hk)⟩
theorem bel_setRow {K : Prot} {g : Nat} {w0 w : World} (h : Bel K w0 w) (hg : ¬ K g) (cs : Array Value) : Bel K w0 (w.setRow g cs) :=
  h.trans ⟨rfl, rfl, rfl, by simp, fun k hk => setRow_other _ _ _ _ (fun e => hg (e ▸ hk))⟩
theorem Bel.mono {K K' : Prot} {w w' : World} (h : Bel K w w') (hk : ∀ k, K' k → K k) : Bel K' w w' := ⟨h.os, h.tape, h.output, h.size, fun k hh => h.block k (hk k hh)⟩
theorem Bel.below {B : Nat} {i : Nat → Prop} {w w' : World} (h : Bel ⟨(· < B), i⟩ w w') : Below B w w' := ⟨h.os, h.tape, h.output, h.size, h.block⟩

def ERL (β : Env) : List MapEntry → List MapEntry → Prop
  | [], l => l = []
  | x :: xs, l => ∃ y ys, l = y :: ys ∧ x.born = y.born ∧ VR β x.key y.key ∧ VR β x.val y.val ∧ ERL β xs ys

def SlotsR (β : Env) (t : Trie Value) (n : Nat) (tmps : Array Value) : Prop :=
  tmps.size = n ∧ ∀ i, VR β ((t.get i).getD undef) (tmps.getD i undef)

structure LoopR (β : Env) (x : ALoop) (y : Loop) : Prop where
  state : y.state = x.state
  pending : y.pending = x.pending
  fn : y.fn = x.fn
  params : y.params = x.params
  assign : y.assign = x.assign
  body : y.body = x.body
  slots : SlotsR β x.slots x.ntmps y.tmps
  defers : ∃ l, β x.defers = some l ∧ y.defers = l.blk

def BlkR (P : Program) (β : Env) (l : Loc) (b : Blk) (o : Option Obj) : Prop :=
  match b with
  | .cells c e x => ∃ cc f, o = some (.cells cc e f) ∧ l.esize = esz P e ∧ l.base + l.total = cc.size ∧ c.length ≤ l.total ∧ (x = true → c.length = l.total) ∧
      VRL β c ((cc.toList.drop l.base).take c.length) ∧ (f.2 ≤ f.1 ∨ cc.size ≤ f.1)
  | .map es c => ∃ es', o = some (.map es' c) ∧ ERL β es es'.toList
  | .siter s p => l.base = 0 ∧ o = some (.stringIter s p)
  | .miter m since seen st => l.base = 0 ∧ ∃ m', VR β (.map m) (.map m') ∧ o = some (.mapIter m' since ⟨seen⟩ st)
  | .loop x => ∃ y, o = some (.loop y) ∧ LoopR β x y
  | .deferred => o = some (.deferred (some []))
  | .dead => True

def Blk.live : Blk → Bool
  | .dead => false
  | _ => true

structure Rel (P : Program) (K : Prot) (β : Env) (st : St) (w : World) : Prop where
  base : ∀ k, K k → k < w.heap.size
  dom : ∀ i l, β i = some l → i < st.next ∧ l.blk < w.heap.size
  blk : ∀ i b, st.heap.get i = some b → b.live = true → ∃ l, β i = some l ∧ ¬ K l.blk ∧ BlkR P β l b w.heap[l.blk]?
  inj : ∀ i j bi bj li lj, st.heap.get i = some bi → bi.live = true → st.heap.get j = some bj → bj.live = true → β i = some li → β j = some lj → li.blk = lj.blk → i = j
  res : ∀ i, K.id i → i < st.next ∧ β i = none

theorem ERL.mono {β β' : Env} (h : β.le β') : ∀ {a b : List MapEntry}, ERL β a b → ERL β' a b
  | [], _, e => e
  | x :: xs, _, ⟨y, ys, e, hb, hk, hv, hr⟩ => ⟨y, ys, e, hb, hk.mono h, hv.mono h, hr.mono h⟩
theorem SlotsR.mono {β β' : Env} (h : β.le β') {t : Trie Value} {n : Nat} {a : Array Value} (r : SlotsR β t n a) : SlotsR β' t n a :=
  ⟨r.1, fun i => (r.2 i).mono h⟩
theorem LoopR.mono {β β' : Env} (h : β.le β') {x : ALoop} {y : Loop} (r : LoopR β x y) : LoopR β' x y :=
  ⟨r.state, r.pending, r.fn, r.params, r.assign, r.body, r.slots.mono h, let ⟨l, hl, e⟩ := r.defers; ⟨l, h _ _ hl, e⟩⟩
theorem BlkR.mono {P : Program} {β β' : Env} (h : β.le β') {l : Loc} {b : Blk} {o : Option Obj} (r : BlkR P β l b o) : BlkR P β' l b o := by
  cases b with
  | cells c e x => obtain ⟨cc, f, h1, h2, h3, h4, h5, h6, h7⟩ := r; exact ⟨cc, f, h1, h2, h3, h4, h5, h6.mono h, h7⟩
  | map es c => obtain ⟨es', h1, h2⟩ := r; exact ⟨es', h1, h2.mono h⟩
  | siter s p => exact r
  | miter m a b c => obtain ⟨h0, m', h1, h2⟩ := r; exact ⟨h0, m', h1.mono h, h2⟩
  | loop x => obtain ⟨y, h1, h2⟩ := r; exact ⟨y, h1, h2.mono h⟩
  | deferred => exact r
  | dead => trivial

section
variable {P : Program} {K : Prot} {β : Env} {st : St} {w : World}

theorem Rel.fresh (h : Rel P K β st w) : β st.next = none := by
  cases hb : β st.next with
  | none => rfl
  | some l => exact absurd (h.dom _ _ hb).1 (Nat.lt_irrefl _)

def Env.put (β : Env) (i : Nat) (l : Loc) : Env := fun j => if j = i then some l else β j

theorem Rel.le_put (h : Rel P K β st w) (l : Loc) : β.le (β.put st.next l) := by
  intro i k hi
  have : i ≠ st.next := by rintro rfl; rw [h.fresh] at hi; cases hi
  simp [Env.put, this, hi]

theorem Rel.drew (h : Rel P K β st w) : Rel P K β st w.drew := ⟨h.base, h.dom, h.blk, h.inj, h.res⟩

/-- A new number for a block of the world that no live one has. -/
theorem Rel.adopt (h : Rel P K β st w) (l : Loc) (b : Blk) (hl : l.blk < w.heap.size) (hB : ¬ K l.blk)
    (hno : ∀ j bj lj, st.heap.get j = some bj → bj.live = true → β j = some lj → lj.blk ≠ l.blk)
    (hb : BlkR P (β.put st.next l) l b w.heap[l.blk]?) : Rel P K (β.put st.next l) (st.new b).2 w := by
  have hle := h.le_put l
  refine ⟨h.base, fun i k hi => ?_, fun i bi hi hlive => ?_, fun i j bi bj li lj hi hbi hj hbj hli hlj e => ?_, fun i hi => ⟨Nat.lt_succ_of_lt (h.res i hi).1, by
    have h1 := h.res i hi
    have : i ≠ st.next := Nat.ne_of_lt h1.1
    simp [Env.put, this, h1.2]⟩⟩
  · by_cases hin : i = st.next
    · subst hin
      simp [Env.put] at hi
      subst hi
      exact ⟨Nat.lt_succ_self _, hl⟩
    · simp [Env.put, hin] at hi
      obtain ⟨h1, h2⟩ := h.dom i k hi
      exact ⟨Nat.lt_succ_of_lt h1, h2⟩
  · simp only [St.new, Trie.get_set] at hi
    by_cases hin : i = st.next
    · subst hin
      simp at hi
      subst hi
      exact ⟨l, by simp [Env.put], hB, hb⟩
    · simp [hin] at hi
      obtain ⟨k, h1, h2, h3⟩ := h.blk i bi hi hlive
      exact ⟨k, hle _ _ h1, h2, h3.mono hle⟩
  · simp only [St.new, Trie.get_set] at hi hj
    by_cases hin : i = st.next <;> by_cases hjn : j = st.next
    · rw [hin, hjn]
    · simp [hin, Env.put] at hli
      simp [hjn] at hj
      simp [hjn, Env.put] at hlj
      subst hli
      exact absurd e.symm (hno j bj lj hj hbj hlj)
    · simp [hjn, Env.put] at hlj
      simp [hin] at hi
      simp [hin, Env.put] at hli
      subst hlj
      exact absurd e (hno i bi li hi hbi hli)
    · simp [hin] at hi
      simp [hjn] at hj
      simp [hin, Env.put] at hli
      simp [hjn, Env.put] at hlj
      exact h.inj i j bi bj li lj hi hbi hj hbj hli hlj e

theorem heap_alloc_lt (w : World) (o : Obj) {k : Nat} (h : k < w.heap.size) : (w.alloc o).heap[k]? = w.heap[k]? := Below.heap_alloc w o k h
theorem heap_alloc_new (w : World) (o : Obj) : (w.alloc o).heap[w.heap.size]? = some o := by show (w.heap.push o)[w.heap.size]? = _; simp
theorem size_alloc (w : World) (o : Obj) : (w.alloc o).heap.size = w.heap.size + 1 := by show (w.heap.push o).size = _; simp

theorem Rel.alloc_only (h : Rel P K β st w) (o : Obj) : Rel P K β st (w.alloc o) := by
  refine ⟨fun k hk => by rw [size_alloc]; have := h.base k hk; omega, fun i l hi => ?_, fun i b hi hb => ?_, h.inj, h.res⟩
  · obtain ⟨h1, h2⟩ := h.dom i l hi
    exact ⟨h1, by rw [size_alloc]; omega⟩
  · obtain ⟨l, h1, h2, h3⟩ := h.blk i b hi hb
    exact ⟨l, h1, h2, by rw [heap_alloc_lt w o (h.dom i l h1).2]; exact h3⟩

/-- A new block of the world, with a new number. -/
theorem Rel.alloc (h : Rel P K β st w) (o : Obj) (b : Blk) (total es : Nat) (hb : BlkR P β ⟨w.heap.size, 0, total, es⟩ b (some o)) :
    Rel P K (β.put st.next ⟨w.heap.size, 0, total, es⟩) (st.new b).2 (w.alloc o) := by
  refine (h.alloc_only o).adopt _ b (by rw [size_alloc]; exact Nat.lt_succ_self _) (fun hk => Nat.lt_irrefl _ (h.base _ hk)) (fun j bj lj _ _ hj => ?_) ?_
  · have := (h.dom j lj hj).2
    exact Nat.ne_of_lt this
  · rw [heap_alloc_new]; exact hb.mono (h.le_put _)

/-- A block of the world is written. -/
theorem Rel.update (h : Rel P K β st w) {i : Nat} {b b' : Blk} {l : Loc} {w' : World} (hi : st.heap.get i = some b) (hlive : b.live = true) (hl : β i = some l)
    (hs : w'.heap.size = w.heap.size) (ho : ∀ k, k ≠ l.blk → w'.heap[k]? = w.heap[k]?) (hb : BlkR P β l b' w'.heap[l.blk]?) :
    Rel P K β { st with heap := st.heap.set i b' } w' := by
  refine ⟨fun k hk => by rw [hs]; exact h.base k hk, fun j k hj => by rw [hs]; exact h.dom j k hj, fun j bj hj hlj => ?_, fun j k bj bk lj lk hj hbj hk hbk hlj hlk e => ?_, h.res⟩
  · simp only [Trie.get_set] at hj
    obtain ⟨l0, h1, h2, h3⟩ := h.blk i b hi hlive
    obtain rfl : l0 = l := by rw [h1] at hl; exact Option.some.inj hl
    by_cases hji : j = i
    · subst hji
      simp at hj
      subst hj
      exact ⟨l0, hl, h2, hb⟩
    · simp [hji] at hj
      obtain ⟨lj, g1, g2, g3⟩ := h.blk j bj hj hlj
      refine ⟨lj, g1, g2, ?_⟩
      rw [ho _ (fun e => hji (h.inj j i bj b lj l0 hj hlj hi hlive g1 h1 e))]
      exact g3
  · simp only [Trie.get_set] at hj hk
    have live_of : ∀ m bm, (if m = i then some b' else st.heap.get m) = some bm → bm.live = true → ∃ b0, st.heap.get m = some b0 ∧ b0.live = true := by
      intro m bm hm hbm
      by_cases hmi : m = i
      · subst hmi; exact ⟨b, hi, hlive⟩
      · simp [hmi] at hm; exact ⟨bm, hm, hbm⟩
    obtain ⟨b1, g1, g2⟩ := live_of j bj hj hbj
    obtain ⟨b2, g3, g4⟩ := live_of k bk hk hbk
    exact h.inj j k b1 b2 lj lk g1 g2 g3 g4 hlj hlk e

theorem Rel.kill (h : Rel P K β st w) (i : Nat) : Rel P K β (kill st i) w := by
  refine ⟨h.base, h.dom, fun j bj hj hlj => ?_, fun j k bj bk lj lk hj hbj hk hbk hlj hlk e => ?_, h.res⟩
  · simp only [VS.kill, Trie.get_set] at hj
    by_cases hji : j = i
    · simp [hji] at hj; subst hj; simp [Blk.live] at hlj
    · simp [hji] at hj; exact h.blk j bj hj hlj
  · simp only [VS.kill, Trie.get_set] at hj hk
    have hj' : st.heap.get j = some bj := by
      by_cases hji : j = i
      · simp [hji] at hj; subst hj; simp [Blk.live] at hbj
      · simpa [hji] using hj
    have hk' : st.heap.get k = some bk := by
      by_cases hki : k = i
      · simp [hki] at hk; subst hk; simp [Blk.live] at hbk
      · simpa [hki] using hk
    exact h.inj j k bj bk lj lk hj' hbj hk' hbk hlj hlk e

theorem Rel.get_cells (h : Rel P K β st w) {i : Nat} {c : List Value} {e : TypeId} {x : Bool} (hi : st.heap.get i = some (.cells c e x)) :
    ∃ l cc f, β i = some l ∧ ¬ K l.blk ∧ w.heap[l.blk]? = some (.cells cc e f) ∧ l.esize = esz P e ∧ l.base + l.total = cc.size ∧ c.length ≤ l.total ∧ (x = true → c.length = l.total) ∧
      VRL β c ((cc.toList.drop l.base).take c.length) ∧ (f.2 ≤ f.1 ∨ cc.size ≤ f.1) := by
  obtain ⟨l, h1, h2, cc, f, h3⟩ := h.blk i _ hi rfl
  exact ⟨l, cc, f, h1, h2, h3⟩

theorem add_of (b o n : Nat) : (⟨b, o, none⟩ : Addr).add n = ⟨b, o + n, none⟩ := by unfold Addr.add; split <;> simp_all
theorem add_block (a : Addr) (n : Nat) : (a.add n).block = a.block := by unfold Addr.add; split <;> rfl
theorem add_spot (a : Addr) (n : Nat) (h : a.spot = none) : (a.add n).spot = none := by unfold Addr.add; split <;> simp_all
theorem add_off (a : Addr) (n : Nat) : (a.add n).off = a.off + n := by unfold Addr.add; split <;> simp_all

/-- Cells that the evaluator reads lie in the world. -/
theorem Rel.cellsAt (h : Rel P K β st w) {a : Addr} {n : Nat} {c : List Value} (hc : cellsAt st a n = some c) {l : Loc} (hl : β a.block = some l) :
    ∃ c', VRL β c c' ∧ c'.length = n ∧ c.length = n ∧ ∀ j v, c'[j]? = some v → w.cell? ((⟨l.blk, l.base + a.off, none⟩ : Addr).add j) = some v := by
  unfold VS.cellsAt at hc
  split at hc
  · cases hc
  · split at hc
    · rename_i cs e x hg
      split at hc
      · rename_i hle
        obtain rfl := Option.some.inj hc
        obtain ⟨l', cc, f, h1, h2, h3, h4, h5, h6, h7, h8, h9⟩ := h.get_cells hg
        obtain rfl : l' = l := by rw [h1] at hl; exact Option.some.inj hl
        have hln : ((cs.drop a.off).take n).length = n := by simp; omega
        refine ⟨(((cc.toList.drop l'.base).take cs.length).drop a.off).take n, (h8.drop _).take _, ?_, hln, fun j v hj => ?_⟩
        · rw [← ((h8.drop a.off).take n).length, hln]
        · rw [add_of]
          simp only [World.cell?, h3]
          rw [List.getElem?_take] at hj
          split at hj
          · rw [List.getElem?_drop, List.getElem?_take] at hj
            split at hj
            · rw [List.getElem?_drop] at hj
              simp [Nat.add_assoc] at hj ⊢
              simpa using hj
            · cases hj
          · cases hj
      · cases hc
    · cases hc

theorem storeCells_run (P : Program) (g o : Nat) (t : TypeId) (fz : Nat × Nat) : ∀ (vs : List Value) (i : Nat) (cur : Array Value) (w : World), w.heap[g]? = some (.cells cur t fz) → (fz.2 ≤ fz.1 ∨ cur.size ≤ fz.1) → o + i + vs.length ≤ cur.size → (∀ v ∈ vs, v.oneCell' = true) →
    (storeCells ⟨g, o, none⟩ vs i).run P w = .ok () (w.setRow g (cur.toList.take (o + i) ++ vs ++ cur.toList.drop (o + i + vs.length)).toArray)
  | [], i, cur, w, hg, _, _, _ => by
    simp only [storeCells, List.append_nil, List.length_nil, Nat.add_zero, List.take_append_drop, Array.toArray_toList]
    rw [setRow_self w g cur t fz hg]
    rfl
  | v :: rest, i, cur, w, hg, hfz, hl, h1 => by
    have hi : o + i < cur.size := by simp at hl; omega
    have hadd := add_of g o i
    have hcell : w.cell? ⟨g, o + i, none⟩ = some cur[o + i] := by simp [World.cell?, hg, hi]
    have hfro : w.frozen? ⟨g, o + i, none⟩ = false := by
      obtain ⟨lo, hi'⟩ := fz
      simp only [World.frozen?, hg, Bool.and_eq_false_iff, decide_eq_false_iff_not]
      simp only at hfz
      omega
    have hst : (store ((⟨g, o, none⟩ : Addr).add i) v).run P w = .ok () (w.setRow g (cur.setIfInBounds (o + i) v)) := by
      rw [hadd, run_store P w _ v _ (h1 v (by simp)), hcell]
      simp [hfro, setCell_eq_setRow w g (o + i) cur t fz v hg]
    have ih := storeCells_run P g o t fz rest (i + 1) (cur.setIfInBounds (o + i) v) (w.setRow g (cur.setIfInBounds (o + i) v)) (setRow_heap w g cur _ t _ hg) (by simpa using hfz) (by simp at hl ⊢; omega) (fun x hx => h1 x (by simp [hx]))
    simp only [storeCells, Sem.run_bind, hst, Result.andThen_ok, ih, setRow_setRow]
    congr 3
    have e := list_seg_step cur.toList (o + i) v rest (by simp at hl ⊢; omega)
    simpa [Array.toList_setIfInBounds, Nat.add_assoc] using e

theorem putAt_length (c : List Value) (i : Nat) (vs : List Value) (h : i + vs.length ≤ c.length) : (putAt c i vs).length = c.length := by
  simp [putAt]; omega
theorem putAt_get (c : List Value) (i : Nat) (vs : List Value) (h : i + vs.length ≤ c.length) (j : Nat) : (putAt c i vs)[j]? = if j < i then c[j]? else if j < i + vs.length then vs[j - i]? else c[j]? := by
  unfold putAt
  rw [List.append_assoc, List.getElem?_append]
  simp only [List.length_take]
  by_cases h1 : j < i
  · rw [if_pos (by omega), if_pos h1, List.getElem?_take, if_pos h1]
  · rw [if_neg (by omega), if_neg h1, List.getElem?_append]
    have : min i c.length = i := by omega
    rw [this]
    by_cases h2 : j < i + vs.length
    · rw [if_pos (by omega), if_pos h2]
    · rw [if_neg (by omega), if_neg h2, List.getElem?_drop]
      congr 1; omega

/-- A write of the evaluator is one of the world. -/
theorem Rel.setCells (h : Rel P K β st w) {a : Addr} {vs vs' : List Value} {st' : St} (hc : setCells st a vs = some st') (hv : VRL β vs vs') {l : Loc} (hl : β a.block = some l) :
    ∃ w', (storeCells ⟨l.blk, l.base + a.off, none⟩ vs').run P w = .ok () w' ∧ Rel P K β st' w' ∧ Bel K w w' ∧ st'.next = st.next := by
  unfold VS.setCells at hc
  split at hc
  · cases hc
  · split at hc
    · rename_i cs e x hg
      split at hc
      · rename_i hle
        simp only [Bool.and_eq_true, decide_eq_true_eq] at hle
        obtain rfl := Option.some.inj hc
        obtain ⟨l', cc, f, h1, h2, h3, h4, h5, h6, h7, h8, h9⟩ := h.get_cells hg
        obtain rfl : l' = l := by rw [h1] at hl; exact Option.some.inj hl
        have hlen := hv.length
        have hrun := storeCells_run P l'.blk (l'.base + a.off) e f vs' 0 cc w h3 h9 (by omega) (hv.oneCells hle.2)
        refine ⟨_, hrun, ?_, bel_setRow (Bel.refl _ _) h2 _, rfl⟩
        refine h.update hg rfl h1 (by simp) (fun k hk => setRow_other _ _ _ _ hk) ?_
        rw [setRow_heap w l'.blk cc _ e f h3]
        have hsz : (cc.toList.take (l'.base + a.off + 0) ++ vs' ++ cc.toList.drop (l'.base + a.off + 0 + vs'.length)).length = cc.size := by simp; omega
        refine ⟨_, f, rfl, h4, ?_, by rw [putAt_length _ _ _ hle.1]; exact h6, by rw [putAt_length _ _ _ hle.1]; exact h7, ?_, ?_⟩
        · simp only [List.size_toArray, hsz]; exact h5
        · rw [putAt_length _ _ _ hle.1]
          refine VRL_iff.2 ⟨?_, fun j v v' hj hj' => ?_⟩
          · rw [putAt_length _ _ _ hle.1]
            simp only [List.length_take, List.length_drop, hsz]; omega
          · rw [putAt_get _ _ _ hle.1] at hj
            rw [List.getElem?_take] at hj'
            split at hj'
            · rename_i hjc
              simp only [List.getElem?_drop, Nat.add_zero] at hj'
              have e2 := putAt_get cc.toList (l'.base + a.off) vs' (by simp; omega) (l'.base + j)
              unfold putAt at e2
              rw [e2] at hj'
              obtain ⟨_, hvi⟩ := VRL_iff.1 hv
              obtain ⟨_, h8i⟩ := VRL_iff.1 h8
              split at hj
              · rename_i c1
                rw [if_pos (by omega)] at hj'
                exact h8i j v v' hj (by rw [List.getElem?_take, if_pos hjc, List.getElem?_drop]; exact hj')
              · rename_i c1
                split at hj
                · rename_i c2
                  rw [if_neg (by omega), if_pos (by omega)] at hj'
                  exact hvi (j - a.off) v v' hj (by rw [← hj']; congr 1; omega)
                · rename_i c2
                  rw [if_neg (by omega), if_neg (by omega)] at hj'
                  exact h8i j v v' hj (by rw [List.getElem?_take, if_pos hjc, List.getElem?_drop]; exact hj')
            · cases hj'
        · simp only [List.size_toArray, hsz]; exact h9
      · cases hc
    · cases hc

/-- Reads of cells run. -/
theorem loadCells_run (a : Addr) (c : List Value) (n : Nat) (hn : c.length = n) (h : ∀ j v, c[j]? = some v → w.cell? (a.add j) = some v) : (loadCells a n).run P w = .ok ⟨c⟩ w := by
  subst hn; exact run_loadCells_list w a c h

end
end Go.VS
