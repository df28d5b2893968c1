/- How the evaluator's memory stands to the world's, and what reads, writes and new blocks do to that. No conditions. -/
import Derived.Test.YtbdeppefllcocaaVsMem
import Derived.Laws.CopyOwn
import Derived.Below
namespace Go.VS
set_option linter.unusedSimpArgs false
set_option linter.unusedVariables false
open Go.RowKit


/-- What is kept out of a run's reach: blocks of the world, and numbers of the evaluator's that stand for nothing yet. -/
structure Obs where
  rel : Ob → Env → Nat → (Nat → Prop) → World → Prop
  mono : ∀ o (β β' : Env) b fp w w', rel o β b fp w → (negE β).le (negE β') → w.heap.size ≤ w'.heap.size → (∀ k, fp k → w'.heap[k]? = w.heap[k]?) → (∀ k l, β (Int.negSucc k) = some l → w'.heap[k]? = w.heap[k]?) → rel o β' b fp w'

structure Prot where
  blk : Nat → Prop
  id : Nat → Prop
  nofz : Nat → Prop
  obs : Obs
instance : CoeFun Prot (fun _ => Nat → Prop) := ⟨Prot.blk⟩

/-- The blocks of K are as they were, and nothing has gone. -/
structure Bel (K : Prot) (w w' : World) : Prop where
  os : w'.os = w.os
  tape : w'.tape = w.tape
  output : w'.output = w.output
  size : w.heap.size ≤ w'.heap.size
  block : ∀ k, K k → w'.heap[k]? = w.heap[k]?

theorem Bel.refl (K : Prot) (w : World) : Bel K w w := ⟨rfl, rfl, rfl, Nat.le_refl _, fun _ _ => rfl⟩
theorem Bel.trans {K : Prot} {a b c : World} (h : Bel K a b) (k : Bel K b c) : Bel K a c :=
  ⟨k.os.trans h.os, k.tape.trans h.tape, k.output.trans h.output, Nat.le_trans h.size k.size, fun i hi => (k.block i hi).trans (h.block i hi)⟩
theorem Bel.drew {K : Prot} {a w : World} (h : Bel K a w) : Bel K a w.drew := ⟨h.os, h.tape, h.output, h.size, h.block⟩
theorem Bel.alloc {K : Prot} {a w : World} (h : Bel K a w) (hB : ∀ k, K k → k < w.heap.size) (o : Obj) : Bel K a (w.alloc o) :=
  h.trans ⟨rfl, rfl, rfl, by show w.heap.size ≤ (w.heap.push o).size; simp, fun k hk => Below.heap_alloc _ _ _ (hB k hk)⟩
theorem bel_setRow {K : Prot} {g : Nat} {w0 w : World} (h : Bel K w0 w) (hg : ¬ K g) (cs : Array Value) : Bel K w0 (w.setRow g cs) :=
  h.trans ⟨rfl, rfl, rfl, by simp, fun k hk => setRow_other _ _ _ _ (fun e => hg (e ▸ hk))⟩
theorem Bel.mono {K K' : Prot} {w w' : World} (h : Bel K w w') (hk : ∀ k, K' k → K k) : Bel K' w w' := ⟨h.os, h.tape, h.output, h.size, fun k hh => h.block k (hk k hh)⟩
theorem Bel.below {B : Nat} {i : Nat → Prop} {ob : Obs} {w w' : World} {nf : Nat → Prop} (h : Bel ⟨(· < B), i, nf, ob⟩ w w') : Below B w w' := ⟨h.os, h.tape, h.output, h.size, h.block⟩

def ERL (β : Env) : List MapEntry → List MapEntry → Prop
  | [], l => l = []
  | x :: xs, l => ∃ y ys, l = y :: ys ∧ x.born = y.born ∧ VR β x.key y.key ∧ VR β x.val y.val ∧ ERL β xs ys

def SlotsR (β : Env) (t : Trie Value) (n : Nat) (tmps : Array Value) : Prop :=
  tmps.size = n ∧ ∀ i, VR β ((t.get i).getD undef) (tmps.getD i undef)

structure LoopR (β : Env) (x : ALoop) (y : Loop) : Prop where
  state : y.state = x.state
  pending : y.pending = x.pending
  fn : y.fn = x.fn
  params : y.params = x.params
  assign : y.assign = x.assign
  body : y.body = x.body
  slots : SlotsR β x.slots x.ntmps y.tmps
  defers : ∃ l, β x.defers = some l ∧ y.defers = l.blk

/-- Codes that lie in a function's body. -/
inductive Sub : Code → Code → Prop
  | refl (c) : Sub c c
  | seql {x a b} : Sub x a → Sub x (.seq a b)
  | seqr {x a b} : Sub x b → Sub x (.seq a b)
  | condl {x o a b} : Sub x a → Sub x (.cond o a b)
  | condr {x o a b} : Sub x b → Sub x (.cond o a b)
  | block {x id a} : Sub x a → Sub x (.block id a)
  | loop {x a} : Sub x a → Sub x (.loop a)
  | scope {x a} : Sub x a → Sub x (.scope a)
  | rangel {x g ps a b} : Sub x a → Sub x (.rangeFunc g ps a b)
  | ranger {x g ps a b} : Sub x b → Sub x (.rangeFunc g ps a b)
theorem Sub.trans {a b c : Code} (h : Sub a b) (k : Sub b c) : Sub a c := by
  induction k with
  | refl => exact h
  | seql _ ih => exact .seql ih
  | seqr _ ih => exact .seqr ih
  | condl _ ih => exact .condl ih
  | condr _ ih => exact .condr ih
  | block _ ih => exact .block ih
  | loop _ ih => exact .loop ih
  | scope _ ih => exact .scope ih
  | rangel _ ih => exact .rangel ih
  | ranger _ ih => exact .ranger ih

def Occ (P : Program) (fid : FuncId) (c : Code) : Prop := ∃ fn body, P.funcs[fid]? = some fn ∧ fn.body = some body ∧ Sub c body
theorem Occ.sub {P : Program} {fid : FuncId} {c d : Code} (h : Occ P fid c) (k : Sub d c) : Occ P fid d := let ⟨fn, body, h1, h2, h3⟩ := h; ⟨fn, body, h1, h2, k.trans h3⟩

def BlkR (P : Program) (β : Env) (l : Loc) (b : Blk) (o : Option Obj) : Prop :=
  match b with
  | .cells c e x => (l.virt = true ∧ c = [] ∧ x = false) ∨ (l.virt = false ∧ ∃ cc f, o = some (.cells cc e f) ∧ l.esize = esz P e ∧ l.base + l.total ≤ cc.size ∧ c.length ≤ l.total ∧ (x = true → c.length = l.total) ∧
      VRL β c ((cc.toList.drop l.base).take c.length) ∧ (f.2 ≤ f.1 ∨ cc.size ≤ f.1))
  | .map es c => l.virt = false ∧ ∃ es', o = some (.map es' c) ∧ ERL β es es'.toList
  | .siter s p => l.virt = false ∧ l.base = 0 ∧ o = some (.stringIter s p)
  | .miter m since seen st => l.virt = false ∧ l.base = 0 ∧ ∃ m', VR β (.map m) (.map m') ∧ o = some (.mapIter m' since ⟨seen⟩ st)
  | .loop x => l.virt = false ∧ (Occ P x.fn x.assign ∧ Occ P x.fn x.body) ∧ ∃ y, o = some (.loop y) ∧ LoopR β x y
  | .deferred => l.virt = false ∧ o = some (.deferred (some []))
  | .dead => True
  | .obj _ => l.virt = false

def Blk.live : Blk → Bool
  | .dead => false
  | _ => true
def Blk.isObj : Blk → Bool
  | .obj _ => true
  | _ => false

/-- What is said of things of several blocks: each has blocks of its own. -/
def ObjsR (K : Prot) (β : Env) (st : St) (w : World) : Prop := ∃ fp : Nat → Nat → Prop,
  (∀ (i : Nat) o, st.heap.get i = some (.obj o) → ∃ l, β i = some l ∧ fp i l.blk ∧ K.obs.rel o β l.blk (fp i) w) ∧
  (∀ (i : Nat) k, fp i k → (∃ o, st.heap.get i = some (.obj o)) ∧ k < w.heap.size ∧ ¬ K k ∧ β (Int.negSucc k) = none ∧ (∀ j, fp j k → j = i) ∧
    ∀ (j : Nat) bj lj, st.heap.get j = some bj → bj.live = true → β j = some lj → lj.virt = false → lj.blk = k → j = i)

structure Rel (P : Program) (K : Prot) (β : Env) (st : St) (w : World) : Prop where
  base : ∀ k, K k → k < w.heap.size
  dom : ∀ (i : Nat) l, β i = some l → i < st.next ∧ (l.virt = false → l.blk < w.heap.size)
  blk : ∀ (i : Nat) b, st.heap.get i = some b → b.live = true → ∃ l, β i = some l ∧ (l.virt = false → ¬ K l.blk) ∧ BlkR P β l b w.heap[l.blk]?
  inj : ∀ (i j : Nat) bi bj li lj, st.heap.get i = some bi → bi.live = true → st.heap.get j = some bj → bj.live = true → β i = some li → β j = some lj → li.virt = false → lj.virt = false → li.blk = lj.blk → i = j
  res : ∀ (i : Nat), K.id i → i < st.next ∧ β i = none
  nofz : ∀ k l, β (Int.negSucc k) = some l → ¬ K.nofz k
  frz : ∀ k l, β (Int.negSucc k) = some l → (l.obj.isSome = true ∧ l = ⟨k, 0, 0, 0, l.obj, false⟩) ∧ w.heap[k]? = l.obj ∧ ∀ (j : Nat) bj lj, st.heap.get j = some bj → bj.live = true → β j = some lj → lj.virt = false → lj.blk ≠ k
  objs : ObjsR K β st w

theorem ERL.mono {β β' : Env} (h : β.le β') : ∀ {a b : List MapEntry}, ERL β a b → ERL β' a b
  | [], _, e => e
  | x :: xs, _, ⟨y, ys, e, hb, hk, hv, hr⟩ => ⟨y, ys, e, hb, hk.mono h, hv.mono h, hr.mono h⟩
theorem SlotsR.mono {β β' : Env} (h : β.le β') {t : Trie Value} {n : Nat} {a : Array Value} (r : SlotsR β t n a) : SlotsR β' t n a :=
  ⟨r.1, fun i => (r.2 i).mono h⟩
theorem LoopR.mono {β β' : Env} (h : β.le β') {x : ALoop} {y : Loop} (r : LoopR β x y) : LoopR β' x y :=
  ⟨r.state, r.pending, r.fn, r.params, r.assign, r.body, r.slots.mono h, let ⟨l, hl, e⟩ := r.defers; ⟨l, h _ _ hl, e⟩⟩
theorem BlkR.mono {P : Program} {β β' : Env} (h : β.le β') {l : Loc} {b : Blk} {o : Option Obj} (r : BlkR P β l b o) : BlkR P β' l b o := by
  cases b with
  | cells c e x =>
    obtain r | ⟨hv, cc, f, h1, h2, h3, h4, h5, h6, h7⟩ := r
    · exact Or.inl r
    · exact Or.inr ⟨hv, cc, f, h1, h2, h3, h4, h5, h6.mono h, h7⟩
  | map es c => obtain ⟨hv, es', h1, h2⟩ := r; exact ⟨hv, es', h1, h2.mono h⟩
  | siter s p => exact r
  | miter m a b c => obtain ⟨hv, h0, m', h1, h2⟩ := r; exact ⟨hv, h0, m', h1.mono h, h2⟩
  | loop x => obtain ⟨hv, ho, y, h1, h2⟩ := r; exact ⟨hv, ho, y, h1, h2.mono h⟩
  | deferred => exact r
  | dead => trivial
  | obj o => exact r

theorem BlkR.anywhere {P : Program} {β : Env} {l : Loc} {b : Blk} {o : Option Obj} (h : BlkR P β l b o) (hv : l.virt = true) (o' : Option Obj) : BlkR P β l b o' := by
  cases b with
  | cells c e x =>
    obtain h | h := h
    · exact Or.inl h
    · exact absurd h.1 (by simp [hv])
  | map es c => exact absurd h.1 (by simp [hv])
  | siter s p => exact absurd h.1 (by simp [hv])
  | miter m a b c => exact absurd h.1 (by simp [hv])
  | loop x => exact absurd h.1 (by simp [hv])
  | deferred => exact absurd h.1 (by simp [hv])
  | dead => trivial
  | obj o => exact h

section
variable {P : Program} {K : Prot} {β : Env} {st : St} {w : World}

theorem Rel.fresh (h : Rel P K β st w) : β st.next = none := by
  cases hb : β st.next with
  | none => rfl
  | some l => exact absurd (h.dom _ _ hb).1 (Nat.lt_irrefl _)

def Env.put (β : Env) (i : Nat) (l : Loc) : Env := fun j => if j = (i : Int) then some l else β j

theorem Env.put_ne (β : Env) {i : Nat} {l : Loc} {j : Int} (h : j ≠ i) : β.put i l j = β j := by simp [Env.put, h]
theorem Env.put_neg (β : Env) (i : Nat) (l : Loc) (k : Nat) : β.put i l (Int.negSucc k) = β (Int.negSucc k) := β.put_ne (by intro e; cases e)
theorem Env.put_nat (β : Env) (i : Nat) (l : Loc) (j : Nat) (h : j ≠ i) : β.put i l (j : Int) = β j := β.put_ne (by omega)
theorem put_same (β : Env) (i : Nat) (l : Loc) : β.put i l i = some l := by simp [Env.put]

theorem Rel.le_put (h : Rel P K β st w) (l : Loc) : β.le (β.put st.next l) := by
  intro i k hi
  have : i ≠ (st.next : Int) := by rintro rfl; rw [h.fresh] at hi; cases hi
  rw [β.put_ne this]; exact hi

theorem Rel.drew (h : Rel P K β st w) : Rel P K β st w.drew :=
  ⟨h.base, h.dom, h.blk, h.inj, h.res, h.nofz, h.frz, let ⟨fp, h1, h2⟩ := h.objs; ⟨fp, fun i o hi => let ⟨l, a, b, c⟩ := h1 i o hi; ⟨l, a, b, K.obs.mono _ _ _ _ _ _ _ c (Env.le.refl _) (Nat.le_refl _) (fun _ _ => rfl) (fun _ _ _ => rfl)⟩, h2⟩⟩

/-- What is said of things stays where their blocks and the frozen ones stay, and no other block becomes one of theirs. -/
theorem ObjsR.step {K' : Prot} {β' : Env} {st' : St} {w' : World} (h : ObjsR K β st w) (hK : K'.obs = K.obs) (hle : β.le β') (hs : w.heap.size ≤ w'.heap.size) (hfz : ∀ k l, β (Int.negSucc k) = some l → w'.heap[k]? = w.heap[k]?)
    (hget : ∀ (i : Nat) o, st'.heap.get i = some (.obj o) ↔ st.heap.get i = some (.obj o))
    (hw : ∀ (i : Nat) k o l, st.heap.get i = some (.obj o) → β i = some l → k < w.heap.size → ¬ K k → β (Int.negSucc k) = none → (∀ (j : Nat) bj lj, st.heap.get j = some bj → bj.live = true → β j = some lj → lj.virt = false → lj.blk = k → j = i) →
      w'.heap[k]? = w.heap[k]? ∧ ¬ K' k ∧ β' (Int.negSucc k) = none ∧ ∀ (j : Nat) bj lj, st'.heap.get j = some bj → bj.live = true → β' j = some lj → lj.virt = false → lj.blk = k → j = i) : ObjsR K' β' st' w' := by
  obtain ⟨fp, h1, h2⟩ := h
  have key : ∀ (i : Nat) k, fp i k → w'.heap[k]? = w.heap[k]? ∧ ¬ K' k ∧ β' (Int.negSucc k) = none ∧ ∀ (j : Nat) bj lj, st'.heap.get j = some bj → bj.live = true → β' j = some lj → lj.virt = false → lj.blk = k → j = i := by
    intro i k hk
    obtain ⟨⟨o, ho⟩, a, b, c, d, e⟩ := h2 i k hk
    obtain ⟨l, hl, _⟩ := h1 i o ho
    exact hw i k o l ho hl a b c e
  refine ⟨fp, fun i o hi => ?_, fun i k hk => ?_⟩
  · obtain ⟨l, a, b, c⟩ := h1 i o ((hget i o).1 hi)
    exact ⟨l, hle _ _ a, b, by rw [hK]; exact K.obs.mono _ _ _ _ _ _ _ c (negE_mono hle) hs (fun k hk => (key i k hk).1) hfz⟩
  · obtain ⟨⟨o, ho⟩, a, b, c, d, e⟩ := h2 i k hk
    obtain ⟨_, k2, k3, k4⟩ := key i k hk
    exact ⟨⟨o, (hget i o).2 ho⟩, Nat.lt_of_lt_of_le a hs, k2, k3, d, k4⟩

/-- A new number for a block of the world that no live one has. -/
theorem Rel.adopt (h : Rel P K β st w) (l : Loc) (b : Blk) (hl : l.virt = false → l.blk < w.heap.size) (hB : l.virt = false → ¬ K l.blk) (hfr : l.virt = false → β (Int.negSucc l.blk) = none)
    (hno : l.virt = false → ∀ (j : Nat) bj lj, st.heap.get j = some bj → bj.live = true → β j = some lj → lj.virt = false → lj.blk ≠ l.blk)
    (hb : BlkR P (β.put st.next l) l b w.heap[l.blk]?) (ho : ObjsR K (β.put st.next l) (st.new b).2 w) : Rel P K (β.put st.next l) (st.new b).2 w := by
  have hle := h.le_put l
  have old : ∀ (i : Nat) k, i ≠ st.next → β.put st.next l i = some k → β i = some k := fun i k hin hi => by rwa [β.put_nat _ _ _ hin] at hi
  refine ⟨h.base, fun i k hi => ?_, fun i bi hi hlive => ?_, fun i j bi bj li lj hi hbi hj hbj hli hlj v1 v2 e => ?_, fun i hi => ⟨Nat.lt_succ_of_lt (h.res i hi).1, ?_⟩, fun k lk hk => h.nofz k lk (by rwa [β.put_neg] at hk), fun k lk hk => ?_, ho⟩
  · by_cases hin : i = st.next
    · subst hin
      rw [put_same] at hi
      cases hi
      exact ⟨Nat.lt_succ_self _, hl⟩
    · obtain ⟨h1, h2⟩ := h.dom i k (old i k hin hi)
      exact ⟨Nat.lt_succ_of_lt h1, h2⟩
  · simp only [St.new, Trie.get_set] at hi
    by_cases hin : i = st.next
    · subst hin
      simp at hi
      subst hi
      exact ⟨l, put_same _ _ _, hB, hb⟩
    · simp [hin] at hi
      obtain ⟨k, h1, h2, h3⟩ := h.blk i bi hi hlive
      exact ⟨k, hle _ _ h1, h2, h3.mono hle⟩
  · simp only [St.new, Trie.get_set] at hi hj
    by_cases hin : i = st.next <;> by_cases hjn : j = st.next
    · rw [hin, hjn]
    · subst hin
      rw [put_same] at hli
      cases hli
      simp [hjn] at hj
      exact absurd e.symm (hno v1 j bj lj hj hbj (old j lj hjn hlj) v2)
    · subst hjn
      rw [put_same] at hlj
      cases hlj
      simp [hin] at hi
      exact absurd e (hno v2 i bi li hi hbi (old i li hin hli) v1)
    · simp [hin] at hi
      simp [hjn] at hj
      exact h.inj i j bi bj li lj hi hbi hj hbj (old i li hin hli) (old j lj hjn hlj) v1 v2 e
  · have h1 := h.res i hi
    have : i ≠ st.next := Nat.ne_of_lt h1.1
    rw [β.put_nat _ _ _ this, h1.2]
  · rw [β.put_neg] at hk
    obtain ⟨f1, f2, f3⟩ := h.frz k lk hk
    refine ⟨f1, f2, fun j bj lj hj hbj hlj hv e => ?_⟩
    simp only [St.new, Trie.get_set] at hj
    by_cases hjn : j = st.next
    · subst hjn
      rw [put_same] at hlj
      cases hlj
      have := hfr hv
      rw [e, hk] at this
      cases this
    · simp [hjn] at hj
      exact f3 j bj lj hj hbj (old j lj hjn hlj) hv e

theorem heap_alloc_lt (w : World) (o : Obj) {k : Nat} (h : k < w.heap.size) : (w.alloc o).heap[k]? = w.heap[k]? := Below.heap_alloc w o k h
theorem heap_alloc_new (w : World) (o : Obj) : (w.alloc o).heap[w.heap.size]? = some o := by show (w.heap.push o)[w.heap.size]? = _; simp
theorem size_alloc (w : World) (o : Obj) : (w.alloc o).heap.size = w.heap.size + 1 := by show (w.heap.push o).size = _; simp

theorem frz_lt (h : Rel P K β st w) {k : Nat} {l : Loc} (hk : β (Int.negSucc k) = some l) : k < w.heap.size := by
  obtain ⟨f1, f2, _⟩ := h.frz k l hk
  cases hx : w.heap[k]? with
  | none => rw [hx] at f2; rw [← f2] at f1; simp at f1
  | some o => exact (Array.getElem?_eq_some_iff.1 hx).1

/-- The world has more blocks, all else as it was. -/
theorem Rel.more (h : Rel P K β st w) {w' : World} (hs : w.heap.size ≤ w'.heap.size) (hw : ∀ k, k < w.heap.size → w'.heap[k]? = w.heap[k]?) : Rel P K β st w' := by
  refine ⟨fun k hk => Nat.lt_of_lt_of_le (h.base k hk) hs, fun i l hi => ?_, fun i b hi hb => ?_, h.inj, h.res, h.nofz, fun k l hk => ?_, ?_⟩
  · obtain ⟨h1, h2⟩ := h.dom i l hi
    exact ⟨h1, fun hv => Nat.lt_of_lt_of_le (h2 hv) hs⟩
  · obtain ⟨l, h1, h2, h3⟩ := h.blk i b hi hb
    refine ⟨l, h1, h2, ?_⟩
    cases hv : l.virt with
    | false => rw [hw _ ((h.dom i l h1).2 hv)]; exact h3
    | true => exact h3.anywhere hv _
  · obtain ⟨f1, f2, f3⟩ := h.frz k l hk
    exact ⟨f1, by rw [hw _ (frz_lt h hk)]; exact f2, f3⟩
  · exact h.objs.step rfl (Env.le.refl _) hs (fun k l hk => hw _ (frz_lt h hk)) (fun _ _ => Iff.rfl) (fun i k o l _ _ hk hK hf hj => ⟨hw k hk, hK, hf, hj⟩)

theorem Rel.alloc_only (h : Rel P K β st w) (o : Obj) : Rel P K β st (w.alloc o) :=
  h.more (by rw [size_alloc]; omega) fun k hk => heap_alloc_lt w o hk

theorem new_obj {st : St} {b : Blk} (hb : b.isObj = false) (hn : ∀ o, st.heap.get st.next ≠ some (.obj o)) (i : Nat) (o : Ob) : (st.new b).2.heap.get i = some (.obj o) ↔ st.heap.get i = some (.obj o) := by
  simp only [St.new, Trie.get_set]
  by_cases hi : i = st.next
  · subst hi
    simp only [if_true]
    constructor
    · intro e; cases e; cases hb
    · intro e; exact absurd e (hn o)
  · simp [hi]

theorem Rel.no_obj (h : Rel P K β st w) (o : Ob) : st.heap.get st.next ≠ some (.obj o) := by
  intro e
  obtain ⟨l, h1, _⟩ := h.blk _ _ e rfl
  rw [h.fresh] at h1; cases h1

/-- A new block of the world, with a new number. -/
theorem Rel.alloc (h : Rel P K β st w) (o : Obj) (b : Blk) (hob : b.isObj = false) (total es : Nat) (hb : BlkR P β ⟨w.heap.size, 0, total, es, none, false⟩ b (some o)) :
    Rel P K (β.put st.next ⟨w.heap.size, 0, total, es, none, false⟩) (st.new b).2 (w.alloc o) := by
  have h1 := h.alloc_only o
  have hle := h.le_put ⟨w.heap.size, 0, total, es, none, false⟩
  have hneg : β (Int.negSucc w.heap.size) = none := by
    cases hx : β (Int.negSucc w.heap.size) with
    | none => rfl
    | some l => exact absurd (frz_lt h hx) (Nat.lt_irrefl _)
  refine h1.adopt _ b (fun _ => by rw [size_alloc]; exact Nat.lt_succ_self _) (fun _ hk => Nat.lt_irrefl _ (h.base _ hk)) (fun _ => hneg) (fun _ j bj lj _ _ hj hv => ?_) ?_ ?_
  · have := (h.dom j lj hj).2 hv
    exact Nat.ne_of_lt this
  · rw [heap_alloc_new]; exact hb.mono hle
  · refine h.objs.step rfl hle (by rw [size_alloc]; omega) (fun k l hk => heap_alloc_lt w o (frz_lt h hk)) (new_obj hob h.no_obj) (fun i k o' l _ _ hk hK hf hj => ⟨heap_alloc_lt w o hk, hK, by rw [β.put_neg]; exact hf, fun j bj lj hj1 hj2 hj3 hj4 hj5 => ?_⟩)
    simp only [St.new, Trie.get_set] at hj1
    by_cases hjn : j = st.next
    · subst hjn
      rw [put_same] at hj3
      cases hj3
      exact absurd hj5.symm (Nat.ne_of_lt hk)
    · simp [hjn] at hj1
      exact hj j bj lj hj1 hj2 (by rwa [β.put_nat _ _ _ hjn] at hj3) hj4 hj5

/-- A list without an element gets a number, though it has no block. -/
theorem Rel.virt (h : Rel P K β st w) (e : TypeId) (total es : Nat) : Rel P K (β.put st.next ⟨0, 0, total, es, none, true⟩) (st.new (.cells [] e false)).2 w := by
  have hle := h.le_put ⟨0, 0, total, es, none, true⟩
  refine h.adopt _ _ (fun e => by cases e) (fun e => by cases e) (fun e => by cases e) (fun e => by cases e) (Or.inl ⟨rfl, rfl, rfl⟩) ?_
  refine h.objs.step rfl hle (Nat.le_refl _) (fun _ _ _ => rfl) (new_obj rfl h.no_obj) (fun i k o' l _ _ hk hK hf hj => ⟨rfl, hK, by rw [β.put_neg]; exact hf, fun j bj lj hj1 hj2 hj3 hj4 hj5 => ?_⟩)
  simp only [St.new, Trie.get_set] at hj1
  by_cases hjn : j = st.next
  · subst hjn
    rw [put_same] at hj3
    cases hj3
    cases hj4
  · simp [hjn] at hj1
    exact hj j bj lj hj1 hj2 (by rwa [β.put_nat _ _ _ hjn] at hj3) hj4 hj5

theorem set_obj {st : St} {i : Nat} {b b' : Blk} (hi : st.heap.get i = some b) (hb : b.isObj = false) (hb' : b'.isObj = false) (j : Nat) (o : Ob) : (st.heap.set i b').get j = some (.obj o) ↔ st.heap.get j = some (.obj o) := by
  rw [Trie.get_set]
  by_cases hj : j = i
  · subst hj
    rw [if_pos rfl, hi]
    constructor
    · intro e; cases e; cases hb'
    · intro e; cases e; cases hb
  · rw [if_neg hj]

/-- A block of the world is written. -/
theorem Rel.update (h : Rel P K β st w) {i : Nat} {b b' : Blk} {l : Loc} {w' : World} (hi : st.heap.get i = some b) (hlive : b.live = true) (ho1 : b.isObj = false) (ho2 : b'.isObj = false) (hl : β i = some l)
    (hs : w'.heap.size = w.heap.size) (ho : ∀ k, (l.virt = true ∨ k ≠ l.blk) → w'.heap[k]? = w.heap[k]?) (hb : BlkR P β l b' w'.heap[l.blk]?) :
    Rel P K β { st with heap := st.heap.set i b' } w' := by
  have hblk : ∀ (j : Nat) k, β j = some k → (∃ bj, st.heap.get j = some bj ∧ bj.live = true) → k.virt = false → j ≠ i → w'.heap[k.blk]? = w.heap[k.blk]? := by
    rintro j k hj ⟨bj, hbj, hlj⟩ hv hne
    refine ho _ ?_
    cases hv2 : l.virt with
    | true => exact Or.inl rfl
    | false => exact Or.inr fun e => hne (h.inj j i bj b k l hbj hlj hi hlive hj hl hv hv2 e)
  have live_of : ∀ (m : Nat) bm, (if m = i then some b' else st.heap.get m) = some bm → bm.live = true → ∃ b0, st.heap.get m = some b0 ∧ b0.live = true := by
    intro m bm hm hbm
    by_cases hmi : m = i
    · subst hmi; exact ⟨b, hi, hlive⟩
    · simp [hmi] at hm; exact ⟨bm, hm, hbm⟩
  have hfz : ∀ k lk, β (Int.negSucc k) = some lk → w'.heap[k]? = w.heap[k]? := by
    intro k lk hk
    refine ho _ ?_
    cases hv2 : l.virt with
    | true => exact Or.inl rfl
    | false => exact Or.inr fun e => (h.frz k lk hk).2.2 i b l hi hlive hl hv2 e.symm
  refine ⟨fun k hk => by rw [hs]; exact h.base k hk, fun j k hj => by rw [hs]; exact h.dom j k hj, fun j bj hj hlj => ?_, fun j k bj bk lj lk hj hbj hk hbk hlj hlk v1 v2 e => ?_, h.res, h.nofz, fun k lk hk => ?_, ?_⟩
  · simp only [Trie.get_set] at hj
    obtain ⟨l0, h1, h2, h3⟩ := h.blk i b hi hlive
    obtain rfl : l0 = l := by rw [h1] at hl; exact Option.some.inj hl
    by_cases hji : j = i
    · subst hji
      simp at hj
      subst hj
      exact ⟨l0, hl, h2, hb⟩
    · simp [hji] at hj
      obtain ⟨lj, g1, g2, g3⟩ := h.blk j bj hj hlj
      refine ⟨lj, g1, g2, ?_⟩
      cases hv : lj.virt with
      | false => rw [hblk j lj g1 ⟨bj, hj, hlj⟩ hv hji]; exact g3
      | true => exact g3.anywhere hv _
  · simp only [Trie.get_set] at hj hk
    obtain ⟨b1, g1, g2⟩ := live_of j bj hj hbj
    obtain ⟨b2, g3, g4⟩ := live_of k bk hk hbk
    exact h.inj j k b1 b2 lj lk g1 g2 g3 g4 hlj hlk v1 v2 e
  · obtain ⟨f1, f2, f3⟩ := h.frz k lk hk
    refine ⟨f1, by rw [hfz k lk hk]; exact f2, fun j bj lj hj hbj hlj hv => ?_⟩
    simp only [Trie.get_set] at hj
    obtain ⟨b1, g1, g2⟩ := live_of j bj hj hbj
    exact f3 j b1 lj g1 g2 hlj hv
  · refine h.objs.step rfl (Env.le.refl _) (by rw [hs]; exact Nat.le_refl _) hfz (set_obj hi ho1 ho2) (fun j k o lo hj hlo hk hK hf hc => ⟨?_, hK, hf, fun m bm lm hm hbm hlm hv e => ?_⟩)
    · refine ho _ ?_
      cases hv2 : l.virt with
      | true => exact Or.inl rfl
      | false =>
        refine Or.inr fun e => ?_
        have := hc i b l hi hlive hl hv2 e.symm
        subst this
        rw [hi] at hj; cases hj; cases ho1
    · simp only [Trie.get_set] at hm
      obtain ⟨b1, g1, g2⟩ := live_of m bm hm hbm
      exact hc m b1 lm g1 g2 hlm hv e

theorem Rel.kill (h : Rel P K β st w) (i : Nat) (hi : ∀ o, st.heap.get i ≠ some (.obj o)) : Rel P K β (VS.kill st i) w := by
  have old : ∀ (j : Nat) bj, (VS.kill st i).heap.get j = some bj → bj.live = true → st.heap.get j = some bj := by
    intro j bj hj hlj
    simp only [VS.kill, Trie.get_set] at hj
    by_cases hji : j = i
    · simp [hji] at hj; subst hj; simp [Blk.live] at hlj
    · simpa [hji] using hj
  refine ⟨h.base, h.dom, fun j bj hj hlj => h.blk j bj (old j bj hj hlj) hlj, fun j k bj bk lj lk hj hbj hk hbk hlj hlk v1 v2 e => h.inj j k bj bk lj lk (old j bj hj hbj) hbj (old k bk hk hbk) hbk hlj hlk v1 v2 e, h.res, h.nofz, fun k lk hk => ?_, ?_⟩
  · obtain ⟨f1, f2, f3⟩ := h.frz k lk hk
    exact ⟨f1, f2, fun j bj lj hj hbj hlj hv => f3 j bj lj (old j bj hj hbj) hbj hlj hv⟩
  · refine h.objs.step rfl (Env.le.refl _) (Nat.le_refl _) (fun _ _ _ => rfl) (fun j o => ?_) (fun j k o lo hj hlo hk hK hf hc => ⟨rfl, hK, hf, fun m bm lm hm hbm hlm hv e => hc m bm lm (old m bm hm hbm) hbm hlm hv e⟩)
    constructor
    · intro e; exact old j _ e rfl
    · intro e
      simp only [VS.kill, Trie.get_set]
      rw [if_neg (by rintro rfl; exact hi o e)]; exact e

/-- A block that is written goes on under a new number. -/
theorem Rel.move (h : Rel P K β st w) {i : Nat} {b b' : Blk} {l l2 : Loc} {w' : World} (hi : st.heap.get i = some b) (hlive : b.live = true) (ho1 : b.isObj = false) (ho2 : b'.isObj = false) (hl : β i = some l) (hv : l.virt = false) (hl2 : l2.blk = l.blk) (hv2 : l2.virt = false)
    (hs : w'.heap.size = w.heap.size) (ho : ∀ k, k ≠ l.blk → w'.heap[k]? = w.heap[k]?) (hb : BlkR P (β.put st.next l2) l2 b' w'.heap[l2.blk]?) :
    Rel P K (β.put st.next l2) ((VS.kill st i).new b').2 w' := by
  have hno : ∀ o, st.heap.get i ≠ some (.obj o) := by intro o e; rw [hi] at e; cases e; cases ho1
  have old : ∀ (j : Nat) bj, (VS.kill st i).heap.get j = some bj → bj.live = true → j ≠ i ∧ st.heap.get j = some bj := by
    intro j bj hj hlj
    simp only [VS.kill, Trie.get_set] at hj
    by_cases hji : j = i
    · simp [hji] at hj; subst hj; simp [Blk.live] at hlj
    · exact ⟨hji, by simpa [hji] using hj⟩
  have hk := h.kill i hno
  obtain ⟨l0, h1, h2, h3⟩ := h.blk i b hi hlive
  obtain rfl : l0 = l := by rw [h1] at hl; exact Option.some.inj hl
  have hfz : ∀ k lk, β (Int.negSucc k) = some lk → k ≠ l0.blk := fun k lk hk e => (h.frz k lk hk).2.2 i b l0 hi hlive h1 hv e.symm
  have hk2 : Rel P K β (VS.kill st i) w' := by
    refine ⟨fun k hk => by rw [hs]; exact h.base k hk, fun j k hj => by rw [hs]; exact h.dom j k hj, fun j bj hj hlj => ?_, hk.inj, hk.res, hk.nofz, fun k lk hk' => ?_, ?_⟩
    · obtain ⟨lj, m1, m2, m3⟩ := hk.blk j bj hj hlj
      refine ⟨lj, m1, m2, ?_⟩
      obtain ⟨hne, hj0⟩ := old j bj hj hlj
      cases hvj : lj.virt with
      | false => rw [ho _ (fun e => hne (h.inj j i bj b lj l0 hj0 hlj hi hlive m1 h1 hvj hv e))]; exact m3
      | true => exact m3.anywhere hvj _
    · obtain ⟨f1, f2, f3⟩ := hk.frz k lk hk'
      exact ⟨f1, by rw [ho _ (hfz k lk hk')]; exact f2, f3⟩
    · obtain ⟨fp, q1, q2⟩ := h.objs
      have hfp : ∀ j k, fp j k → k ≠ l0.blk := by
        intro j k hjk e
        obtain ⟨⟨o, ho'⟩, _, _, _, _, q⟩ := q2 j k hjk
        have := q i b l0 hi hlive h1 hv e.symm
        subst this
        exact hno o ho'
      refine ⟨fp, fun j o hj => ?_, fun j k hjk => ?_⟩
      · obtain ⟨lj, a1, a2, a3⟩ := q1 j o (old j _ hj rfl).2
        exact ⟨lj, a1, a2, K.obs.mono _ _ _ _ _ _ _ a3 (Env.le.refl _) (by rw [hs]; exact Nat.le_refl _) (fun k hk => ho k (hfp j k hk)) (fun k lk hk => ho k (hfz k lk hk))⟩
      · obtain ⟨⟨o, ho'⟩, a1, a2, a3, a4, a5⟩ := q2 j k hjk
        refine ⟨⟨o, ?_⟩, by rw [hs]; exact a1, a2, a3, a4, fun m bm lm hm hbm hlm hvm e => a5 m bm lm (old m bm hm hbm).2 hbm hlm hvm e⟩
        simp only [VS.kill, Trie.get_set]
        rw [if_neg (by rintro rfl; exact hno o ho')]; exact ho'
  have hnext : (VS.kill st i).next = st.next := rfl
  have hle := h.le_put l2
  have hfz2 : β (Int.negSucc l0.blk) = none := by
    cases hx : β (Int.negSucc l0.blk) with
    | none => rfl
    | some lk => exact absurd rfl (hfz _ lk hx)
  have hdis : ∀ (j : Nat) bj lj, (VS.kill st i).heap.get j = some bj → bj.live = true → β j = some lj → lj.virt = false → lj.blk ≠ l2.blk := by
    intro j bj lj hj hbj hlj hvj e
    obtain ⟨hne, hj0⟩ := old j bj hj hbj
    exact hne (h.inj j i bj b lj l0 hj0 hbj hi hlive hlj h1 hvj hv (by rw [e, hl2]))
  refine hk2.adopt l2 b' (fun _ => by rw [hl2, hs]; exact (h.dom i l0 h1).2 hv) (fun _ => by rw [hl2]; exact h2 hv) (fun _ => by rw [hl2]; exact hfz2) (fun _ => hdis) hb ?_
  obtain ⟨fp, q1, q2⟩ := h.objs
  have hfp : ∀ j k, fp j k → k ≠ l0.blk := by
    intro j k hjk e
    obtain ⟨⟨o, ho'⟩, _, _, _, _, q⟩ := q2 j k hjk
    have := q i b l0 hi hlive h1 hv e.symm
    subst this
    exact hno o ho'
  have hn : ∀ (j : Nat) o, ((VS.kill st i).new b').2.heap.get j = some (.obj o) ↔ st.heap.get j = some (.obj o) := by
    intro j o
    refine (new_obj (st := VS.kill st i) ho2 (fun o e => h.no_obj o (old _ _ e rfl).2) j o).trans ?_
    constructor
    · intro e; exact (old j _ e rfl).2
    · intro e
      simp only [VS.kill, Trie.get_set]
      rw [if_neg (by rintro rfl; exact hno o e)]; exact e
  refine ⟨fp, fun j o hj => ?_, fun j k hjk => ?_⟩
  · obtain ⟨lj, a1, a2, a3⟩ := q1 j o ((hn j o).1 hj)
    exact ⟨lj, hle _ _ a1, a2, K.obs.mono _ _ _ _ _ _ _ a3 (negE_mono hle) (by rw [hs]; exact Nat.le_refl _) (fun k hk => ho k (hfp j k hk)) (fun k lk hk => ho k (hfz k lk hk))⟩
  · obtain ⟨⟨o, ho'⟩, a1, a2, a3, a4, a5⟩ := q2 j k hjk
    refine ⟨⟨o, (hn j o).2 ho'⟩, by rw [hs]; exact a1, a2, by rw [hnext, β.put_neg]; exact a3, a4, fun m bm lm hm hbm hlm hvm e => ?_⟩
    simp only [St.new, Trie.get_set] at hm
    rw [hnext] at hm hlm
    by_cases hmn : m = st.next
    · subst hmn
      rw [put_same] at hlm
      cases hlm
      exact absurd (by rw [← hl2, e]) (hfp j k hjk)
    · simp only [if_neg hmn] at hm
      have hm2 : (VS.kill st i).heap.get m = some bm := by simpa only [VS.kill, Trie.get_set] using hm
      exact a5 m bm lm (old m bm hm2 hbm).2 hbm (by rwa [β.put_nat _ _ _ hmn] at hlm) hvm e

theorem Rel.get_cells (h : Rel P K β st w) {i : Nat} {c : List Value} {e : TypeId} {x : Bool} (hi : st.heap.get i = some (.cells c e x)) :
    ∃ l, β i = some l ∧ ((l.virt = true ∧ c = [] ∧ x = false) ∨ (l.virt = false ∧ ¬ K l.blk ∧ ∃ cc f, w.heap[l.blk]? = some (.cells cc e f) ∧ l.esize = esz P e ∧ l.base + l.total ≤ cc.size ∧ c.length ≤ l.total ∧ (x = true → c.length = l.total) ∧
      VRL β c ((cc.toList.drop l.base).take c.length) ∧ (f.2 ≤ f.1 ∨ cc.size ≤ f.1))) := by
  obtain ⟨l, h1, h2, h3 | ⟨hv, cc, f, h3⟩⟩ := h.blk i _ hi rfl
  · exact ⟨l, h1, Or.inl h3⟩
  · exact ⟨l, h1, Or.inr ⟨hv, h2 hv, cc, f, h3⟩⟩

theorem add_of (b o n : Nat) : (⟨b, o, none⟩ : Addr).add n = ⟨b, o + n, none⟩ := by unfold Addr.add; split <;> simp_all
theorem add_block (a : Addr) (n : Nat) : (a.add n).block = a.block := by unfold Addr.add; split <;> rfl
theorem add_spot (a : Addr) (n : Nat) (h : a.spot = none) : (a.add n).spot = none := by unfold Addr.add; split <;> simp_all
theorem add_off (a : Addr) (n : Nat) : (a.add n).off = a.off + n := by unfold Addr.add; split <;> simp_all

/-- Cells that the evaluator reads lie in the world. -/
theorem Rel.cellsAt (h : Rel P K β st w) {a : Addr} {n : Nat} {c : List Value} (hc : cellsAt st a n = some c) {l : Loc} (hl : β a.block = some l) :
    ∃ c', VRL β c c' ∧ c'.length = n ∧ c.length = n ∧ ∀ j v, c'[j]? = some v → w.cell? ((⟨l.blk, l.base + a.off, none⟩ : Addr).add j) = some v := by
  unfold VS.cellsAt at hc
  split at hc
  · cases hc
  · split at hc
    · rename_i cs e x hg
      split at hc
      · rename_i hle
        obtain rfl := Option.some.inj hc
        obtain ⟨l', h1, ⟨hv, hcs, _⟩ | ⟨hv, h2, cc, f, h3, h4, h5, h6, h7, h8, h9⟩⟩ := h.get_cells hg
        · subst hcs
          have hn : n = 0 := by simp at hle; omega
          subst hn
          exact ⟨[], by simpa using VRL.nil, rfl, by simp, fun j v hj => by simp at hj⟩
        obtain rfl : l' = l := by rw [h1] at hl; exact Option.some.inj hl
        have hln : ((cs.drop a.off).take n).length = n := by simp; omega
        refine ⟨(((cc.toList.drop l'.base).take cs.length).drop a.off).take n, (h8.drop _).take _, ?_, hln, fun j v hj => ?_⟩
        · rw [← ((h8.drop a.off).take n).length, hln]
        · rw [add_of]
          simp only [World.cell?, h3]
          rw [List.getElem?_take] at hj
          split at hj
          · rw [List.getElem?_drop, List.getElem?_take] at hj
            split at hj
            · rw [List.getElem?_drop] at hj
              simp [Nat.add_assoc] at hj ⊢
              simpa using hj
            · cases hj
          · cases hj
      · cases hc
    · cases hc

theorem storeCells_run (P : Program) (g o : Nat) (t : TypeId) (fz : Nat × Nat) : ∀ (vs : List Value) (i : Nat) (cur : Array Value) (w : World), w.heap[g]? = some (.cells cur t fz) → (fz.2 ≤ fz.1 ∨ cur.size ≤ fz.1) → o + i + vs.length ≤ cur.size → (∀ v ∈ vs, v.oneCell' = true) →
    (storeCells ⟨g, o, none⟩ vs i).run P w = .ok () (w.setRow g (cur.toList.take (o + i) ++ vs ++ cur.toList.drop (o + i + vs.length)).toArray)
  | [], i, cur, w, hg, _, _, _ => by
    simp only [storeCells, List.append_nil, List.length_nil, Nat.add_zero, List.take_append_drop, Array.toArray_toList]
    rw [setRow_self w g cur t fz hg]
    rfl
  | v :: rest, i, cur, w, hg, hfz, hl, h1 => by
    have hi : o + i < cur.size := by simp at hl; omega
    have hadd := add_of g o i
    have hcell : w.cell? ⟨g, o + i, none⟩ = some cur[o + i] := by simp [World.cell?, hg, hi]
    have hfro : w.frozen? ⟨g, o + i, none⟩ = false := by
      obtain ⟨lo, hi'⟩ := fz
      simp only [World.frozen?, hg, Bool.and_eq_false_iff, decide_eq_false_iff_not]
      simp only at hfz
      omega
    have hst : (store ((⟨g, o, none⟩ : Addr).add i) v).run P w = .ok () (w.setRow g (cur.setIfInBounds (o + i) v)) := by
      rw [hadd, run_store P w _ v _ (h1 v (by simp)), hcell]
      simp [hfro, setCell_eq_setRow w g (o + i) cur t fz v hg]
    have ih := storeCells_run P g o t fz rest (i + 1) (cur.setIfInBounds (o + i) v) (w.setRow g (cur.setIfInBounds (o + i) v)) (setRow_heap w g cur _ t _ hg) (by simpa using hfz) (by simp at hl ⊢; omega) (fun x hx => h1 x (by simp [hx]))
    simp only [storeCells, Sem.run_bind, hst, Result.andThen_ok, ih, setRow_setRow]
    congr 3
    have e := list_seg_step cur.toList (o + i) v rest (by simp at hl ⊢; omega)
    simpa [Array.toList_setIfInBounds, Nat.add_assoc] using e

theorem putAt_length (c : List Value) (i : Nat) (vs : List Value) (h : i + vs.length ≤ c.length) : (putAt c i vs).length = c.length := by
  simp [putAt]; omega
theorem putAt_get (c : List Value) (i : Nat) (vs : List Value) (h : i + vs.length ≤ c.length) (j : Nat) : (putAt c i vs)[j]? = if j < i then c[j]? else if j < i + vs.length then vs[j - i]? else c[j]? := by
  unfold putAt
  rw [List.append_assoc, List.getElem?_append]
  simp only [List.length_take]
  by_cases h1 : j < i
  · rw [if_pos (by omega), if_pos h1, List.getElem?_take, if_pos h1]
  · rw [if_neg (by omega), if_neg h1, List.getElem?_append]
    have : min i c.length = i := by omega
    rw [this]
    by_cases h2 : j < i + vs.length
    · rw [if_pos (by omega), if_pos h2]
    · rw [if_neg (by omega), if_neg h2, List.getElem?_drop]
      congr 1; omega

/-- A write of the evaluator is one of the world. -/
theorem Rel.setCells (h : Rel P K β st w) {a : Addr} {vs vs' : List Value} {st' : St} (hc : setCells st a vs = some st') (hv : VRL β vs vs') {l : Loc} (hl : β a.block = some l) :
    ∃ w', (storeCells ⟨l.blk, l.base + a.off, none⟩ vs').run P w = .ok () w' ∧ Rel P K β st' w' ∧ Bel K w w' ∧ st'.next = st.next := by
  unfold VS.setCells at hc
  split at hc
  · cases hc
  · split at hc
    · rename_i cs e x hg
      split at hc
      · rename_i hle
        simp only [Bool.and_eq_true, decide_eq_true_eq] at hle
        obtain rfl := Option.some.inj hc
        obtain ⟨l', h1, ⟨hvt, hcs, hx⟩ | ⟨hvt, h2, cc, f, h3, h4, h5, h6, h7, h8, h9⟩⟩ := h.get_cells hg
        · obtain rfl : l' = l := by rw [h1] at hl; exact Option.some.inj hl
          subst hcs
          have hvs : vs = [] := by
            have := hle.1
            cases vs with
            | nil => rfl
            | cons _ _ => simp at this
          subst hvs
          have hvs' : vs' = [] := hv
          subst hvs'
          refine ⟨w, rfl, h.update hg rfl rfl rfl h1 rfl (fun _ _ => rfl) (Or.inl ⟨hvt, by simp [putAt], hx⟩), Bel.refl _ _, rfl⟩
        obtain rfl : l' = l := by rw [h1] at hl; exact Option.some.inj hl
        have hlen := hv.length
        have hrun := storeCells_run P l'.blk (l'.base + a.off) e f vs' 0 cc w h3 h9 (by omega) (hv.oneCells hle.2)
        refine ⟨_, hrun, ?_, bel_setRow (Bel.refl _ _) h2 _, rfl⟩
        refine h.update hg rfl rfl rfl h1 (by simp) (fun k hk => setRow_other _ _ _ _ (hk.resolve_left (by simp [hvt]))) ?_
        rw [setRow_heap w l'.blk cc _ e f h3]
        have hsz : (cc.toList.take (l'.base + a.off + 0) ++ vs' ++ cc.toList.drop (l'.base + a.off + 0 + vs'.length)).length = cc.size := by simp; omega
        refine Or.inr ⟨hvt, _, f, rfl, h4, ?_, by rw [putAt_length _ _ _ hle.1]; exact h6, by rw [putAt_length _ _ _ hle.1]; exact h7, ?_, ?_⟩
        · simp only [List.size_toArray, hsz]; exact h5
        · rw [putAt_length _ _ _ hle.1]
          refine VRL_iff.2 ⟨?_, fun j v v' hj hj' => ?_⟩
          · rw [putAt_length _ _ _ hle.1]
            simp only [List.length_take, List.length_drop, hsz]; omega
          · rw [putAt_get _ _ _ hle.1] at hj
            rw [List.getElem?_take] at hj'
            split at hj'
            · rename_i hjc
              simp only [List.getElem?_drop, Nat.add_zero] at hj'
              have e2 := putAt_get cc.toList (l'.base + a.off) vs' (by simp; omega) (l'.base + j)
              unfold putAt at e2
              rw [e2] at hj'
              obtain ⟨_, hvi⟩ := VRL_iff.1 hv
              obtain ⟨_, h8i⟩ := VRL_iff.1 h8
              split at hj
              · rename_i c1
                rw [if_pos (by omega)] at hj'
                exact h8i j v v' hj (by rw [List.getElem?_take, if_pos hjc, List.getElem?_drop]; exact hj')
              · rename_i c1
                split at hj
                · rename_i c2
                  rw [if_neg (by omega), if_pos (by omega)] at hj'
                  exact hvi (j - a.off) v v' hj (by rw [← hj']; congr 1; omega)
                · rename_i c2
                  rw [if_neg (by omega), if_neg (by omega)] at hj'
                  exact h8i j v v' hj (by rw [List.getElem?_take, if_pos hjc, List.getElem?_drop]; exact hj')
            · cases hj'
        · simp only [List.size_toArray, hsz]; exact h9
      · cases hc
    · cases hc

/-- Reads of cells run. -/
theorem loadCells_run (a : Addr) (c : List Value) (n : Nat) (hn : c.length = n) (h : ∀ j v, c[j]? = some v → w.cell? (a.add j) = some v) : (loadCells a n).run P w = .ok ⟨c⟩ w := by
  subst hn; exact run_loadCells_list w a c h

end
end Go.VS
