/- Regions whose order is drawn, by compiled operations. No conditions. -/
import Derived.Test.YtbdeppefllcocaaVsFast3
namespace Go.VS
set_option linter.unusedSimpArgs false
set_option linter.unusedVariables false
noncomputable def needB (b : Bool) (x : Res) : Res := @Bool.rec (fun _ => Res) none x b
noncomputable def iteB (b : Bool) (x y : Res) : Res := @Bool.rec (fun _ => Res) y x b
theorem needB_spec {b : Bool} {x : Res} {r : Value × St} (h : needB b x = some r) : b = true ∧ x = some r := by
  cases b with
  | false => cases h
  | true => exact ⟨rfl, h⟩
section
variable (P : Program) (cp : Oper → OpFn)

def noKnot : Knot := ⟨fun _ _ _ _ => none, fun _ _ _ _ => none⟩

noncomputable def passM (kn : Knot) (ops : Array Oper) (bs : List Nat) (base nt : Nat) (d : List Deferred) (ro : Option Nat) (os : List Oper) : Nat → Trie Value → St → Nat → List (Nat × Blk) → Nat → (List Rec → Res) → Res :=
  @List.rec Oper (fun _ => Nat → Trie Value → St → Nat → List (Nat × Blk) → Nat → (List Rec → Res) → Res)
    (fun _ s st m pend rep k => k [⟨⟨s, nt, d, ro⟩, st, m, pend, rep, undef, none⟩])
    (fun o _ ih i s st m pend rep k => guardF ops s o
      (fun s => match kindOf P o with
        | .quiet => (cp o).run noKnot s st (fun v _ => putS nt o.dst v s fun s' => ih (i + 1) s' st m pend rep fun l => k (⟨⟨s, nt, d, ro⟩, st, m, pend, rep, v, none⟩ :: l)) (fun _ _ => none)
        | .new => (cp o).run noKnot s ⟨.leaf, base + i⟩ (fun v st1 => match getP (path (base + i)) st1.heap with
          | some b => putS nt o.dst v s fun s' => ih (i + 1) s' st m (pend ++ [(i, b)]) rep fun l => k (⟨⟨s, nt, d, ro⟩, st, m, pend, rep, v, some b⟩ :: l)
          | none => none) (fun _ _ => none)
        | .chain => (cp o).run kn s (wake base (fun j => bitOf bs i j && !m.testBit j) pend st) (fun v st' => putS nt o.dst v s fun s' => ih (i + 1) s' st' (m ||| bs.getD i 0) pend (i + 1) fun l => k (⟨⟨s, nt, d, ro⟩, st, m, pend, rep, v, none⟩ :: l)) (fun _ _ => none))
      (fun s => match kindOf P o with
        | .quiet => putS nt o.dst undef s fun s' => ih (i + 1) s' st m pend rep fun l => k (⟨⟨s, nt, d, ro⟩, st, m, pend, rep, undef, none⟩ :: l)
        | .new => putS nt o.dst undef s fun s' => ih (i + 1) s' st m (pend ++ []) rep fun l => k (⟨⟨s, nt, d, ro⟩, st, m, pend, rep, undef, none⟩ :: l)
        | .chain => putS nt o.dst undef s fun s' => ih (i + 1) s' (wake base (fun j => bitOf bs i j && !m.testBit j) pend st) (m ||| bs.getD i 0) pend (i + 1) fun l => k (⟨⟨s, nt, d, ro⟩, st, m, pend, rep, undef, none⟩ :: l))) os

noncomputable def repsM (bs cs : List Nat) (o : Oper) (r : Rec) (i : Nat) (reps : List (Nat × St)) (k : Res) : Res :=
  @List.rec (Nat × St) (fun _ => Res) k (fun p _ ih => @Bool.rec (fun _ => Res) ((cp o).run noKnot r.f.slots p.2 (fun v _ => needB (beqV v r.v) ih) (fun _ _ => none)) ih (p.1 == r.rep || !admits bs cs i p.1)) reps

noncomputable def quietM (ops : Array Oper) (bs cs : List Nat) (reps : List (Nat × St)) : List Oper → List Rec → Nat → Res → Res
  | o :: os, r :: rs, i, k => match kindOf P o, wantedF ops r.f o with
    | .quiet, some true => @Bool.rec (fun _ => Res) (repsM cp bs cs o r i reps (quietM ops bs cs reps os rs (i + 1) k)) (quietM ops bs cs reps os rs (i + 1) k) (noHeap o)
    | .quiet, none => none
    | _, _ => quietM ops bs cs reps os rs (i + 1) k
  | _, _, _, k => k

noncomputable def drawM (kn : Knot) (ops : Array Oper) (nt : Nat) (ro : Option Nat) (s : Trie Value) (d : List Deferred) (st : St) (k : Trie Value → List Deferred → St → Res) : Res :=
  if !P.follows .mixedOrders then none else
  let os := ops.toList
  let bs := bitsQ os 0 .leaf
  let cs := chainsL P os 0
  match writersQ os 0 .leaf with
  | none => none
  | some W =>
  if !(edgesOk os 0 && tmpsQ ops bs W os 0 bs && chainOk bs cs) then none else
  passM P cp kn ops bs st.next nt d ro os 0 s { st with next := st.next + ops.size } 0 [] 0 fun recs => match recs.getLast? with
    | none => none
    | some r => quietM P cp ops bs cs ((0, { st with next := st.next + ops.size }) :: repsL P os recs 0) os recs 0 (k r.f.slots r.f.defers (wake st.next (fun j => !r.m.testBit j) r.pend r.st))

end

section
variable {P : Program} {ct : Ct} {call : Knot} {st : St} {r : Value × St} {cp : Oper → OpFn}

theorem builtin_noskip {b : Builtin} {ts : Array TypeId} {type : TypeId} {cn : Array Bool} {args : List Value} {st st' : St} : builtinS P b ts type cn args st ≠ some (.skip st') := by
  intro h
  unfold builtinS at h
  repeat' (first | (cases h; done) | split at h)
theorem invoke_noskip {t : Target} {args : List Value} {st st' : St} : invokeV P t args st ≠ some (.skip st') := by
  intro h
  unfold invokeV callF at h
  repeat' (first | (cases h; done) | split at h)

theorem noskip {o : Oper} {ρ : Operand → Value} {st st' : St} (hk : kindOf P o ≠ .chain) : evOp P ρ o st ≠ some (.skip st') := by
  obtain ⟨dst, op, type, pos, after, guard⟩ := o
  intro h
  cases op <;> simp only [kindOf, ne_eq, not_true_eq_false] at hk <;> simp only [evOp] at h <;> repeat' (first | (cases h; done) | split at h)
  all_goals first
    | (cases h; done)
    | skip
  all_goals first
    | exact builtin_noskip h
    | exact invoke_noskip h

theorem nocall {kv : Value → St → Res} {kd : Deferred → St → Res} (hkd : ∀ d st, kd d st = none) {x : Option Out} (h : Hands noKnot kv kd x r) : (∃ v st', x = some (.val v st') ∧ kv v st' = some r) ∨ ∃ st', x = some (.skip st') := by
  cases x with
  | none => exact h.elim
  | some x =>
    cases x with
    | val v st' => exact Or.inl ⟨v, st', rfl, h⟩
    | skip st' => exact Or.inr ⟨st', rfl⟩
    | enter g args st => cases h
    | defer d st => have : kd d st = some r := h; rw [hkd] at this; cases this
    | round l args st => cases h

theorem out_of (hc : CallOk P ct call) {kv : Value → St → Res} {kd : Deferred → St → Res} (hkd : ∀ d st, kd d st = none) {x : Option Out} (h : Hands call kv kd x r) : ∃ y n v st', x = some y ∧ evOut P ct n y = some (v, st') ∧ kv v st' = some r := by
  cases x with
  | none => exact h.elim
  | some x =>
    cases x with
    | val v st' => exact ⟨_, 1, v, st', rfl, rfl, h⟩
    | skip st' => exact ⟨_, 1, undef, st', rfl, rfl, h⟩
    | enter g args st =>
      obtain ⟨n, v, st', h1, h2⟩ := hc.call _ _ _ _ _ h
      exact ⟨_, n + 1, v, st', rfl, by simp only [evOut]; exact h1, h2⟩
    | defer d st => have : kd d st = some r := h; rw [hkd] at this; cases this
    | round l args st =>
      obtain ⟨n, v, st', h1, h2⟩ := hc.rnd _ _ _ _ _ h
      exact ⟨_, n + 1, v, st', rfl, by simp only [evOut]; exact h1, h2⟩

theorem put_of {nt : Nat} {dst : Option Tmp} {v : Value} {s : Trie Value} {d : List Deferred} {ro : Option Nat} {k : Trie Value → Res} (h : putS nt dst v s k = some r) : ∃ s', Fr.put ⟨s, nt, d, ro⟩ dst v = some ⟨s', nt, d, ro⟩ ∧ k s' = some r := putS_spec h

variable (hcp : ∀ {call : Knot} {s : Trie Value} {o : Oper} {st : St} {kv : Value → St → Res} {kd : Deferred → St → Res} {r : Value × St}, (cp o).run call s st kv kd = some r → Hands call kv kd (evOp P (rdF s) o st) r)
include hcp
theorem passM_spec (hc : CallOk P ct call) {ops : Array Oper} {bs : List Nat} {base nt : Nat} {d : List Deferred} {ro : Option Nat} : ∀ (os : List Oper) (i : Nat) (s : Trie Value) (st : St) (m : Nat) (pend : List (Nat × Blk)) (rep : Nat) (k : List Rec → Res),
    passM P cp call ops bs base nt d ro os i s st m pend rep k = some r → ∃ n l, drawPass P (evOp P) Fr.eval (evOut P ct n) ops bs base os i ⟨s, nt, d, ro⟩ st m pend rep = some l ∧ k l = some r
  | [], i, s, st, m, pend, rep, k, h => ⟨0, _, rfl, h⟩
  | o :: os, i, s, st, m, pend, rep, k, h => by
    have ih := passM_spec hc (ops := ops) (bs := bs) (base := base) (nt := nt) (d := d) (ro := ro) os
    change guardF ops s o
      (fun s => match kindOf P o with
        | .quiet => (cp o).run noKnot s st (fun v _ => putS nt o.dst v s fun s' => passM P cp call ops bs base nt d ro os (i + 1) s' st m pend rep fun l => k (⟨⟨s, nt, d, ro⟩, st, m, pend, rep, v, none⟩ :: l)) (fun _ _ => none)
        | .new => (cp o).run noKnot s ⟨.leaf, base + i⟩ (fun v st1 => match getP (path (base + i)) st1.heap with
          | some b => putS nt o.dst v s fun s' => passM P cp call ops bs base nt d ro os (i + 1) s' st m (pend ++ [(i, b)]) rep fun l => k (⟨⟨s, nt, d, ro⟩, st, m, pend, rep, v, some b⟩ :: l)
          | none => none) (fun _ _ => none)
        | .chain => (cp o).run call s (wake base (fun j => bitOf bs i j && !m.testBit j) pend st) (fun v st' => putS nt o.dst v s fun s' => passM P cp call ops bs base nt d ro os (i + 1) s' st' (m ||| bs.getD i 0) pend (i + 1) fun l => k (⟨⟨s, nt, d, ro⟩, st, m, pend, rep, v, none⟩ :: l)) (fun _ _ => none))
      (fun s => match kindOf P o with
        | .quiet => putS nt o.dst undef s fun s' => passM P cp call ops bs base nt d ro os (i + 1) s' st m pend rep fun l => k (⟨⟨s, nt, d, ro⟩, st, m, pend, rep, undef, none⟩ :: l)
        | .new => putS nt o.dst undef s fun s' => passM P cp call ops bs base nt d ro os (i + 1) s' st m (pend ++ []) rep fun l => k (⟨⟨s, nt, d, ro⟩, st, m, pend, rep, undef, none⟩ :: l)
        | .chain => putS nt o.dst undef s fun s' => passM P cp call ops bs base nt d ro os (i + 1) s' (wake base (fun j => bitOf bs i j && !m.testBit j) pend st) (m ||| bs.getD i 0) pend (i + 1) fun l => k (⟨⟨s, nt, d, ro⟩, st, m, pend, rep, undef, none⟩ :: l)) = some r at h
    have next : ∀ {v : Value} {b : Option Blk} {st' : St} {m' : Nat} {pend' : List (Nat × Blk)} {rep' : Nat}, (putS nt o.dst v s fun s' => passM P cp call ops bs base nt d ro os (i + 1) s' st' m' pend' rep' fun l => k (⟨⟨s, nt, d, ro⟩, st, m, pend, rep, v, b⟩ :: l)) = some r →
        ∃ f' n l, Fr.put ⟨s, nt, d, ro⟩ o.dst v = some f' ∧ drawPass P (evOp P) Fr.eval (evOut P ct n) ops bs base os (i + 1) f' st' m' pend' rep' = some l ∧ k (⟨⟨s, nt, d, ro⟩, st, m, pend, rep, v, b⟩ :: l) = some r := by
      intro v b st' m' pend' rep' h
      obtain ⟨s', h1, h2⟩ := put_of (d := d) (ro := ro) h
      obtain ⟨n, l, h3, h4⟩ := ih _ _ _ _ _ _ _ h2
      exact ⟨_, n, l, h1, h3, h4⟩
    have hrd : Fr.eval ⟨s, nt, d, ro⟩ = rdF s := (rdF_eq s nt d ro).symm
    rcases guardF_spec (nt := nt) (d := d) (ro := ro) h with ⟨hw, h⟩ | ⟨hw, h⟩
    · simp only at h
      split at h
      · rename_i hk
        rcases nocall (fun _ _ => rfl) (hcp h) with ⟨v, st1, h1, h2⟩ | ⟨st1, h1⟩
        · obtain ⟨f', n, l, g1, g2, g3⟩ := next h2
          refine ⟨n, _, ?_, g3⟩
          simp only [drawPass, hw, hk, if_true, hrd, h1, g1, g2]
        · exact absurd h1 (noskip (by rw [hk]; intro e; cases e))
      · rename_i hk
        rcases nocall (fun _ _ => rfl) (hcp h) with ⟨v, st1, h1, h2⟩ | ⟨st1, h1⟩
        · split at h2
          · rename_i b hb
            rw [getP_path] at hb
            obtain ⟨f', n, l, g1, g2, g3⟩ := next h2
            refine ⟨n, _, ?_, g3⟩
            simp only [drawPass, hw, hk, if_true, hrd, evNew, h1, hb, g1, Option.map_some, Option.toList, g2]
          · cases h2
        · exact absurd h1 (noskip (by rw [hk]; intro e; cases e))
      · rename_i hk
        obtain ⟨y, n0, v, st1, h1, h2, h3⟩ := out_of hc (fun _ _ => rfl) (hcp h)
        obtain ⟨f', n, l, g1, g2, g3⟩ := next h3
        refine ⟨max n n0, _, ?_, g3⟩
        have e1 := (mono_le (Nat.le_max_right n n0)).2.2.1 _ _ h2
        have e2 := drawPass_mono (fun x r => (mono_le (P := P) (ct := ct) (Nat.le_max_left n n0)).2.2.1 x r) _ _ _ _ _ _ _ _ g2
        simp only [drawPass, hw, hk, if_true, hrd, h1, e1, g1, e2]
    · split at h
      · rename_i hk
        obtain ⟨f', n, l, g1, g2, g3⟩ := next h
        refine ⟨n, _, ?_, g3⟩
        simp only [drawPass, hw, hk, Bool.false_eq_true, if_false, g1, g2]
      · rename_i hk
        obtain ⟨f', n, l, g1, g2, g3⟩ := next h
        refine ⟨n, _, ?_, g3⟩
        simp only [drawPass, hw, hk, Bool.false_eq_true, if_false, g1, Option.map_none, Option.toList, g2]
      · rename_i hk
        obtain ⟨f', n, l, g1, g2, g3⟩ := next h
        refine ⟨n, _, ?_, g3⟩
        simp only [drawPass, hw, hk, Bool.false_eq_true, if_false, g1, g2]

theorem repsM_spec {bs cs : List Nat} {o : Oper} {rc : Rec} {i : Nat} {k : Res} (hk : kindOf P o ≠ .chain) : ∀ (reps : List (Nat × St)), repsM cp bs cs o rc i reps k = some r →
    (reps.all fun p => p.1 == rc.rep || !admits bs cs i p.1 || (match evOp P (Fr.eval rc.f) o p.2 with
      | some (.val v _) => beqV v rc.v
      | _ => false)) = true ∧ k = some r
  | [], h => ⟨rfl, h⟩
  | p :: reps, h => by
    have ih := repsM_spec (bs := bs) (cs := cs) (o := o) (rc := rc) (i := i) (k := k) hk reps
    change @Bool.rec (fun _ => Res) ((cp o).run noKnot rc.f.slots p.2 (fun v _ => needB (beqV v rc.v) (repsM cp bs cs o rc i reps k)) (fun _ _ => none)) (repsM cp bs cs o rc i reps k) (p.1 == rc.rep || !admits bs cs i p.1) = some r at h
    cases hb : (p.1 == rc.rep || !admits bs cs i p.1) with
    | true =>
      rw [hb] at h
      obtain ⟨h1, h2⟩ := ih h
      refine ⟨?_, h2⟩
      rw [List.all_cons, hb, h1]; rfl
    | false =>
      rw [hb] at h
      rcases nocall (fun _ _ => rfl) (hcp h) with ⟨v, st1, h1, h2⟩ | ⟨st1, h1⟩
      · obtain ⟨h3, h4⟩ := needB_spec h2
        obtain ⟨h5, h6⟩ := ih h4
        refine ⟨?_, h6⟩
        have hrd : Fr.eval rc.f = rdF rc.f.slots := (rdF_eq rc.f.slots rc.f.ntmps rc.f.defers rc.f.roundOf).symm
        rw [List.all_cons, hb, h5, hrd, h1]
        simp only [Bool.false_or, Bool.and_true]
        exact h3
      · exact absurd h1 (noskip hk)

theorem quietM_spec {ops : Array Oper} {bs cs : List Nat} {reps : List (Nat × St)} {k : Res} : ∀ (os : List Oper) (rs : List Rec) (i : Nat), quietM P cp ops bs cs reps os rs i k = some r → quietOk P (evOp P) Fr.eval ops bs cs reps os rs i = true ∧ k = some r
  | [], rs, i, h => ⟨rfl, by simpa [quietM] using h⟩
  | o :: os, [], i, h => ⟨rfl, by simpa [quietM] using h⟩
  | o :: os, rc :: rs, i, h => by
    have ih := quietM_spec (ops := ops) (bs := bs) (cs := cs) (reps := reps) (k := k) os rs (i + 1)
    simp only [quietM] at h
    simp only [quietOk]
    split at h
    · rename_i hk hw
      rw [hk, hw]
      cases hn : noHeap o with
      | true =>
        rw [hn] at h
        obtain ⟨h1, h2⟩ := ih h
        exact ⟨by simp [h1], h2⟩
      | false =>
        rw [hn] at h
        obtain ⟨h1, h2⟩ := repsM_spec hcp (by rw [hk]; intro e; cases e) reps h
        obtain ⟨h3, h4⟩ := ih h2
        refine ⟨?_, h4⟩
        simp only [Bool.false_or, h3, Bool.and_true]
        exact h1
    · cases h
    · rename_i hne1 hne2
      obtain ⟨h1, h2⟩ := ih h
      refine ⟨?_, h2⟩
      rw [h1, Bool.and_true]
      split
      · rename_i hk hw; exact absurd hw (by first | exact hne1 hk | exact fun hw => hne1 hk hw)
      · rfl

theorem drawM_spec (hc : CallOk P ct call) {ops : Array Oper} {nt : Nat} {ro : Option Nat} {s : Trie Value} {d : List Deferred} {k : Trie Value → List Deferred → St → Res} (h : drawM P cp call ops nt ro s d st k = some r) :
    ∃ n f1 st1, drawRegion P (evOut P ct n) ops ⟨s, nt, d, ro⟩ st = some (f1, st1) ∧ k f1.slots f1.defers st1 = some r := by
  simp only [drawM] at h
  split at h
  · cases h
  · rename_i hm
    split at h
    · cases h
    · rename_i W hW
      have hb : bitsQ ops.toList 0 .leaf = bitsL ops.toList [] := by
        rw [bitsQ_eq ops.toList 0 .leaf [] rfl (fun i => by simp [Trie.get])]; rfl
      rw [hb] at h
      split at h
      · cases h
      · rename_i hcd
        simp only [Bool.not_eq_true', Bool.not_eq_false, Bool.and_eq_true] at hcd
        obtain ⟨⟨hc1, hc2⟩, hc3⟩ := hcd
        have ht := tmpsQ_spec (writersQ_spec ops.toList 0 .leaf W hW).2 ops.toList 0 _ (by simp) hc2
        obtain ⟨n, l, h1, h2⟩ := passM_spec hcp hc _ _ _ _ _ _ _ _ h
        split at h2
        · cases h2
        · rename_i rc hl
          obtain ⟨h3, h4⟩ := quietM_spec hcp _ _ _ h2
          refine ⟨n, _, _, ?_, h4⟩
          simp only [drawRegion]
          rw [if_neg hm, hc1, ht, hc3]
          simp only [Bool.and_self, Bool.not_true, Bool.false_eq_true, if_false]
          rw [h1]
          simp only [hl, h3, if_true]
end
/-- The engine for closed runs, with leaner drawn regions. -/
noncomputable def engM (P : Program) : Eng := ⟨compO P, drawM P (compO P)⟩
theorem engM_ok (P : Program) (ct : Ct) : EngOk P ct (engM P) where
  comp := fun h => opF_spec h
  draw := by
    intro call hc ops nt ro s d st k r h
    exact drawM_spec (fun h => opF_spec h) hc h
end Go.VS
