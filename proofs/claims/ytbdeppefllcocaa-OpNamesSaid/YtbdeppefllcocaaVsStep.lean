/- Single steps of the machine, for a frame of whatever kind. No conditions. -/
import Derived.Test.YtbdeppefllcocaaVsOps10
import Derived.Defers
namespace Go.VS
set_option linter.unusedSimpArgs false
set_option linter.unusedVariables false
open Go.RowKit
section
variable {P : Program} {fr : Frame} {cs : List Frame} {w : World} {k : List Item}

theorem s_skip (hm : fr.mode = .run) (ht : fr.todo = .code .skip :: k) : step P (lone fr cs w) = .next (lone { fr with todo := k } cs w) := by
  obtain ⟨fn, tmps, todo, defers, mode, kind, ro⟩ := fr
  simp only at hm ht; subst hm ht
  exact step_lone_go (by simp [stepG, stepG.exec])
theorem s_label {l : Nat} (hm : fr.mode = .run) (ht : fr.todo = .code (.label l) :: k) : step P (lone fr cs w) = .next (lone { fr with todo := k } cs w) := by
  obtain ⟨fn, tmps, todo, defers, mode, kind, ro⟩ := fr
  simp only at hm ht; subst hm ht
  exact step_lone_go (by simp [stepG, stepG.exec])
theorem s_inBlock {id : Nat} (hm : fr.mode = .run) (ht : fr.todo = .inBlock id :: k) : step P (lone fr cs w) = .next (lone { fr with todo := k } cs w) := by
  obtain ⟨fn, tmps, todo, defers, mode, kind, ro⟩ := fr
  simp only at hm ht; subst hm ht
  exact step_lone_go (by simp [stepG, stepG.exec])
theorem s_inScope {c : Code} (hm : fr.mode = .run) (ht : fr.todo = .inScope c :: k) : step P (lone fr cs w) = .next (lone { fr with todo := k } cs w) := by
  obtain ⟨fn, tmps, todo, defers, mode, kind, ro⟩ := fr
  simp only at hm ht; subst hm ht
  exact step_lone_go (by simp [stepG, stepG.exec])
theorem s_seq {a b : Code} (hm : fr.mode = .run) (ht : fr.todo = .code (.seq a b) :: k) : step P (lone fr cs w) = .next (lone { fr with todo := .code a :: .code b :: k } cs w) := by
  obtain ⟨fn, tmps, todo, defers, mode, kind, ro⟩ := fr
  simp only at hm ht; subst hm ht
  exact step_lone_go (by simp [stepG, stepG.exec])
theorem s_cond {c : Operand} {a b : Code} {t : Bool} (hm : fr.mode = .run) (ht : fr.todo = .code (.cond c a b) :: k) (hc : fr.eval c = .bool t) : step P (lone fr cs w) = .next (lone { fr with todo := .code (if t then a else b) :: k } cs w) := by
  obtain ⟨fn, tmps, todo, defers, mode, kind, ro⟩ := fr
  simp only at hm ht; subst hm ht
  exact step_lone_go (by simp [stepG, stepG.exec, hc])
theorem s_block {id : Nat} {c : Code} (hm : fr.mode = .run) (ht : fr.todo = .code (.block id c) :: k) : step P (lone fr cs w) = .next (lone { fr with todo := .code c :: .inBlock id :: k } cs w) := by
  obtain ⟨fn, tmps, todo, defers, mode, kind, ro⟩ := fr
  simp only at hm ht; subst hm ht
  exact step_lone_go (by simp [stepG, stepG.exec])
theorem s_loop {c : Code} (hm : fr.mode = .run) (ht : fr.todo = .code (.loop c) :: k) : step P (lone fr cs w) = .next (lone { fr with todo := .code c :: .inLoop c :: k } cs w) := by
  obtain ⟨fn, tmps, todo, defers, mode, kind, ro⟩ := fr
  simp only at hm ht; subst hm ht
  exact step_lone_go (by simp [stepG, stepG.exec])
theorem s_inLoop {c : Code} (hm : fr.mode = .run) (ht : fr.todo = .inLoop c :: k) : step P (lone fr cs w) = .next (lone { fr with todo := .code c :: .inLoop c :: k } cs w) := by
  obtain ⟨fn, tmps, todo, defers, mode, kind, ro⟩ := fr
  simp only at hm ht; subst hm ht
  exact step_lone_go (by simp [stepG, stepG.exec])
theorem s_scope {c : Code} (hm : fr.mode = .run) (ht : fr.todo = .code (.scope c) :: k) : step P (lone fr cs w) = .next (lone { fr with todo := .code c :: .inScope c :: k } cs w) := by
  obtain ⟨fn, tmps, todo, defers, mode, kind, ro⟩ := fr
  simp only at hm ht; subst hm ht
  exact step_lone_go (by simp [stepG, stepG.exec])
theorem s_exit {id : Nat} {k' : List Item} (hm : fr.mode = .run) (ht : fr.todo = .code (.exit id) :: k) (hk : exitTo id k = some k') : step P (lone fr cs w) = .next (lone { fr with todo := k' } cs w) := by
  obtain ⟨fn, tmps, todo, defers, mode, kind, ro⟩ := fr
  simp only at hm ht; subst hm ht
  exact step_lone_go (by simp [stepG, stepG.exec, hk])
theorem s_region {id : Nat} {ops : Array Oper} (hm : fr.mode = .run) (ht : fr.todo = .code (.region id ops false) :: k) : step P (lone fr cs w) = .next (lone { fr with todo := .inRegion ops (List.range ops.size) :: k } cs w) := by
  obtain ⟨fn, tmps, todo, defers, mode, kind, ro⟩ := fr
  simp only at hm ht; subst hm ht
  exact step_lone_go (by simp [stepG, stepG.exec])
theorem s_region_draw {id : Nat} {ops : Array Oper} (hm : fr.mode = .run) (ht : fr.todo = .code (.region id ops true) :: k) : ∃ t, step P (lone fr cs w) = .next (lone { fr with todo := .inRegion ops (Region.schedule (P.follows .mixedOrders) ops t) :: k } cs w.drew) := by
  obtain ⟨fn, tmps, todo, defers, mode, kind, ro⟩ := fr
  simp only at hm ht; subst hm ht
  exact ⟨w.tape w.drawn (.order fn id), step_lone_go (by simp [stepG, stepG.exec, choose, Sem.run, Question.forced, Question.cut])⟩
theorem s_region_end {ops : Array Oper} (hm : fr.mode = .run) (ht : fr.todo = .inRegion ops [] :: k) : step P (lone fr cs w) = .next (lone { fr with todo := k } cs w) := by
  obtain ⟨fn, tmps, todo, defers, mode, kind, ro⟩ := fr
  simp only at hm ht; subst hm ht
  exact step_lone_go (by simp [stepG, stepG.exec])

/-- The frame behind an operation that has come to a value. -/
def putF (fr : Frame) (o : Oper) (v : Value) (todo : List Item) : Frame :=
  { fr with tmps := (match o.dst with | some d => fr.tmps.setIfInBounds d v | none => fr.tmps), todo }

theorem finish_region {ops : Array Oper} {i : Nat} {rest : List Nat} {o : Oper} (ht : fr.todo = .inRegion ops (i :: rest) :: k) (ho : ops[i]? = some o) (v : Value) : fr.finish v = putF fr o v (.inRegion ops rest :: k) := by
  obtain ⟨fn, tmps, todo, defers, mode, kind, ro⟩ := fr
  simp only at ht; subst ht
  cases hd : o.dst <;> simp [Frame.finish, putF, ho, hd]

theorem s_op_skip {ops : Array Oper} {i : Nat} {rest : List Nat} {o : Oper} (hm : fr.mode = .run) (ht : fr.todo = .inRegion ops (i :: rest) :: k) (ho : ops[i]? = some o) (hw : Region.wanted o (yielded ops fr.tmps) = false) :
    step P (lone fr cs w) = .next (lone (putF fr o undef (.inRegion ops rest :: k)) cs w) := by
  rw [← finish_region ht ho]
  obtain ⟨fn, tmps, todo, defers, mode, kind, ro⟩ := fr
  simp only at hm ht; subst hm ht
  exact step_lone_go (by simp [stepG, stepG.exec, ho, hw])

theorem g_op {ops : Array Oper} {i : Nat} {rest : List Nat} {o : Oper} (hm : fr.mode = .run) (ht : fr.todo = .inRegion ops (i :: rest) :: k) (ho : ops[i]? = some o) (hw : Region.wanted o (yielded ops fr.tmps) = true)
    (hd : fr.roundOf = none ∨ isDefer o.op = false) :
    stepG P true { frame := fr, callers := cs, status := .running, dying := none } w = stepG.apply P true fr cs none (execOp fr.eval o) w := by
  obtain ⟨fn, tmps, todo, defers, mode, kind, ro⟩ := fr
  simp only at hm ht hd; subst hm ht
  simp only [stepG, stepG.exec, ho, Option.map_some, Option.getD_some]
  simp only at hw
  rw [if_pos hw]
  simp only [stepG.oper, Frame.oper?, ho]
  cases ro with
  | none => rfl
  | some l =>
    have hd : isDefer o.op = false := by simpa using hd
    cases hop : o.op <;> first | rfl | simp [hop, isDefer] at hd

theorem s_op_value {ops : Array Oper} {i : Nat} {rest : List Nat} {o : Oper} {v : Value} {w' : World} (hm : fr.mode = .run) (ht : fr.todo = .inRegion ops (i :: rest) :: k) (ho : ops[i]? = some o) (hw : Region.wanted o (yielded ops fr.tmps) = true)
    (hd : fr.roundOf = none ∨ isDefer o.op = false) (hr : (execOp fr.eval o).run P w = .ok (.value v) w') : step P (lone fr cs w) = .next (lone (putF fr o v (.inRegion ops rest :: k)) cs w') := by
  rw [← finish_region ht ho]
  exact step_lone_go (by rw [g_op hm ht ho hw hd]; simp [stepG.apply, hr])
theorem s_op_unit {ops : Array Oper} {i : Nat} {rest : List Nat} {o : Oper} {w' : World} (hm : fr.mode = .run) (ht : fr.todo = .inRegion ops (i :: rest) :: k) (ho : ops[i]? = some o) (hw : Region.wanted o (yielded ops fr.tmps) = true)
    (hd : fr.roundOf = none ∨ isDefer o.op = false) (hr : (execOp fr.eval o).run P w = .ok .skip w') : step P (lone fr cs w) = .next (lone (putF fr o undef (.inRegion ops rest :: k)) cs w') := by
  rw [← finish_region ht ho]
  exact step_lone_go (by rw [g_op hm ht ho hw hd]; simp [stepG.apply, hr])
theorem s_op_defer {ops : Array Oper} {i : Nat} {rest : List Nat} {o : Oper} {d : Deferred} {w' : World} (hm : fr.mode = .run) (ht : fr.todo = .inRegion ops (i :: rest) :: k) (ho : ops[i]? = some o) (hw : Region.wanted o (yielded ops fr.tmps) = true)
    (hd : fr.roundOf = none ∨ isDefer o.op = false) (hr : (execOp fr.eval o).run P w = .ok (.defer d) w') : step P (lone fr cs w) = .next (lone (putF { fr with defers := d :: fr.defers } o undef (.inRegion ops rest :: k)) cs w') := by
  rw [← finish_region (fr := { fr with defers := d :: fr.defers }) ht ho]
  exact step_lone_go (by rw [g_op hm ht ho hw hd]; simp [stepG.apply, hr])
theorem s_op_enter {ops : Array Oper} {i : Nat} {rest : List Nat} {o : Oper} {f : FuncId} {args : Array Value} {w' : World} (hm : fr.mode = .run) (ht : fr.todo = .inRegion ops (i :: rest) :: k) (ho : ops[i]? = some o) (hw : Region.wanted o (yielded ops fr.tmps) = true)
    (hd : fr.roundOf = none ∨ isDefer o.op = false) (hr : (execOp fr.eval o).run P w = .ok (.enter f args) w') : step P (lone fr cs w) = .next (lone (Frame.enter P f args .normal) (fr :: cs) w') := by
  exact step_lone_go (by rw [g_op hm ht ho hw hd]; simp [stepG.apply, hr, ht])
theorem s_op_round {ops : Array Oper} {i : Nat} {rest : List Nat} {o : Oper} {l : Nat} {f : FuncId} {tmps : Array Value} {a b : Code} {w' : World} (hm : fr.mode = .run) (ht : fr.todo = .inRegion ops (i :: rest) :: k) (ho : ops[i]? = some o) (hw : Region.wanted o (yielded ops fr.tmps) = true)
    (hd : fr.roundOf = none ∨ isDefer o.op = false) (hr : (execOp fr.eval o).run P w = .ok (.round l f tmps a b) w') : step P (lone fr cs w) = .next (lone (Frame.round l f tmps a b .normal) (fr :: cs) w') := by
  exact step_lone_go (by rw [g_op hm ht ho hw hd]; simp [stepG.apply, hr])

/-! ### leaving -/
theorem s_leave_end (hm : fr.mode = .run) (ht : fr.todo = []) (hro : fr.roundOf = none) : step P (lone fr cs w) = .next (lone { fr with mode := .returning } cs w) := by
  obtain ⟨fn, tmps, todo, defers, mode, kind, ro⟩ := fr
  simp only at hm ht hro; subst hm ht hro
  exact step_lone_go (by simp [stepG, stepG.exec])
theorem s_leave_ret (hm : fr.mode = .run) (ht : fr.todo = .code .ret :: k) (hro : fr.roundOf = none) : step P (lone fr cs w) = .next (lone { fr with mode := .returning } cs w) := by
  obtain ⟨fn, tmps, todo, defers, mode, kind, ro⟩ := fr
  simp only at hm ht hro; subst hm ht hro
  exact step_lone_go (by simp [stepG, stepG.exec])

theorem s_return {c : Frame} {v : Value} {fn : Func} (hm : fr.mode = .returning) (hd : fr.defers = []) (hk : fr.kind = .normal) (hf : P.funcs[fr.fn]? = some fn) (hr : (results fn fr.tmps).run P w = .ok v w) :
    step P (lone fr (c :: cs) w) = .next (lone (c.finish v) cs w) :=
  step_lone_go (by simp [stepG, unwind, doReturn, hm, hd, hk, hf, hr])
theorem s_return_deferred {c : Frame} {v : Value} {fn : Func} (hm : fr.mode = .returning) (hd : fr.defers = []) (hk : fr.kind = .deferred) (hf : P.funcs[fr.fn]? = some fn) (hr : (results fn fr.tmps).run P w = .ok v w) (hc : c.mode = .returning) :
    step P (lone fr (c :: cs) w) = .next (lone c cs w) :=
  step_lone_go (by simp [stepG, unwind, doReturn, hm, hd, hk, hf, hr, hc])
theorem s_defer {d : Deferred} {ds : List Deferred} {f : FuncId} {args : Array Value} {w' : World} (hm : fr.mode = .returning) (hd : fr.defers = d :: ds) (hc : ∀ r, d.target ≠ .collected r) (hn : d.target ≠ .nil) (hr : (invoke d.target d.args).run P w = .ok (.enter f args) w') :
    step P (lone fr cs w) = .next (lone (Frame.enter P f args .deferred) ({ fr with defers := ds } :: cs) w') := by
  obtain ⟨tg, as⟩ := d
  refine step_lone_go ?_
  cases tg <;> first
    | exact absurd rfl (hc _)
    | exact absurd rfl hn
    | (simp only [stepG, hm, unwind, hd, callDeferred]; simp [hr])
theorem s_collected {d : Deferred} {ds : List Deferred} {r : Nat} (hm : fr.mode = .returning) (hd : fr.defers = d :: ds) (ht : d.target = .collected r) (hr : w.heap[r]? = some (.deferred (some []))) :
    step P (lone fr cs w) = .next (lone { fr with defers := ds } cs { w with heap := w.heap.setIfInBounds r (.deferred none) }) := by
  obtain ⟨tg, as⟩ := d
  simp only at ht
  subst ht
  have hrun : (Instr.takeDeferred r).run P w = .ok [] { w with heap := w.heap.setIfInBounds r (.deferred none) } := by
    simp [Instr.takeDeferred, run_getObj_of hr (by intros; simp), run_setObj_of hr (by intros; simp)]
  refine step_lone_go ?_
  simp only [stepG, hm, unwind, hd]
  simp [hrun]

/-! ### ranging over a function -/
theorem s_rangeFunc {g : Operand} {params : Array Tmp} {assign body : Code} {l : Nat} {mark : List Deferred} {w1 : World} {fn : Fn} {first captured : Array Value} {f : FuncId} {args : Array Value} (hm : fr.mode = .run) (ht : fr.todo = .code (.rangeFunc g params assign body) :: k)
    (he : (Instr.enterLoop fr.fn fr.tmps params assign body fr.roundOf).run P w = .ok (l, mark) w1) (hg : fr.eval g = .func fn first captured)
    (hi : (invoke (.fn fn captured) (first ++ #[.func (.yield l) #[] #[]])).run P w1 = .ok (.enter f args) w1) :
    step P (lone fr cs w) = .next (lone (Frame.enter P f args .normal) ({ fr with todo := .inRangeFunc l :: k, defers := mark ++ fr.defers } :: cs) w1) := by
  obtain ⟨fn', tmps, todo, defers, mode, kind, ro⟩ := fr
  simp only at hm ht he; subst hm ht
  have hg' : ∀ td ds, Frame.eval { fn := fn', tmps, todo := td, defers := ds, mode := .run, kind, roundOf := ro } g = .func fn first captured := by
    intro td ds
    rw [← hg]
    cases g <;> rfl
  have hs : ∀ td ds, (do let d ← resolve (Frame.eval { fn := fn', tmps, todo := td, defers := ds, mode := .run, kind, roundOf := ro }) { callee := .value g, args := #[.const (.func (.yield l) #[] #[])], argTypes := #[] } 0; invoke d.target d.args : Sem Next).run P w1 = .ok (.enter f args) w1 := by
    intro td ds
    have hmap : (#[.const (.func (.yield l) #[] #[])] : Array Operand).map (Frame.eval { fn := fn', tmps, todo := td, defers := ds, mode := .run, kind, roundOf := ro }) = #[.func (.yield l) #[] #[]] := by simp [Frame.eval]
    simp only [resolve, hg', Deferred.ofValue, Sem.run_bind, Sem.run_pure, Result.andThen, hmap]
    exact hi
  refine step_lone_go ?_
  simp only [stepG, stepG.exec]
  simp only [Sem.runT_eq, he, GStep.bare_after, stepG.apply, if_true, hs]
  rfl

theorem s_endRangeFunc {l : Nat} {jump : Option Code} {w' : World} (hm : fr.mode = .run) (ht : fr.todo = .endRangeFunc l :: k) (hr : (Instr.endLoop l).run P w = .ok jump w') :
    step P (lone fr cs w) = .next (lone { fr with todo := (jump.map Item.code).toList ++ k } cs w') := by
  obtain ⟨fn', tmps, todo, defers, mode, kind, ro⟩ := fr
  simp only at hm ht; subst hm ht
  exact step_lone_go (by simp [stepG, stepG.exec, hr])

theorem s_beginRound {l : Nat} {w' : World} (hm : fr.mode = .run) (ht : fr.todo = .beginRound :: k) (hro : fr.roundOf = some l) (hr : (Instr.beginRound l).run P w = .ok () w') :
    step P (lone fr cs w) = .next (lone { fr with todo := k } cs w') := by
  obtain ⟨fn', tmps, todo, defers, mode, kind, ro⟩ := fr
  simp only at hm ht hro; subst hm ht hro
  exact step_lone_go (by simp [stepG, stepG.exec, stepG.apply, hr, Frame.finish])

/-- A round ends: 'jump' says how. -/
theorem s_endRound {c : Frame} {l : Nat} {jump : Option Code} {v : Value} {w' : World} (hm : fr.mode = .run) (hro : fr.roundOf = some l) (hk : fr.kind = .normal)
    (ht : (jump = none ∧ fr.todo = []) ∨ (jump = some .ret ∧ ∃ k2, fr.todo = .code .ret :: k2) ∨ (∃ id k2, jump = some (.exit id) ∧ fr.todo = .code (.exit id) :: k2 ∧ exitTo id k2 = none))
    (hr : (Instr.endRound l jump).run P w = .ok v w') : step P (lone fr (c :: cs) w) = .next (lone (c.finish v) cs w') := by
  obtain ⟨fn', tmps, todo, defers, mode, kind, ro⟩ := fr
  simp only at hm hro hk ht; subst hm hro hk
  rcases ht with ⟨rfl, rfl⟩ | ⟨rfl, k2, rfl⟩ | ⟨id, k2, rfl, rfl, hx⟩
  · exact step_lone_go (by simp [stepG, stepG.exec, hr, doReturn])
  · exact step_lone_go (by simp [stepG, stepG.exec, hr, doReturn])
  · exact step_lone_go (by simp [stepG, stepG.exec, hr, doReturn, hx])

end
end Go.VS
