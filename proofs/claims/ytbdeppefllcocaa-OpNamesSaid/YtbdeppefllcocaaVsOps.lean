/- One operation of the evaluator is one of the model. No conditions. -/
import Derived.Test.YtbdeppefllcocaaVsHeap
import Derived.Deep.AppendSrc
import Derived.Great.BuildSlice
import Derived.Laws.Tables
namespace Go.VS
set_option linter.unusedSimpArgs false
set_option linter.unusedVariables false
open Go.RowKit

def TgtR (β : Env) : Target → Target → Prop
  | .fn f c, t => ∃ f' c', t = .fn f' c' ∧ FnR β f f' ∧ VRA β c c'
  | .collected i, t => ∃ l, β i = some l ∧ t = .collected l.blk
  | _, _ => False

def DefR (β : Env) (d d' : Deferred) : Prop := TgtR β d.target d'.target ∧ VRA β d.args d'.args

theorem VRA.mono' {β β' : Env} (h : β.le β') {a b : Array Value} (r : VRA β a b) : VRA β' a b := VRA.mono h a b r
theorem VRL.mono' {β β' : Env} (h : β.le β') {a b : List Value} (r : VRL β a b) : VRL β' a b := VRL.mono h a b r
theorem VR.mono' {β β' : Env} (h : β.le β') {a b : Value} (r : VR β a b) : VR β' a b := VR.mono h a b r

theorem DefR.mono {β β' : Env} (h : β.le β') {d d' : Deferred} (r : DefR β d d') : DefR β' d d' := by
  obtain ⟨h1, h2⟩ := r
  refine ⟨?_, h2.mono' h⟩
  generalize d.target = t at *
  cases t with
  | fn f c => obtain ⟨f', c', e, hf, hc⟩ := h1; exact ⟨f', c', e, hf.mono h, hc.mono' h⟩
  | collected i => obtain ⟨l, hl, e⟩ := h1; exact ⟨l, h _ _ hl, e⟩
  | _ => exact h1.elim

def OutR (P : Program) (K : Prot) (β : Env) (st : St) (w : World) (r : Result Next) : Out → Prop
  | .val v st' => ∃ β' w' v', r = .ok (.value v') w' ∧ β.le β' ∧ Rel P K β' st' w' ∧ VR β' v v' ∧ Bel K w w'
  | .skip st' => ∃ β' w', r = .ok .skip w' ∧ β.le β' ∧ Rel P K β' st' w' ∧ Bel K w w'
  | .enter f args st' => st' = st ∧ ∃ args', r = .ok (.enter f args') w ∧ VRL β args args'.toList
  | .defer d st' => st' = st ∧ ∃ d', r = .ok (.defer d') w ∧ DefR β d d'
  | .round l args st' => st' = st ∧ ∃ ll args', β l = some ll ∧ VRL β args args'.toList ∧ r = (Instr.yield ll.blk args').run P w

theorem pureRun_run {α : Type} {P : Program} : ∀ (s : Sem α) (a : α) (w : World), pureRun P s = some a → s.run P w = .ok a w
  | .pure a, b, w, h => by simp [pureRun] at h; subst h; rfl
  | .program k, b, w, h => by simp only [pureRun] at h; exact pureRun_run (k P) b w h
  | .mark m k, b, w, h => by simp only [pureRun] at h; exact pureRun_run k b w h
  | .load .., _, _, h => by simp [pureRun] at h
  | .store .., _, _, h => by simp [pureRun] at h
  | .new .., _, _, h => by simp [pureRun] at h
  | .shape .., _, _, h => by simp [pureRun] at h
  | .freeze .., _, _, h => by simp [pureRun] at h
  | .frozen .., _, _, h => by simp [pureRun] at h
  | .getObj .., _, _, h => by simp [pureRun] at h
  | .setObj .., _, _, h => by simp [pureRun] at h
  | .choose .., _, _, h => by simp [pureRun] at h
  | .sys .., _, _, h => by simp [pureRun] at h
  | .halt .., _, _, h => by simp [pureRun] at h

section
variable {P : Program} {K : Prot} {β : Env} {st : St} {w : World}

theorem run_v {s : Sem Value} {v : Value} {w' : World} (h : s.run P w = .ok v w') : (do pure (Next.value (← s)) : Sem Next).run P w = .ok (.value v) w' := by
  simp [h]
theorem run_u {s : Sem Unit} {w' : World} (h : s.run P w = .ok () w') : (do s; pure Next.skip : Sem Next).run P w = .ok .skip w' := by
  simp [h]

theorem OutR.same (hr : Rel P K β st w) {r : Result Next} {v v' : Value} (e : r = .ok (.value v') w) (hv : VR β v v') : OutR P K β st w r (.val v st) :=
  ⟨β, w, v', e, Env.le.refl _, hr, hv, Bel.refl _ _⟩

theorem VR.int' {k : IntKind} {n : Int} {v : Value} (h : VR β (.int k n) v) : v = .int k n := h
theorem VR.bool' {b : Bool} {v : Value} (h : VR β (.bool b) v) : v = .bool b := h
theorem VR.string' {s : ByteArray} {v : Value} (h : VR β (.string s) v) : v = .string s := h
theorem VR.ptr' {a : Addr} {v : Value} (h : VR β (.pointer (some a)) v) : a.spot = none ∧ ∃ l, β a.block = some l ∧ v = .pointer (some ⟨l.blk, l.base + a.off, none⟩) := h
theorem VR.ptr_mk {a : Addr} {l : Loc} (hs : a.spot = none) (hl : β a.block = some l) : VR β (.pointer (some a)) (.pointer (some ⟨l.blk, l.base + a.off, none⟩)) := ⟨hs, l, hl, rfl⟩

theorem zeroOfT_spec {t : TypeId} {z : Value} (h : zeroOfT P t = some z) : ∃ i, P.info? t = some i ∧ i.zero = some z ∧ flat z = true := by
  unfold zeroOfT at h
  cases hi : P.info? t with
  | none => simp [hi] at h
  | some i =>
    cases hz : i.zero with
    | none => simp [hi, hz] at h
    | some z' =>
      simp only [hi, hz] at h
      split at h
      · simp at h; subst h; exact ⟨i, rfl, hz, ‹_›⟩
      · cases h
theorem run_zeroValue {t : TypeId} {i : TypeInfo} {z : Value} (hi : P.info? t = some i) (hz : i.zero = some z) (w : World) : (zeroValue t).run P w = .ok z w := by
  simp [zeroValue, typeInfo, hi, hz]
theorem run_sizeOf' {t : TypeId} {i : TypeInfo} (hi : P.info? t = some i) (w : World) : (sizeOf t).run P w = .ok i.size w := by
  simp [sizeOf, typeInfo, hi]

theorem Rel.newRow (hr : Rel P K β st w) {c c' : List Value} (h : VRL β c c') (e : TypeId) (x : Bool) (rest : List Value) (hx : x = true → rest = []) :
    Rel P K (β.put st.next ⟨w.heap.size, 0, c'.length + rest.length, esz P e, none, false⟩) (newRow st c e x).2 (w.alloc (.cells ⟨c' ++ rest⟩ e)) ∧
    (newRow st c e x).1 = ⟨st.next, 0, none⟩ ∧ β.le (β.put st.next ⟨w.heap.size, 0, c'.length + rest.length, esz P e, none, false⟩) ∧ Bel K w (w.alloc (.cells ⟨c' ++ rest⟩ e)) := by
  refine ⟨?_, rfl, hr.le_put _, (Bel.refl _ _).alloc hr.base _⟩
  refine hr.alloc (.cells ⟨c' ++ rest⟩ e) (.cells c e x) rfl _ _ (Or.inr ⟨rfl, ⟨c' ++ rest⟩, (0, 0), rfl, rfl, by simp, ?_, fun hx' => ?_, ?_, Or.inl (Nat.le_refl _)⟩)
  · rw [h.length]; exact Nat.le_add_right _ _
  · rw [h.length, hx hx']; simp
  · simp only [List.drop_zero, h.length, List.take_left']
    exact h


/-! ### new blocks -/
theorem sound_row (hr : Rel P K β st w) {c c' : List Value} (h : VRL β c c') (e : TypeId) {r : Result Next}
    (hrun : r = .ok (.value (.pointer (some ⟨w.heap.size, 0, none⟩))) (w.alloc (.cells ⟨c'⟩ e))) :
    OutR P K β st w r (.val (.pointer (some (newRow st c e true).1)) (newRow st c e true).2) := by
  obtain ⟨h1, h2, h3, h4⟩ := hr.newRow h e true [] (fun _ => rfl)
  simp only [List.append_nil] at h1 h4
  refine ⟨_, _, _, hrun, h3, h1, ?_, h4⟩
  rw [h2]
  exact ⟨rfl, _, put_same _ _ _, by simp⟩

theorem sound_alloc (hr : Rel P K β st w) {ρ ρ' : Operand → Value} {o : Oper} {out : Out} {e : TypeId} (ho : o.op = .alloc e) (h : evOp P ρ o st = some out) :
    OutR P K β st w ((execOp ρ' o).run P w) out := by
  simp only [evOp, ho] at h
  split at h
  · rename_i z hz
    obtain ⟨i, hi, hzz, hfl⟩ := zeroOfT_spec hz
    obtain rfl := Option.some.inj h
    refine sound_row hr (VR.cells (VR.flat_refl z hfl) (by cases z <;> first | rfl | simp [flat] at hfl | (rename_i c; cases c <;> first | rfl | simp [flat] at hfl))) e ?_
    simp only [execOp, ho]
    refine run_v ?_
    simp [Instr.alloc, run_zeroValue hi hzz, newVar, Go.newRow]
  · cases h

theorem sound_box (hr : Rel P K β st w) {ρ ρ' : Operand → Value} (hρ : ∀ x, VR β (ρ x) (ρ' x)) {o : Oper} {out : Out} {e : TypeId} {x : Operand} (ho : o.op = .box e x) (h : evOp P ρ o st = some out) :
    OutR P K β st w ((execOp ρ' o).run P w) out := by
  simp only [evOp, ho] at h
  split at h
  · cases h
  · rename_i hx
    obtain rfl := Option.some.inj h
    refine sound_row hr (VR.cells (hρ x) (by simpa using hx)) e ?_
    simp only [execOp, ho]
    refine run_v ?_
    simp [Instr.box, newVar, Go.newRow]

/-! ### loads and stores -/
theorem isAgg_run {t : TypeId} {d : TypeDesc} (hu : P.underlying t = some d) (w : World) : (isAgg t).run P w = .ok (isAggB P t) w := by
  unfold isAggB
  rw [hu]
  cases d <;> simp [isAgg, run_underlying hu]

theorem loadV_run (hr : Rel P K β st w) {t : TypeId} {a : Addr} {v : Value} (h : loadV P st t a = some v) {l : Loc} (hl : β a.block = some l) :
    ∃ v', (loadVar t ⟨l.blk, l.base + a.off, none⟩).run P w = .ok v' w ∧ VR β v v' := by
  unfold loadV at h
  split at h
  · rename_i d i hu hi
    split at h
    · rename_i hagg
      cases hc : cellsAt st a i.size with
      | none => simp [hc] at h
      | some c =>
        simp [hc] at h
        subst h
        obtain ⟨c', h1, h2, h3, h4⟩ := hr.cellsAt hc hl
        refine ⟨.agg ⟨c'⟩, ?_, ⟨⟨c'⟩, rfl, h1⟩⟩
        simp [loadVar, isAgg_run hu, hagg, run_sizeOf' hi, loadCells_run _ c' i.size h2 h4]
    · rename_i hagg
      split at h
      · rename_i v0 hc
        obtain rfl := Option.some.inj h
        obtain ⟨c', h1, h2, h3, h4⟩ := hr.cellsAt hc hl
        obtain ⟨v', hv', hvr⟩ := h1.get (i := 0) rfl
        refine ⟨v', ?_, hvr⟩
        have := h4 0 v' hv'
        rw [add_of] at this
        have hagg' : isAggB P t = false := by simpa using hagg
        simp [loadVar, isAgg_run hu, hagg'] at this ⊢
        simp [this]
      · cases h
  · cases h

theorem frz_cells (hr : Rel P K β st w) {k : Nat} {l : Loc} {cs : Array Value} {e : TypeId} {f : Nat × Nat} (hl : β (Int.negSucc k) = some l) (hb : l.obj = some (.cells cs e f)) {j : Nat} {v : Value} (hj : cs.toList[j]? = some v) : w.cell? ⟨k, j, none⟩ = some v := by
  have h := (hr.frz k l hl).2.1
  rw [hb] at h
  simp only [World.cell?, h]
  simpa using hj

theorem frz_seg (hr : Rel P K β st w) {k : Nat} {l : Loc} {cs : Array Value} {e : TypeId} {f : Nat × Nat} (hl : β (Int.negSucc k) = some l) (hb : l.obj = some (.cells cs e f)) {o : Nat} {c : List Value} (hle : o + c.length ≤ cs.size) (hc : VRL β c ((cs.toList.drop o).take c.length)) {a n : Nat} (han : a + n ≤ c.length) :
    ∃ c', VRL β ((c.drop a).take n) c' ∧ c'.length = n ∧ ∀ j v, c'[j]? = some v → w.cell? ((⟨k, o + a, none⟩ : Addr).add j) = some v := by
  refine ⟨(((cs.toList.drop o).take c.length).drop a).take n, (hc.drop a).take n, by simp; omega, fun j v hj => ?_⟩
  rw [add_of]
  refine frz_cells hr hl hb ?_
  rw [List.getElem?_take] at hj
  split at hj
  · rw [List.getElem?_drop, List.getElem?_take] at hj
    split at hj
    · rw [List.getElem?_drop] at hj
      rw [← hj]; congr 1; omega
    · cases hj
  · cases hj

theorem loadC_run (hr : Rel P K β st w) {t : TypeId} {a : Nat} {c : List Value} {v : Value} (h : loadC P t a c = some v) {k o : Nat} {l : Loc} {cs : Array Value} {e : TypeId} {f : Nat × Nat} (hl : β (Int.negSucc k) = some l) (hb : l.obj = some (.cells cs e f)) (hle : o + c.length ≤ cs.size)
    (hc : VRL β c ((cs.toList.drop o).take c.length)) : ∃ v', (loadVar t ⟨k, o + a, none⟩).run P w = .ok v' w ∧ VR β v v' := by
  unfold loadC at h
  split at h
  · rename_i d i hu hi
    split at h
    · rename_i hagg
      split at h
      · rename_i hale
        obtain rfl := Option.some.inj h
        obtain ⟨c', h1, h2, h4⟩ := frz_seg hr hl hb hle hc hale
        refine ⟨.agg ⟨c'⟩, ?_, ⟨⟨c'⟩, rfl, h1⟩⟩
        simp [loadVar, isAgg_run hu, hagg, run_sizeOf' hi, loadCells_run _ c' i.size h2 h4]
      · cases h
    · rename_i hagg
      have hlt : a < c.length := (List.getElem?_eq_some_iff.1 h).1
      obtain ⟨c', h1, h2, h4⟩ := frz_seg hr hl hb hle hc (a := a) (n := 1) (by omega)
      have hg : ((c.drop a).take 1)[0]? = some v := by rw [List.getElem?_take, if_pos (by omega), List.getElem?_drop]; simpa using h
      obtain ⟨v', hv', hvr⟩ := h1.get hg
      refine ⟨v', ?_, hvr⟩
      have := h4 0 v' hv'
      rw [add_of] at this
      have hagg' : isAggB P t = false := by simpa using hagg
      simp [loadVar, isAgg_run hu, hagg'] at this ⊢
      simp [this]
  · cases h

theorem sound_load (hr : Rel P K β st w) {ρ ρ' : Operand → Value} (hρ : ∀ x, VR β (ρ x) (ρ' x)) {o : Oper} {out : Out} {t : TypeId} {x : Operand} (ho : o.op = .load t x) (h : evOp P ρ o st = some out) :
    OutR P K β st w ((execOp ρ' o).run P w) out := by
  simp only [evOp, ho] at h
  split at h
  · rename_i a ha
    have hx := hρ x
    rw [ha] at hx
    obtain ⟨hs, l, hl, e⟩ := hx.ptr'
    split at h
    · rename_i v hv
      obtain rfl := Option.some.inj h
      obtain ⟨v', h1, h2⟩ := loadV_run hr hv hl
      refine OutR.same hr ?_ h2
      simp only [execOp, ho]
      refine run_v ?_
      simp [Instr.loadAt, e, Instr.sureAddr, h1]
    · cases h
  · rename_i p hnp
    split at h
    · rename_i a c hfp
      split at h
      · rename_i v hv
        obtain rfl := Option.some.inj h
        obtain ⟨k, o0, cs, e, f, l, h1, h2, h3, h4, h5⟩ := fpOf_rel hfp (hρ x)
        obtain ⟨v', g1, g2⟩ := loadC_run hr hv h2 h3 h4 (VRL.mono (negE_le _) _ _ h5)
        refine OutR.same hr ?_ g2
        simp only [execOp, ho]
        refine run_v ?_
        simp [Instr.loadAt, h1, Instr.sureAddr, g1]
      · cases h
    · cases h

theorem storeV_run (hr : Rel P K β st w) {t : TypeId} {a : Addr} {v v' : Value} {st' : St} (h : storeV P st t a v = some st') {l : Loc} (hl : β a.block = some l) (hv : VR β v v') :
    ∃ w', (storeVar t ⟨l.blk, l.base + a.off, none⟩ v').run P w = .ok () w' ∧ Rel P K β st' w' ∧ Bel K w w' := by
  unfold storeV at h
  split at h
  · rename_i i hi
    split at h
    · rename_i hc
      simp only [Bool.and_eq_true, decide_eq_true_eq, Bool.not_eq_true'] at hc
      have hcells := hv.cells hc.2
      obtain ⟨w', h1, h2, h3, _⟩ := hr.setCells h hcells hl
      refine ⟨w', ?_, h2, h3⟩
      have hsz : v'.cells.size = i.size := by have := hcells.length; simp at this; omega
      simp [storeVar, run_sizeOf' hi, hsz, h1]
    · cases h
  · cases h

theorem sound_store (hr : Rel P K β st w) {ρ ρ' : Operand → Value} (hρ : ∀ x, VR β (ρ x) (ρ' x)) {o : Oper} {out : Out} {t : TypeId} {x v : Operand} (ho : o.op = .store t x v) (h : evOp P ρ o st = some out) :
    OutR P K β st w ((execOp ρ' o).run P w) out := by
  simp only [evOp, ho] at h
  split at h
  · rename_i a ha
    have hx := hρ x
    rw [ha] at hx
    obtain ⟨hs, l, hl, e⟩ := hx.ptr'
    split at h
    · rename_i st' hst
      obtain rfl := Option.some.inj h
      obtain ⟨w', h1, h2, h3⟩ := storeV_run hr hst hl (hρ v)
      refine ⟨β, w', ?_, Env.le.refl _, h2, h3⟩
      simp only [execOp, ho]
      refine run_u ?_
      simp [Instr.storeAt, e, Instr.sureAddr, h1]
    · cases h
  · cases h

/-! ### values -/
theorem sound_move (hr : Rel P K β st w) {ρ ρ' : Operand → Value} (hρ : ∀ x, VR β (ρ x) (ρ' x)) {o : Oper} {out : Out} {x : Operand} (ho : o.op = .move x ∨ o.op = .assign x) (h : evOp P ρ o st = some out) :
    OutR P K β st w ((execOp ρ' o).run P w) out := by
  rcases ho with ho | ho <;>
  · simp only [evOp, ho] at h
    obtain rfl := Option.some.inj h
    exact OutR.same hr (by simp [execOp, ho]) (hρ x)

theorem sound_pick (hr : Rel P K β st w) {ρ ρ' : Operand → Value} (hρ : ∀ x, VR β (ρ x) (ρ' x)) {o : Oper} {out : Out} {c a b : Operand} (ho : o.op = .pick c a b) (h : evOp P ρ o st = some out) :
    OutR P K β st w ((execOp ρ' o).run P w) out := by
  simp only [evOp, ho] at h
  split at h
  · rename_i t ht
    obtain rfl := Option.some.inj h
    have hc := hρ c
    rw [ht] at hc
    have hc := hc.bool'
    refine OutR.same hr (v' := if t then ρ' a else ρ' b) ?_ ?_
    · simp [execOp, ho, hc, asBool]
    · split
      · exact hρ a
      · exact hρ b
  · cases h

theorem sound_nilCheck (hr : Rel P K β st w) {ρ ρ' : Operand → Value} (hρ : ∀ x, VR β (ρ x) (ρ' x)) {o : Oper} {out : Out} {x : Operand} (ho : o.op = .nilCheck x) (h : evOp P ρ o st = some out) :
    OutR P K β st w ((execOp ρ' o).run P w) out := by
  simp only [evOp, ho] at h
  have hx := hρ x
  split at h
  · rename_i a ha
    obtain rfl := Option.some.inj h
    rw [ha] at hx
    obtain ⟨hs, l, hl, e⟩ := hx.ptr'
    refine OutR.same hr (v' := ρ' x) ?_ (by rw [e]; exact VR.ptr_mk hs hl)
    simp [execOp, ho, e]
  · rename_i f a b ha
    obtain rfl := Option.some.inj h
    rw [ha] at hx
    have hx' := hx
    obtain ⟨f', a', b', e, hf, ha', hb'⟩ := hx'
    have hf2 : f' = .func f := hf
    subst hf2
    refine OutR.same hr (v' := ρ' x) ?_ hx
    simp [execOp, ho, e]
  · rename_i f a b ha
    obtain rfl := Option.some.inj h
    rw [ha] at hx
    have hx' := hx
    obtain ⟨f', a', b', e, hf, ha', hb'⟩ := hx'
    obtain ⟨l, hl, rfl⟩ := hf
    refine OutR.same hr (v' := ρ' x) ?_ hx
    simp [execOp, ho, e]
  · rename_i t v ha
    split at h
    · rename_i ht
      obtain rfl := Option.some.inj h
      rw [ha] at hx
      by_cases htl : t < FZ
      · obtain ⟨x', e, hv⟩ := hx.iface_of htl
        refine OutR.same hr (v' := ρ' x) ?_ hx
        simp [execOp, ho, e]
      · obtain rfl : t = FZ := Nat.le_antisymm ht (Nat.not_lt.1 htl)
        obtain ⟨a, e⟩ := hx.ifaceFZ
        refine OutR.same hr (v' := ρ' x) ?_ hx
        simp [execOp, ho, e]
    · cases h
  · cases h

theorem sound_unOp (hr : Rel P K β st w) {ρ ρ' : Operand → Value} (hρ : ∀ x, VR β (ρ x) (ρ' x)) {o : Oper} {out : Out} {op : UnOp} {t : TypeId} {x : Operand} (ho : o.op = .unOp op t x) (h : evOp P ρ o st = some out) :
    OutR P K β st w ((execOp ρ' o).run P w) out := by
  simp only [evOp, ho] at h
  split at h
  · rename_i hfl
    split at h
    · rename_i v hv
      split at h
      · rename_i hfv
        obtain rfl := Option.some.inj h
        have hx := VR.of_flat _ _ hfl (hρ x)
        refine OutR.same hr ?_ (VR.flat_refl v hfv)
        simp only [execOp, ho]
        refine run_v ?_
        rw [hx]; exact pureRun_run _ _ _ hv
      · cases h
    · cases h
  · cases h

theorem sound_makeInterface (hr : Rel P K β st w) {ρ ρ' : Operand → Value} (hρ : ∀ x, VR β (ρ x) (ρ' x)) {o : Oper} {out : Out} {t : TypeId} {x : Operand} (ho : o.op = .makeInterface t x) (h : evOp P ρ o st = some out) :
    OutR P K β st w ((execOp ρ' o).run P w) out := by
  simp only [evOp, ho] at h
  split at h
  · cases h
  · rename_i d hni hu
    split at h
    case isFalse => cases h
    rename_i ht
    obtain rfl := Option.some.inj h
    refine OutR.same hr (v' := .iface t (ρ' x)) ?_ ((hρ x).iface_mk ht)
    simp only [execOp, ho]
    refine run_v ?_
    cases d <;> first | (simp [Instr.makeInterface, run_underlying hu]; done) | exact absurd rfl (hni _)
  · cases h

theorem VRA.map {ρ ρ' : Operand → Value} (hρ : ∀ x, VR β (ρ x) (ρ' x)) (a : Array Operand) : VRA β (a.map ρ) (a.map ρ') := by
  rw [VRA_iff]
  simp only [Array.toList_map]
  exact VRL.map _ _ _ fun x _ => hρ x

theorem sound_makeFunc (hr : Rel P K β st w) {ρ ρ' : Operand → Value} (hρ : ∀ x, VR β (ρ x) (ρ' x)) {o : Oper} {out : Out} {fn : Fn} {a b : Array Operand} (ho : o.op = .makeFunc fn a b) (h : evOp P ρ o st = some out) :
    OutR P K β st w ((execOp ρ' o).run P w) out := by
  simp only [evOp, ho] at h
  split at h
  case isFalse => cases h
  rename_i hfn
  obtain rfl := Option.some.inj h
  refine OutR.same hr (v' := .func fn (a.map ρ') (b.map ρ')) ?_ ⟨_, _, _, rfl, ?_, VRA.map hρ a, VRA.map hρ b⟩
  · simp [execOp, ho, Instr.makeFunc]
  · cases fn <;> simp_all [FnR, flatFn]

theorem sound_extract (hr : Rel P K β st w) {ρ ρ' : Operand → Value} (hρ : ∀ x, VR β (ρ x) (ρ' x)) {o : Oper} {out : Out} {t : Operand} {i : Nat} (ho : o.op = .extract t i) (h : evOp P ρ o st = some out) :
    OutR P K β st w ((execOp ρ' o).run P w) out := by
  simp only [evOp, ho] at h
  have hx := hρ t
  split at h
  · rename_i vs hvs
    rw [hvs] at hx
    obtain ⟨vs', e, hvr⟩ := hx
    split at h
    · rename_i v hv
      obtain rfl := Option.some.inj h
      obtain ⟨v', h1, h2⟩ := (VRA_iff.1 hvr).get (i := i) (v := v) (by simpa using hv)
      have h1' : vs'[i]? = some v' := by simpa using h1
      refine OutR.same hr ?_ h2
      simp only [execOp, ho]
      refine run_v ?_
      simp [Instr.extract, e, h1']
    · cases h
  · cases h
end
end Go.VS
