/- One operation of the evaluator is one of the model: makes, iterators, assertions. No conditions. -/
import Derived.Test.YtbdeppefllcocaaVsOps6
namespace Go.VS
set_option linter.unusedSimpArgs false
set_option linter.unusedVariables false
open Go.RowKit
section
variable {P : Program} {K : Prot} {β : Env} {st : St} {w : World}

theorem sound_makeMap (hr : Rel P K β st w) {ρ ρ' : Operand → Value} (hρ : ∀ x, VR β (ρ x) (ρ' x)) {o : Oper} {out : Out} {t : TypeId} {r : Option Operand} (ho : o.op = .makeMap t r) (h : evOp P ρ o st = some out) :
    OutR P K β st w ((execOp ρ' o).run P w) out := by
  have fin : ∀ {res : Result Next}, res = .ok (.value (.map (some w.heap.size))) (w.alloc (.map #[] 0)) → OutR P K β st w res (.val (.map (some st.next)) (st.new (.map [] 0)).2) := by
    intro res e
    have := hr.alloc (.map #[] 0) (.map [] 0) rfl 0 0 ⟨rfl, #[], rfl, rfl⟩
    exact ⟨_, _, _, e, hr.le_put _, this, ⟨_, put_same _ _ _, rfl⟩, (Bel.refl _ _).alloc hr.base _⟩
  simp only [evOp, ho] at h
  split at h
  · obtain rfl := Option.some.inj h
    refine fin ?_
    simp only [execOp, ho]
    refine run_v ?_
    simp [Instr.makeMap]
  · rename_i hd
    split at h
    · rename_i k e i n hu hv
      obtain rfl := Option.some.inj h
      have hx := hρ hd
      rw [hv] at hx
      have hx := hx.int'
      refine fin ?_
      simp only [execOp, ho]
      refine run_v ?_
      simp [Instr.makeMap, run_underlying hu, hx, asInt, asIntOf]
    · cases h

theorem wrap_small {n : Int} (h0 : 0 ≤ n) (h1 : n ≤ 4194304) : IntKind.i64.wrap n = n := IntWalk.i64_in _ (by omega)

theorem sound_makeSlice (hr : Rel P K β st w) {ρ ρ' : Operand → Value} (hρ : ∀ x, VR β (ρ x) (ρ' x)) {o : Oper} {out : Out} {t : TypeId} {l c : Operand} (ho : o.op = .makeSlice t l c) (h : evOp P ρ o st = some out) :
    OutR P K β st w ((execOp ρ' o).run P w) out := by
  simp only [evOp, ho] at h
  have hl := hρ l
  have hc := hρ c
  split at h
  · rename_i e k1 n1 k2 n2 hu hlv hcv
    rw [hlv] at hl
    rw [hcv] at hc
    have hl := hl.int'
    have hc := hc.int'
    split at h
    · rename_i ei z hie hz
      obtain ⟨i, hi, hzz, hfl⟩ := zeroOfT_spec hz
      obtain rfl : i = ei := by rw [hi] at hie; exact Option.some.inj hie
      have hzc : VRL β z.cells.toList z.cells.toList := VR.cells (VR.flat_refl z hfl) (by cases z <;> first | rfl | simp [flat] at hfl | (rename_i c; cases c <;> first | rfl | simp [flat] at hfl))
      split at h
      · rename_i hb
        obtain ⟨b1, b2, b3, b4, b5, b6⟩ := hb
        obtain rfl := Option.some.inj h
        have hbig : (big : Int) = 4194304 := rfl
        have hbign : big = 4194304 := rfl
        rw [hbig] at b3
        rw [hbign] at b4
        have hw1 := wrap_small (n := n1) b1 (by omega)
        have hw2 := wrap_small (n := n2) (by omega) b3
        have hmul : (i.bytes : Int) * n2 ≤ 4194304 * 4194304 := Int.mul_le_mul (by omega) b3 (by omega) (by omega)
        have hcells : VRL β ((List.range (n2.toNat * i.size)).map fun j => z.cells[j % i.size]!) ((List.range (n2.toNat * i.size)).map fun j => z.cells[j % i.size]!) := by
          refine VRL.map _ _ _ fun j _ => ?_
          have hlt : j % i.size < z.cells.size := by rw [b5]; exact Nat.mod_lt _ (by omega)
          have hg : z.cells.toList[j % i.size]? = some (z.cells[j % i.size]!) := by
            rw [Array.getElem?_toList, getElem!_pos z.cells _ hlt]; exact Array.getElem?_eq_getElem hlt
          exact (VRL_iff.1 hzc).2 _ _ _ hg hg
        obtain ⟨g1, g2, g3, g4⟩ := hr.newRow hcells e true [] (fun _ => rfl)
        simp only [List.append_nil] at g1 g4
        refine ⟨_, _, .slice (some ⟨w.heap.size, 0, none⟩) n1.toNat n2.toNat, ?_, g3, g1, ?_, g4⟩
        · simp only [execOp, ho]
          refine run_v ?_
          have t1 : ¬ n2 < 0 := by omega
          have t2 : ¬ (281474976710656 : Int) < (i.bytes : Int) * n2 := by omega
          have t3 : ¬ n1 < 0 := by omega
          have t4 : ¬ n2 < n1 := by omega
          have ecells : (Array.range (n2.toNat * i.size)).map (fun j => z.cells[j % i.size]!) = ⟨(List.range (n2.toNat * i.size)).map fun j => z.cells[j % i.size]!⟩ := by
            apply Array.ext'; simp
          by_cases h0 : n2.toNat * i.size = 0
          · have e0 : (List.range (n2.toNat * i.size)).map (fun j => z.cells[j % i.size]!) = [] := by rw [h0]; rfl
            rw [e0]
            have h0' : n2.toNat = 0 := by rcases Nat.mul_eq_zero.1 h0 with h | h; exact h; exact absurd h b6
            simp [Instr.makeSlice, run_underlying hu, hl, hc, asInt, asIntOf, typeInfo, hi, hw1, hw2, t1, t2, t3, t4, run_sizeOf' hi, h0', Go.newRow]
            congr 2
            apply Array.ext <;> simp
          · have h0' : ¬ (n2.toNat = 0 ∨ i.size = 0) := by rw [← Nat.mul_eq_zero]; exact h0
            rw [← ecells]
            simp [Instr.makeSlice, run_underlying hu, hl, hc, asInt, asIntOf, typeInfo, hi, hw1, hw2, t1, t2, t3, t4, run_sizeOf' hi, h0', run_zeroValue hi hzz, b5, Go.newRow]
            exact fun e => absurd e h0
        · rw [g2]
          refine ⟨rfl, _, put_same _ _ _, ?_⟩
          have : n2.toNat < unk := by unfold unk; omega
          simp [SliceR, this]
      · cases h
    · cases h
  · cases h

/-! ### iterators -/
theorem sound_range (hr : Rel P K β st w) {ρ ρ' : Operand → Value} (hρ : ∀ x, VR β (ρ x) (ρ' x)) {o : Oper} {out : Out} {t : TypeId} {x : Operand} (ho : o.op = .range t x) (h : evOp P ρ o st = some out) :
    OutR P K β st w ((execOp ρ' o).run P w) out := by
  have fin : ∀ {res : Result Next} {b : Blk} {o : Obj}, b.isObj = false → BlkR P β ⟨w.heap.size, 0, 0, 0, none, false⟩ b (some o) → res = .ok (.value (.pointer (some ⟨w.heap.size, 0, none⟩))) (w.alloc o) → OutR P K β st w res (.val (.pointer (some ⟨st.next, 0, none⟩)) (st.new b).2) := by
    intro res b o hno hb e
    have := hr.alloc o b hno 0 0 hb
    exact ⟨_, _, _, e, hr.le_put _, this, ⟨rfl, _, put_same _ _ _, by simp⟩, (Bel.refl _ _).alloc hr.base _⟩
  simp only [evOp, ho] at h
  have hx := hρ x
  split at h
  · rename_i s hu ha
    rw [ha] at hx
    have hx := hx.string'
    obtain rfl := Option.some.inj h
    refine fin (b := .siter s 0) (o := .stringIter s 0) rfl ⟨rfl, rfl, rfl⟩ ?_
    simp only [execOp, ho]
    refine run_v ?_
    simp [Instr.range, run_underlying hu, hx]
  · rename_i k e hu ha
    rw [ha] at hx
    have hx : ρ' x = .map none := hx
    obtain rfl := Option.some.inj h
    refine fin (b := .miter none 0 [] 0) (o := .mapIter none 0 #[] 0) rfl ⟨rfl, rfl, none, rfl, rfl⟩ ?_
    simp only [execOp, ho]
    refine run_v ?_
    simp [Instr.range, run_underlying hu, hx]
  · rename_i k e m hu ha
    rw [ha] at hx
    obtain ⟨l, hl, hx⟩ := hx
    split at h
    · rename_i es clock hg
      obtain rfl := Option.some.inj h
      obtain ⟨l', es', g1, g2, g3, g4⟩ := hr.get_map hg
      obtain rfl : l' = l := by rw [g1] at hl; exact Option.some.inj hl
      refine fin (b := .miter (some m) clock [] clock) (o := .mapIter (some l'.blk) clock #[] clock) rfl ⟨rfl, rfl, some l'.blk, ⟨l', g1, rfl⟩, rfl⟩ ?_
      simp only [execOp, ho]
      refine run_v ?_
      simp [Instr.range, run_underlying hu, hx, MapKept.run_getObj_map g3]
    · cases h
  · cases h

theorem run_getObj_of {r : Nat} {o : Obj} (h : w.heap[r]? = some o) (hc : ∀ c e f, o ≠ .cells c e f) : (getObj r).run P w = .ok o w := by
  unfold getObj
  cases o <;> simp_all [Sem.run]
theorem run_setObj_of {r : Nat} {o o' : Obj} (h : w.heap[r]? = some o) (hc : ∀ c e f, o ≠ .cells c e f) : (setObj r o').run P w = .ok () { w with heap := w.heap.setIfInBounds r o' } := by
  unfold setObj
  cases o <;> simp_all [Sem.run]

theorem filter_rel (p : Nat → Bool) : ∀ {a b : List MapEntry}, ERL β a b → ERL β (a.filter fun e => p e.born) (b.filter fun e => p e.born)
  | [], _, h => by have h : _ = [] := h; subst h; exact rfl
  | x :: xs, _, ⟨y, ys, e, h1, h2, h3, h4⟩ => by
    subst e
    simp only [List.filter_cons, h1]
    split
    · exact ⟨y, _, rfl, h1, h2, h3, filter_rel p h4⟩
    · exact filter_rel p h4
theorem all_rel (p : Nat → Bool) : ∀ {a b : List MapEntry}, ERL β a b → (a.all fun e => p e.born) = b.all fun e => p e.born
  | [], _, h => by have h : _ = [] := h; subst h; rfl
  | x :: xs, _, ⟨y, ys, e, h1, h2, h3, h4⟩ => by subst e; simp only [List.all_cons, h1, all_rel p h4]
theorem find_rel (p : Nat → Bool) : ∀ {a b : List MapEntry} {e : MapEntry}, ERL β a b → a.find? (fun e => p e.born) = some e → ∃ e', b.find? (fun e => p e.born) = some e' ∧ VR β e.key e'.key ∧ VR β e.val e'.val
  | [], _, _, _, h => by simp at h
  | x :: xs, _, e, ⟨y, ys, he, h1, h2, h3, h4⟩, h => by
    subst he
    simp only [List.find?_cons, h1] at h ⊢
    split at h
    · simp at h; subst h; exact ⟨y, rfl, h2, h3⟩
    · exact find_rel p h4 h
theorem ERL.isEmpty : ∀ {a b : List MapEntry}, ERL β a b → a.isEmpty = b.isEmpty
  | [], _, h => by have h : _ = [] := h; subst h; rfl
  | x :: xs, _, ⟨y, ys, e, _⟩ => by subst e; rfl

theorem sound_next_string (hr : Rel P K β st w) {ρ ρ' : Operand → Value} (hρ : ∀ x, VR β (ρ x) (ρ' x)) {o : Oper} {out : Out} {it : Operand} (ho : o.op = .next it true) (h : evOp P ρ o st = some out) :
    OutR P K β st w ((execOp ρ' o).run P w) out := by
  simp only [evOp, ho] at h
  have hx := hρ it
  split at h
  · rename_i r sp hv
    rw [hv] at hx
    obtain ⟨hs, l, hl, hx⟩ := hx.ptr'
    have hs : sp = none := hs
    subst hs
    split at h
    · rename_i s pos hg
      obtain ⟨l', g1, g2, g3⟩ := hr.blk _ _ hg rfl
      obtain rfl : l' = l := by rw [g1] at hl; exact Option.some.inj hl
      obtain ⟨hvt, hbase, g3⟩ : l'.virt = false ∧ l'.base = 0 ∧ w.heap[l'.blk]? = some (.stringIter s pos) := g3
      split at h
      · rename_i hp
        obtain rfl := Option.some.inj h
        have hb : BlkR P β l' (.siter s (pos + (Utf8.decode s pos).2)) (some (.stringIter s (pos + (Utf8.decode s pos).2))) := ⟨hvt, hbase, rfl⟩
        obtain ⟨q1, q2⟩ := hr.putObj hg rfl g1 hb
        refine ⟨β, _, .tuple #[.bool true, .int .i64 pos, .int .i32 (Utf8.decode s pos).1], ?_, Env.le.refl _, q1, ?_, q2⟩
        · simp only [execOp, ho]
          refine run_v ?_
          simp [hx, hbase, Instr.next, run_getObj_of g3 (by intros; simp), run_setObj_of g3 (by intros; simp), hp, goInt]
        · exact ⟨_, rfl, VRL.cons rfl (VRL.cons rfl (VRL.cons rfl VRL.nil))⟩
      · rename_i hp
        obtain rfl := Option.some.inj h
        refine OutR.same hr (v' := .tuple #[.bool false]) ?_ ⟨_, rfl, VRL.cons rfl VRL.nil⟩
        simp only [execOp, ho]
        refine run_v ?_
        simp [hx, hbase, Instr.next, run_getObj_of g3 (by intros; simp), hp]
    · cases h
  · cases h

end
end Go.VS
