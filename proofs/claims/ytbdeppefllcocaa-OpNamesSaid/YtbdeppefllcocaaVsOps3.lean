/- One operation of the evaluator is one of the model: comparisons, conversions, slices, maps, assertions. No conditions. -/
import Derived.Test.YtbdeppefllcocaaVsOps2
import Derived.Laws.BytesString
namespace Go.VS
set_option linter.unusedSimpArgs false
set_option linter.unusedVariables false
open Go.RowKit
section
variable {P : Program} {K : Prot} {β : Env} {st : St} {w : World}

/-! ### comparisons -/
theorem SliceR.form {l : Loc} {off n c : Nat} {v : Value} (h : SliceR l off n c v) : (n = 0 ∧ off = 0 ∧ l.virt = true ∧ v = .slice none 0 0) ∨ ∃ a c', v = .slice (some a) n c' ∧ (n ≠ 0 → a = ⟨l.blk, l.base + off, none⟩) := by
  unfold SliceR at h
  split at h
  · exact Or.inl ⟨h.1, h.2.1, ‹_›, h.2.2.2⟩
  refine Or.inr ?_
  split at h
  · exact ⟨_, _, h, fun _ => rfl⟩
  · split at h
    · exact ⟨_, _, h.1, fun _ => rfl⟩
    · obtain ⟨h0, _, _, e⟩ := h
      subst h0
      split at e
      · exact ⟨_, _, e, fun h => absurd rfl h⟩
      · exact ⟨_, _, e, fun h => absurd rfl h⟩

theorem eq_run {t : TypeId} {x y : Value} {b : Bool} {w : World} (h : ∀ d, (Op.equalIn (d + 1) t x y).run P w = .ok b w) : (Op.equal t x y).run P w = .ok b w := h 9999

theorem eqNil_run {t : TypeId} {x y x' y' : Value} {b : Bool} (h : eqNil P t x y = some b) (hx : VR β x x') (hy : VR β y y') (w : World) :
    (Op.equal t x' y').run P w = .ok b w ∧ (∀ (op : BinOp) (ox oy : Operand), (eqGuard op t ox oy x' y').run P w = .ok () w) ∧
    binOp .eql t x' y' = (do pure (.bool (← Op.equal t x' y'))) ∧ binOp .neq t x' y' = (do pure (.bool (!(← Op.equal t x' y')))) := by
  unfold eqNil at h
  split at h
  · rename_i e b' hu
    simp at h; subst h
    have hx : x' = .pointer none := hx
    subst hx
    cases b' with
    | none => have hy : y' = .pointer none := hy; subst hy; refine ⟨eq_run fun d => by simp [Op.equalIn, run_underlying hu], fun op _ _ => by cases op <;> simp [eqGuard], rfl, rfl⟩
    | some a => obtain ⟨_, l, _, hy⟩ := hy.ptr'; subst hy; refine ⟨eq_run fun d => by simp [Op.equalIn, run_underlying hu], fun op _ _ => by cases op <;> simp [eqGuard], rfl, rfl⟩
  · rename_i e a hu
    simp at h; subst h
    obtain ⟨_, l, _, hx⟩ := hx.ptr'
    have hy : y' = .pointer none := hy
    subst hx hy
    refine ⟨eq_run fun d => by simp [Op.equalIn, run_underlying hu], fun op _ _ => by cases op <;> simp [eqGuard], rfl, rfl⟩
  · rename_i e n c n' c' hu
    simp at h; subst h
    have hx : x' = .slice none n c := hx
    have hy : y' = .slice none n' c' := hy
    subst hx hy
    refine ⟨eq_run fun d => by simp [Op.equalIn, run_underlying hu], fun op _ _ => by cases op <;> simp [eqGuard], rfl, rfl⟩
  · rename_i e n c a n' c' hu
    split at h
    · cases h
    · rename_i hn
      simp at h; subst h
      have hx : x' = .slice none n c := hx
      obtain ⟨_, l, _, hy⟩ := hy
      obtain hy | ⟨a', c'', hy, _⟩ := hy.form
      · exact absurd hy.1 hn
      subst hx hy
      refine ⟨eq_run fun d => by simp [Op.equalIn, run_underlying hu], fun op _ _ => by cases op <;> simp [eqGuard], rfl, rfl⟩
  · rename_i e a n c n' c' hu
    split at h
    · cases h
    · rename_i hn
      simp at h; subst h
      obtain ⟨_, l, _, hx⟩ := hx
      obtain hx | ⟨a', c'', hx, _⟩ := hx.form
      · exact absurd hx.1 hn
      have hy : y' = .slice none n' c' := hy
      subst hx hy
      refine ⟨eq_run fun d => by simp [Op.equalIn, run_underlying hu], fun op _ _ => by cases op <;> simp [eqGuard], rfl, rfl⟩
  · rename_i k e b' hu
    simp at h; subst h
    have hx : x' = .map none := hx
    subst hx
    cases b' with
    | none => have hy : y' = .map none := hy; subst hy; refine ⟨eq_run fun d => by simp [Op.equalIn, run_underlying hu], fun op _ _ => by cases op <;> simp [eqGuard], rfl, rfl⟩
    | some a => obtain ⟨l, _, hy⟩ := hy; subst hy; refine ⟨eq_run fun d => by simp [Op.equalIn, run_underlying hu], fun op _ _ => by cases op <;> simp [eqGuard], rfl, rfl⟩
  · rename_i k e a hu
    simp at h; subst h
    obtain ⟨l, _, hx⟩ := hx
    have hy : y' = .map none := hy
    subst hx hy
    refine ⟨eq_run fun d => by simp [Op.equalIn, run_underlying hu], fun op _ _ => by cases op <;> simp [eqGuard], rfl, rfl⟩
  · rename_i p r v f a b' hu
    simp at h; subst h
    have hx : x' = .nilFunc := hx
    obtain ⟨f', a', b'', hy, _⟩ := hy
    subst hx hy
    refine ⟨eq_run fun d => by simp [Op.equalIn, run_underlying hu], fun op _ _ => by cases op <;> simp [eqGuard], rfl, rfl⟩
  · rename_i p r v f a b' hu
    simp at h; subst h
    have hy : y' = .nilFunc := hy
    obtain ⟨f', a', b'', hx, _⟩ := hx
    subst hx hy
    refine ⟨eq_run fun d => by simp [Op.equalIn, run_underlying hu], fun op _ _ => by cases op <;> simp [eqGuard], rfl, rfl⟩
  · rename_i ms t' v' hu
    split at h
    case isFalse => cases h
    rename_i ht
    simp at h; subst h
    have hx : x' = .nilIface := hx
    obtain ⟨z, hy, _⟩ := hy.iface_of ht
    subst hx hy
    refine ⟨eq_run fun d => by simp [Op.equalIn, run_underlying hu], fun op _ _ => by cases op <;> simp [eqGuard], rfl, rfl⟩
  · rename_i ms t' v' hu
    split at h
    case isFalse => cases h
    rename_i ht
    simp at h; subst h
    have hy : y' = .nilIface := hy
    obtain ⟨z, hx, _⟩ := hx.iface_of ht
    subst hx hy
    refine ⟨eq_run fun d => by simp [Op.equalIn, run_underlying hu], fun op _ _ => by cases op <;> simp [eqGuard], rfl, rfl⟩
  · cases h

theorem sound_binOp (hr : Rel P K β st w) {ρ ρ' : Operand → Value} (hρ : ∀ x, VR β (ρ x) (ρ' x)) {o : Oper} {out : Out} {op : BinOp} {t t' : TypeId} {x y : Operand} (ho : o.op = .binOp op t x y t') (h : evOp P ρ o st = some out) :
    OutR P K β st w ((execOp ρ' o).run P w) out := by
  simp only [evOp, ho] at h
  split at h
  · rename_i hfl
    simp only [Bool.and_eq_true] at hfl
    split at h
    · rename_i v hv
      split at h
      · rename_i hfv
        obtain rfl := Option.some.inj h
        have hx := VR.of_flat _ _ hfl.1 (hρ x)
        have hy := VR.of_flat _ _ hfl.2 (hρ y)
        refine OutR.same hr ?_ (VR.flat_refl v hfv)
        simp only [execOp, ho]
        refine run_v ?_
        rw [hx, hy]; exact pureRun_run _ _ _ hv
      · cases h
    · cases h
  · split at h
    · split at h
      · rename_i b hb
        obtain rfl := Option.some.inj h
        obtain ⟨h1, h2, h3, h4⟩ := eqNil_run hb (hρ x) (hρ y) w
        refine OutR.same hr (v' := .bool b) ?_ rfl
        simp only [execOp, ho]
        refine run_v ?_
        simp [h2, h3, h1]
      · cases h
    · split at h
      · rename_i b hb
        obtain rfl := Option.some.inj h
        obtain ⟨h1, h2, h3, h4⟩ := eqNil_run hb (hρ x) (hρ y) w
        refine OutR.same hr (v' := .bool !b) ?_ rfl
        simp only [execOp, ho]
        refine run_v ?_
        simp [h2, h4, h1]
      · cases h
    · cases h

/-! ### conversions -/
theorem bytesOf_spec : ∀ {c : List Value} {l : List UInt8}, bytesOf c = some l → ∃ ns : List Int, c = ns.map (Value.int .u8) ∧ l = ns.map fun n => UInt8.ofNat n.toNat
  | [], l, h => by simp [bytesOf] at h; subst h; exact ⟨[], rfl, rfl⟩
  | v :: c, l, h => by
    unfold bytesOf at h
    split at h
    · rename_i e; cases e
    · rename_i n l' e
      cases e
      split at h
      · rename_i r hr
        obtain rfl := Option.some.inj h
        obtain ⟨ns, h1, h2⟩ := bytesOf_spec hr
        exact ⟨n :: ns, by simp [h1], by simp [h2]⟩
      · cases h
    · cases h

theorem foldl_push (ns : List Int) : ∀ (s : ByteArray), ns.foldl (fun r n => r.push (UInt8.ofNat n.toNat)) s = ⟨⟨s.data.toList ++ ns.map fun n => UInt8.ofNat n.toNat⟩⟩ := by
  induction ns with
  | nil => intro s; simp
  | cons n ns ih =>
    intro s
    simp only [List.foldl_cons, ih, List.map_cons]
    congr 2
    simp [ByteArray.push]

theorem VRL.ints {k : IntKind} : ∀ {ns : List Int} {c : List Value}, VRL β (ns.map (Value.int k)) c → c = ns.map (Value.int k)
  | [], c, h => h
  | n :: ns, c, h => by
    simp only [List.map_cons, VRL] at h
    obtain ⟨y, ys, rfl, hy, hys⟩ := h
    rw [hy.int', VRL.ints hys]; rfl

theorem byteCells_rel (s : ByteArray) : VRL β (byteCells s) (byteCells s) := by
  unfold byteCells
  exact VRL.map _ _ _ fun b _ => rfl

theorem stringToBytes_run (e : TypeId) (s : ByteArray) (w : World) (hs : s.size ≤ big) : ∃ (cap : Nat) (fz : Nat × Nat), s.size ≤ cap ∧ (fz.2 ≤ fz.1 ∨ cap ≤ fz.1) ∧
    (Conv.stringToBytes e s).run P w = .ok (.slice (some ⟨w.heap.size, 0, none⟩) s.size cap) (w.drew.alloc (.cells ⟨byteCells s ++ List.replicate (cap - s.size) (.int .u8 0)⟩ e fz)) := by
  have hb : s.size ≤ 2 ^ 22 := hs
  refine ⟨(Question.appendCap s.size 0 e).cut (w.tape w.drawn (.appendCap s.size 0 e)), ((Question.appendCap s.size 0 e).cut (w.tape w.drawn (.appendCap s.size 0 e)), (Question.appendCap s.size 0 e).cut (w.tape w.drawn (.appendCap s.size 0 e)) + 1), ?_, Or.inr (Nat.le_refl _), ?_⟩
  · simp [Question.cut]
  · generalize hcap : (Question.appendCap s.size 0 e).cut (w.tape w.drawn (.appendCap s.size 0 e)) = cap
    have hle : s.size ≤ cap := by rw [← hcap]; simp [Question.cut]
    have hdata : (s.data.map fun b => Value.int .u8 b.toNat) ++ Array.replicate (cap - s.size) (.int .u8 0) = ⟨byteCells s ++ List.replicate (cap - s.size) (.int .u8 0)⟩ := by
      apply Array.ext'
      simp [byteCells]
    have hsz : (byteCells s ++ List.replicate (cap - s.size) (Value.int .u8 0)).length = cap := by
      rw [List.length_append, byteCells_length, List.length_replicate]; omega
    have hsh : (w.drew.alloc (.cells ⟨byteCells s ++ List.replicate (cap - s.size) (.int .u8 0)⟩ e)).shape? w.heap.size = some (e, cap) := by
      have := heap_alloc_new w.drew (.cells ⟨byteCells s ++ List.replicate (cap - s.size) (.int .u8 0)⟩ e)
      have h2 : w.drew.heap.size = w.heap.size := rfl
      rw [h2] at this
      unfold World.shape?
      rw [this]
      simp [hsz]
    have hfr : (w.drew.alloc (.cells ⟨byteCells s ++ List.replicate (cap - s.size) (.int .u8 0)⟩ e)).freeze ⟨w.heap.size, cap, none⟩ 1 = w.drew.alloc (.cells ⟨byteCells s ++ List.replicate (cap - s.size) (.int .u8 0)⟩ e (cap, cap + 1)) := by
      unfold World.freeze World.alloc
      simp only [Nat.one_ne_zero, if_false]
      congr 1
      apply Array.ext'
      have h2 : w.drew.heap = w.heap := rfl
      rw [h2]
      apply List.ext_getElem?
      intro i
      simp only [Array.getElem?_toList, Array.getElem?_modify, Array.getElem?_push]
      by_cases hi : w.heap.size = i
      · subst hi
        simp
      · have hi' : ¬ i = w.heap.size := fun e => hi e.symm
        simp [hi, hi']
    have hnew : (Go.newRow e ⟨byteCells s ++ List.replicate (cap - s.size) (.int .u8 0)⟩).run P w.drew = .ok ⟨w.heap.size, 0, none⟩ (w.drew.alloc (.cells ⟨byteCells s ++ List.replicate (cap - s.size) (.int .u8 0)⟩ e)) := by
      simp [Go.newRow]
    have hmark : (markStringish ⟨w.heap.size, 0, none⟩).run P (w.drew.alloc (.cells ⟨byteCells s ++ List.replicate (cap - s.size) (.int .u8 0)⟩ e)) = .ok () (w.drew.alloc (.cells ⟨byteCells s ++ List.replicate (cap - s.size) (.int .u8 0)⟩ e (cap, cap + 1))) := by
      rw [← hfr]
      unfold markStringish
      simp only [Sem.run_bind, run_shape, hsh, Result.andThen]
      rfl
    unfold Conv.stringToBytes
    simp only [Sem.run_bind, run_choose_drew, Question.forced, hcap, Bool.false_eq_true, if_false, Result.andThen, hdata, hnew, hmark]
    rfl

end
end Go.VS
