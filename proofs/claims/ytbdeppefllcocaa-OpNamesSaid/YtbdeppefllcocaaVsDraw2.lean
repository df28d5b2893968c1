/- Operations that make one new block. No conditions. -/
import Derived.Test.YtbdeppefllcocaaVsDraw1
namespace Go.VS
set_option linter.unusedSimpArgs false
set_option linter.unusedVariables false
open Go.RowKit
section
variable {P : Program} {β : Env} {w : World}

/-- One new block of the world, and a value that holds it. -/
def NewR (P : Program) (β : Env) (w : World) (r : Nat) (res : Result Next) (v : Value) (b : Blk) : Prop :=
  ∃ l o v' w', res = .ok (.value v') w' ∧ (l.virt = false ∧ b.isObj = false ∧ l.blk = w.heap.size) ∧ w'.heap = w.heap.push o ∧ w'.os = w.os ∧ w'.tape = w.tape ∧ w'.output = w.output ∧ b.live = true ∧ BlkR P (β.put r l) l b (some o) ∧ VR (β.put r l) v v'

theorem le_put' {r : Nat} (hr : β r = none) (l : Loc) : β.le (β.put r l) := by
  intro i k hi
  have : i ≠ (r : Int) := by rintro rfl; rw [hr] at hi; cases hi
  rw [β.put_ne this]; exact hi

theorem newRow_blk {r : Nat} {c : List Value} {e : TypeId} {x : Bool} {b : Blk} (h : (newRow ⟨.leaf, r⟩ c e x).2.heap.get r = some b) : b = .cells c e x := by
  have : (newRow ⟨.leaf, r⟩ c e x).2.heap.get r = some (.cells c e x) := by
    show (Trie.set .leaf r (Blk.cells c e x)).get r = _
    rw [Trie.get_set, if_pos rfl]
  rw [this] at h; exact (Option.some.inj h).symm
theorem newRow_addr {r : Nat} {c : List Value} {e : TypeId} {x : Bool} : (newRow ⟨.leaf, r⟩ c e x).1 = ⟨r, 0, none⟩ := rfl

theorem row_blk {r : Nat} (hr : β r = none) {c c' : List Value} (h : VRL β c c') (e : TypeId) : BlkR P (β.put r ⟨w.heap.size, 0, c'.length, esz P e, none, false⟩) ⟨w.heap.size, 0, c'.length, esz P e, none, false⟩ (.cells c e true) (some (.cells ⟨c'⟩ e)) := by
  refine Or.inr ⟨rfl, ⟨c'⟩, (0, 0), rfl, rfl, by simp, ?_, fun _ => ?_, ?_, Or.inl (Nat.le_refl _)⟩
  · rw [h.length]; exact Nat.le_refl _
  · rw [h.length]
  · simp only [List.drop_zero, h.length, List.take_length]
    exact h.mono' (le_put' hr _)

theorem new_row {r : Nat} (hr : β r = none) {c c' : List Value} (h : VRL β c c') (e : TypeId) {res : Result Next} {b : Blk} (hb : (newRow ⟨.leaf, r⟩ c e true).2.heap.get r = some b)
    (hrun : res = .ok (.value (.pointer (some ⟨w.heap.size, 0, none⟩))) (w.alloc (.cells ⟨c'⟩ e))) :
    NewR P β w r res (.pointer (some (newRow ⟨.leaf, r⟩ c e true).1)) b := by
  obtain rfl := newRow_blk hb
  refine ⟨⟨w.heap.size, 0, c'.length, esz P e, none, false⟩, _, _, _, hrun, ⟨rfl, rfl, rfl⟩, rfl, rfl, rfl, rfl, rfl, row_blk hr h e, ?_⟩
  exact ⟨rfl, _, put_same _ _ _, by simp [newRow_addr]⟩

theorem evNew_spec {ρ : Operand → Value} {o : Oper} {r : Nat} {v : Value} {b : Blk} (h : evNew (evOp P) ρ o r = some (v, b)) : ∃ st, evOp P ρ o ⟨.leaf, r⟩ = some (.val v st) ∧ st.heap.get r = some b := by
  unfold evNew at h
  split at h
  · rename_i v st hop
    split at h
    · rename_i b hb
      simp at h
      obtain ⟨rfl, rfl⟩ := h
      exact ⟨st, hop, hb⟩
    · cases h
  · cases h

theorem sound_new {r : Nat} (hr : β r = none) {ρ ρ' : Operand → Value} (hρ : ∀ x, VR β (ρ x) (ρ' x)) {o : Oper} (hk : kindOf P o = .new) {v : Value} {b : Blk} (h : evNew (evOp P) ρ o r = some (v, b)) :
    NewR P β w r ((execOp ρ' o).run P w) v b := by
  obtain ⟨st, h, hb⟩ := evNew_spec h
  cases ho : o.op
  case alloc e =>
    simp only [evOp, ho] at h
    split at h
    · rename_i z hz
      obtain ⟨i, hi, hzz, hfl⟩ := zeroOfT_spec hz
      simp only [Option.some.injEq, Out.val.injEq] at h
      obtain ⟨rfl, rfl⟩ := h
      refine new_row hr (VR.cells (VR.flat_refl z hfl) (by cases z <;> first | rfl | simp [flat] at hfl | (rename_i c; cases c <;> first | rfl | simp [flat] at hfl))) e hb ?_
      simp only [execOp, ho]
      refine run_v ?_
      simp [Instr.alloc, run_zeroValue hi hzz, newVar, Go.newRow]
    · cases h
  case box e x =>
    simp only [evOp, ho] at h
    split at h
    · cases h
    · rename_i hx
      simp only [Option.some.injEq, Out.val.injEq] at h
      obtain ⟨rfl, rfl⟩ := h
      refine new_row hr (VR.cells (hρ x) (by simpa using hx)) e hb ?_
      simp only [execOp, ho]
      refine run_v ?_
      simp [Instr.box, newVar, Go.newRow]
  case buildSlice t len parts =>
    simp only [evOp, ho] at h
    split at h
    · rename_i e hu
      split at h
      · rename_i ie z hie hz
        obtain ⟨i, hi, hzz, hfl⟩ := zeroOfT_spec hz
        obtain rfl : i = ie := by rw [hi] at hie; exact Option.some.inj hie
        have hzc : VRL β z.cells.toList z.cells.toList := VR.cells (VR.flat_refl z hfl) (by cases z <;> first | rfl | simp [flat] at hfl | (rename_i c; cases c <;> first | rfl | simp [flat] at hfl))
        split at h
        · cases h
        · rename_i hc
          simp only [Bool.or_eq_true, decide_eq_true_eq, not_or, Bool.not_eq_true] at hc
          obtain ⟨⟨⟨hc1, hc2⟩, hc3⟩, hc4⟩ := hc
          split at h
          · rename_i h0
            split at h
            · rename_i hemp
              simp only [Option.some.injEq, Out.val.injEq] at h
              obtain ⟨rfl, rfl⟩ := h
              obtain rfl := newRow_blk hb
              refine ⟨⟨w.heap.size, 0, 0, esz P e, none, false⟩, .cells ⟨[]⟩ e, .slice (some ⟨w.heap.size, 0, none⟩) 0 0, w.alloc (.cells ⟨[]⟩ e), ?_, ⟨rfl, rfl, rfl⟩, rfl, rfl, rfl, rfl, rfl, row_blk hr VRL.nil e, ?_⟩
              · simp only [execOp, ho]
                refine run_v ?_
                have hpe : parts = #[] := by simpa using hemp
                subst h0 hpe
                simp [Instr.buildSlice, run_underlying hu, run_sizeOf' hi, Instr.fill, Go.newRow]
                congr 2
                apply Array.ext <;> simp
              · refine ⟨rfl, _, put_same _ _ _, ?_⟩; simp [SliceR, unk, newRow_addr]
            · cases h
          · rename_i h0
            split at h
            · rename_i c hfill
              simp only [Option.some.injEq, Out.val.injEq] at h
              obtain ⟨rfl, rfl⟩ := h
              obtain rfl := newRow_blk hb
              have hz0 : VRL β ((Array.range (len * i.size)).map (z.cells[· % z.cells.size]!)).toList ((Array.range (len * i.size)).map (z.cells[· % z.cells.size]!)).toList := by
                simp only [Array.toList_map]
                refine VRL.map _ _ _ fun j _ => ?_
                have hpos : 0 < z.cells.size := by omega
                have hlt : j % z.cells.size < z.cells.size := Nat.mod_lt _ hpos
                have hg : z.cells.toList[j % z.cells.size]? = some (z.cells[j % z.cells.size]!) := by
                  rw [Array.getElem?_toList, getElem!_pos z.cells _ hlt]; exact Array.getElem?_eq_getElem hlt
                exact (VRL_iff.1 hzc).2 _ _ _ hg hg
              obtain ⟨c', h1, h2⟩ := fill_rel _ hρ parts.toList _ _ c hz0 (any_false (by simpa using hc4)) hfill
              refine ⟨⟨w.heap.size, 0, c'.toList.length, esz P e, none, false⟩, .cells c' e, .slice (some ⟨w.heap.size, 0, none⟩) len len, w.alloc (.cells c' e), ?_, ⟨rfl, rfl, rfl⟩, rfl, rfl, rfl, rfl, rfl, row_blk hr h2 e, ?_⟩
              · simp only [execOp, ho]
                refine run_v ?_
                exact run_buildSlice w t e len _ c' i z hu hi hzz (by omega) (by rw [Nat.mul_eq_zero]; omega) (by rw [← h1]; congr 1; simp)
              · refine ⟨rfl, _, put_same _ _ _, ?_⟩
                have : len < unk := by
                  have hlen : len ≤ len * i.size := Nat.le_mul_of_pos_right _ (by omega)
                  unfold unk; omega
                simp [SliceR, this, newRow_addr]
            · cases h
      · cases h
    · cases h
  case convert s d x =>
    simp only [kindOf, ho] at hk
    have hd : ∃ e, P.underlying d = some (.slice e) := by
      split at hk
      · exact ⟨_, ‹_›⟩
      · cases hk
    obtain ⟨e0, hd⟩ := hd
    have hx := hρ x
    simp only [evOp, ho] at h
    split at h
    · rename_i hd' _
      rw [hd] at hd'; cases hd'
    · rename_i hd' _
      rw [hd] at hd'; cases hd'
    · rename_i ds e s' hsu hd' ha
      rw [ha] at hx
      have hx := hx.string'
      split at h
      · rename_i he
        split at h
        · cases h
        · rename_i hbig
          simp only [Bool.or_eq_true, decide_eq_true_eq, not_or] at hbig
          simp only [Option.some.injEq, Out.val.injEq] at h
          obtain ⟨rfl, rfl⟩ := h
          obtain rfl := newRow_blk hb
          obtain ⟨cap, fz, h1, h2, h3⟩ := stringToBytes_run (P := P) e s' w (by omega)
          refine ⟨⟨w.heap.size, 0, cap, esz P e, none, false⟩, .cells ⟨byteCells s' ++ List.replicate (cap - s'.size) (.int .u8 0)⟩ e fz, .slice (some ⟨w.heap.size, 0, none⟩) s'.size cap, w.drew.alloc (.cells ⟨byteCells s' ++ List.replicate (cap - s'.size) (.int .u8 0)⟩ e fz), ?_, ⟨rfl, rfl, rfl⟩, rfl, rfl, rfl, rfl, rfl, ?_, ?_⟩
          · simp only [execOp, ho]
            refine run_v ?_
            rw [hx]
            have : (convert s d (.string s')).run P w = (Conv.stringToBytes e s').run P w := by
              cases ds <;> simp [convert, run_underlying hsu, run_underlying hd', run_underlying he]
            rw [this]; exact h3
          · refine Or.inr ⟨rfl, _, fz, rfl, rfl, ?_, ?_, fun hx => (by cases hx), ?_, ?_⟩
            · simp [byteCells_length]; omega
            · rw [byteCells_length]; exact h1
            · simp only [List.drop_zero]
              rw [List.take_left' rfl]; exact byteCells_rel s'
            · simp [byteCells_length]; omega
          · refine ⟨rfl, _, put_same _ _ _, ?_⟩
            have he1 : esz P e = 1 := by have := hbig.2; omega
            unfold SliceR
            rw [if_neg (by simp), if_neg (by simp), if_pos rfl]
            refine ⟨?_, Nat.zero_le _⟩
            simp [he1, newRow_addr]
      · cases h
    · rename_i v1 hv1 hv2
      split at h
      · rename_i hfl
        split at h
        · rename_i v' hv
          split at h
          · simp only [Option.some.injEq, Out.val.injEq] at h
            obtain ⟨rfl, rfl⟩ := h
            simp [Trie.get] at hb
          · cases h
        · cases h
      · cases h
  case call c => 
    simp only [kindOf, ho] at hk
    repeat' split at hk
    all_goals cases hk
  all_goals (simp only [kindOf, ho] at hk; cases hk)
end
end Go.VS
