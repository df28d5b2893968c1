/- One operation of the evaluator is one of the model: conversions, slices, maps, iterators, assertions. No conditions. -/
import Derived.Test.YtbdeppefllcocaaVsOps3
namespace Go.VS
set_option linter.unusedSimpArgs false
set_option linter.unusedVariables false
open Go.RowKit
section
variable {P : Program} {K : Prot} {β : Env} {st : St} {w : World}

theorem sound_convert (hr : Rel P K β st w) {ρ ρ' : Operand → Value} (hρ : ∀ x, VR β (ρ x) (ρ' x)) {o : Oper} {out : Out} {s d : TypeId} {x : Operand} (ho : o.op = .convert s d x) (h : evOp P ρ o st = some out) :
    OutR P K β st w ((execOp ρ' o).run P w) out := by
  simp only [evOp, ho] at h
  have hx := hρ x
  split at h
  · rename_i e b n c hs hd ha
    rw [ha] at hx
    split at h
    · rename_i he
      split at h
      · split at h
        · rename_i hn
          obtain rfl := Option.some.inj h
          have hx : ρ' x = .slice none n c := hx
          refine OutR.same hr (v' := .string .empty) ?_ rfl
          simp only [execOp, ho]
          refine run_v ?_
          rw [hx, run_convert_bytes_string w s d e none n c hs he hd]
          simp [Conv.bytesToString]
        · cases h
      · rename_i a
        split at h
        · rename_i cs hcs
          split at h
          · rename_i l hl
            obtain rfl := Option.some.inj h
            obtain ⟨hsp, lo, hlo, hsl⟩ := hx
            obtain ⟨c2, h1, h2, h3, h4⟩ := hr.cellsAt hcs hlo
            obtain ⟨ns, hns, hln⟩ := bytesOf_spec hl
            obtain ⟨hn0, _, _, hx'⟩ | ⟨a', c', hx', ha'⟩ := hsl.form
            · subst hns hln hn0
              have hns0 : ns = [] := by simpa using h3
              subst hns0
              refine OutR.same hr (v' := .string .empty) ?_ rfl
              simp only [execOp, ho]
              refine run_v ?_
              rw [hx', run_convert_bytes_string w s d e none 0 0 hs he hd]
              simp [Conv.bytesToString]
            subst hns hln
            have hc2 := h1.ints
            subst hc2
            refine OutR.same hr (v' := .string ⟨⟨ns.map fun (n : Int) => UInt8.ofNat n.toNat⟩⟩) ?_ rfl
            simp only [execOp, ho]
            refine run_v ?_
            rw [hx', run_convert_bytes_string w s d e _ n c' hs he hd, run_bytesToString w a' n c' ns ?_, foldl_push]
            · simp
            · by_cases hn0 : n = 0
              · subst hn0
                have hns0 : ns = [] := by simpa using h2
                subst hns0
                simp [loadCells, loadCellsFrom]
              · rw [ha' hn0]
                exact loadCells_run _ _ n h2 h4
          · cases h
        · cases h
    · cases h
  · rename_i e t0 x0 hs hd ha
    split at h
    · rename_i he
      split at h
      · rename_i z hz
        split at h
        · rename_i hz1
          split at h
          · rename_i l hl
            obtain rfl := Option.some.inj h
            rw [← ha] at hz
            obtain ⟨hs0, r⟩ := fzOf_rel hz hx
            obtain ⟨ns, hns, hln⟩ := bytesOf_spec hl
            unfold FrzR at r
            rw [if_neg hs0] at r
            obtain ⟨r0, r⟩ := r
            rw [hz1, Nat.mul_one] at r0
            have done : ∀ (p : Option Addr) (cap : Nat), ρ' x = .slice p z.n cap → (Conv.bytesToString (.slice p z.n cap)).run P w = .ok (.string ⟨⟨l⟩⟩) w → OutR P K β st w ((execOp ρ' o).run P w) (.val (.string ⟨⟨l⟩⟩) st) := by
              intro p cap hx' hrun
              refine OutR.same hr (v' := .string ⟨⟨l⟩⟩) ?_ rfl
              simp only [execOp, ho]
              refine run_v ?_
              rw [hx', run_convert_bytes_string w s d e p z.n cap hs he hd]
              exact hrun
            have empty : z.n = 0 → l = [] ∧ ns = [] := by
              intro h0
              have : ns = [] := by rw [h0, hns] at r0; simpa using r0
              exact ⟨by rw [hln, this]; rfl, this⟩
            obtain ⟨r1, _, r2⟩ | ⟨r1, p, cap, r2, _⟩ | ⟨_, k0, o0, cap, cs, e0, f0, lo, r2, r3, r4, r5, r6, r7, _⟩ := r
            · obtain ⟨rfl, _⟩ := empty r1
              refine done none 0 (by rw [r2, r1]) ?_
              simp [Conv.bytesToString, r1]
              rfl
            · obtain ⟨e1, e2⟩ := empty r1
              subst e1
              refine done (some p) cap (by rw [r2, r1]) ?_
              rw [run_bytesToString w p z.n cap [] (by rw [r1]; simp [loadCells, loadCellsFrom])]
              rfl
            · refine done _ cap r2 ?_
              obtain ⟨c', g1, g2, g4⟩ := frz_seg hr r4 r5 r6 (VRL.mono (negE_le _) _ _ r7) (a := 0) (n := z.n) (by omega)
              simp only [Nat.add_zero] at g4
              have hg : c' = ns.map (Value.int .u8) := by
                rw [hns, List.drop_zero, List.take_of_length_le (by rw [← hns]; omega)] at g1
                exact g1.ints
              subst hg
              rw [run_bytesToString w _ z.n cap ns (loadCells_run _ _ z.n g2 g4), foldl_push, hln]
              simp
          · cases h
        · cases h
      · cases h
    · cases h
  · rename_i ds e s' hsu hd ha
    rw [ha] at hx
    have hx := hx.string'
    split at h
    · rename_i he
      split at h
      · cases h
      · rename_i hbig
        simp only [Bool.or_eq_true, decide_eq_true_eq, not_or] at hbig
        obtain rfl := Option.some.inj h
        obtain ⟨cap, fz, h1, h2, h3⟩ := stringToBytes_run (P := P) e s' w (by omega)
        have hrow : Rel P K (β.put st.next ⟨w.heap.size, 0, cap, esz P e, none, false⟩) (newRow st (byteCells s') e false).2 (w.drew.alloc (.cells ⟨byteCells s' ++ List.replicate (cap - s'.size) (.int .u8 0)⟩ e fz)) := by
          refine hr.drew.alloc (.cells ⟨byteCells s' ++ List.replicate (cap - s'.size) (.int .u8 0)⟩ e fz) (.cells (byteCells s') e false) rfl cap (esz P e) (Or.inr ⟨rfl, _, fz, rfl, rfl, ?_, ?_, fun hx => (by cases hx), ?_, ?_⟩)
          · simp [byteCells_length]; omega
          · rw [byteCells_length]; exact h1
          · simp only [List.drop_zero]
            rw [List.take_left' rfl]; exact byteCells_rel s'
          · simp [byteCells_length]; omega
        refine ⟨_, _, .slice (some ⟨w.heap.size, 0, none⟩) s'.size cap, ?_, hr.le_put _, hrow, ?_, ?_⟩
        · simp only [execOp, ho]
          refine run_v ?_
          rw [hx]
          have : (convert s d (.string s')).run P w = (Conv.stringToBytes e s').run P w := by
            cases ds <;> simp [convert, run_underlying hsu, run_underlying hd, run_underlying he]
          rw [this]; exact h3
        · refine ⟨rfl, _, put_same _ _ _, ?_⟩
          have he1 : esz P e = 1 := by have := hbig.2; omega
          unfold SliceR
          rw [if_neg (by simp), if_neg (by simp), if_pos rfl]
          refine ⟨?_, Nat.zero_le _⟩
          have e0 : (newRow st (byteCells s') e false).fst = ⟨st.next, 0, none⟩ := rfl
          simp [he1, e0]
        · exact (Bel.refl _ _).drew.alloc hr.base _
    · cases h
  · rename_i v hv1 hv2
    split at h
    · rename_i hfl
      split at h
      · rename_i v' hv
        split at h
        · rename_i hfv
          obtain rfl := Option.some.inj h
          have hx := VR.of_flat _ _ hfl hx
          refine OutR.same hr ?_ (VR.flat_refl v' hfv)
          simp only [execOp, ho]
          refine run_v ?_
          rw [hx]; exact pureRun_run _ _ _ hv
        · cases h
      · cases h
    · cases h

end
end Go.VS
