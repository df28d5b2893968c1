/- One operation of the evaluator is one of the model: literals, fields, indexes, slices, maps. No conditions. -/
import Derived.Test.YtbdeppefllcocaaVsOps
namespace Go.VS
set_option linter.unusedSimpArgs false
set_option linter.unusedVariables false
open Go.RowKit
section
variable {P : Program} {K : Prot} {β : Env} {st : St} {w : World}

/-! ### literals -/
theorem splice_rel (off : Nat) : ∀ (vs vs' : List Value) (k : Nat) (cs cs' : Array Value), VRL β vs vs' → VRL β cs.toList cs'.toList →
    VRL β ((vs.zipIdx k).foldl (fun cs (x : Value × Nat) => cs.setIfInBounds (off + x.2) x.1) cs).toList ((vs'.zipIdx k).foldl (fun cs (x : Value × Nat) => cs.setIfInBounds (off + x.2) x.1) cs').toList
  | [], vs', k, cs, cs', h, hc => by simp only [VRL] at h; subst h; simpa using hc
  | v :: vs, _, k, cs, cs', h, hc => by
    simp only [VRL] at h
    obtain ⟨v', vs', rfl, hv, hvs⟩ := h
    simp only [List.zipIdx_cons, List.foldl_cons]
    refine splice_rel off vs vs' (k + 1) _ _ hvs ?_
    obtain ⟨hl, hi⟩ := VRL_iff.1 hc
    refine VRL_iff.2 ⟨by simp [Array.toList_setIfInBounds, hl], fun i x x' hx hx' => ?_⟩
    rw [Array.toList_setIfInBounds] at hx hx'
    rw [List.getElem?_set] at hx hx'
    split at hx
    · rename_i e
      rw [if_pos e] at hx'
      split at hx
      · simp at hx
        split at hx'
        · simp at hx'; subst hx hx'; exact hv
        · cases hx'
      · cases hx
    · rename_i e
      rw [if_neg e] at hx'
      exact hi i x x' hx hx'

theorem splice_size (off : Nat) : ∀ (vs : List (Value × Nat)) (cs : Array Value), (vs.foldl (fun cs (x : Value × Nat) => cs.setIfInBounds (off + x.2) x.1) cs).size = cs.size
  | [], cs => rfl
  | v :: vs, cs => by simp only [List.foldl_cons]; rw [splice_size off vs]; simp

theorem fill_rel (places : Nat → Option (Nat × Nat)) {ρ ρ' : Operand → Value} (hρ : ∀ x, VR β (ρ x) (ρ' x)) : ∀ (parts : List (Nat × Operand)) (z z' c : Array Value), VRL β z.toList z'.toList →
    (∀ p ∈ parts, isAny (ρ p.2) = false) → Instr.fill places z (parts.map fun p => (p.1, ρ p.2)) = some c → ∃ c', Instr.fill places z' (parts.map fun p => (p.1, ρ' p.2)) = some c' ∧ VRL β c.toList c'.toList
  | [], z, z', c, hz, _, h => by
    simp only [List.map_nil, Instr.fill, Option.some.injEq] at h
    subst h
    exact ⟨z', rfl, hz⟩
  | p :: parts, z, z', c, hz, hp, h => by
    simp only [List.map_cons, Instr.fill] at h ⊢
    cases hpl : places p.1 with
    | none => simp [hpl] at h
    | some os =>
      obtain ⟨off, size⟩ := os
      simp only [hpl] at h ⊢
      have hc := (hρ p.2).cells (hp p (by simp))
      have hl := hc.length
      have hzl := hz.length
      simp only [Array.length_toList] at hl hzl
      rw [← hl, ← hzl]
      split at h
      · cases h
      · rename_i hcond
        rw [if_neg hcond]
        rw [← Array.foldl_toList, Array.toList_zipIdx] at h ⊢
        refine fill_rel places hρ parts _ _ c (splice_rel off _ _ 0 _ _ hc hz) (fun q hq => hp q (by simp [hq])) ?_
        exact h

theorem built_rel {t : TypeId} {z : Value} (hz : zeroOfT P t = some z) {ρ ρ' : Operand → Value} (hρ : ∀ x, VR β (ρ x) (ρ' x)) {parts : List (Nat × Operand)} (hp : ∀ p ∈ parts, isAny (ρ p.2) = false) {c : Array Value}
    (h : P.built t (parts.map fun p => (p.1, ρ p.2)) = some c) : ∃ c', P.built t (parts.map fun p => (p.1, ρ' p.2)) = some c' ∧ VRA β c c' := by
  obtain ⟨i, hi, hzz, hfl⟩ := zeroOfT_spec hz
  have hzc : VRL β z.cells.toList z.cells.toList := VR.cells (VR.flat_refl z hfl) (by cases z <;> first | rfl | simp [flat] at hfl | (rename_i c; cases c <;> first | rfl | simp [flat] at hfl))
  unfold Program.built at h ⊢
  simp only [hi, hzz] at h ⊢
  cases hu : P.underlying t with
  | none => simp [hu] at h
  | some d =>
    cases d <;> simp only [hu] at h ⊢ <;> try (cases h; done)
    · rename_i n e
      cases hie : P.info? e with
      | none => simp [hie] at h
      | some ie =>
        simp only [hie, hzz] at h ⊢
        obtain ⟨c', h1, h2⟩ := fill_rel _ hρ parts _ _ c hzc hp h
        exact ⟨c', h1, VRA_iff.2 h2⟩
    · rename_i fields
      cases hm : fields.toList.mapM (fun f => (P.info? f.type).map fun i => (f.offset, i.size)) with
      | none => simp [hm] at h
      | some places =>
        simp only [hm, hzz] at h ⊢
        obtain ⟨c', h1, h2⟩ := fill_rel _ hρ parts _ _ c hzc hp h
        exact ⟨c', h1, VRA_iff.2 h2⟩

theorem any_false {ρ : Operand → Value} {parts : List (Nat × Operand)} (h : parts.any (fun p => isAny (ρ p.2)) = false) : ∀ p ∈ parts, isAny (ρ p.2) = false := by
  intro p hp
  have := List.any_eq_false.1 h p hp
  simpa using this

theorem sound_build (hr : Rel P K β st w) {ρ ρ' : Operand → Value} (hρ : ∀ x, VR β (ρ x) (ρ' x)) {o : Oper} {out : Out} {t : TypeId} {parts : Array (Nat × Operand)} (ho : o.op = .build t parts) (h : evOp P ρ o st = some out) :
    OutR P K β st w ((execOp ρ' o).run P w) out := by
  simp only [evOp, ho] at h
  split at h
  · rename_i z hz
    split at h
    · cases h
    · rename_i hany
      split at h
      · rename_i c hc
        obtain rfl := Option.some.inj h
        obtain ⟨c', h1, h2⟩ := built_rel hz hρ (any_false (by simpa using hany)) hc
        refine OutR.same hr (v' := .agg c') ?_ ⟨c', rfl, h2⟩
        simp only [execOp, ho]
        refine run_v (run_build w t _ c' ?_)
        rw [← h1]; congr 1; simp
      · cases h
  · cases h

theorem sound_buildSlice (hr : Rel P K β st w) {ρ ρ' : Operand → Value} (hρ : ∀ x, VR β (ρ x) (ρ' x)) {o : Oper} {out : Out} {t : TypeId} {len : Nat} {parts : Array (Nat × Operand)} (ho : o.op = .buildSlice t len parts) (h : evOp P ρ o st = some out) :
    OutR P K β st w ((execOp ρ' o).run P w) out := by
  simp only [evOp, ho] at h
  split at h
  · rename_i e hu
    split at h
    · rename_i ie z hie hz
      obtain ⟨i, hi, hzz, hfl⟩ := zeroOfT_spec hz
      obtain rfl : i = ie := by rw [hi] at hie; exact Option.some.inj hie
      have hzc : VRL β z.cells.toList z.cells.toList := VR.cells (VR.flat_refl z hfl) (by cases z <;> first | rfl | simp [flat] at hfl | (rename_i c; cases c <;> first | rfl | simp [flat] at hfl))
      split at h
      · cases h
      · rename_i hc
        simp only [Bool.or_eq_true, decide_eq_true_eq, not_or, Bool.not_eq_true] at hc
        obtain ⟨⟨⟨hc1, hc2⟩, hc3⟩, hc4⟩ := hc
        split at h
        · rename_i h0
          split at h
          · rename_i hemp
            obtain rfl := Option.some.inj h
            obtain ⟨h1, h2, h3, h4⟩ := hr.newRow VRL.nil e true [] (fun _ => rfl)
            refine ⟨_, _, .slice (some ⟨w.heap.size, 0, none⟩) 0 0, ?_, h3, h1, ?_, h4⟩
            · simp only [execOp, ho]
              refine run_v ?_
              have hpe : parts = #[] := by simpa using hemp
              subst h0 hpe
              simp [Instr.buildSlice, run_underlying hu, run_sizeOf' hi, Instr.fill, Go.newRow]
              congr 2
              apply Array.ext <;> simp
            · rw [h2]; refine ⟨rfl, _, put_same _ _ _, ?_⟩; simp [SliceR, unk]
          · cases h
        · rename_i h0
          split at h
          · rename_i c hfill
            obtain rfl := Option.some.inj h
            have hz0 : VRL β ((Array.range (len * i.size)).map (z.cells[· % z.cells.size]!)).toList ((Array.range (len * i.size)).map (z.cells[· % z.cells.size]!)).toList := by
              simp only [Array.toList_map]
              refine VRL.map _ _ _ fun j _ => ?_
              have hpos : 0 < z.cells.size := by omega
              have hlt : j % z.cells.size < z.cells.size := Nat.mod_lt _ hpos
              have hg : z.cells.toList[j % z.cells.size]? = some (z.cells[j % z.cells.size]!) := by
                rw [Array.getElem?_toList, getElem!_pos z.cells _ hlt]; exact Array.getElem?_eq_getElem hlt
              exact (VRL_iff.1 hzc).2 _ _ _ hg hg
            obtain ⟨c', h1, h2⟩ := fill_rel _ hρ parts.toList _ _ c hz0 (any_false (by simpa using hc4)) hfill
            obtain ⟨g1, g2, g3, g4⟩ := hr.newRow h2 e true [] (fun _ => rfl)
            simp only [List.append_nil] at g1 g4
            refine ⟨_, _, .slice (some ⟨w.heap.size, 0, none⟩) len len, ?_, g3, g1, ?_, g4⟩
            · simp only [execOp, ho]
              refine run_v ?_
              exact run_buildSlice w t e len _ c' i z hu hi hzz (by omega) (by rw [Nat.mul_eq_zero]; omega) (by rw [← h1]; congr 1; simp)
            · rw [g2]; refine ⟨rfl, _, put_same _ _ _, ?_⟩
              have : len < unk := by
                have hlen : len ≤ len * i.size := Nat.le_mul_of_pos_right _ (by omega)
                unfold unk; omega
              simp [SliceR, this]
          · cases h
    · cases h
  · cases h

/-! ### fields and indexes -/
theorem fieldOf_spec {t : TypeId} {i : Nat} {f : Field} {n : Nat} (h : fieldOf P t i = some (f, n)) : ∃ fs fi, P.underlying t = some (.struct fs) ∧ fs[i]? = some f ∧ P.info? f.type = some fi ∧ fi.size = n := by
  unfold fieldOf at h
  split at h
  · rename_i fs hu
    split at h
    · rename_i f' hf
      split at h
      · rename_i fi hfi
        simp at h
        obtain ⟨rfl, rfl⟩ := h
        exact ⟨fs, fi, hu, hf, hfi, rfl⟩
      · cases h
    · cases h
  · cases h

theorem sound_fieldAddr (hr : Rel P K β st w) {ρ ρ' : Operand → Value} (hρ : ∀ x, VR β (ρ x) (ρ' x)) {o : Oper} {out : Out} {t : TypeId} {x : Operand} {i : Nat} (ho : o.op = .fieldAddr t x i) (h : evOp P ρ o st = some out) :
    OutR P K β st w ((execOp ρ' o).run P w) out := by
  simp only [evOp, ho] at h
  have hx := hρ x
  split at h
  · rename_i f n a hf ha
    split at h
    · cases h
    · rename_i hn
      obtain rfl := Option.some.inj h
      rw [ha] at hx
      obtain ⟨hs, l, hl, e⟩ := hx.ptr'
      obtain ⟨fs, fi, hu, hfs, hfi, hsz⟩ := fieldOf_spec hf
      refine OutR.same hr (v' := .pointer (some ((⟨l.blk, l.base + a.off, none⟩ : Addr).add f.offset))) ?_ ⟨add_spot _ _ hs, l, by rw [add_block]; exact hl, by rw [add_of, add_off, Nat.add_assoc]⟩
      simp only [execOp, ho]
      refine run_v ?_
      have hn' : ¬ fi.size = 0 := by rw [hsz]; exact hn
      simp [Instr.fieldAt, run_underlying hu, hfs, e, Instr.sureAddr, fieldPlace, run_sizeOf' hfi, hn']
  · rename_i p f n hf hnp
    split at h
    · rename_i a c hfp
      split at h
      · cases h
      · rename_i hn
        obtain rfl := Option.some.inj h
        obtain ⟨k, o0, cs, e0, f0, l, h1, h2, h3, h4, h5⟩ := fpOf_rel hfp hx
        obtain ⟨fs, fi, hu, hfs, hfi, hsz⟩ := fieldOf_spec hf
        refine OutR.same hr (v' := .pointer (some ((⟨k, o0 + a, none⟩ : Addr).add f.offset))) ?_ ?_
        · simp only [execOp, ho]
          refine run_v ?_
          have hn' : ¬ fi.size = 0 := by rw [hsz]; exact hn
          simp [Instr.fieldAt, run_underlying hu, hfs, h1, Instr.sureAddr, fieldPlace, run_sizeOf' hfi, hn']
        · rw [add_of, Nat.add_assoc]
          exact fp_mk h2 h3 h4 h5
    · cases h
  · cases h

theorem partOf_run {t : TypeId} {cs : List Value} {cs' : Array Value} {off : Nat} {v : Value} (h : partOf P t cs off = some v) (hc : VRL β cs cs'.toList) (w : World) :
    ∃ v', (part t cs' off).run P w = .ok v' w ∧ VR β v v' := by
  unfold partOf at h
  split at h
  · rename_i d i hu hi
    split at h
    · rename_i hagg
      split at h
      · rename_i hle
        obtain rfl := Option.some.inj h
        refine ⟨.agg (cs'.extract off (off + i.size)), ?_, ⟨_, rfl, ?_⟩⟩
        · simp [part, isAgg_run hu, hagg, run_sizeOf' hi]
        · rw [VRA_iff]
          simp only [Array.toList_extract, List.extract_eq_take_drop]
          have : off + i.size - off = i.size := by omega
          rw [this]
          exact (hc.drop off).take _
      · cases h
    · rename_i hagg
      have hagg' : isAggB P t = false := by simpa using hagg
      obtain ⟨v', h1, h2⟩ := hc.get h
      refine ⟨v', ?_, h2⟩
      have h1' : cs'[off]? = some v' := by simpa using h1
      simp [part, isAgg_run hu, hagg', h1']
  · cases h

theorem sound_field (hr : Rel P K β st w) {ρ ρ' : Operand → Value} (hρ : ∀ x, VR β (ρ x) (ρ' x)) {o : Oper} {out : Out} {t : TypeId} {x : Operand} {i : Nat} (ho : o.op = .field t x i) (h : evOp P ρ o st = some out) :
    OutR P K β st w ((execOp ρ' o).run P w) out := by
  simp only [evOp, ho] at h
  have hx := hρ x
  split at h
  · rename_i f n cs hf ha
    rw [ha] at hx
    obtain ⟨cs', e, hcs⟩ := hx
    obtain ⟨fs, fi, hu, hfs, hfi, hsz⟩ := fieldOf_spec hf
    split at h
    · rename_i v hv
      obtain rfl := Option.some.inj h
      obtain ⟨v', h1, h2⟩ := partOf_run hv (VRA_iff.1 hcs) w
      refine OutR.same hr ?_ h2
      simp only [execOp, ho]
      refine run_v ?_
      simp [Instr.field, run_underlying hu, hfs, e, asAgg, h1]
    · cases h
  · cases h

theorem sound_indexAddr (hr : Rel P K β st w) {ρ ρ' : Operand → Value} (hρ : ∀ x, VR β (ρ x) (ρ' x)) {o : Oper} {out : Out} {t : TypeId} {x ix : Operand} (ho : o.op = .indexAddr t x ix) (h : evOp P ρ o st = some out) :
    OutR P K β st w ((execOp ρ' o).run P w) out := by
  simp only [evOp, ho] at h
  have hx := hρ x
  have hix := hρ ix
  split at h
  · rename_i e a len cap k i hu ha hi
    rw [ha] at hx
    rw [hi] at hix
    have hix := hix.int'
    split at h
    · rename_i n hn
      split at h
      · rename_i hb
        obtain rfl := Option.some.inj h
        obtain ⟨ie, hie, rfl⟩ : ∃ ie, P.info? e = some ie ∧ ie.size = n := by
          unfold sizeOfT at hn; cases hie : P.info? e with
          | none => simp [hie] at hn
          | some ie => simp [hie] at hn; exact ⟨ie, rfl, hn⟩
        obtain ⟨hs, l, hl, hsl⟩ := hx
        have hsl' : ∃ c', ρ' x = .slice (some ⟨l.blk, l.base + a.off, none⟩) len c' := by
          unfold SliceR at hsl
          split at hsl
          · exact absurd hsl.1 (by omega)
          split at hsl
          · exact ⟨_, hsl⟩
          · split at hsl
            · exact ⟨_, hsl.1⟩
            · exact absurd hsl.1 (by omega)
        obtain ⟨c', hx'⟩ := hsl'
        refine OutR.same hr (v' := .pointer (some ((⟨l.blk, l.base + a.off, none⟩ : Addr).add (i.toNat * ie.size)))) ?_ ⟨add_spot _ _ hs, l, by rw [add_block]; exact hl, by rw [add_of, add_off, Nat.add_assoc]⟩
        simp only [execOp, ho]
        refine run_v ?_
        simp [Instr.indexAt, hix, asIntOf, run_underlying hu, hx', hb.1, hb.2, run_sizeOf' hie]
      · cases h
    · cases h
  · rename_i len e a k i hu ha hi
    rw [ha] at hx
    rw [hi] at hix
    have hix := hix.int'
    split at h
    · rename_i n hn
      split at h
      · rename_i hb
        obtain rfl := Option.some.inj h
        obtain ⟨ie, hie, rfl⟩ : ∃ ie, P.info? e = some ie ∧ ie.size = n := by
          unfold sizeOfT at hn; cases hie : P.info? e with
          | none => simp [hie] at hn
          | some ie => simp [hie] at hn; exact ⟨ie, rfl, hn⟩
        obtain ⟨hs, l, hl, hx'⟩ := hx.ptr'
        refine OutR.same hr (v' := .pointer (some ((⟨l.blk, l.base + a.off, none⟩ : Addr).add (i.toNat * ie.size)))) ?_ ⟨add_spot _ _ hs, l, by rw [add_block]; exact hl, by rw [add_of, add_off, Nat.add_assoc]⟩
        simp only [execOp, ho]
        refine run_v ?_
        simp [Instr.indexAt, hix, asIntOf, run_underlying hu, hx', Instr.sureAddr, hb.1, hb.2, run_sizeOf' hie]
      · cases h
    · cases h
  · rename_i x0 e k i hu hi hns
    rw [hi] at hix
    have hix := hix.int'
    split at h
    · rename_i z n hz hn
      split at h
      · rename_i hb
        obtain ⟨hb1, hb2, hb3⟩ := hb
        obtain rfl := Option.some.inj h
        obtain ⟨ie, hie, rfl⟩ : ∃ ie, P.info? e = some ie ∧ ie.size = n := by
          unfold sizeOfT at hn; cases hie : P.info? e with
          | none => simp [hie] at hn
          | some ie => simp [hie] at hn; exact ⟨ie, rfl, hn⟩
        obtain ⟨hs0, r⟩ := fzOf_rel hz hx
        unfold FrzR at r
        rw [if_neg hs0] at r
        obtain ⟨r0, ⟨r1, _⟩ | ⟨r1, _⟩ | ⟨_, k0, o0, cap, cs, e0, f0, l, r2, r3, r4, r5, r6, r7, _⟩⟩ := r
        · omega
        · omega
        refine OutR.same hr (v' := .pointer (some ((⟨k0, o0, none⟩ : Addr).add (i.toNat * ie.size)))) ?_ ?_
        · simp only [execOp, ho]
          refine run_v ?_
          simp [Instr.indexAt, hix, asIntOf, run_underlying hu, r2, hb2, hb3, run_sizeOf' hie]
        · rw [add_of]
          exact fp_mk r4 r5 r6 r7
      · cases h
    · cases h
  · cases h

theorem sound_index (hr : Rel P K β st w) {ρ ρ' : Operand → Value} (hρ : ∀ x, VR β (ρ x) (ρ' x)) {o : Oper} {out : Out} {t : TypeId} {x ix : Operand} (ho : o.op = .index t x ix) (h : evOp P ρ o st = some out) :
    OutR P K β st w ((execOp ρ' o).run P w) out := by
  simp only [evOp, ho] at h
  have hx := hρ x
  have hix := hρ ix
  split at h
  · rename_i len e cs k i hu ha hi
    rw [ha] at hx
    rw [hi] at hix
    have hix := hix.int'
    obtain ⟨cs', hx', hcs⟩ := hx
    split at h
    · rename_i n hn
      split at h
      · rename_i hb
        obtain ⟨ie, hie, rfl⟩ : ∃ ie, P.info? e = some ie ∧ ie.size = n := by
          unfold sizeOfT at hn; cases hie : P.info? e with
          | none => simp [hie] at hn
          | some ie => simp [hie] at hn; exact ⟨ie, rfl, hn⟩
        split at h
        · rename_i v hv
          obtain rfl := Option.some.inj h
          obtain ⟨v', h1, h2⟩ := partOf_run hv (VRA_iff.1 hcs) w
          refine OutR.same hr ?_ h2
          simp only [execOp, ho]
          refine run_v ?_
          simp [Instr.index, hix, asIntOf, run_underlying hu, hx', hb.1, hb.2, run_sizeOf' hie, h1]
        · cases h
      · cases h
    · cases h
  · rename_i s k i hu ha hi
    rw [ha] at hx
    rw [hi] at hix
    have hix := hix.int'
    have hx := hx.string'
    split at h
    · rename_i h0
      split at h
      · rename_i b hb
        obtain rfl := Option.some.inj h
        refine OutR.same hr (v' := .int .u8 b.toNat) ?_ rfl
        simp only [execOp, ho]
        refine run_v ?_
        simp [Instr.index, hix, asIntOf, run_underlying hu, hx, h0, hb]
      · cases h
    · cases h
  · cases h

end
end Go.VS
