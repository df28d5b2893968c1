/- One operation of the evaluator is one of the model: slices, maps, iterators, assertions. No conditions. -/
import Derived.Test.YtbdeppefllcocaaVsOps4
namespace Go.VS
set_option linter.unusedSimpArgs false
set_option linter.unusedVariables false
open Go.RowKit
section
variable {P : Program} {K : Prot} {β : Env} {st : St} {w : World}

theorem sizeOfT_spec {e : TypeId} {n : Nat} (hn : sizeOfT P e = some n) : ∃ ie, P.info? e = some ie ∧ ie.size = n := by
  unfold sizeOfT at hn
  cases hie : P.info? e with
  | none => simp [hie] at hn
  | some ie => simp [hie] at hn; exact ⟨ie, rfl, hn⟩

/-! ### slices -/
theorem boundOf_run {x x' : Value} {y y' n : Nat} (h : boundOf x y = some n) (hx : VR β x x') (hy : y ≤ y') (code : BoundsCode) (w : World) : (Instr.sliceBound x' y' code).run P w = .ok n w ∧ n ≤ y := by
  unfold boundOf at h
  split at h
  · rename_i k i
    split at h
    · rename_i hi
      obtain rfl := Option.some.inj h
      have hx := hx.int'
      subst hx
      refine ⟨?_, by omega⟩
      have h2 : i ≤ (y' : Int) := by omega
      simp [Instr.sliceBound, asIntOf, hi.1, h2]
    · cases h
  · cases h

def OptR (β : Env) : Option Value → Option Value → Prop
  | none, y => y = none
  | some x, y => ∃ x', y = some x' ∧ VR β x x'

theorem OptR.map {ρ ρ' : Operand → Value} (hρ : ∀ x, VR β (ρ x) (ρ' x)) (o : Option Operand) : OptR β (o.map ρ) (o.map ρ') := by
  cases o with
  | none => rfl
  | some x => exact ⟨_, rfl, hρ x⟩

def MaxB (mx : Option Value) (cap cap' m : Nat) : Prop := match mx with
  | none => m = cap'
  | some v => boundOf v cap = some m
def HiB (mx hi : Option Value) (cap len m h : Nat) : Prop := match hi with
  | none => h = len ∧ mx = none
  | some v => boundOf v (match mx with | none => cap | some _ => m) = some h

/-- The three bounds of a slice expression run, whatever the true capacity is, where what the evaluator takes for it is not more. -/
theorem sliceBounds_run (isSlice : Bool) {lo hi mx lo' hi' mx' : Option Value} (hlo : OptR β lo lo') (hhi : OptR β hi hi') (hmx : OptR β mx mx') {len cap cap' m h l : Nat}
    (e1 : MaxB mx cap cap' m) (hcap : cap ≤ cap')
    (e2 : HiB mx hi cap len m h)
    (e3 : optBound lo h 0 = some l) (w : World) : (Instr.sliceBounds isSlice len cap' lo' hi' mx').run P w = .ok (l, h, m) w := by
  have r3 : ∀ code, (match lo' with | some v => Instr.sliceBound v h code | none => pure 0).run P w = .ok l w := by
    intro code
    cases lo with
    | none => have hlo : lo' = none := hlo; subst hlo; simp [optBound] at e3; subst e3; simp
    | some v => obtain ⟨v', rfl, hv⟩ := hlo; exact (boundOf_run e3 hv (Nat.le_refl _) code w).1
  cases mx with
  | none =>
    have hmx : mx' = none := hmx
    subst hmx
    simp only [MaxB, HiB] at e1 e2
    subst e1
    cases hi with
    | none =>
      have hhi : hi' = none := hhi
      subst hhi
      simp only at e2
      obtain ⟨rfl, _⟩ := e2
      simp [Instr.sliceBounds]
      have := r3 (.sliceB)
      cases lo' <;> simp_all
    | some v =>
      obtain ⟨v', rfl, hv⟩ := hhi
      simp only at e2
      have := boundOf_run (P := P) e2 hv hcap (if isSlice then .sliceAcap else .sliceAlen) w
      have r := r3 (.sliceB)
      cases lo' <;> simp_all [Instr.sliceBounds]
  | some vm =>
    obtain ⟨vm', rfl, hvm⟩ := hmx
    simp only [MaxB, HiB] at e1 e2
    have h1 := boundOf_run (P := P) e1 hvm hcap (if isSlice then .slice3Acap else .slice3Alen) w
    cases hi with
    | none => simp at e2
    | some v =>
      obtain ⟨v', rfl, hv⟩ := hhi
      simp only at e2
      have h2 := boundOf_run (P := P) e2 hv (Nat.le_refl _) .slice3B w
      have r := r3 (.slice3C)
      cases lo' <;> simp_all [Instr.sliceBounds]

theorem room_spec (hr : Rel P K β st w) {a : Addr} {size r : Nat} (h : room P st a size = some r) {l : Loc} (hl : β a.block = some l) (hv : l.virt = false) :
    size = l.esize ∧ size ≠ 0 ∧ a.off ≤ l.total ∧ r ≤ (l.total - a.off) / l.esize := by
  unfold room at h
  split at h
  · rename_i c e x hg
    split at h
    · cases h
    · rename_i hs
      simp only [Bool.or_eq_true, decide_eq_true_eq, not_or, ne_eq, Decidable.not_not] at hs
      split at h
      · rename_i hle
        obtain rfl := Option.some.inj h
        obtain ⟨l', h1, ⟨hv', _⟩ | ⟨_, h2, cc, f, h3, h4, h5, h6, h7, h8, h9⟩⟩ := hr.get_cells hg
        · rw [h1] at hl; obtain rfl := Option.some.inj hl; rw [hv] at hv'; cases hv'
        obtain rfl : l' = l := by rw [h1] at hl; exact Option.some.inj hl
        refine ⟨by rw [hs.2, h4], hs.1, by omega, ?_⟩
        rw [hs.2, h4]
        exact Nat.div_le_div_right (by omega)
      · cases h
  · cases h

theorem sliceS_run (hr : Rel P K β st w) {t e : TypeId} {ie : TypeInfo} (hu : P.underlying t = some (.slice e)) (hie : P.info? e = some ie) {a : Addr} {len cap : Nat} {lo hi mx lo' hi' mx' : Option Value} (hlo : OptR β lo lo') (hhi : OptR β hi hi') (hmx : OptR β mx mx')
    {v x' : Value} (hx : VR β (.slice (some a) len cap) x') (h : sliceS P st ie.size a len cap lo hi mx = some v) :
    ∃ v', (Instr.sliceAt t x' lo' hi' mx').run P w = .ok v' w ∧ VR β v v' := by
  obtain ⟨hs, l, hl, hsl⟩ := hx
  have hslice : ∀ y, (Instr.sliceAt t y lo' hi' mx').run P w = (Instr.slice t y lo' hi' mx').run P w := by
    intro y; simp [Instr.sliceAt, run_underlying hu]
  have mk : ∀ {a' : Option Addr} {len' cap' l0 h0 m0 : Nat}, (Instr.sliceBounds true len' cap' lo' hi' mx').run P w = .ok (l0, h0, m0) w →
      (Instr.slice t (.slice a' len' cap') lo' hi' mx').run P w = .ok (.slice (if m0 = l0 then a' else a'.map (·.add (l0 * ie.size))) (h0 - l0) (m0 - l0)) w := by
    intro a' len' cap' l0 h0 m0 hb
    simp [Instr.slice, run_underlying hu, hb, run_sizeOf' hie]
  cases hv : l.virt with
  | true =>
    unfold SliceR at hsl
    rw [if_pos hv] at hsl
    obtain ⟨hn0, hoff0, hcap, hx'⟩ := hsl
    subst hn0 hx'
    have zero : ∀ {o o' : Option Value} {n : Nat}, OptR β o o' → optBound o 0 0 = some n → n = 0 := by
      intro o o' n ho hn
      cases o with
      | none => simp [optBound] at hn; exact hn.symm
      | some v => obtain ⟨v', _, hv⟩ := ho; have := (boundOf_run (P := P) hn hv (Nat.le_refl _) .index w).2; omega
    have fin : ∀ {m h0 l0 : Nat}, MaxB mx 0 0 m → HiB mx hi 0 0 m h0 → optBound lo h0 0 = some l0 → m = 0 → (Instr.sliceAt t (.slice none 0 0) lo' hi' mx').run P w = .ok (.slice none 0 0) w ∧ h0 = 0 ∧ l0 = 0 := by
      intro m h0 l0 e1 e2 e3 hm
      subst hm
      have h00 : h0 = 0 := by
        unfold HiB at e2
        cases hi with
        | none => simp only at e2; exact e2.1
        | some v =>
          simp only at e2
          obtain ⟨v', _, hv⟩ := hhi
          have := (boundOf_run (P := P) e2 hv (Nat.le_refl _) .index w).2
          cases mx <;> simp at this <;> omega
      subst h00
      have l00 : l0 = 0 := zero hlo e3
      subst l00
      have hb := sliceBounds_run (P := P) true hlo hhi hmx e1 (Nat.le_refl _) e2 e3 w
      exact ⟨(hslice _).trans (by simpa using mk hb), rfl, rfl⟩
    have ans : ∀ (c : Nat), (c = 0 ∨ c = unk) → VR β (.slice (some a) 0 c) (.slice none 0 0) := by
      intro c hc
      refine ⟨hs, l, hl, ?_⟩
      unfold SliceR
      rw [if_pos hv]
      exact ⟨rfl, hoff0, hc, rfl⟩
    unfold sliceS at h
    rcases hcap with rfl | rfl
    · rw [if_pos (by unfold unk; omega)] at h
      split at h
      · rename_i m hm
        split at h
        · rename_i hh hhh
          split at h
          · rename_i ll hll
            obtain rfl := Option.some.inj h
            have hm0 := zero hmx hm
            obtain ⟨r1, r2, r3⟩ := fin (m := m) (by cases mx <;> simp_all [MaxB, optBound]) (by cases mx <;> cases hi <;> simp_all [HiB, optBound]) hll hm0
            subst hm0 r2 r3
            exact ⟨_, r1, by simpa using ans 0 (Or.inl rfl)⟩
          · cases h
        · cases h
      · cases h
    · rw [if_neg (Nat.lt_irrefl _), if_pos rfl] at h
      split at h
      · cases h
      · rename_i r hroom
        have hr0 : r = 0 := by
          unfold room at hroom
          split at hroom
          · rename_i c e' x hg
            split at hroom
            · cases hroom
            · split at hroom
              · obtain ⟨l', q1, ⟨_, q2, _⟩ | ⟨q2, _⟩⟩ := hr.get_cells hg
                · subst q2; simp at hroom; exact hroom.symm
                · rw [q1] at hl; obtain rfl := Option.some.inj hl; rw [hv] at q2; cases q2
              · cases hroom
          · cases hroom
        subst hr0
        split at h
        · rename_i vm
          split at h
          · rename_i m hm
            split at h
            · rename_i vh
              split at h
              · rename_i hh hhh
                split at h
                · rename_i ll hll
                  split at h
                  · obtain rfl := Option.some.inj h
                    have hm0 := zero (o := some vm) hmx hm
                    obtain ⟨r1, r2, r3⟩ := fin (m := m) hm hhh hll hm0
                    subst hm0 r2 r3
                    exact ⟨_, r1, by simpa using ans 0 (Or.inl rfl)⟩
                  · cases h
                · cases h
              · cases h
            · cases h
          · cases h
        · split at h
          · rename_i hh hhh
            split at h
            · rename_i ll hll
              obtain ⟨r1, r2, r3⟩ := fin (m := 0) rfl (by cases hi <;> simp_all [HiB, optBound]) hll rfl
              subst r2 r3
              simp at h
              subst h
              exact ⟨_, r1, ans unk (Or.inr rfl)⟩
            · cases h
          · cases h
  | false =>
  unfold sliceS at h
  unfold SliceR at hsl
  rw [if_neg (by simp [hv])] at hsl
  split at h
  · rename_i hc
    rw [if_pos hc] at hsl
    subst hsl
    split at h
    · rename_i m hm
      split at h
      · rename_i hh hhh
        split at h
        · rename_i ll hll
          obtain rfl := Option.some.inj h
          have e1 : MaxB mx cap cap m := by
            cases mx with
            | none => simp [optBound] at hm; exact hm.symm
            | some v => exact hm
          have e2 : HiB mx hi cap len m hh := by
            cases mx <;> cases hi <;> simp [optBound, HiB] at hhh ⊢ <;> first | exact hhh.symm | exact hhh
          have hb := sliceBounds_run (P := P) true hlo hhi hmx e1 (Nat.le_refl _) e2 hll w
          have hml : m ≤ cap := by
            cases mx with
            | none => simp [MaxB] at e1; omega
            | some v =>
              simp only [MaxB] at e1
              obtain ⟨v', _, hv⟩ := hmx
              exact (boundOf_run (P := P) e1 hv (Nat.le_refl _) .index w).2
          refine ⟨_, (hslice _).trans (mk hb), ?_⟩
          by_cases hmeq : m = ll
          · subst hmeq
            simp only [if_pos]
            refine ⟨hs, l, hl, ?_⟩
            simp [SliceR, unk, hv]
          · simp only [if_neg hmeq, Option.map_some]
            refine ⟨add_spot _ _ hs, l, by rw [add_block]; exact hl, ?_⟩
            unfold SliceR
            rw [if_neg (by simp [hv]), if_pos (by omega), add_of, add_off, Nat.add_assoc]
        · cases h
      · cases h
    · cases h
  · rename_i hc
    rw [if_neg hc] at hsl
    split at h
    · rename_i hceq
      rw [if_pos hceq] at hsl
      obtain ⟨hxe, hoff⟩ := hsl
      subst hxe
      split at h
      · cases h
      · rename_i r hroom
        obtain ⟨hse, hs0, _, hrle⟩ := room_spec hr hroom hl hv
        split at h
        · rename_i vm
          obtain ⟨vm', hmx', hvm⟩ := hmx
          split at h
          · rename_i m hm
            split at h
            · rename_i vh
              split at h
              · rename_i hh hhh
                split at h
                · rename_i ll hll
                  split at h
                  · rename_i hmu
                    obtain rfl := Option.some.inj h
                    have hb := sliceBounds_run (P := P) true (mx := some vm) (mx' := mx') (len := len) (cap := r) (cap' := (l.total - a.off) / l.esize) hlo hhi ⟨vm', hmx', hvm⟩ hm hrle hhh hll w
                    refine ⟨_, (hslice _).trans (mk hb), ?_⟩
                    by_cases hmeq : m = ll
                    · subst hmeq
                      simp only [if_pos]
                      refine ⟨hs, l, hl, ?_⟩
                      simp [SliceR, unk, hv]
                    · simp only [if_neg hmeq, Option.map_some]
                      refine ⟨add_spot _ _ hs, l, by rw [add_block]; exact hl, ?_⟩
                      unfold SliceR
                      rw [if_neg (by simp [hv]), if_pos (by omega), add_of, add_off, Nat.add_assoc]
                  · cases h
                · cases h
              · cases h
            · cases h
          · cases h
        · have hmx' : mx' = none := hmx
          split at h
          · rename_i hh hhh
            split at h
            · rename_i ll hll
              have e2 : HiB none hi r len ((l.total - a.off) / l.esize) hh := by
                cases hi <;> simp [optBound, HiB] at hhh ⊢ <;> first | exact hhh.symm | exact hhh
              have hb := sliceBounds_run (P := P) true (mx := none) (mx' := mx') (m := (l.total - a.off) / l.esize) (len := len) (cap := r) (cap' := (l.total - a.off) / l.esize) hlo hhi hmx' rfl hrle e2 hll w
              generalize hT : (l.total - a.off) / l.esize = T at *
              have hlh : ll ≤ hh := by
                cases lo with
                | none => simp [optBound] at hll; omega
                | some v => obtain ⟨v', _, hv⟩ := hlo; exact (boundOf_run (P := P) hll hv (Nat.le_refl _) .index w).2
              split at h
              · rename_i hlr
                obtain rfl := Option.some.inj h
                refine ⟨_, (hslice _).trans (mk hb), ?_⟩
                have hne : ¬ T = ll := by omega
                simp only [if_neg hne, Option.map_some]
                refine ⟨add_spot _ _ hs, l, by rw [add_block]; exact hl, ?_⟩
                unfold SliceR
                rw [if_neg (by simp [hv]), if_neg (by omega), if_pos rfl, add_of, add_off, Nat.add_assoc, hse]
                have hle2 : (ll + 1) * l.esize ≤ l.total - a.off := by
                  have : (ll + 1) ≤ (l.total - a.off) / l.esize := by rw [hT]; omega
                  exact (Nat.le_div_iff_mul_le (by omega)).1 this
                have hle3 : ll * l.esize ≤ (ll + 1) * l.esize := Nat.mul_le_mul_right _ (by omega)
                refine ⟨?_, by omega⟩
                congr 1
                rw [← hT, Nat.sub_add_eq, Nat.mul_comm ll l.esize, Nat.sub_mul_div]
              · rename_i hlr
                split at h
                · cases h
                · rename_i hcond
                  simp only [Bool.or_eq_true, decide_eq_true_eq, not_or, ne_eq, Decidable.not_not] at hcond
                  obtain ⟨c1, c2⟩ := hcond
                  have hlr' : ll = r := by omega
                  subst c1
                  split at h
                  · rename_i hl0
                    obtain rfl := Option.some.inj h
                    refine ⟨_, (hslice _).trans (mk hb), ?_⟩
                    subst hl0
                    refine ⟨hs, l, hl, ?_⟩
                    unfold SliceR
                    rw [if_neg (by simp [hv]), if_neg (by omega), if_pos rfl, hT]
                    refine ⟨?_, hoff⟩
                    split <;> simp [Addr.add]
                  · rename_i hl0
                    obtain rfl := Option.some.inj h
                    refine ⟨_, (hslice _).trans (mk hb), ?_⟩
                    refine ⟨hs, l, hl, ?_⟩
                    unfold SliceR
                    rw [if_neg (by simp [hv]), if_neg (by omega), if_neg (by omega), hT]
                    refine ⟨rfl, by omega, hoff, ?_⟩
                    have hu2 : unk + hh - unk = hh := by omega
                    rw [hu2]
                    by_cases hTe : T = hh
                    · rw [if_pos hTe, if_pos hTe, hTe]; simp
                    · rw [if_neg hTe, if_neg hTe, Option.map_some, add_of, Nat.add_assoc, hse]; simp
            · cases h
          · cases h
    · rename_i hceq
      rw [if_neg hceq] at hsl
      obtain ⟨hn0, hle, hoff, hxe⟩ := hsl
      subst hn0
      split at h
      · cases h
      · rename_i hmxn
        have hmx0 : mx = none := by cases mx <;> simp_all
        subst hmx0
        have hmx' : mx' = none := hmx
        split at h
        · rename_i h1 l1 hh hll
          obtain rfl := Option.some.inj h
          have hh0 : optBound hi 0 0 = some 0 := by
            cases hi with
            | none => rfl
            | some v => obtain ⟨v', _, hv⟩ := hhi; have := (boundOf_run (P := P) hh hv (Nat.le_refl _) .index w).2; simp only [optBound] at hh ⊢; rw [hh]; congr 1; omega
          have hl0 : optBound lo 0 0 = some 0 := by
            cases lo with
            | none => rfl
            | some v => obtain ⟨v', _, hv⟩ := hlo; have := (boundOf_run (P := P) hll hv (Nat.le_refl _) .index w).2; simp only [optBound] at hll ⊢; rw [hll]; congr 1; omega
          have hb : ∀ cap', (Instr.sliceBounds true 0 cap' lo' hi' mx').run P w = .ok (0, 0, cap') w := fun cap' =>
            sliceBounds_run (P := P) true (mx := none) (mx' := mx') (m := cap') (len := 0) (cap := 0) (cap' := cap') hlo hhi hmx' rfl (Nat.zero_le _) (by cases hi <;> simp_all [optBound, HiB]) hl0 w
          have hkeep : ∀ (b : Addr) (c' : Nat), (Instr.sliceAt t (.slice (some b) 0 c') lo' hi' mx').run P w = .ok (.slice (some b) 0 c') w := by
            intro b c'
            rw [hslice, mk (hb c')]
            congr 1
            split <;> simp [Addr.add]
          refine ⟨x', ?_, ⟨hs, l, hl, ?_⟩⟩
          · rw [hxe]; split <;> exact hkeep _ _
          · unfold SliceR; rw [if_neg (by simp [hv]), if_neg hc, if_neg hceq]; exact ⟨rfl, hle, hoff, hxe⟩
        · cases h

end
end Go.VS
