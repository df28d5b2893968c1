/- One operation of the evaluator is one of the model: slices, maps, iterators, assertions. No conditions. -/
import Derived.Test.YtbdeppefllcocaaVsOps5
import Derived.MapKept
namespace Go.VS
set_option linter.unusedSimpArgs false
set_option linter.unusedVariables false
open Go.RowKit
section
variable {P : Program} {K : Prot} {β : Env} {st : St} {w : World}

/-- A slice expression on a frozen slice runs. -/
theorem sliceZ_run {t e : TypeId} {ie : TypeInfo} (hu : P.underlying t = some (.slice e)) (hie : P.info? e = some ie) {x x' : Value} {z : FzV} (hsz : z.sz = ie.size) {lo hi mx lo' hi' mx' : Option Value} (hlo : OptR β lo lo') (hhi : OptR β hi hi') (hmx : OptR β mx mx')
    (hz : fzOf x = some z) (hx : VR β x x') {v : Value} (h : sliceZ z lo hi mx = some v) : ∃ v', (Instr.sliceAt t x' lo' hi' mx').run P w = .ok v' w ∧ VR β v v' := by
  obtain ⟨hs0, r⟩ := fzOf_rel hz hx
  have hslice : ∀ y, (Instr.sliceAt t y lo' hi' mx').run P w = (Instr.slice t y lo' hi' mx').run P w := by
    intro y; simp [Instr.sliceAt, run_underlying hu]
  have mk : ∀ {a' : Option Addr} {len' cap' l0 h0 m0 : Nat}, (Instr.sliceBounds true len' cap' lo' hi' mx').run P w = .ok (l0, h0, m0) w →
      (Instr.slice t (.slice a' len' cap') lo' hi' mx').run P w = .ok (.slice (if m0 = l0 then a' else a'.map (·.add (l0 * ie.size))) (h0 - l0) (m0 - l0)) w := by
    intro a' len' cap' l0 h0 m0 hb
    simp [Instr.slice, run_underlying hu, hb, run_sizeOf' hie]
  unfold FrzR at r
  rw [if_neg hs0] at r
  obtain ⟨r0, r⟩ := r
  have hform : ∃ p cap, x' = .slice p z.n cap ∧ z.n ≤ cap ∧ (z.cap ≠ 0 → z.cap = cap + 1) ∧ ((p = none ∧ cap = 0) ∨ ∃ a, p = some a ∧ (0 < z.n → ∃ k o cs e f l, a = ⟨k, o, none⟩ ∧ β (Int.negSucc k) = some l ∧ l.obj = some (.cells cs e f) ∧ o + z.cells.length ≤ cs.size ∧ VRL (negE β) z.cells ((cs.toList.drop o).take z.cells.length))) := by
    obtain ⟨r1, r2, r3⟩ | ⟨r1, p, cap, r2, r3⟩ | ⟨rp, k0, o0, cap, cs, e0, f0, lc, r2, r3, r4, r5, r6, r7, r8⟩ := r
    · exact ⟨none, 0, by rw [r3, r1], by omega, by omega, Or.inl ⟨rfl, rfl⟩⟩
    · exact ⟨some p, cap, by rw [r2, r1], by omega, r3, Or.inr ⟨p, rfl, by omega⟩⟩
    · exact ⟨_, cap, r2, r8, r3, Or.inr ⟨_, rfl, fun _ => ⟨k0, o0, cs, e0, f0, lc, rfl, r4, r5, r6, r7⟩⟩⟩
  clear r
  obtain ⟨p, cap, hx', hnc, hcap, hp⟩ := hform
  have fin : ∀ {m h0 l0 b : Nat}, l0 ≤ h0 → h0 ≤ z.n → h0 ≤ m → m ≤ cap → (b ≠ 0 → b = m - l0 + 1) → (Instr.sliceBounds true z.n cap lo' hi' mx').run P w = .ok (l0, h0, m) w →
      ∃ v', (Instr.sliceAt t x' lo' hi' mx').run P w = .ok v' w ∧ VR β (mkFz z.sz (h0 - l0) b ((z.cells.drop (l0 * z.sz)).take ((h0 - l0) * z.sz))) v' := by
    intro m h0 l0 b hl hh hm hmc hb g1
    have h2 : l0 * z.sz + (h0 - l0) * z.sz ≤ z.n * z.sz := by rw [← Nat.add_mul]; exact Nat.mul_le_mul_right _ (by omega)
    have hlen : ((z.cells.drop (l0 * z.sz)).take ((h0 - l0) * z.sz)).length = (h0 - l0) * z.sz := by simp; omega
    refine ⟨_, by rw [hx']; exact (hslice _).trans (mk g1), fz_mk hs0 ?_⟩
    unfold FrzR
    rw [if_neg hs0, hlen]
    refine ⟨rfl, ?_⟩
    obtain ⟨rfl, rfl⟩ | ⟨a, rfl, ha⟩ := hp
    · refine Or.inl ⟨by omega, by omega, ?_⟩
      have e1 : h0 - l0 = 0 := by omega
      have e2 : m - l0 = 0 := by omega
      rw [e1, e2]; simp
    · by_cases h00 : h0 - l0 = 0
      · refine Or.inr (Or.inl ⟨h00, ?_⟩)
        rw [h00]
        by_cases hml : m = l0
        · exact ⟨a, m - l0, by rw [if_pos hml], hb⟩
        · exact ⟨a.add (l0 * ie.size), m - l0, by rw [if_neg hml]; rfl, hb⟩
      · obtain ⟨k, o, cs, e0, f, l, rfl, q1, q2, q3, q4⟩ := ha (by omega)
        refine Or.inr (Or.inr ⟨by omega, k, o + l0 * z.sz, m - l0, cs, e0, f, l, ?_, hb, q1, q2, by omega, ?_, by omega⟩)
        · rw [if_neg (by omega), Option.map_some, add_of, hsz]
        · have q5 := (q4.drop (l0 * z.sz)).take ((h0 - l0) * z.sz)
          have e : (((cs.toList.drop o).take z.cells.length).drop (l0 * z.sz)).take ((h0 - l0) * z.sz) = (cs.toList.drop (o + l0 * z.sz)).take ((h0 - l0) * z.sz) := by
            rw [List.drop_take, List.take_take, List.drop_drop]
            congr 1
            omega
          rw [e] at q5
          exact q5
  clear hp
  have lole : ∀ {h0 l0 : Nat}, optBound lo h0 0 = some l0 → l0 ≤ h0 := by
    intro h0 l0 hn
    cases lo with
    | none => simp [optBound] at hn; omega
    | some v => obtain ⟨v', _, hv⟩ := hlo; exact (boundOf_run (P := P) hn hv (Nat.le_refl _) .index w).2
  have mono : ∀ {v : Value} {y y' n : Nat}, boundOf v y = some n → y ≤ y' → boundOf v y' = some n ∧ n ≤ y := by
    intro v y y' n hb hy
    unfold boundOf at hb ⊢
    split at hb
    · split at hb
      · rename_i hc
        obtain rfl := Option.some.inj hb
        exact ⟨if_pos (by omega), by omega⟩
      · cases hb
    · cases hb
  unfold sliceZ at h
  split at h
  · rename_i vm
    obtain ⟨vm', hmx', hvm⟩ := hmx
    split at h
    · rename_i m hm
      split at h
      · rename_i vh
        split at h
        · rename_i h0 hh
          split at h
          · rename_i l0 hl
            obtain rfl := Option.some.inj h
            obtain ⟨m1, m2⟩ := mono hm (show _ ≤ cap by split <;> omega)
            obtain ⟨k1, k2⟩ := mono hh (Nat.min_le_left m z.n)
            have hb := sliceBounds_run (P := P) true (mx := some vm) (mx' := mx') (len := z.n) (cap := if z.cap = 0 then z.n else z.cap - 1) (cap' := cap) hlo hhi ⟨vm', hmx', hvm⟩ hm (by split <;> omega) k1 hl w
            exact fin (lole hl) (by omega) (by omega) (by split at m2 <;> omega) (fun _ => rfl) hb
          · cases h
        · cases h
      · cases h
    · cases h
  · have hmx' : mx' = none := hmx
    split at h
    · rename_i h0 hh
      split at h
      · rename_i l0 hl
        obtain rfl := Option.some.inj h
        have hle : h0 ≤ z.n := by
          cases hi with
          | none => simp [optBound] at hh; omega
          | some v => obtain ⟨v', _, hv⟩ := hhi; exact (boundOf_run (P := P) hh hv (Nat.le_refl _) .index w).2
        have hl2 := lole hl
        have hb := sliceBounds_run (P := P) true (mx := none) (mx' := mx') (m := cap) (len := z.n) (cap := z.n) (cap' := cap) hlo hhi hmx' rfl hnc (by cases hi <;> simp_all [HiB, optBound]) hl w
        exact fin hl2 hle (by omega) (Nat.le_refl _) (by split <;> omega) hb
      · cases h
    · cases h

theorem sound_slice (hr : Rel P K β st w) {ρ ρ' : Operand → Value} (hρ : ∀ x, VR β (ρ x) (ρ' x)) {o : Oper} {out : Out} {t : TypeId} {x : Operand} {lo hi mx : Option Operand} (ho : o.op = .slice t x lo hi mx) (h : evOp P ρ o st = some out) :
    OutR P K β st w ((execOp ρ' o).run P w) out := by
  simp only [evOp, ho] at h
  have hx := hρ x
  have hlo := OptR.map hρ lo
  have hhi := OptR.map hρ hi
  have hmx := OptR.map hρ mx
  split at h
  · rename_i s hu ha
    split at h
    · cases h
    · rename_i hmxn
      have hmx0 : mx = none := by cases mx <;> simp_all
      subst hmx0
      split at h
      · rename_i hh hhh
        split at h
        · rename_i ll hll
          obtain rfl := Option.some.inj h
          rw [ha] at hx
          have hx := hx.string'
          have hb := sliceBounds_run (P := P) false (len := s.size) (cap := s.size) (cap' := s.size) (m := s.size) (h := hh) (l := ll) hlo hhi hmx (by simp [MaxB]) (Nat.le_refl _) (by cases hi <;> simp_all [HiB, optBound]) hll w
          refine OutR.same hr (v' := .string (s.extract ll hh)) ?_ rfl
          simp only [execOp, ho]
          refine run_v ?_
          simp [hx, Instr.sliceAt, run_underlying hu, Instr.slice] at hb ⊢
          simp [hb]
        · cases h
      · cases h
  · rename_i e a len cap hu ha
    split at h
    · rename_i n hn
      obtain ⟨ie, hie, rfl⟩ := sizeOfT_spec hn
      split at h
      · rename_i v hv
        obtain rfl := Option.some.inj h
        rw [ha] at hx
        obtain ⟨v', h1, h2⟩ := sliceS_run hr hu hie hlo hhi hmx hx hv
        refine OutR.same hr ?_ h2
        simp only [execOp, ho]
        exact run_v h1
      · cases h
    · cases h
  · rename_i e len cap hu ha
    split at h
    · rename_i hz
      simp only [Bool.and_eq_true, decide_eq_true_eq] at hz
      obtain ⟨rfl, rfl⟩ := hz
      split at h
      · rename_i n m hh ll hn hm hhh hll
        split at h
        · cases h
        · rename_i hc
          obtain rfl := Option.some.inj h
          obtain ⟨ie, hie, rfl⟩ := sizeOfT_spec hn
          rw [ha] at hx
          have hx : ρ' x = .slice none 0 0 := hx
          have zero : ∀ {o o' : Option Value} {n : Nat}, OptR β o o' → optBound o 0 0 = some n → n = 0 := by
            intro o o' n ho hn
            cases o with
            | none => simp [optBound] at hn; exact hn.symm
            | some v => obtain ⟨v', _, hv⟩ := ho; have := (boundOf_run (P := P) hn hv (Nat.le_refl _) .index w).2; omega
          have m0 := zero hmx hm
          have h0 := zero hhi hhh
          have l0 := zero hlo hll
          subst m0 h0 l0
          have hb := sliceBounds_run (P := P) true (len := 0) (cap := 0) (cap' := 0) (m := 0) (h := 0) (l := 0) hlo hhi hmx (by cases mx <;> simp_all [MaxB, optBound]) (Nat.le_refl _) (by cases mx <;> cases hi <;> simp_all [HiB, optBound]) hll w
          refine OutR.same hr (v' := .slice none 0 0) ?_ rfl
          simp only [execOp, ho]
          refine run_v ?_
          simp [hx, Instr.sliceAt, run_underlying hu, Instr.slice, hb, run_sizeOf' hie]
      · cases h
    · cases h
  · rename_i n e a hu ha
    split at h
    · rename_i size hn
      obtain ⟨ie, hie, rfl⟩ := sizeOfT_spec hn
      split at h
      · rename_i m hm
        split at h
        · rename_i hh hhh
          split at h
          · rename_i ll hll
            split at h
            case h_2 => cases h
            rename_i gc ge hg
            split at h
            · rename_i hmu
              obtain rfl := Option.some.inj h
              rw [ha] at hx
              obtain ⟨hs, l, hl, hx⟩ := hx.ptr'
              have hv : l.virt = false := by
                obtain ⟨l', q1, ⟨_, _, q⟩ | ⟨q, _⟩⟩ := hr.get_cells hg
                · cases q
                · rw [q1] at hl; obtain rfl := Option.some.inj hl; exact q
              have hb := sliceBounds_run (P := P) false (len := n) (cap := n) (cap' := n) (m := m) (h := hh) (l := ll) hlo hhi hmx (by cases mx <;> simp_all [MaxB, optBound]) (Nat.le_refl _) (by cases mx <;> cases hi <;> simp_all [HiB, optBound]) hll w
              refine OutR.same hr (v' := .slice (some (if m = ll then ⟨l.blk, l.base + a.off, none⟩ else (⟨l.blk, l.base + a.off, none⟩ : Addr).add (ll * ie.size))) (hh - ll) (m - ll)) ?_ ?_
              · simp only [execOp, ho]
                refine run_v ?_
                simp [hx, Instr.sliceAt, run_underlying hu, Instr.sureAddr, hb, run_sizeOf' hie]
              · by_cases hmeq : m = ll
                · subst hmeq
                  simp only [if_pos]
                  refine ⟨hs, l, hl, ?_⟩
                  simp [SliceR, unk, hv]
                · simp only [if_neg hmeq]
                  refine ⟨add_spot _ _ hs, l, by rw [add_block]; exact hl, ?_⟩
                  unfold SliceR
                  rw [if_neg (by simp [hv]), if_pos (by omega), add_of, add_off, Nat.add_assoc]
            · cases h
          · cases h
        · cases h
      · cases h
    · cases h
  · rename_i e x0 hu hn1 hn2
    split at h
    · rename_i z n hz hn
      split at h
      · rename_i hzn
        split at h
        · rename_i v hv
          obtain rfl := Option.some.inj h
          obtain ⟨ie, hie, rfl⟩ := sizeOfT_spec hn
          obtain ⟨v', h1, h2⟩ := sliceZ_run (w := w) hu hie hzn hlo hhi hmx hz hx hv
          refine OutR.same hr ?_ h2
          simp only [execOp, ho]
          exact run_v h1
        · cases h
      · cases h
    · cases h
  · cases h

/-! ### maps -/
theorem putObj_below (w : World) (r : Nat) (o : Obj) (h : ¬ K r) : Bel K w { w with heap := w.heap.setIfInBounds r o } :=
  ⟨rfl, rfl, rfl, by simp, fun k hk => by simp only [Array.getElem?_setIfInBounds]; rw [if_neg (by rintro rfl; exact h hk)]⟩

theorem Rel.putObj (hr : Rel P K β st w) {i : Nat} {b b' : Blk} {l : Loc} {o : Obj} (hi : st.heap.get i = some b) (hlive : b.live = true) (hl : β i = some l) (hb : BlkR P β l b' (some o)) (hnc : ∀ c e x, b ≠ .cells c e x := by intros; simp) (ho1 : b.isObj = false := by rfl) (ho2 : b'.isObj = false := by rfl) :
    Rel P K β { st with heap := st.heap.set i b' } { w with heap := w.heap.setIfInBounds l.blk o } ∧ Bel K w { w with heap := w.heap.setIfInBounds l.blk o } := by
  obtain ⟨l0, h1, h2, h3⟩ := hr.blk i b hi hlive
  obtain rfl : l0 = l := by rw [h1] at hl; exact Option.some.inj hl
  have hv : l0.virt = false := by
    cases b with
    | cells c e x => exact absurd rfl (hnc _ _ _)
    | dead => cases hlive
    | obj o => cases ho1
    | _ => exact h3.1
  refine ⟨hr.update hi hlive ho1 ho2 hl (by simp) (fun k hk => ?_) ?_, putObj_below w _ o (h2 hv)⟩
  · simp only [Array.getElem?_setIfInBounds]
    rw [if_neg (fun e => hk.resolve_left (by simp [hv]) e.symm)]
  · have := (hr.dom i l0 h1).2 hv
    simp [this, hb]

theorem Rel.get_map (hr : Rel P K β st w) {i : Nat} {es : List MapEntry} {c : Nat} (hi : st.heap.get i = some (.map es c)) :
    ∃ l es', β i = some l ∧ ¬ K l.blk ∧ w.heap[l.blk]? = some (.map es' c) ∧ ERL β es es'.toList := by
  obtain ⟨l, h1, h2, hv, es', h3, h4⟩ := hr.blk i _ hi rfl
  exact ⟨l, es', h1, h2 hv, h3, h4⟩

theorem Rel.map_virt (hr : Rel P K β st w) {i : Nat} {es : List MapEntry} {c : Nat} {l : Loc} (hi : st.heap.get i = some (.map es c)) (hl : β i = some l) : l.virt = false := by
  obtain ⟨l', h1, h2, hv, _⟩ := hr.blk i _ hi rfl
  rw [h1] at hl; obtain rfl := Option.some.inj hl; exact hv

theorem sameNow_flat {kd : TypeDesc} {k x x' : Value} {b : Bool} (h : Instr.sameNow kd k x = some b) (hx : VR β x x') : x' = x := by
  unfold Instr.sameNow at h
  split at h
  · exact hx
  · exact hx
  · exact hx
  · cases h

theorem findNow_rel {kd : TypeDesc} {k : Value} : ∀ {es es' : List MapEntry} {i : Nat} {r : Option (Nat × Value)}, ERL β es es' → Instr.findNow kd k es i = some r →
    ∃ r', Instr.findNow kd k es' i = some r' ∧ (match r, r' with | none, none => True | some (a, v), some (b, v') => a = b ∧ VR β v v' ∧ i ≤ a ∧ ∃ e', es'[a - i]? = some e' ∧ Instr.sameNow kd k e'.key = some true | _, _ => False)
  | [], es', i, r, h, hf => by
    have h : es' = [] := h
    subst h
    simp [Instr.findNow] at hf
    subst hf
    exact ⟨none, rfl, trivial⟩
  | e :: es, _, i, r, ⟨e', es', he, hb, hk, hv, hrest⟩, hf => by
    subst he
    unfold Instr.findNow at hf ⊢
    cases hs : Instr.sameNow kd k e.key with
    | none => simp [hs] at hf
    | some b =>
      have hke := sameNow_flat hs hk
      rw [hke]
      rw [hs] at hf ⊢
      cases b with
      | true =>
        simp at hf
        subst hf
        exact ⟨_, rfl, rfl, hv, Nat.le_refl _, e', by simp, by rw [hke]; exact hs⟩
      | false =>
        simp only at hf ⊢
        obtain ⟨r', h1, h2⟩ := findNow_rel hrest hf
        refine ⟨r', h1, ?_⟩
        cases r with
        | none => cases r' <;> simp_all
        | some p =>
          cases r' with
          | none => simp at h2
          | some p' =>
            obtain ⟨a, v⟩ := p
            obtain ⟨b, v'⟩ := p'
            simp only at h2 ⊢
            obtain ⟨g1, g2, g3, e2, g4, g5⟩ := h2
            refine ⟨g1, g2, by omega, e2, ?_, g5⟩
            have : a - i = (a - (i + 1)) + 1 := by omega
            rw [this]; simpa using g4

theorem keyKind_spec {t : TypeId} {kd : TypeDesc} (h : keyKind P t = some kd) : P.underlying t = some kd ∧ ((∃ k, kd = .int k) ∨ kd = .string ∨ kd = .bool) := by
  unfold keyKind at h
  split at h
  · simp at h; subst h; exact ⟨‹_›, Or.inl ⟨_, rfl⟩⟩
  · simp at h; subst h; exact ⟨‹_›, Or.inr (Or.inl rfl)⟩
  · simp at h; subst h; exact ⟨‹_›, Or.inr (Or.inr rfl)⟩
  · cases h

theorem checkKey_run {t : TypeId} {kd : TypeDesc} (h : keyKind P t = some kd) (b : Bool) (k : Value) (w : World) : (Instr.checkKey b 10000 t k).run P w = .ok () w := by
  obtain ⟨hu, hk⟩ := keyKind_spec h
  have : ∀ n, (Instr.checkKey b (n + 1) t k).run P w = .ok () w := by
    intro n
    rcases hk with ⟨j, rfl⟩ | rfl | rfl <;> simp [Instr.checkKey, run_underlying hu]
  exact this 9999

theorem findKey_run {t : TypeId} {kd : TypeDesc} (h : keyKind P t = some kd) {k : Value} {es : List MapEntry} {r : Option (Nat × Value)} (hf : Instr.findNow kd k es 0 = some r) (w : World) : (Instr.findKey t k es).run P w = .ok r w := by
  obtain ⟨hu, _⟩ := keyKind_spec h
  simp [Instr.findKey, run_underlying hu, hf]

theorem keyFlat_eq {x x' : Value} (h : keyFlat x = true) (hx : VR β x x') : x' = x := by
  unfold keyFlat at h
  split at h
  · exact hx
  · exact hx
  · exact hx
  · cases h

theorem bytes_eq_of_beq {a b : ByteArray} (h : (a == b) = true) : a = b := by
  cases a; cases b
  rename_i x y
  have : (x == y) = true := h
  simp at this; rw [this]
theorem bytes_beq_self (a : ByteArray) : (a == a) = true := by
  cases a
  rename_i x
  show (x == x) = true
  simp
theorem sameBits_of_sameNow {kd : TypeDesc} {k x : Value} (h : Instr.sameNow kd k x = some true) (n : Nat) : Instr.sameBits n x k = true := by
  unfold Instr.sameNow at h
  split at h
  · split at h
    · rename_i hk; simp at h; subst hk h; simp [Instr.sameBits]
    · cases h
  · have h := bytes_eq_of_beq (Option.some.inj h); subst h; simp [Instr.sameBits, bytes_beq_self]
  · simp at h; subst h; simp [Instr.sameBits]
  · cases h

theorem ERL.isEmpty' : ∀ {a b : List MapEntry}, ERL β a b → a.isEmpty = b.isEmpty
  | [], _, h => by have h : _ = [] := h; subst h; rfl
  | x :: xs, _, ⟨y, ys, e, _⟩ => by subst e; rfl

/-- What was found here and what there. -/
def FoundR (β : Env) (k : Value) (es' : List MapEntry) (i : Nat) : Option (Nat × Value) → Option (Nat × Value) → Prop
  | none, none => True
  | some (a, v), some (b, v') => a = b ∧ VR β v v' ∧ i ≤ a ∧ ∃ e', es'[a - i]? = some e' ∧ Instr.sameBits 10000 e'.key k = true
  | _, _ => False

theorem FoundR.step {k : Value} {e' : MapEntry} {es' : List MapEntry} {i : Nat} {r r' : Option (Nat × Value)} (h : FoundR β k es' (i + 1) r r') : FoundR β k (e' :: es') i r r' := by
  cases r with
  | none => cases r' with
    | none => trivial
    | some p => exact h.elim
  | some p =>
    cases r' with
    | none => exact h.elim
    | some p' =>
      obtain ⟨a, v⟩ := p
      obtain ⟨b, v'⟩ := p'
      obtain ⟨g1, g2, g3, e2, g4, g5⟩ := h
      refine ⟨g1, g2, by omega, e2, ?_, g5⟩
      have : a - i = (a - (i + 1)) + 1 := by omega
      rw [this]; simpa using g4

theorem findEq_run {kt : TypeId} {k : Value} (w : World) : ∀ {es es' : List MapEntry} {i : Nat} {r : Option (Nat × Value)}, ERL β es es' → findEq P kt k es i = some r →
    ∃ r', (Instr.findAsking kt k es' i).run P w = .ok r' w ∧ FoundR β k es' i r r'
  | [], es', i, r, h, hf => by
    have h : es' = [] := h
    subst h
    simp [findEq] at hf
    subst hf
    exact ⟨none, rfl, trivial⟩
  | e :: es, _, i, r, ⟨e', es', he, hb, hk, hv, hrest⟩, hf => by
    subst he
    simp only [findEq] at hf
    split at hf
    · rename_i hp
      split at hf
      · rename_i hc
        simp only [Bool.and_eq_true] at hc
        have hke := VR.of_flat _ _ hc.1 hk
        simp only [Option.some.injEq] at hf
        subst hf
        refine ⟨some (i, e'.val), ?_, rfl, hv, Nat.le_refl _, e', by simp, by rw [hke]; exact hc.2⟩
        simp [Instr.findAsking, hke, pureRun_run _ _ w hp]
      · cases hf
    · rename_i hp
      split at hf
      · rename_i hc
        have hke := VR.of_flat _ _ hc hk
        obtain ⟨r', h1, h2⟩ := findEq_run w hrest hf
        refine ⟨r', ?_, h2.step⟩
        simp [Instr.findAsking, hke, pureRun_run _ _ w hp, h1]
      · cases hf
    · cases hf

theorem findNow_found {kd : TypeDesc} {k : Value} {es es' : List MapEntry} {i : Nat} {r : Option (Nat × Value)} (h : ERL β es es') (hf : Instr.findNow kd k es i = some r) : ∃ r', Instr.findNow kd k es' i = some r' ∧ FoundR β k es' i r r' := by
  obtain ⟨r', f1, f2⟩ := findNow_rel h hf
  refine ⟨r', f1, ?_⟩
  cases r with
  | none => cases r' with
    | none => trivial
    | some p => exact f2.elim
  | some p =>
    cases r' with
    | none => exact f2.elim
    | some p' =>
      obtain ⟨a, v⟩ := p
      obtain ⟨b, v'⟩ := p'
      obtain ⟨g1, g2, g3, e2, g4, g5⟩ := f2
      exact ⟨g1, g2, g3, e2, g4, sameBits_of_sameNow g5 _⟩

theorem findS_run {b : Bool} {kt : TypeId} {k k' : Value} {es es' : List MapEntry} {r : Option (Nat × Value)} (h : findS P b kt k es = some r) (hk : VR β k k') (hes : ERL β es es') (w : World) :
    k' = k ∧ (Instr.checkKey b 10000 kt k).run P w = .ok () w ∧ ∃ r', (Instr.findKey kt k es').run P w = .ok r' w ∧ FoundR β k es' 0 r r' := by
  unfold findS at h
  split at h
  · rename_i kd hkd
    split at h
    · rename_i hkf
      obtain ⟨r', f1, f2⟩ := findNow_found hes h
      exact ⟨keyFlat_eq hkf hk, checkKey_run hkd b k w, r', findKey_run hkd f1 w, f2⟩
    · cases h
  · split at h
    · rename_i fs hu
      split at h
      · rename_i hfl
        split at h
        · rename_i u hp
          obtain ⟨r', f1, f2⟩ := findEq_run w hes h
          refine ⟨VR.of_flat _ _ hfl hk, pureRun_run _ _ w hp, r', ?_, f2⟩
          cases es' with
          | nil =>
            have : r' = none := by simpa [Instr.findAsking] using f1.symm
            subst this
            simp [Instr.findKey, run_underlying hu, Instr.findNow]
          | cons e1 es1 =>
            have hn : Instr.findNow (.struct fs) k (e1 :: es1) 0 = none := by simp [Instr.findNow, Instr.sameNow]
            simp [Instr.findKey, run_underlying hu, hn, f1]
        · cases h
      · cases h
    · cases h

theorem sound_lookup (hr : Rel P K β st w) {ρ ρ' : Operand → Value} (hρ : ∀ x, VR β (ρ x) (ρ' x)) {o : Oper} {out : Out} {t : TypeId} {x k : Operand} {ok : Bool} (ho : o.op = .lookup t x k ok) (h : evOp P ρ o st = some out) :
    OutR P K β st w ((execOp ρ' o).run P w) out := by
  simp only [evOp, ho] at h
  have hx := hρ x
  split at h
  · rename_i kt e hu
    split at h
    · rename_i z hz
      obtain ⟨i, hi, hzz, hfl⟩ := zeroOfT_spec hz
      split at h
      · rename_i es hes
        -- the entries of the world
        have hes' : ∃ es' : Array MapEntry, ERL β es es'.toList ∧ (Instr.lookup t (ρ' x) (ρ k) ok).run P w =
            ((do
              Instr.checkKey es'.isEmpty 10000 kt (ρ k)
              let (v, ok') ← match ← Instr.findKey kt (ρ k) es'.toList with
                | some (_, v) => pure (v, true)
                | none => pure (← zeroValue e, false)
              pure (if ok then .tuple #[v, .bool ok'] else v) : Sem Value)).run P w := by
          split at hes
          · rename_i hxv
            simp at hes
            subst hes
            rw [hxv] at hx
            have hx : ρ' x = .map none := hx
            exact ⟨#[], rfl, by simp [Instr.lookup, run_underlying hu, hx]; rfl⟩
          · rename_i r hxv
            rw [hxv] at hx
            obtain ⟨l, hl, hx⟩ := hx
            split at hes
            · rename_i es0 c hg
              simp at hes
              subst hes
              obtain ⟨l', es', g1, g2, g3, g4⟩ := hr.get_map hg
              obtain rfl : l' = l := by rw [g1] at hl; exact Option.some.inj hl
              exact ⟨es', g4, by simp [Instr.lookup, run_underlying hu, hx, MapKept.run_getObj_map g3]; rfl⟩
            · cases hes
          · cases hes
        obtain ⟨es', hrl, hrun⟩ := hes'
        have hemp : es'.isEmpty = es.isEmpty := by rw [hrl.isEmpty']; simp
        split at h
        · rename_i j v hf
          obtain rfl := Option.some.inj h
          obtain ⟨hk, hck, r', f1, f2⟩ := findS_run hf (hρ k) hrl w
          rw [← hemp] at hck
          cases r' with
          | none => exact f2.elim
          | some p =>
            obtain ⟨b, v'⟩ := p
            obtain ⟨f3, f4, _⟩ := f2
            refine OutR.same hr (v' := if ok then .tuple #[v', .bool true] else v') ?_ ?_
            · simp only [execOp, ho]
              refine run_v ?_
              rw [hk, hrun]
              simp [hck, f1]
            · split
              · exact ⟨_, rfl, VRL.cons f4 (VRL.cons rfl VRL.nil)⟩
              · exact f4
        · rename_i hf
          obtain rfl := Option.some.inj h
          obtain ⟨hk, hck, r', f1, f2⟩ := findS_run hf (hρ k) hrl w
          rw [← hemp] at hck
          cases r' with
          | some p => exact f2.elim
          | none =>
            refine OutR.same hr (v' := if ok then .tuple #[z, .bool false] else z) ?_ ?_
            · simp only [execOp, ho]
              refine run_v ?_
              rw [hk, hrun]
              simp [hck, f1, run_zeroValue hi hzz]
            · split
              · exact ⟨_, rfl, VRL.cons (VR.flat_refl z hfl) (VRL.cons rfl VRL.nil)⟩
              · exact VR.flat_refl z hfl
        · cases h
      · cases h
    · cases h
  · cases h

theorem ERL.append : ∀ {a b c d : List MapEntry}, ERL β a b → ERL β c d → ERL β (a ++ c) (b ++ d)
  | [], _, _, _, h, k => by have h : _ = [] := h; subst h; exact k
  | x :: xs, _, _, _, ⟨y, ys, e, h1, h2, h3, h4⟩, k => by subst e; exact ⟨y, _, rfl, h1, h2, h3, h4.append k⟩
theorem ERL.modify {k v v' : Value} (hk : VR β k k) (hv : VR β v v') : ∀ {a b : List MapEntry} (i : Nat), ERL β a b → ERL β (a.modify i fun e => { e with key := k, val := v }) (b.modify i fun e => { e with key := k, val := v' })
  | [], _, i, h => by have h : _ = [] := h; subst h; simp [ERL]
  | x :: xs, _, 0, ⟨y, ys, e, h1, h2, h3, h4⟩ => by subst e; exact ⟨_, _, rfl, h1, hk, hv, h4⟩
  | x :: xs, _, i + 1, ⟨y, ys, e, h1, h2, h3, h4⟩ => by subst e; exact ⟨_, _, rfl, h1, h2, h3, h4.modify hk hv i⟩

theorem sound_mapUpdate (hr : Rel P K β st w) {ρ ρ' : Operand → Value} (hρ : ∀ x, VR β (ρ x) (ρ' x)) {o : Oper} {out : Out} {t : TypeId} {m k x : Operand} (ho : o.op = .mapUpdate t m k x ∨ o.op = .insert t m k x) (h : evOp P ρ o st = some out) :
    OutR P K β st w ((execOp ρ' o).run P w) out := by
  have hrun0 : (execOp ρ' o).run P w = (do Instr.mapUpdate t (ρ' m) (ρ' k) (ρ' x); pure Next.skip : Sem Next).run P w := by
    rcases ho with ho | ho <;> simp only [execOp, ho]
  rw [hrun0]
  have h0 : (mapPut P st t (ρ m) (ρ k) (ρ x)).map Out.skip = some out := by
    rcases ho with ho | ho <;> simpa only [evOp, ho] using h
  clear h
  cases h' : mapPut P st t (ρ m) (ρ k) (ρ x) with
  | none => simp [h'] at h0
  | some st' =>
  simp only [h'] at h0
  obtain rfl := Option.some.inj h0
  unfold mapPut at h'
  have hm := hρ m
  split at h'
  · rename_i kt e r hu hmv
    split at h'
    · rename_i es clock hg
      obtain ⟨l, es', g1, g2, g3, g4⟩ := hr.get_map hg
      rw [hmv] at hm
      obtain ⟨l', hl', hm⟩ := hm
      obtain rfl : l' = l := by rw [g1] at hl'; exact (Option.some.inj hl').symm
      split at h'
      · rename_i i v hf
        simp only [mapSet, if_true] at h'
        obtain rfl := Option.some.inj h'
        obtain ⟨hk, hck, r', f1, f2⟩ := findS_run hf (hρ k) g4 w
        have hkk : VR β (ρ k) (ρ k) := by have := hρ k; rwa [hk] at this
        cases r' with
        | none => exact f2.elim
        | some p =>
          obtain ⟨b, v'⟩ := p
          obtain ⟨rfl, f4, _, e', f5, f6⟩ := f2
          have hb : BlkR P β l' (.map (es.modify i fun e => { e with key := ρ k, val := ρ x }) clock) (some (.map (es'.modify i fun e => { e with key := ρ k, val := ρ' x }) clock)) :=
            ⟨hr.map_virt hg g1, _, rfl, by simpa using g4.modify hkk (hρ x) i⟩
          obtain ⟨q1, q2⟩ := hr.putObj hg rfl g1 hb
          refine ⟨β, _, ?_, Env.le.refl _, q1, q2⟩
          refine run_u ?_
          have hold : ((es'[i]?).map (·.key)).getD (ρ k) = e'.key := by
            have : es'[i]? = some e' := by simpa using f5
            simp [this]
          simp [Instr.mapUpdate, run_underlying hu, hm, MapKept.run_getObj_map g3, hk, hck, f1, hold, Instr.keyThatStays, f6, MapKept.run_setObj_map _ g3]
      · rename_i hf
        simp only [mapSet, Bool.false_eq_true, if_false] at h'
        obtain rfl := Option.some.inj h'
        obtain ⟨hk, hck, r', f1, f2⟩ := findS_run hf (hρ k) g4 w
        have hkk : VR β (ρ k) (ρ k) := by have := hρ k; rwa [hk] at this
        cases r' with
        | some p => exact f2.elim
        | none =>
          have hb : BlkR P β l' (.map (es ++ [{ key := ρ k, val := ρ x, born := clock }]) (clock + 1)) (some (.map (es'.push { key := ρ k, val := ρ' x, born := clock }) (clock + 1))) :=
            ⟨hr.map_virt hg g1, _, rfl, by simpa using g4.append (c := [⟨ρ k, ρ x, clock⟩]) (d := [⟨ρ k, ρ' x, clock⟩]) ⟨_, _, rfl, rfl, hkk, hρ x, rfl⟩⟩
          obtain ⟨q1, q2⟩ := hr.putObj hg rfl g1 hb
          refine ⟨β, _, ?_, Env.le.refl _, q1, q2⟩
          refine run_u ?_
          simp [Instr.mapUpdate, run_underlying hu, hm, MapKept.run_getObj_map g3, hk, hck, f1, MapKept.run_setObj_map _ g3]
      · cases h'
    · cases h'
  · cases h'

theorem ERL.modifyKey {k : Value} (hk : VR β k k) : ∀ {a b : List MapEntry} (i : Nat), ERL β a b → ERL β (a.modify i fun e => { e with key := k }) (b.modify i fun e => { e with key := k })
  | [], _, i, h => by have h : _ = [] := h; subst h; simp [ERL]
  | x :: xs, _, 0, ⟨y, ys, e, h1, h2, h3, h4⟩ => by subst e; exact ⟨_, _, rfl, h1, hk, h3, h4⟩
  | x :: xs, _, i + 1, ⟨y, ys, e, h1, h2, h3, h4⟩ => by subst e; exact ⟨_, _, rfl, h1, h2, h3, h4.modifyKey hk i⟩
theorem ERL.modifyVal {v v' : Value} (hv : VR β v v') : ∀ {a b : List MapEntry} (i : Nat), ERL β a b → ERL β (a.modify i fun e => { e with val := v }) (b.modify i fun e => { e with val := v' })
  | [], _, i, h => by have h : _ = [] := h; subst h; simp [ERL]
  | x :: xs, _, 0, ⟨y, ys, e, h1, h2, h3, h4⟩ => by subst e; exact ⟨_, _, rfl, h1, h2, hv, h4⟩
  | x :: xs, _, i + 1, ⟨y, ys, e, h1, h2, h3, h4⟩ => by subst e; exact ⟨_, _, rfl, h1, h2, h3, h4.modifyVal hv i⟩
theorem ERL.born : ∀ {a b : List MapEntry} (i : Nat), ERL β a b → (a[i]?).map (·.born) = (b[i]?).map (·.born)
  | [], _, i, h => by have h : _ = [] := h; subst h; simp
  | x :: xs, _, 0, ⟨y, ys, e, h1, h2, h3, h4⟩ => by subst e; simp [h1]
  | x :: xs, _, i + 1, ⟨y, ys, e, h1, h2, h3, h4⟩ => by subst e; simpa using h4.born i
theorem ERL.findIdx (p : Nat → Bool) : ∀ {a b : List MapEntry}, ERL β a b → a.findIdx? (fun e => p e.born) = b.findIdx? (fun e => p e.born)
  | [], _, h => by have h : _ = [] := h; subst h; rfl
  | x :: xs, _, ⟨y, ys, e, h1, h2, h3, h4⟩ => by subst e; simp only [List.findIdx?_cons, h1, ERL.findIdx p h4]

theorem sound_mapEntry (hr : Rel P K β st w) {ρ ρ' : Operand → Value} (hρ : ∀ x, VR β (ρ x) (ρ' x)) {o : Oper} {out : Out} {t : TypeId} {m k : Operand} (ho : o.op = .mapEntry t m k) (h : evOp P ρ o st = some out) :
    OutR P K β st w ((execOp ρ' o).run P w) out := by
  simp only [evOp, ho] at h
  have hm := hρ m
  split at h
  · rename_i kt e r hu hmv
    split at h
    · rename_i es clock z hg hz
      obtain ⟨ii, hi, hzz, hfl⟩ := zeroOfT_spec hz
      obtain ⟨l, es', g1, g2, g3, g4⟩ := hr.get_map hg
      rw [hmv] at hm
      obtain ⟨l', hl', hm⟩ := hm
      obtain rfl : l' = l := by rw [g1] at hl'; exact (Option.some.inj hl').symm
      split at h
      · rename_i i v hf
        obtain rfl := Option.some.inj h
        obtain ⟨hk, hck, r', f1, f2⟩ := findS_run hf (hρ k) g4 w
        have hkk : VR β (ρ k) (ρ k) := by have := hρ k; rwa [hk] at this
        cases r' with
        | none => exact f2.elim
        | some p =>
          obtain ⟨b, v'⟩ := p
          obtain ⟨rfl, f4, _, e', f5, f6⟩ := f2
          have hb : BlkR P β l' (.map (es.modify i fun e => { e with key := ρ k }) clock) (some (.map (es'.modify i fun e => { e with key := ρ k }) clock)) :=
            ⟨hr.map_virt hg g1, _, rfl, by simpa using g4.modifyKey hkk i⟩
          obtain ⟨q1, q2⟩ := hr.putObj hg rfl g1 hb
          have hold : es'[i]? = some e' := by simpa using f5
          obtain ⟨e0, he0, hb0⟩ : ∃ e0, es[i]? = some e0 ∧ e0.born = e'.born := by
            have := g4.born i
            simp only [Array.getElem?_toList, hold] at this
            cases he : es[i]? with
            | none => rw [he] at this; cases this
            | some e0 => rw [he] at this; exact ⟨e0, rfl, by simpa using this⟩
          refine ⟨β, _, .tuple #[v', .int .i64 (e'.born : Int)], ?_, Env.le.refl _, q1, ?_, q2⟩
          · simp only [execOp, ho]
            refine run_v ?_
            simp [Instr.mapEntry, run_underlying hu, hm, MapKept.run_getObj_map g3, hk, hck, f1, hold, Instr.keyThatStays, f6, MapKept.run_setObj_map _ g3, goInt]
          · refine ⟨_, rfl, VRL.cons f4 (VRL.cons ?_ VRL.nil)⟩
            rw [he0]
            simp [hb0, VR]
      · rename_i hf
        obtain rfl := Option.some.inj h
        obtain ⟨hk, hck, r', f1, f2⟩ := findS_run hf (hρ k) g4 w
        have hkk : VR β (ρ k) (ρ k) := by have := hρ k; rwa [hk] at this
        cases r' with
        | some p => exact f2.elim
        | none =>
          have hb : BlkR P β l' (.map (es ++ [{ key := ρ k, val := z, born := clock }]) (clock + 1)) (some (.map (es'.push { key := ρ k, val := z, born := clock }) (clock + 1))) :=
            ⟨hr.map_virt hg g1, _, rfl, by simpa using g4.append (c := [⟨ρ k, z, clock⟩]) (d := [⟨ρ k, z, clock⟩]) ⟨_, _, rfl, rfl, hkk, VR.flat_refl z hfl, rfl⟩⟩
          obtain ⟨q1, q2⟩ := hr.putObj hg rfl g1 hb
          refine ⟨β, _, .tuple #[z, .int .i64 clock], ?_, Env.le.refl _, q1, ⟨_, rfl, VRL.cons (VR.flat_refl z hfl) (VRL.cons rfl VRL.nil)⟩, q2⟩
          simp only [execOp, ho]
          refine run_v ?_
          simp [Instr.mapEntry, run_underlying hu, hm, MapKept.run_getObj_map g3, hk, hck, f1, MapKept.run_setObj_map _ g3, run_zeroValue hi hzz, goInt]
      · cases h
    · cases h
  · cases h

theorem sound_entryStore (hr : Rel P K β st w) {ρ ρ' : Operand → Value} (hρ : ∀ x, VR β (ρ x) (ρ' x)) {o : Oper} {out : Out} {t : TypeId} {m s x : Operand} (ho : o.op = .entryStore t m s x) (h : evOp P ρ o st = some out) :
    OutR P K β st w ((execOp ρ' o).run P w) out := by
  simp only [evOp, ho] at h
  have hm := hρ m
  have hs := hρ s
  split at h
  · rename_i r kk born hmv hsv
    rw [hmv] at hm
    rw [hsv] at hs
    have hs : ρ' s = .int kk born := hs
    split at h
    · rename_i es clock hg
      obtain ⟨l, es', g1, g2, g3, g4⟩ := hr.get_map hg
      obtain ⟨l', hl', hm⟩ := hm
      obtain rfl : l' = l := by rw [g1] at hl'; exact (Option.some.inj hl').symm
      split at h
      · rename_i i hf
        obtain rfl := Option.some.inj h
        have hf' : es'.findIdx? (fun e => (e.born : Int) == born) = some i := by
          rw [← hf]
          have := (g4.findIdx (fun n => (n : Int) == born))
          rw [this]
          obtain ⟨l0⟩ := es'
          exact List.findIdx?_toArray _ _
        have hb : BlkR P β l' (.map (es.modify i fun e => { e with val := ρ x }) clock) (some (.map (es'.modify i fun e => { e with val := ρ' x }) clock)) :=
          ⟨hr.map_virt hg g1, _, rfl, by simpa using g4.modifyVal (hρ x) i⟩
        obtain ⟨q1, q2⟩ := hr.putObj hg rfl g1 hb
        refine ⟨β, _, ?_, Env.le.refl _, q1, q2⟩
        simp only [execOp, ho]
        refine run_u ?_
        simp [Instr.entryStore, hm, hs, asInt, asIntOf, MapKept.run_getObj_map g3, hf', MapKept.run_setObj_map _ g3]
      · cases h
    · cases h
  · cases h

end
end Go.VS
