/- Loops that are known: what their rounds come to, one after the other. No conditions. -/
import Derived.Test.YtbdeppefllcocaaVsCanon2
namespace Go.VS
set_option linter.unusedSimpArgs false
set_option linter.unusedVariables false
open Go.RowKit
section
variable {P : Program} {ct : Ct}

/-- 'Reaches', but numbers from N on may come to stand for something else. -/
def ReachN (N : Nat) (P : Program) (K : Prot) (β : Env) (fr : Frame) (cs : List Frame) (w : World) (e : Ex) (k : List Item) (f' : Fr) (st' : St) : Prop :=
  ∃ β' fr' w', Steps P (lone fr cs w) (lone fr' cs w') ∧ leN N β β' ∧ Rel P K β' st' w' ∧ Bel K w w' ∧ FrR β' f' fr' ∧ fr'.kind = fr.kind ∧ fr'.fn = fr.fn ∧ fr'.roundOf = fr.roundOf ∧ TodoR e k fr'.todo

noncomputable def Head.fr (H : Head) (vs : List Value) : Fr := { slots := mkS H.nt H.L vs, ntmps := H.nt, defers := [] }

/-- From a loop's head, with these values and blocks, it comes to its end so. -/
def LR (P : Program) (fid id : Nat) (B : Code) (H : Head) (vs : List Value) (bs : List Blk) (e : Ex) (vs' : List Value) (bs' : List Blk) : Prop :=
  ∀ (K : Prot) (β : Env) (w : World) (fr : Frame) (cs : List Frame) (k : List Item), (∀ i, K.id i → i < H.N) → fr.todo = .code B :: .inLoop B :: .inBlock id :: k → fr.fn = fid → FrR β (H.fr vs) fr → Rel P K β (mkSt bs) w →
    ReachN H.N P K β fr cs w e k (H.fr vs') (mkSt bs')

def exV : Ex → Value
  | .normal => .int .i64 0
  | .exit id => .int .i64 (Int.ofNat id + 1)
  | .ret => .int .i64 (-1)
theorem exV_inj : ∀ {a b : Ex}, exV a = exV b → a = b
  | .normal, .normal, _ => rfl
  | .ret, .ret, _ => rfl
  | .exit i, .exit j, h => by simp [exV] at h; cases h; rfl
  | .normal, .exit j, h => by simp [exV] at h; omega
  | .exit j, .normal, h => by simp [exV] at h; omega
  | .ret, .exit j, h => by simp [exV] at h; omega
  | .exit j, .ret, h => by simp [exV] at h; omega
  | .normal, .ret, h => by simp [exV] at h
  | .ret, .normal, h => by simp [exV] at h

/-- The end of a round. -/
noncomputable def kontL (H : Head) : Ex → Trie Value → List Deferred → St → Res := fun e s d st => match d with
  | [] => match canonO H s st with
    | some r => some (.tuple ⟨exV e :: r.1⟩, mkSt r.2)
    | none => none
  | _ => none

/-- One round, by the evaluator. -/
noncomputable def roundQ (P : Program) (E : Eng) (ct : Ct) (n : Nat) (fid : Nat) (B : Code) (H : Head) (vs : List Value) (bs : List Blk) : Res :=
  codeQ P E ct n (knotQ P E ct n n) fid H.nt none B (mkS H.nt H.L vs) [] (mkSt bs) (kontL H)

def okL (H : Head) : Bool := H.L.all fun t => Nat.ble (t + 1) H.nt

theorem round_reach {E : Eng} (hE : EngOk P ct E) (hN : noNum P = true) (hct : CtOk P ct) {n fid id : Nat} {B : Code} {H : Head} (hocc : Occ P fid (.block id (.loop B))) (hL : okL H = true) {vs vs1 : List Value} {bs bs1 : List Blk} {e : Ex}
    (h : roundQ P E ct n fid B H vs bs = some (.tuple ⟨exV e :: vs1⟩, mkSt bs1)) (K : Prot) (β : Env) (w : World) (fr : Frame) (cs : List Frame) (k : List Item) (hid : ∀ i, K.id i → i < H.N) (ht : fr.todo = .code B :: k) (hfid : fr.fn = fid) (hf : FrR β (H.fr vs) fr) (hr : Rel P K β (mkSt bs) w) :
    ReachN H.N P K β fr cs w e k (H.fr vs1) (mkSt bs1) := by
  unfold roundQ at h
  obtain ⟨m, e1, s1, d1, st1, h1, h2⟩ := codeQ_ok hE (knotQ_ok hE n n) n fid H.nt none B _ _ _ _ _ h
  unfold kontL at h2
  split at h2
  · split at h2
    · rename_i r hc
      obtain ⟨vs2, bs2⟩ := r
      simp only [Option.some.injEq, Prod.mk.injEq, Value.tuple.injEq, Array.mk.injEq, List.cons.injEq] at h2
      obtain ⟨⟨he, rfl⟩, hst⟩ := h2
      obtain rfl := exV_inj he
      obtain ⟨β1, fr1, w1, a1, a2, a3, a4, a5, a6, a7, a8, a9⟩ := (sound_all hN hct m K).code fid B _ _ _ _ _ h1 (hocc.sub (.block (.loop (.refl _)))) β w fr cs k ht hfid hf hr
      obtain ⟨β2, b1, b2, b3⟩ := canon_rel hc a3 a5.slots hid (fun t ht => by
        unfold okL at hL
        exact Nat.le_of_ble_eq_true (List.all_eq_true.1 hL t ht))
      exact ⟨β2, fr1, w1, a1, (a2.leN _).trans b1, by rw [← hst]; exact b2, a4, ⟨b3, by have := a5.defers; unfold DefsR at this; rw [this]; rfl, by have := a5.round; exact this, a5.mode⟩, a6, a7, a8, a9⟩
    · cases h2
  · cases h2

theorem TodoR.under {e : Ex} {x : Item} {k t : List Item} (he : e ≠ .normal) (hx : ∀ i, x ≠ .inBlock i) (h : TodoR e (x :: k) t) : TodoR e k t := by
  cases e with
  | normal => exact absurd rfl he
  | exit id => obtain ⟨k2, h1, h2⟩ := h; exact ⟨k2, h1, by rw [h2, exitTo_skip hx]⟩
  | ret => exact h

theorem LR.again {E : Eng} (hE : EngOk P ct E) (hN : noNum P = true) (hct : CtOk P ct) {n fid id : Nat} {B : Code} {H : Head} (hocc : Occ P fid (.block id (.loop B))) (hL : okL H = true) {vs vs1 vs' : List Value} {bs bs1 bs' : List Blk} {e : Ex}
    (h : roundQ P E ct n fid B H vs bs = some (.tuple ⟨exV .normal :: vs1⟩, mkSt bs1)) (hl : LR P fid id B H vs1 bs1 e vs' bs') : LR P fid id B H vs bs e vs' bs' := by
  intro K β w fr cs k hid ht hfid hf hr
  obtain ⟨β1, fr1, w1, a1, a2, a3, a4, a5, a6, a7, a8, a9⟩ := round_reach hE hN hct hocc hL h K β w fr cs _ hid ht hfid hf hr
  have a9 : fr1.todo = .inLoop B :: .inBlock id :: k := a9
  have hs := s_inLoop (P := P) (cs := cs) (w := w1) a5.mode a9
  obtain ⟨β2, fr2, w2, b1, b2, b3, b4, b5, b6, b7, b8, b9⟩ := hl K β1 w1 { fr1 with todo := .code B :: .inLoop B :: .inBlock id :: k } cs k hid rfl (a7.trans hfid) ⟨a5.slots, a5.defers, a5.round, a5.mode⟩ a3
  exact ⟨β2, fr2, w2, a1.trans (.head hs b1), a2.trans b2, b3, a4.trans b4, b5, b6.trans a6, b7.trans a7, b8.trans a8, b9⟩

/-- How a round that ended so ends the loop. -/
def exitE (id : Nat) : Ex → Ex
  | .exit i => match Nat.beq i id with
    | true => .normal
    | false => .exit i
  | e => e

theorem LR.stop {E : Eng} (hE : EngOk P ct E) (hN : noNum P = true) (hct : CtOk P ct) {n fid id : Nat} {B : Code} {H : Head} (hocc : Occ P fid (.block id (.loop B))) (hL : okL H = true) {vs vs1 : List Value} {bs bs1 : List Blk} {e : Ex}
    (h : roundQ P E ct n fid B H vs bs = some (.tuple ⟨exV e :: vs1⟩, mkSt bs1)) (he : e ≠ .normal) : LR P fid id B H vs bs (exitE id e) vs1 bs1 := by
  intro K β w fr cs k hid ht hfid hf hr
  obtain ⟨β1, fr1, w1, a1, a2, a3, a4, a5, a6, a7, a8, a9⟩ := round_reach hE hN hct hocc hL h K β w fr cs _ hid ht hfid hf hr
  have a9 := a9.under he (fun i e => by cases e)
  cases e with
  | normal => exact absurd rfl he
  | ret => exact ⟨β1, fr1, w1, a1, a2, a3, a4, a5, a6, a7, a8, a9⟩
  | exit i =>
    obtain ⟨k2, h1, h2⟩ := a9
    cases hb : Nat.beq i id with
    | true =>
      have hx2 : exitE id (.exit i) = .normal := by simp only [exitE, hb]
      rw [hx2]
      have := Nat.eq_of_beq_eq_true hb
      subst this
      have hx : exitTo i k2 = some k := by rw [h2]; simp [exitTo]
      exact ⟨β1, { fr1 with todo := k }, w1, a1.trans (.one (s_exit a5.mode h1 hx)), a2, a3, a4, a5.todo k, a6, a7, a8, rfl⟩
    | false =>
      have hx2 : exitE id (.exit i) = .exit i := by simp only [exitE, hb]
      rw [hx2]
      have := Nat.ne_of_beq_eq_false hb
      refine ⟨β1, fr1, w1, a1, a2, a3, a4, a5, a6, a7, a8, k2, h1, ?_⟩
      rw [h2]
      have : (id == i) = false := by simp; exact fun ee => this ee.symm
      simp [exitTo, this]

def DT.map {α γ : Type} (f : α → γ) : DT α → DT γ
  | .fail => .fail
  | .leaf a => .leaf (f a)
  | .ite b x y => .ite b (x.map f) (y.map f)
theorem DT.map_eval {α γ : Type} {f : α → γ} : ∀ {t : DT α} {c : γ}, (t.map f).eval = some c → ∃ a, t.eval = some a ∧ c = f a
  | .fail, _, h => by cases h
  | .leaf a, c, h => ⟨a, rfl, (Option.some.inj h).symm⟩
  | .ite true x y, c, h => DT.map_eval (t := x) h
  | .ite false x y, c, h => DT.map_eval (t := y) h

abbrev LoopFn := List Value → List Blk → Option (DT (Ex × List Value × List Blk))

noncomputable def loopCt (H : Head) (R : LoopFn) (f : Fr) (st : St) : Option (DT (Ex × Trie Value × St)) :=
  match f.defers, f.roundOf, and (Nat.beq f.ntmps H.nt) (Nat.beq st.next H.N) with
  | [], none, true => match canonO H f.slots st with
    | some r => match R r.1 r.2 with
      | some t => some (t.map fun x => (x.1, mkS H.nt H.L x.2.1, mkSt x.2.2))
      | none => none
    | none => none
  | _, _, _ => none

/-- What is known of a loop. -/
structure LoopOk (P : Program) (fid id : Nat) (B : Code) (H : Head) (R : LoopFn) : Prop where
  occ : ∀ c, Occ P fid (.block id c) → c = .loop B
  ok : okL H = true
  run : ∀ vs bs t, R vs bs = some t → ∀ e vs' bs', t.eval = some (e, vs', bs') → LR P fid id B H vs bs e vs' bs'

noncomputable def addLoop (fid id : Nat) (H : Head) (R : LoopFn) (ct : Ct) : Ct where
  call := ct.call
  loop := fun fid' id' f st => match and (Nat.beq fid' fid) (Nat.beq id' id) with
    | true => loopCt H R f st
    | false => ct.loop fid' id' f st

theorem addLoop_ok {fid id : Nat} {B : Code} {H : Head} {R : LoopFn} (hct : CtOk P ct) (h : LoopOk P fid id B H R) : CtOk P (addLoop fid id H R ct) where
  call := hct.call
  loop := by
    intro K fid' id' c f st e s' st' hl hocc β w fr cs k ht hfid hf hr
    simp only [addLoop] at hl
    split at hl
    · rename_i hb
      simp only [Bool.and_eq_true] at hb
      obtain rfl := Nat.eq_of_beq_eq_true hb.1
      obtain rfl := Nat.eq_of_beq_eq_true hb.2
      obtain rfl := h.occ c hocc
      unfold loopCt at hl
      split at hl
      · rename_i hd hro hb2
        simp only [Bool.and_eq_true] at hb2
        have hnt := Nat.eq_of_beq_eq_true hb2.1
        have hnx := Nat.eq_of_beq_eq_true hb2.2
        split at hl
        · rename_i r hc
          obtain ⟨vs, bs⟩ := r
          split at hl
          · rename_i t hR
            simp only [Option.bind_some] at hl
            obtain ⟨⟨e1, vs1, bs1⟩, hev, heq⟩ := DT.map_eval hl
            simp only [Prod.mk.injEq] at heq
            obtain ⟨rfl, rfl, rfl⟩ := heq
            have hid : ∀ i, K.id i → i < H.N := fun i hi => by rw [← hnx]; exact (hr.res i hi).1
            have hL : ∀ t ∈ H.L, t < H.nt := fun t ht => by
              have := h.ok
              unfold okL at this
              exact Nat.le_of_ble_eq_true (List.all_eq_true.1 this t ht)
            obtain ⟨β0, b1, b2, b3⟩ := canon_rel hc hr (by rw [← hnt]; exact hf.slots) hid hL
            have s1 := s_block (P := P) (cs := cs) (w := w) hf.mode ht
            have s2 := s_loop (P := P) (fr := { fr with todo := .code (.loop B) :: .inBlock id' :: k }) (cs := cs) (w := w) hf.mode rfl
            have hdf : fr.defers = [] := by have := hf.defers; rw [hd] at this; exact this
            have hrf : fr.roundOf = none := by have := hf.round; rw [hro] at this; exact this
            obtain ⟨β1, fr1, w1, a1, a2, a3, a4, a5, a6, a7, a8, a9⟩ := h.run vs bs t hR _ _ _ hev K β0 w { fr with todo := .code B :: .inLoop B :: .inBlock id' :: k } cs k hid rfl hfid ⟨b3, hdf, hrf, hf.mode⟩ b2
            refine ⟨β1, fr1, w1, .head s1 (.head s2 a1), fun i l hi => ?_, a3, a4, ?_, a6, a7, a8, a9⟩
            · refine (b1.trans a2) i l ?_ hi
              cases i with
              | negSucc i => omega
              | ofNat i =>
                have := (hr.dom i l hi).1
                rw [hnx] at this
                simpa using this
            · have : ({ f with slots := mkS H.nt H.L vs1 } : Fr) = H.fr vs1 := by
                unfold Head.fr
                cases f
                simp only at hd hro hnt
                subst hd hro hnt
                rfl
              rw [this]; exact a5
          · cases hl
        · cases hl
      · cases hl
    · exact hct.loop K fid' id' c f st e s' st' hl hocc β w fr cs k ht hfid hf hr

/-! ### where a loop lies -/
noncomputable def blocksOf (id : Nat) (c : Code) : List Code :=
  @Code.rec (fun _ => List Code) [] (fun _ _ _ => []) (fun _ _ iha ihb => iha ++ ihb) (fun _ _ _ iha ihb => iha ++ ihb)
    (fun i c ih => @Bool.rec (fun _ => List Code) ih (c :: ih) (Nat.beq i id)) (fun _ ih => ih) (fun _ _ _ _ iha ihb => iha ++ ihb) (fun _ => []) (fun _ ih => ih) (fun _ => []) (fun _ => []) [] (fun _ => []) c

theorem mem_blocksOf {id : Nat} {c x : Code} (h : Sub (.block id c) x) : c ∈ blocksOf id x := by
  generalize he : Code.block id c = y at h
  induction h with
  | refl =>
    subst he
    show c ∈ @Bool.rec (fun _ => List Code) (blocksOf id c) (c :: blocksOf id c) (Nat.beq id id)
    rw [Nat.beq_refl]; exact List.mem_cons_self
  | seql _ ih => exact List.mem_append_left _ ih
  | seqr _ ih => exact List.mem_append_right _ ih
  | condl _ ih => exact List.mem_append_left _ ih
  | condr _ ih => exact List.mem_append_right _ ih
  | rangel _ ih => exact List.mem_append_left _ ih
  | ranger _ ih => exact List.mem_append_right _ ih
  | loop _ ih => exact ih
  | scope _ ih => exact ih
  | @block i a _ ih =>
    show c ∈ @Bool.rec (fun _ => List Code) (blocksOf id a) (a :: blocksOf id a) (Nat.beq i id)
    cases Nat.beq i id with
    | true => exact List.mem_cons_of_mem _ ih
    | false => exact ih

/-- The code of a function's loop. -/
noncomputable def loopAt (P : Program) (fid id : Nat) : Option Code := match bodyOf P fid with
  | some fb => match blocksOf id fb.2 with
    | [.loop B] => some B
    | _ => none
  | none => none

theorem bodyOf_spec {fid : Nat} {fb : Func × Code} (h : bodyOf P fid = some fb) : P.funcs[fid]? = some fb.1 ∧ fb.1.body = some fb.2 := by
  unfold bodyOf at h
  rw [funcsT_eq] at h
  split at h
  · rename_i fn hfn
    split at h
    · rename_i c hcb
      obtain rfl := Option.some.inj h
      exact ⟨hfn, hcb⟩
    · cases h
  · cases h

theorem loopAt_occ {fid id : Nat} {B : Code} (h : loopAt P fid id = some B) : ∀ c, Occ P fid (.block id c) → c = .loop B := by
  rintro c ⟨fn, body, h1, h2, h3⟩
  unfold loopAt at h
  split at h
  · rename_i fb hfb
    obtain ⟨g1, g2⟩ := bodyOf_spec hfb
    rw [g1] at h1
    obtain rfl := Option.some.inj h1
    rw [g2] at h2
    obtain rfl := Option.some.inj h2
    have hm := mem_blocksOf h3
    split at h
    · rename_i B' hb
      obtain rfl := Option.some.inj h
      rw [hb] at hm
      simpa using hm
    · cases h
  · cases h

theorem blocksOf_sub {id : Nat} {c : Code} : ∀ {x : Code}, c ∈ blocksOf id x → Sub (.block id c) x
  | .skip, h => by cases h
  | .region _ _ _, h => by cases h
  | .exit _, h => by cases h
  | .label _, h => by cases h
  | .goto _, h => by cases h
  | .ret, h => by cases h
  | .refuse _, h => by cases h
  | .seq a b, h => by
    have h : c ∈ blocksOf id a ++ blocksOf id b := h
    rcases List.mem_append.1 h with h | h
    · exact .seql (blocksOf_sub h)
    · exact .seqr (blocksOf_sub h)
  | .cond o a b, h => by
    have h : c ∈ blocksOf id a ++ blocksOf id b := h
    rcases List.mem_append.1 h with h | h
    · exact .condl (blocksOf_sub h)
    · exact .condr (blocksOf_sub h)
  | .rangeFunc g ps a b, h => by
    have h : c ∈ blocksOf id a ++ blocksOf id b := h
    rcases List.mem_append.1 h with h | h
    · exact .rangel (blocksOf_sub h)
    · exact .ranger (blocksOf_sub h)
  | .loop a, h => .loop (blocksOf_sub (x := a) h)
  | .scope a, h => .scope (blocksOf_sub (x := a) h)
  | .block i a, h => by
    have h : c ∈ @Bool.rec (fun _ => List Code) (blocksOf id a) (a :: blocksOf id a) (Nat.beq i id) := h
    cases hb : Nat.beq i id with
    | true =>
      rw [hb] at h
      have := Nat.eq_of_beq_eq_true hb
      subst this
      rcases List.mem_cons.1 h with rfl | h
      · exact .refl _
      · exact .block (blocksOf_sub h)
    | false => rw [hb] at h; exact .block (blocksOf_sub h)

theorem loopAt_has {fid id : Nat} {B : Code} (h : loopAt P fid id = some B) : Occ P fid (.block id (.loop B)) := by
  unfold loopAt at h
  split at h
  · rename_i fb hfb
    obtain ⟨g1, g2⟩ := bodyOf_spec hfb
    split at h
    · rename_i B' hb
      obtain rfl := Option.some.inj h
      exact ⟨_, _, g1, g2, blocksOf_sub (by rw [hb]; simp)⟩
    · cases h
  · cases h
end
end Go.VS
