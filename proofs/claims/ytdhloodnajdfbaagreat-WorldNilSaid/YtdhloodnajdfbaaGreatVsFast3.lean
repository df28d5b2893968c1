/- The quicker evaluator's calls are the plain one's. No conditions. -/
import Derived.Test.YtdhloodnajdfbaaGreatVsFast2
namespace Go.VS
set_option linter.unusedSimpArgs false
set_option linter.unusedVariables false
section
variable {P : Program} {ct : Ct}
variable {call : CallK} {s : Trie Value} {o : Oper} {st : St} {kv : Value → St → Res} {kd : Deferred → St → Res} {r : Value × St}

theorem compC_spec {c : Call} {dst : Option Tmp} {type : TypeId} {pos : String} {after : Array Edge} {guard : Option (Nat × Bool)} (h : (compC P ⟨dst, .call c, type, pos, after, guard⟩ c).run call s st kv kd = some r) :
    Hands call kv kd (evOp P (rdF s) ⟨dst, .call c, type, pos, after, guard⟩ st) r := by
  obtain ⟨callee, args, argTypes⟩ := c
  unfold compC at h
  simp only at h
  split at h
  · rename_i g
    split at h
    · rename_i hb
      simp only [evOp]
      have h1 : rdF s (.func g) = .func (.func g) #[] #[] := rfl
      simp only [h1]
      have h2 : invokeV P (.fn (.func g) #[]) ((#[] : Array Value).toList ++ args.toList.map (rdF s)) st = some (.enter g (args.toList.map (rdF s)) st) := by
        simp only [invokeV]
        rw [hasBody_callF hb]; simp
      rw [h2, ← mapF_eq]
      exact h
    · exact slowOp_spec h
  · split at h
    · rename_i x ha
      split at h
      · rename_i hl
        simp only [q_len1] at h
        unfold lenK at hl
        simp only [undQ_eq] at hl
        split at h
        · rename_i a n c hx
          split at hl
          · rename_i t ht
            split at hl
            · rename_i e hu
              simp only [evOp, ha, List.map_cons, List.map_nil, hx, builtinS, ht, hu]
              exact h
            · cases hl
            · cases hl
          · cases hl
        · exact slowOp_spec h
      · rename_i hl
        simp only [q_len2] at h
        unfold lenK at hl
        simp only [undQ_eq] at hl
        split at h
        · rename_i b hx
          split at hl
          · rename_i t ht
            split at hl
            · cases hl
            · rename_i hu
              simp only [evOp, ha, List.map_cons, List.map_nil, hx, builtinS, ht, hu]
              exact h
            · cases hl
          · cases hl
        · exact slowOp_spec h
      · exact slowOp_spec h
    · exact slowOp_spec h
  · exact slowOp_spec h

theorem opF_spec (h : (compO P o).run call s st kv kd = some r) : Hands call kv kd (evOp P (rdF s) o st) r := by
  obtain ⟨dst, op, type, pos, after, guard⟩ := o
  unfold compO at h
  simp only at h
  split at h
  · exact h
  · exact h
  · rename_i c a b
    simp only [q_pick] at h
    split at h
    · rename_i t ht
      simp only [evOp, ht]
      cases t <;> exact h
    · cases h
  · rename_i e
    unfold zeroC at h
    rw [zeroQ_eq] at h
    simp only [evOp]
    cases hz : zeroOfT P e with
    | none => rw [hz] at h; cases h
    | some z =>
      rw [hz] at h
      exact newF_spec (st := st) (b := .cells z.cells.toList e true) (k := fun a st => kv (.pointer (some a)) st) h
  · rename_i e x
    simp only [q_box] at h
    split at h
    · rename_i cs hx
      simp only [evOp, hx]
      exact newF_spec h
    · exact slowOp_spec h
    · rename_i v hna hnc
      have hv : isAny (rdF s x) = false ∧ (rdF s x).cells.toList = [rdF s x] := by
        cases hv : rdF s x with
        | agg cs => exact absurd hv (hna _)
        | chan q => cases q with
          | none => exact ⟨rfl, rfl⟩
          | some q => exact absurd hv (hnc _)
        | _ => exact ⟨rfl, rfl⟩
      simp only [evOp]
      rw [hv.1, hv.2]
      exact newF_spec h
  · rename_i t x
    have go : ∀ v a, rdF s x = .pointer (some a) → loadV P st t a = some v → kv v st = some r → Hands call kv kd (evOp P (rdF s) ⟨dst, .load t x, type, pos, after, guard⟩ st) r := by
      intro v a hx hv hk
      simp only [evOp, hx, hv]
      exact hk
    split at h
    · cases h
    · rename_i hk
      simp only [q_load1] at h
      split at h
      · rename_i a hx
        obtain ⟨v, h1, h2⟩ := loadF_spec (P := P) (t := t) (k := fun v => kv v st) (a := a) (st := st) (r := r) (by unfold loadF; rw [hk]; exact h)
        exact go v a hx h1 h2
      · cases h
    · rename_i n hk
      simp only [q_loadN] at h
      split at h
      · rename_i a hx
        obtain ⟨v, h1, h2⟩ := loadF_spec (P := P) (t := t) (k := fun v => kv v st) (a := a) (st := st) (r := r) (by unfold loadF; rw [hk]; exact h)
        exact go v a hx h1 h2
      · cases h
  · rename_i t x v
    simp only [q_store] at h
    split at h
    · rename_i a hx
      obtain ⟨st', h1, h2⟩ := storeF_spec h
      simp only [evOp, hx, h1]
      exact h2
    · cases h
  · rename_i x
    simp only [q_nilCheck] at h
    split at h
    · rename_i a hx
      simp only [evOp, hx]
      exact h
    · exact slowOp_spec h
  · rename_i op t x y t'
    split at h
    · rename_i f hf
      simp only [q_bin] at h
      rcases binF_spec (P := P) hf h t x y with h | ⟨h1, h2, v, h3, h4, h5⟩
      · exact slowOp_spec h
      · simp only [evOp, h1, h2, h3, h4, Bool.and_self, if_true]
        exact h5
    · exact slowOp_spec h
  · rename_i t x
    split at h
    · rename_i hi
      unfold isIfc at hi
      rw [undQ_eq] at hi
      simp only [evOp]
      split at hi
      · cases hi
      · rename_i d hne hu
        rw [hu]
        split
        · rename_i ms e; cases e; exact (hne _ rfl).elim
        · exact h
        · rename_i e; cases e
      · cases hi
    · cases h
  · rename_i t x i
    split at h
    · cases h
    · rename_i n hn
      simp only [q_fieldAddr] at h
      unfold faOff at hn
      rw [fieldQ_eq] at hn
      split at h
      · rename_i a hx
        simp only [evOp, hx]
        split at hn
        · rename_i f m hf
          simp only [hf]
          split at hn
          · cases hn
          · rename_i hm
            obtain rfl := Option.some.inj hn
            rw [if_neg hm, ← addA_rec]
            exact h
        · cases hn
      · cases h
  · rename_i t x i
    have fk : ∀ {k : Nat × Option Nat}, fldK P t i = some k → ∃ f m d ii, fieldOf P t i = some (f, m) ∧ P.underlying f.type = some d ∧ P.info? f.type = some ii ∧ k = (f.offset, if isAggB P f.type then some ii.size else none) := by
      intro k hk
      unfold fldK at hk
      rw [fieldQ_eq] at hk
      split at hk
      · rename_i f m hf
        unfold loadK at hk
        rw [undQ_eq, infoQ_eq, isAggQ_eq] at hk
        split at hk
        · rename_i d ii hu hi
          simp only [Option.map_some, Option.some.injEq] at hk
          exact ⟨f, m, d, ii, hf, hu, hi, hk.symm⟩
        · cases hk
      · cases hk
    split at h
    · cases h
    · rename_i k hk
      obtain ⟨f, m, d, ii, h1, h2, h3, h4⟩ := fk hk
      simp only [Prod.mk.injEq] at h4
      simp only [q_field1] at h
      split at h
      · rename_i cs hx
        simp only [evOp, hx, h1]
        unfold partOf
        simp only [h2, h3]
        cases hagg : isAggB P f.type with
        | true => rw [hagg] at h4; cases h4.2
        | false =>
          simp only [Bool.false_eq_true, if_false]
          rw [h4.1, nthF_eq] at h
          split at h
          · rename_i v hv
            rw [hv]; exact h
          · cases h
      · cases h
    · rename_i k n hk
      obtain ⟨f, m, d, ii, h1, h2, h3, h4⟩ := fk hk
      simp only [Prod.mk.injEq] at h4
      simp only [q_fieldN] at h
      split at h
      · rename_i cs hx
        simp only [evOp, hx, h1]
        unfold partOf
        simp only [h2, h3]
        cases hagg : isAggB P f.type with
        | false => rw [hagg] at h4; cases h4.2
        | true =>
          rw [hagg] at h4
          simp only [if_true, Option.some.injEq] at h4 ⊢
          rw [h4.1, h4.2] at h
          cases hb : Nat.ble (Nat.add f.offset ii.size) cs.toList.length with
          | false => rw [hb] at h; cases h
          | true =>
            rw [hb] at h
            have hle : f.offset + ii.size ≤ cs.toList.length := Nat.le_of_ble_eq_true hb
            rw [if_pos hle]
            exact h
      · cases h
  · rename_i t x ix
    split at h
    · exact slowOp_spec h
    · rename_i n hn
      simp only [q_indexAddr] at h
      unfold sliceElem at hn
      rw [undQ_eq] at hn
      split at hn
      · rename_i e hu
        rw [sizeQ_eq] at hn
        split at h
        · rename_i a len cap hx
          split at h
          · rename_i kk i hi
            simp only [evOp, hu, hx, hi, hn]
            cases hb : Nat.ble (Nat.add i 1) len with
            | false => rw [hb] at h; cases h
            | true =>
              rw [hb] at h
              have hlt : i + 1 ≤ len := Nat.le_of_ble_eq_true hb
              have : 0 ≤ Int.ofNat i ∧ Int.ofNat i < (len : Int) := ⟨Int.natCast_nonneg i, by show (i : Int) < len; omega⟩
              rw [if_pos this]
              rw [addA_eq] at h
              exact h
          · cases h
        · cases h
      · cases hn
  · rename_i t i
    simp only [q_extract] at h
    split at h
    · rename_i vs hx
      simp only [evOp, hx]
      rw [nthF_eq] at h
      split at h
      · rename_i v hv
        have : vs[i]? = some v := by simpa using hv
        rw [this]; exact h
      · cases h
    · cases h
  · rename_i c
    exact compC_spec h
  · exact slowOp_spec h

theorem guardF_spec {ops : Array Oper} {yes no : Res} {nt : Nat} {d : List Deferred} (h : guardF ops s o yes no = some r) : (wantedF ops ⟨s, nt, d, none⟩ o = some true ∧ yes = some r) ∨ (wantedF ops ⟨s, nt, d, none⟩ o = some false ∧ no = some r) := by
  unfold guardF at h
  unfold wantedF
  split at h
  · rename_i hg; rw [hg]; exact Or.inl ⟨rfl, h⟩
  · rename_i g hg
    obtain ⟨j, want⟩ := g
    rw [hg]
    simp only [dstOf] at h ⊢
    split at h
    · rename_i hd; rw [hd]; exact Or.inr ⟨rfl, h⟩
    · rename_i t hd
      rw [hd]
      simp only
      rw [slotF_eq] at h
      split at h
      · rename_i b hb
        rw [hb]
        cases b <;> cases want <;> first | exact Or.inl ⟨rfl, h⟩ | exact Or.inr ⟨rfl, h⟩
      · rename_i a hb
        rw [hb]; exact Or.inr ⟨rfl, h⟩
      · cases h

/-- What is called comes to what the plain evaluator comes to. -/
def CallOk (P : Program) (ct : Ct) (call : CallK) : Prop := ∀ g args st k r, call g args st k = some r → ∃ n v st', evCall P ct n g args st = some (v, st') ∧ k v st' = some r

theorem opsF_spec (hc : CallOk P ct call) {nt : Nat} {ops : Array Oper} : ∀ (os : List Oper) (i : Nat) (s : Trie Value) (d : List Deferred) (st : St) (k : Trie Value → List Deferred → St → Res) (r : Value × St),
    (∀ j, os[j]? = ops[i + j]?) → opsF P call nt ops os s d st k = some r → ∃ n s' d' st', evOps P ct n ops (List.range' i os.length) ⟨s, nt, d, none⟩ st = some (⟨s', nt, d', none⟩, st') ∧ k s' d' st' = some r
  | [], i, s, d, st, k, r, _, h => ⟨1, s, d, st, rfl, h⟩
  | o :: os, i, s, d, st, k, r, hos, h => by
    have hoi : ops[i]? = some o := by have := hos 0; simpa using this.symm
    have hos' : ∀ j, os[j]? = ops[i + 1 + j]? := by intro j; have := hos (j + 1); rw [show i + 1 + j = i + (j + 1) by omega]; simpa using this
    have ih := opsF_spec hc (nt := nt) (ops := ops) os (i + 1)
    change guardF ops s o ((compO P o).run call s st (fun v st => putS nt o.dst v s fun s => opsF P call nt ops os s d st k) (fun df st => putS nt o.dst undef s fun s => opsF P call nt ops os s (df :: d) st k))
      (putS nt o.dst undef s fun s => opsF P call nt ops os s d st k) = some r at h
    have hr : List.range' i (o :: os).length = i :: List.range' (i + 1) os.length := rfl
    rw [hr]
    have next : ∀ {v : Value} {d1 : List Deferred} {st1 : St}, (putS nt o.dst v s fun s => opsF P call nt ops os s d1 st1 k) = some r →
        ∃ s1, Fr.put ⟨s, nt, d1, none⟩ o.dst v = some ⟨s1, nt, d1, none⟩ ∧ ∃ n s' d' st', evOps P ct n ops (List.range' (i + 1) os.length) ⟨s1, nt, d1, none⟩ st1 = some (⟨s', nt, d', none⟩, st') ∧ k s' d' st' = some r := by
      intro v d1 st1 h
      obtain ⟨s1, h1, h2⟩ := putS_spec (d := d1) (ro := none) h
      exact ⟨s1, h1, ih s1 d1 st1 k r hos' h2⟩
    rcases guardF_spec (nt := nt) (d := d) h with ⟨hw, h⟩ | ⟨hw, h⟩
    · have hop := opF_spec h
      rw [rdF_eq s nt d none] at hop
      cases hx : evOp P (Fr.eval ⟨s, nt, d, none⟩) o st with
      | none => rw [hx] at hop; exact hop.elim
      | some x =>
        rw [hx] at hop
        cases x with
        | val v st1 =>
          obtain ⟨s1, h1, n, s', d', st', h2, h3⟩ := next hop
          refine ⟨n + 1, s', d', st', ?_, h3⟩
          simp only [evOps, hoi, hw, hx, h1, h2, Option.isSome_none, Bool.false_and, Bool.false_eq_true, if_false]
        | skip st1 =>
          obtain ⟨s1, h1, n, s', d', st', h2, h3⟩ := next hop
          refine ⟨n + 1, s', d', st', ?_, h3⟩
          simp only [evOps, hoi, hw, hx, h1, h2, Option.isSome_none, Bool.false_and, Bool.false_eq_true, if_false]
        | enter g args st1 =>
          obtain ⟨m, v, st2, h0, hop⟩ := hc _ _ _ _ _ hop
          obtain ⟨s1, h1, n, s', d', st', h2, h3⟩ := next hop
          refine ⟨max n m + 1, s', d', st', ?_, h3⟩
          simp only [evOps, hoi, hw, hx, (mono_le (Nat.le_max_right n m)).2.2.2.1 _ _ _ _ h0, h1, (mono_le (Nat.le_max_left n m)).2.1 _ _ _ _ _ h2, Option.isSome_none, Bool.false_and, Bool.false_eq_true, if_false]
        | defer df st1 =>
          obtain ⟨s1, h1, n, s', d', st', h2, h3⟩ := next hop
          refine ⟨n + 1, s', d', st', ?_, h3⟩
          simp only [evOps, hoi, hw, hx, h1, h2, Option.isSome_none, Bool.false_and, Bool.false_eq_true, if_false]
        | round l args st1 => exact hop.elim
    · obtain ⟨s1, h1, n, s', d', st', h2, h3⟩ := next h
      refine ⟨n + 1, s', d', st', ?_, h3⟩
      simp only [evOps, hoi, hw, h1, h2]

theorem outF_ok (hc : CallOk P ct call) (x : Out) (r : Value × St) (h : outF call x = some r) : ∃ n, evOut P ct n x = some r := by
  cases x with
  | val v st => exact ⟨1, h⟩
  | skip st => exact ⟨1, h⟩
  | enter g args st =>
    obtain ⟨n, v, st', h1, h2⟩ := hc _ _ _ _ _ h
    refine ⟨n + 1, ?_⟩
    simp only [evOut, h1]; exact h2
  | defer d st => cases h
  | round l a st => cases h

theorem drawPass_fuel {out : Out → Option (Value × St)} (ho : ∀ x r, out x = some r → ∃ n, evOut P ct n x = some r) {ops : Array Oper} {bs : List Nat} {base : Nat} :
    ∀ (os : List Oper) (i : Nat) (f : Fr) (st : St) (m : Nat) (pend : List (Nat × Blk)) (rep : Nat) (l : List Rec), drawPass P (evOp P) Fr.eval out ops bs base os i f st m pend rep = some l → ∃ n, drawPass P (evOp P) Fr.eval (evOut P ct n) ops bs base os i f st m pend rep = some l
  | [], i, f, st, m, pend, rep, l, h => ⟨0, h⟩
  | o :: os, i, f, st, m, pend, rep, l, h => by
    have key : ∀ {v : Value} {b : Option Blk} {f' : Fr} {st' : St} {m' : Nat} {pend' : List (Nat × Blk)} {rep' : Nat}, (match drawPass P (evOp P) Fr.eval out ops bs base os (i + 1) f' st' m' pend' rep' with
          | none => none
          | some l => some ((⟨f, st, m, pend, rep, v, b⟩ : Rec) :: l)) = some l → ∃ n, ∀ n', n ≤ n' → (match drawPass P (evOp P) Fr.eval (evOut P ct n') ops bs base os (i + 1) f' st' m' pend' rep' with
          | none => none
          | some l => some ((⟨f, st, m, pend, rep, v, b⟩ : Rec) :: l)) = some l := by
      intro v b f' st' m' pend' rep' h
      cases hr : drawPass P (evOp P) Fr.eval out ops bs base os (i + 1) f' st' m' pend' rep' with
      | none => rw [hr] at h; cases h
      | some l' =>
        obtain ⟨n, hn⟩ := drawPass_fuel ho os _ _ _ _ _ _ _ hr
        refine ⟨n, fun n' hle => ?_⟩
        rw [drawPass_mono (fun x r hx => (mono_le hle).2.2.1 x r hx) _ _ _ _ _ _ _ _ hn]
        rw [hr] at h; exact h
    simp only [drawPass] at h
    simp only [drawPass]
    split at h
    · cases h
    · rename_i wd hw
      split at h
      · rename_i hk
        split at h
        · cases h
        · rename_i v hv
          split at h
          · cases h
          · rename_i f' hp
            obtain ⟨n, hn⟩ := key h
            exact ⟨n, hn n (Nat.le_refl _)⟩
      · rename_i hk
        split at h
        · cases h
        · rename_i v b hv
          split at h
          · cases h
          · rename_i f' hp
            obtain ⟨n, hn⟩ := key h
            exact ⟨n, hn n (Nat.le_refl _)⟩
      · rename_i hk
        split at h
        · cases h
        · rename_i v st' hv
          cases wd with
          | false =>
            simp only [Bool.false_eq_true, if_false, Option.some.injEq, Prod.mk.injEq] at hv ⊢
            obtain ⟨rfl, rfl⟩ := hv
            split at h
            · cases h
            · rename_i f' hp
              obtain ⟨n, hn⟩ := key h
              refine ⟨n, ?_⟩
              exact hn n (Nat.le_refl _)
          | true =>
            simp only [if_true] at hv ⊢
            split at hv
            · rename_i x hx
              obtain ⟨n1, hn1⟩ := ho _ _ hv
              split at h
              · cases h
              · rename_i f' hp
                obtain ⟨n2, hn2⟩ := key h
                refine ⟨max n1 n2, ?_⟩
                simp only [(mono_le (Nat.le_max_left n1 n2)).2.2.1 _ _ hn1, hp]
                exact hn2 (max n1 n2) (Nat.le_max_right n1 n2)
            · cases hv

theorem drawRegion_fuel {out : Out → Option (Value × St)} (ho : ∀ x r, out x = some r → ∃ n, evOut P ct n x = some r) {ops : Array Oper} {f : Fr} {st : St} {r : Fr × St} (h : drawRegion P out ops f st = some r) : ∃ n, drawRegion P (evOut P ct n) ops f st = some r := by
  simp only [drawRegion] at h ⊢
  split at h
  · cases h
  · rename_i c1
    split at h
    · cases h
    · rename_i c2
      split at h
      · cases h
      · rename_i recs hrec
        obtain ⟨n, hn⟩ := drawPass_fuel ho _ _ _ _ _ _ _ _ hrec
        refine ⟨n, ?_⟩
        rw [if_neg c1, if_neg c2, hn]
        exact h

/-- Code that the quicker evaluator has carried out. -/
def CodeOk (P : Program) (ct : Ct) (fid nt : Nat) (c : Code) (q : CodeK) : Prop := ∀ s d st k r, q s d st k = some r → ∃ n e s' d' st', evCode P ct n fid c ⟨s, nt, d, none⟩ st = some (e, ⟨s', nt, d', none⟩, st') ∧ k e s' d' st' = some r

theorem range_eq (n : Nat) : List.range n = List.range' 0 n := List.range_eq_range'

theorem loopF_ok {fid nt : Nat} {c : Code} {body : CodeK} (hb : CodeOk P ct fid nt c body) : ∀ m, CodeOk P ct fid nt (.loop c) (loopF body m)
  | 0 => fun s d st k r h => by cases h
  | m + 1 => by
    intro s d st k r h
    change body s d st (fun e s d st => @Ex.rec (fun _ => Res) (loopF body m s d st k) (fun id => k (.exit id) s d st) (k .ret s d st) e) = some r at h
    obtain ⟨n, e, s1, d1, st1, h1, h⟩ := hb _ _ _ _ _ h
    cases e with
    | normal =>
      obtain ⟨n2, e2, s2, d2, st2, h2, h3⟩ := loopF_ok hb m _ _ _ _ _ h
      refine ⟨max n n2 + 1, e2, s2, d2, st2, ?_, h3⟩
      simp only [evCode, (mono_le (Nat.le_max_left n n2)).1 _ _ _ _ _ h1, (mono_le (Nat.le_max_right n n2)).1 _ _ _ _ _ h2]
    | exit id => exact ⟨n + 1, .exit id, s1, d1, st1, by simp only [evCode, h1], h⟩
    | ret => exact ⟨n + 1, .ret, s1, d1, st1, by simp only [evCode, h1], h⟩

/-- What a frame keeps. -/
theorem keep_ops : ∀ (n : Nat) (ops : Array Oper) (l : List Nat) (f : Fr) (st : St) (f' : Fr) (st' : St), evOps P ct n ops l f st = some (f', st') → f'.ntmps = f.ntmps ∧ f'.roundOf = f.roundOf
  | 0, _, _, _, _, _, _, h => by simp [evOps] at h
  | n + 1, ops, [], f, st, f', st', h => by simp [evOps] at h; obtain ⟨rfl, _⟩ := h; exact ⟨rfl, rfl⟩
  | n + 1, ops, i :: rest, f, st, f', st', h => by
    have pk : ∀ {f : Fr} {dst : Option Tmp} {v : Value} {f1 : Fr}, f.put dst v = some f1 → f1.ntmps = f.ntmps ∧ f1.roundOf = f.roundOf := by
      intro f dst v f1 h
      unfold Fr.put at h
      split at h
      · cases h; exact ⟨rfl, rfl⟩
      · split at h
        · cases h; exact ⟨rfl, rfl⟩
        · cases h
    have go : ∀ {f1 : Fr} {st1 : St}, evOps P ct n ops rest f1 st1 = some (f', st') → f1.ntmps = f.ntmps ∧ f1.roundOf = f.roundOf → f'.ntmps = f.ntmps ∧ f'.roundOf = f.roundOf := by
      intro f1 st1 h e
      have := keep_ops n ops rest _ _ _ _ h
      exact ⟨this.1.trans e.1, this.2.trans e.2⟩
    simp only [evOps] at h
    repeat' split at h
    all_goals first
      | (cases h; done)
      | exact go h (pk (by assumption))
      | (rename_i hput; exact go h ⟨(pk hput).1, (pk hput).2⟩)

theorem keep_draw {out : Out → Option (Value × St)} {ops : Array Oper} {f f' : Fr} {st st' : St} (h : drawRegion P out ops f st = some (f', st')) : f'.ntmps = f.ntmps ∧ f'.roundOf = f.roundOf ∧ f'.defers = f.defers := by
  obtain ⟨_, bs, cs, R, hp, h0, _, h2, _⟩ := drawRegion_spec h
  obtain ⟨a, b, c, _⟩ := hp.frame ops.size (Nat.le_refl _)
  rw [h0] at a b c
  rw [h2]
  exact ⟨a, c, b⟩

theorem keep_code : ∀ (n : Nat) (fid : Nat) (c : Code) (f : Fr) (st : St) (e : Ex) (f' : Fr) (st' : St), evCode P ct n fid c f st = some (e, f', st') → f'.ntmps = f.ntmps ∧ f'.roundOf = f.roundOf
  | 0, _, _, _, _, _, _, _, h => by simp [evCode] at h
  | n + 1, fid, c, f, st, e, f', st', h => by
    have ih := keep_code n fid
    have pair : ∀ {a : Code} {f1 : Fr} {st1 : St} {b : Code} {x : Option (Ex × Fr × St)}, (match x with
        | some (.normal, f, st) => evCode P ct n fid b f st
        | r => r) = some (e, f', st') → (∀ e1 f1 st1, x = some (e1, f1, st1) → f1.ntmps = f.ntmps ∧ f1.roundOf = f.roundOf) → f'.ntmps = f.ntmps ∧ f'.roundOf = f.roundOf := by
      intro a f1 st1 b x h hx
      split at h
      · have h1 := hx _ _ _ rfl
        have h2 := ih _ _ _ _ _ _ h
        exact ⟨h2.1.trans h1.1, h2.2.trans h1.2⟩
      · exact hx _ _ _ h
    cases c with
    | skip => simp [evCode] at h; obtain ⟨_, rfl, _⟩ := h; exact ⟨rfl, rfl⟩
    | label l => simp [evCode] at h; obtain ⟨_, rfl, _⟩ := h; exact ⟨rfl, rfl⟩
    | exit id => simp [evCode] at h; obtain ⟨_, rfl, _⟩ := h; exact ⟨rfl, rfl⟩
    | ret => simp [evCode] at h; obtain ⟨_, rfl, _⟩ := h; exact ⟨rfl, rfl⟩
    | seq a b => simp only [evCode] at h; exact pair (a := a) (f1 := f) (st1 := st) h (fun _ _ _ hx => ih _ _ _ _ _ _ hx)
    | loop a => simp only [evCode] at h; exact pair (a := a) (f1 := f) (st1 := st) h (fun _ _ _ hx => ih _ _ _ _ _ _ hx)
    | cond c a b =>
      simp only [evCode] at h
      split at h
      · exact ih _ _ _ _ _ _ h
      · exact ih _ _ _ _ _ _ h
      · cases h
    | block id c =>
      simp only [evCode] at h
      split at h
      · rename_i id' f1 st1 ha
        have := ih _ _ _ _ _ _ ha
        split at h <;> (simp at h; obtain ⟨_, rfl, _⟩ := h; exact this)
      · exact ih _ _ _ _ _ _ h
    | scope c => simp only [evCode] at h; exact ih _ _ _ _ _ _ h
    | region id ops draw =>
      cases draw with
      | true =>
        simp only [evCode] at h
        split at h
        · rename_i f1 st1 hd
          simp at h; obtain ⟨_, rfl, _⟩ := h
          have := keep_draw hd
          exact ⟨this.1, this.2.1⟩
        · cases h
      | false =>
        simp only [evCode] at h
        split at h
        · rename_i f1 st1 hd
          simp at h; obtain ⟨_, rfl, _⟩ := h
          exact keep_ops _ _ _ _ _ _ _ hd
        · cases h
    | rangeFunc g params assign body =>
      simp only [evCode] at h
      split at h
      · cases h
      · rename_i l f1 st2 hent
        have he : f1.ntmps = f.ntmps ∧ f1.roundOf = f.roundOf := by
          unfold enterA at hent
          split at hent
          · rename_i hr
            simp at hent
            obtain ⟨_, rfl, _⟩ := hent
            exact ⟨rfl, rfl⟩
          · split at hent
            · simp at hent
              obtain ⟨_, rfl, _⟩ := hent
              exact ⟨rfl, rfl⟩
            · cases hent
        repeat' split at h
        all_goals first
          | (cases h; done)
          | (simp at h; obtain ⟨_, rfl, _⟩ := h; exact he)
    | goto l => simp [evCode] at h
    | refuse w => simp [evCode] at h

theorem fr_of {f : Fr} {nt : Nat} (h1 : f.ntmps = nt) (h2 : f.roundOf = none) : f = ⟨f.slots, nt, f.defers, none⟩ := by
  obtain ⟨a, b, c, d⟩ := f
  simp only at h1 h2
  subst h1 h2
  rfl

theorem codeQ_ok (hc : CallOk P ct call) (n0 fid nt : Nat) : ∀ c, CodeOk P ct fid nt c (codeQ P ct n0 call fid nt c)
  | .skip => fun s d st k r h => ⟨1, .normal, s, d, st, rfl, h⟩
  | .label _ => fun s d st k r h => ⟨1, .normal, s, d, st, rfl, h⟩
  | .exit id => fun s d st k r h => ⟨1, .exit id, s, d, st, rfl, h⟩
  | .ret => fun s d st k r h => ⟨1, .ret, s, d, st, rfl, h⟩
  | .goto _ => fun s d st k r h => by cases h
  | .refuse _ => fun s d st k r h => by cases h
  | .scope c => fun s d st k r h => by
    obtain ⟨n, e, s', d', st', h1, h2⟩ := codeQ_ok hc n0 fid nt c s d st k r h
    exact ⟨n + 1, e, s', d', st', by simp only [evCode, h1], h2⟩
  | .seq a b => fun s d st k r h => by
    change codeQ P ct n0 call fid nt a s d st (fun e s d st => @Ex.rec (fun _ => Res) (codeQ P ct n0 call fid nt b s d st k) (fun id => k (.exit id) s d st) (k .ret s d st) e) = some r at h
    obtain ⟨n, e, s1, d1, st1, h1, h⟩ := codeQ_ok hc n0 fid nt a _ _ _ _ _ h
    cases e with
    | normal =>
      obtain ⟨n2, e2, s2, d2, st2, h2, h3⟩ := codeQ_ok hc n0 fid nt b _ _ _ _ _ h
      refine ⟨max n n2 + 1, e2, s2, d2, st2, ?_, h3⟩
      simp only [evCode, (mono_le (Nat.le_max_left n n2)).1 _ _ _ _ _ h1, (mono_le (Nat.le_max_right n n2)).1 _ _ _ _ _ h2]
    | exit id => exact ⟨n + 1, .exit id, s1, d1, st1, by simp only [evCode, h1], h⟩
    | ret => exact ⟨n + 1, .ret, s1, d1, st1, by simp only [evCode, h1], h⟩
  | .cond c a b => fun s d st k r h => by
    change (match rdF s c with
      | .bool t => @Bool.rec (fun _ => Res) (codeQ P ct n0 call fid nt b s d st k) (codeQ P ct n0 call fid nt a s d st k) t
      | _ => none) = some r at h
    split at h
    · rename_i t ht
      rw [rdF_eq s nt d none] at ht
      cases t with
      | false =>
        obtain ⟨n, e, s', d', st', h1, h2⟩ := codeQ_ok hc n0 fid nt b _ _ _ _ _ h
        exact ⟨n + 1, e, s', d', st', by simp only [evCode, ht, h1], h2⟩
      | true =>
        obtain ⟨n, e, s', d', st', h1, h2⟩ := codeQ_ok hc n0 fid nt a _ _ _ _ _ h
        exact ⟨n + 1, e, s', d', st', by simp only [evCode, ht, h1], h2⟩
    · cases h
  | .block id c => fun s d st k r h => by
    change codeQ P ct n0 call fid nt c s d st (fun e s d st => @Ex.rec (fun _ => Res) (k .normal s d st) (fun id' => @Bool.rec (fun _ => Res) (k (.exit id') s d st) (k .normal s d st) (Nat.beq id' id)) (k .ret s d st) e) = some r at h
    obtain ⟨n, e, s1, d1, st1, h1, h⟩ := codeQ_ok hc n0 fid nt c _ _ _ _ _ h
    cases e with
    | normal => exact ⟨n + 1, .normal, s1, d1, st1, by simp only [evCode, h1], h⟩
    | ret => exact ⟨n + 1, .ret, s1, d1, st1, by simp only [evCode, h1], h⟩
    | exit id' =>
      simp only at h
      cases hb : Nat.beq id' id with
      | true =>
        rw [hb] at h
        have := Nat.eq_of_beq_eq_true hb
        exact ⟨n + 1, .normal, s1, d1, st1, by simp only [evCode, h1, this, if_true], h⟩
      | false =>
        rw [hb] at h
        have := Nat.ne_of_beq_eq_false hb
        exact ⟨n + 1, .exit id', s1, d1, st1, by simp only [evCode, h1, this, if_false], h⟩
  | .loop c => fun s d st k r h => loopF_ok (codeQ_ok hc n0 fid nt c) n0 s d st k r h
  | .region id ops draw => fun s d st k r h => by
    cases draw with
    | false =>
      change opsF P call nt ops ops.toList s d st (fun s d st => k .normal s d st) = some r at h
      obtain ⟨n, s', d', st', h1, h2⟩ := opsF_spec hc ops.toList 0 s d st _ r (by intro j; simp) h
      refine ⟨n + 1, .normal, s', d', st', ?_, h2⟩
      have hr : List.range ops.size = List.range' 0 ops.toList.length := by rw [range_eq]; simp
      simp only [evCode, hr, h1]
    | true =>
      change (match drawQ P (outF call) ops s nt d st with
        | some r => k .normal r.1.slots r.1.defers r.2
        | none => none) = some r at h
      cases hd : drawQ P (outF call) ops s nt d st with
      | none => rw [hd] at h; cases h
      | some x =>
        rw [hd] at h
        obtain ⟨f1, st1⟩ := x
        obtain ⟨n, hn⟩ := drawRegion_fuel (outF_ok hc) (drawQ_spec hd)
        obtain ⟨k1, k2, _⟩ := keep_draw hn
        refine ⟨n + 1, .normal, f1.slots, f1.defers, st1, ?_, h⟩
        rw [← fr_of k1 k2]
        simp only [evCode, hn]
  | .rangeFunc f ps a b => fun s d st k r h => by
    change (match evCode P ct n0 fid (.rangeFunc f ps a b) { slots := s, ntmps := nt, defers := d } st with
      | some r => k r.1 r.2.1.slots r.2.1.defers r.2.2
      | none => none) = some r at h
    cases hd : evCode P ct n0 fid (.rangeFunc f ps a b) { slots := s, ntmps := nt, defers := d } st with
    | none => rw [hd] at h; cases h
    | some x =>
      rw [hd] at h
      obtain ⟨e, f1, st1⟩ := x
      obtain ⟨k1, k2⟩ := keep_code _ _ _ _ _ _ _ _ hd
      refine ⟨n0, e, f1.slots, f1.defers, st1, ?_, h⟩
      rw [← fr_of k1 k2]
      exact hd

theorem argF_eq : ∀ (args : List Value) (i : Nat) (t : Trie Value), argF args i t = argSlots args i t
  | [], _, _ => rfl
  | v :: l, i, t => by
    show argF l (i + 1) (setP (path i) t v) = _
    rw [argF_eq l, setP_path]; rfl

theorem resF_spec {st : St} {s : Trie Value} {nt : Nat} {d : List Deferred} {r : Value × St} : ∀ (rs : List ResultVar) (k : List Value → Res), resF P s st rs k = some r → ∃ vs, rs.mapM (resultV P ⟨s, nt, d, none⟩ st) = some vs ∧ k vs = some r
  | [], k, h => ⟨[], by simp, h⟩
  | .tmp t :: rs, k, h => by
    change resF P s st rs (fun vs => k (slotF s t :: vs)) = some r at h
    obtain ⟨vs, h1, h2⟩ := resF_spec (nt := nt) (d := d) rs _ h
    refine ⟨slotF s t :: vs, ?_, h2⟩
    simp [List.mapM_cons, resultV, h1, slotF_eq]
  | .cell a t :: rs, k, h => by
    change (match getP (path a) s with
      | some (.pointer (some a)) => loadF P st t a fun v => resF P s st rs fun vs => k (v :: vs)
      | _ => none) = some r at h
    rw [getP_path] at h
    split at h
    · rename_i ad hg
      obtain ⟨v, h1, h2⟩ := loadF_spec h
      obtain ⟨vs, h3, h4⟩ := resF_spec (nt := nt) (d := d) rs _ h2
      refine ⟨v :: vs, ?_, h4⟩
      simp [List.mapM_cons, resultV, hg, h1, h3]
    · cases h

theorem callQ_ok (n0 : Nat) : ∀ n, CallOk P ct (callQ P ct n0 n)
  | 0 => fun g args st k r h => by cases h
  | n + 1 => by
    intro g args st k r h
    change (match ct g args st with
      | some r => k r.1 r.2
      | none => match bodyOf P g with
        | none => none
        | some fb => codeQ P ct n0 (callQ P ct n0 n) g (max fb.1.ntmps args.length) fb.2 (argF args 0 .leaf) [] st fun e s d st =>
            @Ex.rec (fun _ => Res) (finF P ct n0 fb.1.results.toList k s d st) (fun _ => none) (finF P ct n0 fb.1.results.toList k s d st) e) = some r at h
    cases hct : ct g args st with
    | some x =>
      rw [hct] at h
      exact ⟨1, x.1, x.2, by simp only [evCall, hct], h⟩
    | none =>
      rw [hct] at h
      simp only at h
      unfold bodyOf at h
      rw [funcsT_eq] at h
      split at h
      · cases h
      · rename_i fb hfb
        split at hfb
        · rename_i fn hfn
          split at hfb
          · rename_i c hcb
            obtain rfl := Option.some.inj hfb
            obtain ⟨m, e, s1, d1, st1, h1, h⟩ := codeQ_ok (callQ_ok n0 n) n0 g _ c _ _ _ _ _ h
            rw [argF_eq] at h1
            have fin : ∀ k, finF P ct n0 fn.results.toList k s1 d1 st1 = some r → ∃ st2 vs, evDefers P ct (max n0 1) d1 st1 = some st2 ∧ resultsV P fn ⟨s1, max fn.ntmps args.length, d1, none⟩ st2 = some vs ∧ k (resultOf vs) st2 = some r := by
              intro k h
              cases d1 with
              | nil =>
                change resF P s1 st1 fn.results.toList (fun vs => k (resultOf vs) st1) = some r at h
                obtain ⟨vs, h2, h3⟩ := resF_spec (nt := max fn.ntmps args.length) (d := []) _ _ h
                refine ⟨st1, vs, ?_, h2, h3⟩
                obtain ⟨j, hj⟩ : ∃ j, max n0 1 = j + 1 := ⟨max n0 1 - 1, by omega⟩
                rw [hj]; rfl
              | cons df ds =>
                change (match evDefers P ct n0 (df :: ds) st1 with
                  | some st => resF P s1 st fn.results.toList fun vs => k (resultOf vs) st
                  | none => none) = some r at h
                cases hd : evDefers P ct n0 (df :: ds) st1 with
                | none => rw [hd] at h; cases h
                | some st2 =>
                  rw [hd] at h
                  obtain ⟨vs, h2, h3⟩ := resF_spec (nt := max fn.ntmps args.length) (d := df :: ds) _ _ h
                  exact ⟨st2, vs, (mono_le (Nat.le_max_left n0 1)).2.2.2.2 _ _ _ hd, h2, h3⟩
            have done : (e = .normal ∨ e = .ret) → finF P ct n0 fn.results.toList k s1 d1 st1 = some r → ∃ n v st', evCall P ct n g args st = some (v, st') ∧ k v st' = some r := by
              intro he h
              obtain ⟨st2, vs, h2, h3, h4⟩ := fin k h
              refine ⟨max m (max n0 1) + 1, resultOf vs, st2, ?_, h4⟩
              have e1 := (mono_le (Nat.le_max_left m (max n0 1))).1 _ _ _ _ _ h1
              have e2 := (mono_le (Nat.le_max_right m (max n0 1))).2.2.2.2 _ _ _ h2
              rcases he with rfl | rfl <;> simp only [evCall, hct, hfn, hcb, e1, e2, h3]
            cases e with
            | normal => exact done (Or.inl rfl) h
            | ret => exact done (Or.inr rfl) h
            | exit id => cases h
          · cases hfb
        · cases hfb

/-- Does a call answer true? By the quicker evaluator. -/
noncomputable def trueQ (P : Program) (ct : Ct) (n : Nat) (g : FuncId) (args : List Value) : Bool := isTrue (callQ P ct n n g args (start 0) fun v st => some (v, st))

theorem trueQ_calls (hN : noNum P = true) (hct : CtOk P ct) {n : Nat} {g : FuncId} {args : List Value} (h : trueQ P ct n g args = true) {w : World} {args' : Array Value} (ha : VRL noEnv args args'.toList) :
    Calls P g args' w fun e w' => e = .returned (.bool true) ∧ RowKit.Below w.heap.size w w' := by
  unfold trueQ at h
  cases hq : callQ P ct n n g args (start 0) fun v st => some (v, st) with
  | none => rw [hq] at h; cases h
  | some r =>
    rw [hq] at h
    obtain ⟨m, v, st', h1, h2⟩ := callQ_ok n n _ _ _ _ _ hq
    refine isTrue_calls hN hct (n := m) ?_ ha
    rw [h1]
    have : r = (v, st') := (Option.some.inj h2).symm
    rw [this] at h
    exact h
end
end Go.VS
