/- The quicker evaluator's calls are the plain one's. No conditions. -/
import Derived.Test.YtbdeppefllcocaaVsFast2
namespace Go.VS
set_option linter.unusedSimpArgs false
set_option linter.unusedVariables false
section
variable {P : Program} {ct : Ct}
variable {call : Knot} {s : Trie Value} {o : Oper} {st : St} {kv : Value → St → Res} {kd : Deferred → St → Res} {r : Value × St}

theorem compC_spec {c : Call} {dst : Option Tmp} {type : TypeId} {pos : String} {after : Array Edge} {guard : Option (Nat × Bool)} (h : (compC P ⟨dst, .call c, type, pos, after, guard⟩ c).run call s st kv kd = some r) :
    Hands call kv kd (evOp P (rdF s) ⟨dst, .call c, type, pos, after, guard⟩ st) r := by
  obtain ⟨callee, args, argTypes⟩ := c
  unfold compC at h
  simp only at h
  split at h
  · rename_i g
    split at h
    · rename_i hb
      simp only [evOp]
      have h1 : rdF s (.func g) = .func (.func g) #[] #[] := rfl
      simp only [h1]
      have h2 : invokeV P (.fn (.func g) #[]) ((#[] : Array Value).toList ++ args.toList.map (rdF s)) st = some (.enter g (args.toList.map (rdF s)) st) := by
        simp only [invokeV]
        rw [hasBody_callF hb]; simp
      rw [h2, ← mapF_eq]
      exact h
    · exact slowOp_spec h
  · split at h
    · rename_i x ha
      split at h
      · rename_i hl
        simp only [q_len1] at h
        unfold lenK at hl
        simp only [undQ_eq] at hl
        split at h
        · rename_i a n c hx
          split at hl
          · rename_i t ht
            split at hl
            · rename_i e hu
              simp only [evOp, ha, List.map_cons, List.map_nil, hx, builtinS, ht, hu]
              exact h
            · cases hl
            · cases hl
          · cases hl
        · exact slowOp_spec h
      · rename_i hl
        simp only [q_len2] at h
        unfold lenK at hl
        simp only [undQ_eq] at hl
        split at h
        · rename_i b hx
          split at hl
          · rename_i t ht
            split at hl
            · cases hl
            · rename_i hu
              simp only [evOp, ha, List.map_cons, List.map_nil, hx, builtinS, ht, hu]
              exact h
            · cases hl
          · cases hl
        · exact slowOp_spec h
      · exact slowOp_spec h
    · exact slowOp_spec h
  · exact slowOp_spec h

theorem opF_spec (h : (compO P o).run call s st kv kd = some r) : Hands call kv kd (evOp P (rdF s) o st) r := by
  obtain ⟨dst, op, type, pos, after, guard⟩ := o
  unfold compO at h
  simp only at h
  split at h
  · exact h
  · exact h
  · rename_i c a b
    simp only [q_pick] at h
    split at h
    · rename_i t ht
      simp only [evOp, ht]
      cases t <;> exact h
    · cases h
  · rename_i e
    unfold zeroC at h
    rw [zeroQ_eq] at h
    simp only [evOp]
    cases hz : zeroOfT P e with
    | none => rw [hz] at h; cases h
    | some z =>
      rw [hz] at h
      exact newF_spec (st := st) (b := .cells z.cells.toList e true) (k := fun a st => kv (.pointer (some a)) st) h
  · rename_i e x
    simp only [q_box] at h
    split at h
    · rename_i cs hx
      simp only [evOp, hx]
      exact newF_spec h
    · exact slowOp_spec h
    · rename_i v hna hnc
      have hv : isAny (rdF s x) = false ∧ (rdF s x).cells.toList = [rdF s x] := by
        cases hv : rdF s x with
        | agg cs => exact absurd hv (hna _)
        | chan q => cases q with
          | none => exact ⟨rfl, rfl⟩
          | some q => exact absurd hv (hnc _)
        | _ => exact ⟨rfl, rfl⟩
      simp only [evOp]
      rw [hv.1, hv.2]
      exact newF_spec h
  · rename_i t x
    have go : ∀ v a, rdF s x = .pointer (some a) → loadV P st t a = some v → kv v st = some r → Hands call kv kd (evOp P (rdF s) ⟨dst, .load t x, type, pos, after, guard⟩ st) r := by
      intro v a hx hv hk
      simp only [evOp, hx, hv]
      exact hk
    split at h
    · cases h
    · rename_i hk
      simp only [q_load1] at h
      split at h
      · rename_i a hx
        obtain ⟨v, h1, h2⟩ := loadF_spec (P := P) (t := t) (k := fun v => kv v st) (a := a) (st := st) (r := r) (by unfold loadF; rw [hk]; exact h)
        exact go v a hx h1 h2
      · cases h
    · rename_i n hk
      simp only [q_loadN] at h
      split at h
      · rename_i a hx
        obtain ⟨v, h1, h2⟩ := loadF_spec (P := P) (t := t) (k := fun v => kv v st) (a := a) (st := st) (r := r) (by unfold loadF; rw [hk]; exact h)
        exact go v a hx h1 h2
      · cases h
  · rename_i t x v
    simp only [q_store] at h
    split at h
    · rename_i a hx
      obtain ⟨st', h1, h2⟩ := storeF_spec h
      simp only [evOp, hx, h1]
      exact h2
    · cases h
  · rename_i x
    simp only [q_nilCheck] at h
    split at h
    · rename_i a hx
      simp only [evOp, hx]
      exact h
    · exact slowOp_spec h
  · rename_i op t x y t'
    split at h
    · rename_i f hf
      simp only [q_bin] at h
      rcases binF_spec (P := P) hf h t x y with h | ⟨h1, h2, v, h3, h4, h5⟩
      · exact slowOp_spec h
      · simp only [evOp, h1, h2, h3, h4, Bool.and_self, if_true]
        exact h5
    · exact slowOp_spec h
  · rename_i t x
    split at h
    · rename_i hi
      unfold isIfc at hi
      rw [undQ_eq] at hi
      simp only [evOp]
      split at hi
      · cases hi
      · rename_i d hne hu
        rw [hu]
        split
        · rename_i ms e; cases e; exact (hne _ rfl).elim
        · split at h
          · rename_i hb
            rw [if_pos (show t < FZ from Nat.le_of_ble_eq_true hb)]; exact h
          · cases h
        · rename_i e; cases e
      · cases hi
    · cases h
  · rename_i t x i
    split at h
    · cases h
    · rename_i n hn
      simp only [q_fieldAddr] at h
      unfold faOff at hn
      rw [fieldQ_eq] at hn
      split at h
      · rename_i a hx
        simp only [evOp, hx]
        split at hn
        · rename_i f m hf
          simp only [hf]
          split at hn
          · cases hn
          · rename_i hm
            obtain rfl := Option.some.inj hn
            rw [if_neg hm, ← addA_rec]
            exact h
        · cases hn
      · cases h
  · rename_i t x i
    have fk : ∀ {k : Nat × Option Nat}, fldK P t i = some k → ∃ f m d ii, fieldOf P t i = some (f, m) ∧ P.underlying f.type = some d ∧ P.info? f.type = some ii ∧ k = (f.offset, if isAggB P f.type then some ii.size else none) := by
      intro k hk
      unfold fldK at hk
      rw [fieldQ_eq] at hk
      split at hk
      · rename_i f m hf
        unfold loadK at hk
        rw [undQ_eq, infoQ_eq, isAggQ_eq] at hk
        split at hk
        · rename_i d ii hu hi
          simp only [Option.map_some, Option.some.injEq] at hk
          exact ⟨f, m, d, ii, hf, hu, hi, hk.symm⟩
        · cases hk
      · cases hk
    split at h
    · cases h
    · rename_i k hk
      obtain ⟨f, m, d, ii, h1, h2, h3, h4⟩ := fk hk
      simp only [Prod.mk.injEq] at h4
      simp only [q_field1] at h
      split at h
      · rename_i cs hx
        simp only [evOp, hx, h1]
        unfold partOf
        simp only [h2, h3]
        cases hagg : isAggB P f.type with
        | true => rw [hagg] at h4; cases h4.2
        | false =>
          simp only [Bool.false_eq_true, if_false]
          rw [h4.1, nthF_eq] at h
          split at h
          · rename_i v hv
            rw [hv]; exact h
          · cases h
      · cases h
    · rename_i k n hk
      obtain ⟨f, m, d, ii, h1, h2, h3, h4⟩ := fk hk
      simp only [Prod.mk.injEq] at h4
      simp only [q_fieldN] at h
      split at h
      · rename_i cs hx
        simp only [evOp, hx, h1]
        unfold partOf
        simp only [h2, h3]
        cases hagg : isAggB P f.type with
        | false => rw [hagg] at h4; cases h4.2
        | true =>
          rw [hagg] at h4
          simp only [if_true, Option.some.injEq] at h4 ⊢
          rw [h4.1, h4.2] at h
          cases hb : Nat.ble (Nat.add f.offset ii.size) cs.toList.length with
          | false => rw [hb] at h; cases h
          | true =>
            rw [hb] at h
            have hle : f.offset + ii.size ≤ cs.toList.length := Nat.le_of_ble_eq_true hb
            rw [if_pos hle]
            exact h
      · cases h
  · rename_i t x ix
    split at h
    · exact slowOp_spec h
    · rename_i n hn
      simp only [q_indexAddr] at h
      unfold sliceElem at hn
      rw [undQ_eq] at hn
      split at hn
      · rename_i e hu
        rw [sizeQ_eq] at hn
        split at h
        · rename_i a len cap hx
          split at h
          · rename_i kk i hi
            simp only [evOp, hu, hx, hi, hn]
            cases hb : Nat.ble (Nat.add i 1) len with
            | false => rw [hb] at h; cases h
            | true =>
              rw [hb] at h
              have hlt : i + 1 ≤ len := Nat.le_of_ble_eq_true hb
              have : 0 ≤ Int.ofNat i ∧ Int.ofNat i < (len : Int) := ⟨Int.natCast_nonneg i, by show (i : Int) < len; omega⟩
              rw [if_pos this]
              rw [addA_eq] at h
              exact h
          · cases h
        · cases h
      · cases hn
  · rename_i t i
    simp only [q_extract] at h
    split at h
    · rename_i vs hx
      simp only [evOp, hx]
      rw [nthF_eq] at h
      split at h
      · rename_i v hv
        have : vs[i]? = some v := by simpa using hv
        rw [this]; exact h
      · cases h
    · cases h
  · rename_i c
    exact compC_spec h
  · exact slowOp_spec h

theorem Trie.setF_same {α : Type} : ∀ (n : Nat) (t : Trie α) (k : Nat) (x : α), k < n → t.get k = some x → t.setF n k x = t
  | 0, _, k, _, h, _ => absurd h (Nat.not_lt_zero k)
  | n + 1, .leaf, k, x, _, h => by simp [Trie.get] at h
  | n + 1, .node v l r, 0, x, _, h => by simp only [Trie.get] at h; subst h; rfl
  | n + 1, .node v l r, k + 1, x, hk, h => by
    simp only [Trie.get] at h
    simp only [Trie.setF]
    split at h
    · rename_i e
      rw [Trie.setF_same n l (k / 2) x (by omega) h]
    · rename_i e
      rw [Trie.setF_same n r (k / 2) x (by omega) h]
theorem setP_same {s : Trie Value} {d : Nat} {v : Value} (h : slotF s d = v) (hv : v ≠ undef) : setP (path d) s v = s := by
  rw [setP_path]
  rw [slotF_eq] at h
  cases hg : s.get d with
  | none => rw [hg] at h; exact absurd h.symm hv
  | some v' =>
    rw [hg] at h
    have h : v' = v := h
    subst h
    exact Trie.setF_same (d + 1) s d v' (Nat.lt_succ_self d) hg

theorem guardF_spec {ops : Array Oper} {yes no : Trie Value → Res} {nt : Nat} {d : List Deferred} {ro : Option Nat} (h : guardF ops s o yes no = some r) : (wantedF ops ⟨s, nt, d, ro⟩ o = some true ∧ yes s = some r) ∨ (wantedF ops ⟨s, nt, d, ro⟩ o = some false ∧ no s = some r) := by
  unfold guardF at h
  unfold wantedF
  split at h
  · rename_i hg; rw [hg]; exact Or.inl ⟨rfl, h⟩
  · rename_i g hg
    obtain ⟨j, want⟩ := g
    rw [hg]
    simp only [dstOf] at h ⊢
    split at h
    · rename_i hd; rw [hd]; exact Or.inr ⟨rfl, h⟩
    · rename_i t hd
      rw [hd]
      simp only
      split at h
      · rename_i b hb
        have hs := setP_same hb (by intro e; cases e)
        rw [slotF_eq] at hb
        rw [hb]
        cases b <;> cases want <;> (simp only at h; rw [hs] at h) <;> first | exact Or.inl ⟨rfl, h⟩ | exact Or.inr ⟨rfl, h⟩
      · rename_i a hb
        rw [slotF_eq] at hb
        rw [hb]; exact Or.inr ⟨rfl, h⟩
      · cases h

/-- What is called comes to what the plain evaluator comes to. -/
structure CallOk (P : Program) (ct : Ct) (kn : Knot) : Prop where
  call : ∀ g args st k r, kn.call g args st k = some r → ∃ n v st', evCall P ct n g args st = some (v, st') ∧ k v st' = some r
  rnd : ∀ l args st k r, kn.rnd l args st k = some r → ∃ n v st', evRound P ct n l args st = some (v, st') ∧ k v st' = some r

/-- Operations and drawn regions come to what the plain evaluator comes to. -/
structure EngOk (P : Program) (ct : Ct) (E : Eng) : Prop where
  comp : ∀ {call s o st kv kd r}, (E.comp o).run call s st kv kd = some r → Hands call kv kd (evOp P (rdF s) o st) r
  draw : ∀ {call}, CallOk P ct call → ∀ {ops nt ro s d st k r}, E.draw call ops nt ro s d st k = some r → ∃ n f1 st1, drawRegion P (evOut P ct n) ops ⟨s, nt, d, ro⟩ st = some (f1, st1) ∧ k f1.slots f1.defers st1 = some r

theorem opsF_spec {E : Eng} (hE : EngOk P ct E) (hc : CallOk P ct call) {nt : Nat} {ro : Option Nat} {ops : Array Oper} : ∀ (os : List Oper) (i : Nat) (s : Trie Value) (d : List Deferred) (st : St) (k : Trie Value → List Deferred → St → Res) (r : Value × St),
    (∀ j, os[j]? = ops[i + j]?) → opsF E call nt ro ops os s d st k = some r → ∃ n s' d' st', evOps P ct n ops (List.range' i os.length) ⟨s, nt, d, ro⟩ st = some (⟨s', nt, d', ro⟩, st') ∧ k s' d' st' = some r
  | [], i, s, d, st, k, r, _, h => ⟨1, s, d, st, rfl, h⟩
  | o :: os, i, s, d, st, k, r, hos, h => by
    have hoi : ops[i]? = some o := by have := hos 0; simpa using this.symm
    have hos' : ∀ j, os[j]? = ops[i + 1 + j]? := by intro j; have := hos (j + 1); rw [show i + 1 + j = i + (j + 1) by omega]; simpa using this
    have ih := opsF_spec hE hc (nt := nt) (ro := ro) (ops := ops) os (i + 1)
    change guardF ops s o (fun s => (E.comp o).run call s st (fun v st => putS nt o.dst v s fun s => opsF E call nt ro ops os s d st k) (fun df st => @Option.rec Nat (fun _ => Res) (putS nt o.dst undef s fun s => opsF E call nt ro ops os s (df :: d) st k) (fun _ => none) ro))
      (fun s => putS nt o.dst undef s fun s => opsF E call nt ro ops os s d st k) = some r at h
    have hr : List.range' i (o :: os).length = i :: List.range' (i + 1) os.length := rfl
    rw [hr]
    have next : ∀ {v : Value} {d1 : List Deferred} {st1 : St}, (putS nt o.dst v s fun s => opsF E call nt ro ops os s d1 st1 k) = some r →
        ∃ s1, Fr.put ⟨s, nt, d1, ro⟩ o.dst v = some ⟨s1, nt, d1, ro⟩ ∧ ∃ n s' d' st', evOps P ct n ops (List.range' (i + 1) os.length) ⟨s1, nt, d1, ro⟩ st1 = some (⟨s', nt, d', ro⟩, st') ∧ k s' d' st' = some r := by
      intro v d1 st1 h
      obtain ⟨s1, h1, h2⟩ := putS_spec (d := d1) (ro := ro) h
      exact ⟨s1, h1, ih s1 d1 st1 k r hos' h2⟩
    rcases guardF_spec (nt := nt) (d := d) (ro := ro) h with ⟨hw, h⟩ | ⟨hw, h⟩
    · have hop := hE.comp h
      rw [rdF_eq s nt d ro] at hop
      cases hx : evOp P (Fr.eval ⟨s, nt, d, ro⟩) o st with
      | none => rw [hx] at hop; exact hop.elim
      | some x =>
        rw [hx] at hop
        have nd : (∀ df st1, x ≠ .defer df st1) → (ro.isSome && isDefer o.op) = false := by
          intro hne
          cases hd : isDefer o.op with
          | false => simp
          | true =>
            exfalso
            obtain ⟨dst, op, type, pos, after, guard⟩ := o
            cases op <;> first | (simp [isDefer] at hd; done) | skip
            rename_i c
            simp only [evOp] at hx
            split at hx
            · cases hx
            · obtain rfl := Option.some.inj hx; exact hne _ _ rfl
            · split at hx
              · obtain rfl := Option.some.inj hx; exact hne _ _ rfl
              · cases hx
        cases x with
        | val v st1 =>
          obtain ⟨s1, h1, n, s', d', st', h2, h3⟩ := next hop
          refine ⟨n + 1, s', d', st', ?_, h3⟩
          simp only [evOps, hoi, hw, hx, h1, h2, nd (by intros; simp), Bool.false_eq_true, if_false]
        | skip st1 =>
          obtain ⟨s1, h1, n, s', d', st', h2, h3⟩ := next hop
          refine ⟨n + 1, s', d', st', ?_, h3⟩
          simp only [evOps, hoi, hw, hx, h1, h2, nd (by intros; simp), Bool.false_eq_true, if_false]
        | enter g args st1 =>
          obtain ⟨m, v, st2, h0, hop⟩ := hc.call _ _ _ _ _ hop
          obtain ⟨s1, h1, n, s', d', st', h2, h3⟩ := next hop
          refine ⟨max n m + 1, s', d', st', ?_, h3⟩
          simp only [evOps, hoi, hw, hx, (mono_le (Nat.le_max_right n m)).2.2.2.1 _ _ _ _ h0, h1, (mono_le (Nat.le_max_left n m)).2.1 _ _ _ _ _ h2, nd (by intros; simp), Bool.false_eq_true, if_false]
        | defer df st1 =>
          cases ro with
          | some _ => cases hop
          | none =>
            obtain ⟨s1, h1, n, s', d', st', h2, h3⟩ := next hop
            refine ⟨n + 1, s', d', st', ?_, h3⟩
            simp only [evOps, hoi, hw, hx, h1, h2, Option.isSome_none, Bool.false_and, Bool.false_eq_true, if_false]
        | round l args st1 =>
          obtain ⟨m, v, st2, h0, hop⟩ := hc.rnd _ _ _ _ _ hop
          obtain ⟨s1, h1, n, s', d', st', h2, h3⟩ := next hop
          refine ⟨max n m + 1, s', d', st', ?_, h3⟩
          simp only [evOps, hoi, hw, hx, (mono_le (Nat.le_max_right n m)).2.2.2.2.2 _ _ _ _ h0, h1, (mono_le (Nat.le_max_left n m)).2.1 _ _ _ _ _ h2, nd (by intros; simp), Bool.false_eq_true, if_false]
    · obtain ⟨s1, h1, n, s', d', st', h2, h3⟩ := next h
      refine ⟨n + 1, s', d', st', ?_, h3⟩
      simp only [evOps, hoi, hw, h1, h2]

theorem outF_ok (hc : CallOk P ct call) (x : Out) (r : Value × St) (h : outF call x = some r) : ∃ n, evOut P ct n x = some r := by
  cases x with
  | val v st => exact ⟨1, h⟩
  | skip st => exact ⟨1, h⟩
  | enter g args st =>
    obtain ⟨n, v, st', h1, h2⟩ := hc.call _ _ _ _ _ h
    refine ⟨n + 1, ?_⟩
    simp only [evOut, h1]; exact h2
  | defer d st => cases h
  | round l a st =>
    obtain ⟨n, v, st', h1, h2⟩ := hc.rnd _ _ _ _ _ h
    refine ⟨n + 1, ?_⟩
    simp only [evOut, h1]; exact h2

theorem drawPass_fuel {out : Out → Option (Value × St)} (ho : ∀ x r, out x = some r → ∃ n, evOut P ct n x = some r) {ops : Array Oper} {bs : List Nat} {base : Nat} :
    ∀ (os : List Oper) (i : Nat) (f : Fr) (st : St) (m : Nat) (pend : List (Nat × Blk)) (rep : Nat) (l : List Rec), drawPass P (evOp P) Fr.eval out ops bs base os i f st m pend rep = some l → ∃ n, drawPass P (evOp P) Fr.eval (evOut P ct n) ops bs base os i f st m pend rep = some l
  | [], i, f, st, m, pend, rep, l, h => ⟨0, h⟩
  | o :: os, i, f, st, m, pend, rep, l, h => by
    have key : ∀ {v : Value} {b : Option Blk} {f' : Fr} {st' : St} {m' : Nat} {pend' : List (Nat × Blk)} {rep' : Nat}, (match drawPass P (evOp P) Fr.eval out ops bs base os (i + 1) f' st' m' pend' rep' with
          | none => none
          | some l => some ((⟨f, st, m, pend, rep, v, b⟩ : Rec) :: l)) = some l → ∃ n, ∀ n', n ≤ n' → (match drawPass P (evOp P) Fr.eval (evOut P ct n') ops bs base os (i + 1) f' st' m' pend' rep' with
          | none => none
          | some l => some ((⟨f, st, m, pend, rep, v, b⟩ : Rec) :: l)) = some l := by
      intro v b f' st' m' pend' rep' h
      cases hr : drawPass P (evOp P) Fr.eval out ops bs base os (i + 1) f' st' m' pend' rep' with
      | none => rw [hr] at h; cases h
      | some l' =>
        obtain ⟨n, hn⟩ := drawPass_fuel ho os _ _ _ _ _ _ _ hr
        refine ⟨n, fun n' hle => ?_⟩
        rw [drawPass_mono (fun x r hx => (mono_le hle).2.2.1 x r hx) _ _ _ _ _ _ _ _ hn]
        rw [hr] at h; exact h
    simp only [drawPass] at h
    simp only [drawPass]
    split at h
    · cases h
    · rename_i wd hw
      split at h
      · rename_i hk
        split at h
        · cases h
        · rename_i v hv
          split at h
          · cases h
          · rename_i f' hp
            obtain ⟨n, hn⟩ := key h
            exact ⟨n, hn n (Nat.le_refl _)⟩
      · rename_i hk
        split at h
        · cases h
        · rename_i v b hv
          split at h
          · cases h
          · rename_i f' hp
            obtain ⟨n, hn⟩ := key h
            exact ⟨n, hn n (Nat.le_refl _)⟩
      · rename_i hk
        split at h
        · cases h
        · rename_i v st' hv
          cases wd with
          | false =>
            simp only [Bool.false_eq_true, if_false, Option.some.injEq, Prod.mk.injEq] at hv ⊢
            obtain ⟨rfl, rfl⟩ := hv
            split at h
            · cases h
            · rename_i f' hp
              obtain ⟨n, hn⟩ := key h
              refine ⟨n, ?_⟩
              exact hn n (Nat.le_refl _)
          | true =>
            simp only [if_true] at hv ⊢
            split at hv
            · rename_i x hx
              obtain ⟨n1, hn1⟩ := ho _ _ hv
              split at h
              · cases h
              · rename_i f' hp
                obtain ⟨n2, hn2⟩ := key h
                refine ⟨max n1 n2, ?_⟩
                simp only [(mono_le (Nat.le_max_left n1 n2)).2.2.1 _ _ hn1, hp]
                exact hn2 (max n1 n2) (Nat.le_max_right n1 n2)
            · cases hv

theorem drawRegion_fuel {out : Out → Option (Value × St)} (ho : ∀ x r, out x = some r → ∃ n, evOut P ct n x = some r) {ops : Array Oper} {f : Fr} {st : St} {r : Fr × St} (h : drawRegion P out ops f st = some r) : ∃ n, drawRegion P (evOut P ct n) ops f st = some r := by
  simp only [drawRegion] at h ⊢
  split at h
  · cases h
  · rename_i c1
    split at h
    · cases h
    · rename_i c2
      split at h
      · cases h
      · rename_i recs hrec
        obtain ⟨n, hn⟩ := drawPass_fuel ho _ _ _ _ _ _ _ _ hrec
        refine ⟨n, ?_⟩
        rw [if_neg c1, if_neg c2, hn]
        exact h

/-- Code that the quicker evaluator has carried out. -/
def CodeOk (P : Program) (ct : Ct) (fid nt : Nat) (ro : Option Nat) (c : Code) (q : CodeK) : Prop := ∀ s d st k r, q s d st k = some r → ∃ n e s' d' st', evCode P ct n fid c ⟨s, nt, d, ro⟩ st = some (e, ⟨s', nt, d', ro⟩, st') ∧ k e s' d' st' = some r

theorem range_eq (n : Nat) : List.range n = List.range' 0 n := List.range_eq_range'

theorem loopF_ok {fid nt : Nat} {ro : Option Nat} {c : Code} {body : CodeK} (hb : CodeOk P ct fid nt ro c body) : ∀ m, CodeOk P ct fid nt ro (.loop c) (loopF body m)
  | 0 => fun s d st k r h => by cases h
  | m + 1 => by
    intro s d st k r h
    change body s d st (fun e s d st => @Ex.rec (fun _ => Res) (loopF body m s d st k) (fun id => k (.exit id) s d st) (k .ret s d st) e) = some r at h
    obtain ⟨n, e, s1, d1, st1, h1, h⟩ := hb _ _ _ _ _ h
    cases e with
    | normal =>
      obtain ⟨n2, e2, s2, d2, st2, h2, h3⟩ := loopF_ok hb m _ _ _ _ _ h
      refine ⟨max n n2 + 1, e2, s2, d2, st2, ?_, h3⟩
      simp only [evCode, (mono_le (Nat.le_max_left n n2)).1 _ _ _ _ _ h1, (mono_le (Nat.le_max_right n n2)).1 _ _ _ _ _ h2]
    | exit id => exact ⟨n + 1, .exit id, s1, d1, st1, by simp only [evCode, h1], h⟩
    | ret => exact ⟨n + 1, .ret, s1, d1, st1, by simp only [evCode, h1], h⟩

/-- What a frame keeps. -/
theorem keep_ops : ∀ (n : Nat) (ops : Array Oper) (l : List Nat) (f : Fr) (st : St) (f' : Fr) (st' : St), evOps P ct n ops l f st = some (f', st') → f'.ntmps = f.ntmps ∧ f'.roundOf = f.roundOf
  | 0, _, _, _, _, _, _, h => by simp [evOps] at h
  | n + 1, ops, [], f, st, f', st', h => by simp [evOps] at h; obtain ⟨rfl, _⟩ := h; exact ⟨rfl, rfl⟩
  | n + 1, ops, i :: rest, f, st, f', st', h => by
    have pk : ∀ {f : Fr} {dst : Option Tmp} {v : Value} {f1 : Fr}, f.put dst v = some f1 → f1.ntmps = f.ntmps ∧ f1.roundOf = f.roundOf := by
      intro f dst v f1 h
      unfold Fr.put at h
      split at h
      · cases h; exact ⟨rfl, rfl⟩
      · split at h
        · cases h; exact ⟨rfl, rfl⟩
        · cases h
    have go : ∀ {f1 : Fr} {st1 : St}, evOps P ct n ops rest f1 st1 = some (f', st') → f1.ntmps = f.ntmps ∧ f1.roundOf = f.roundOf → f'.ntmps = f.ntmps ∧ f'.roundOf = f.roundOf := by
      intro f1 st1 h e
      have := keep_ops n ops rest _ _ _ _ h
      exact ⟨this.1.trans e.1, this.2.trans e.2⟩
    simp only [evOps] at h
    repeat' split at h
    all_goals first
      | (cases h; done)
      | exact go h (pk (by assumption))
      | (rename_i hput; exact go h ⟨(pk hput).1, (pk hput).2⟩)

theorem keep_draw {out : Out → Option (Value × St)} {ops : Array Oper} {f f' : Fr} {st st' : St} (h : drawRegion P out ops f st = some (f', st')) : f'.ntmps = f.ntmps ∧ f'.roundOf = f.roundOf ∧ f'.defers = f.defers := by
  obtain ⟨_, bs, cs, R, hp, h0, _, h2, _⟩ := drawRegion_spec h
  obtain ⟨a, b, c, _⟩ := hp.frame ops.size (Nat.le_refl _)
  rw [h0] at a b c
  rw [h2]
  exact ⟨a, c, b⟩

theorem keep_code : ∀ (n : Nat) (fid : Nat) (c : Code) (f : Fr) (st : St) (e : Ex) (f' : Fr) (st' : St), evCode P ct n fid c f st = some (e, f', st') → f'.ntmps = f.ntmps ∧ f'.roundOf = f.roundOf
  | 0, _, _, _, _, _, _, _, h => by simp [evCode] at h
  | n + 1, fid, c, f, st, e, f', st', h => by
    have ih := keep_code n fid
    have pair : ∀ {a : Code} {f1 : Fr} {st1 : St} {b : Code} {x : Option (Ex × Fr × St)}, (match x with
        | some (.normal, f, st) => evCode P ct n fid b f st
        | r => r) = some (e, f', st') → (∀ e1 f1 st1, x = some (e1, f1, st1) → f1.ntmps = f.ntmps ∧ f1.roundOf = f.roundOf) → f'.ntmps = f.ntmps ∧ f'.roundOf = f.roundOf := by
      intro a f1 st1 b x h hx
      split at h
      · have h1 := hx _ _ _ rfl
        have h2 := ih _ _ _ _ _ _ h
        exact ⟨h2.1.trans h1.1, h2.2.trans h1.2⟩
      · exact hx _ _ _ h
    cases c with
    | skip => simp [evCode] at h; obtain ⟨_, rfl, _⟩ := h; exact ⟨rfl, rfl⟩
    | label l => simp [evCode] at h; obtain ⟨_, rfl, _⟩ := h; exact ⟨rfl, rfl⟩
    | exit id => simp [evCode] at h; obtain ⟨_, rfl, _⟩ := h; exact ⟨rfl, rfl⟩
    | ret => simp [evCode] at h; obtain ⟨_, rfl, _⟩ := h; exact ⟨rfl, rfl⟩
    | seq a b => simp only [evCode] at h; exact pair (a := a) (f1 := f) (st1 := st) h (fun _ _ _ hx => ih _ _ _ _ _ _ hx)
    | loop a => simp only [evCode] at h; exact pair (a := a) (f1 := f) (st1 := st) h (fun _ _ _ hx => ih _ _ _ _ _ _ hx)
    | cond c a b =>
      simp only [evCode] at h
      split at h
      · exact ih _ _ _ _ _ _ h
      · exact ih _ _ _ _ _ _ h
      · cases h
    | block id c =>
      simp only [evCode] at h
      split at h
      · split at h
        · simp at h; obtain ⟨_, rfl, _⟩ := h; exact ⟨rfl, rfl⟩
        · cases h
      split at h
      · rename_i id' f1 st1 ha
        have := ih _ _ _ _ _ _ ha
        split at h <;> (simp at h; obtain ⟨_, rfl, _⟩ := h; exact this)
      · exact ih _ _ _ _ _ _ h
    | scope c => simp only [evCode] at h; exact ih _ _ _ _ _ _ h
    | region id ops draw =>
      cases draw with
      | true =>
        simp only [evCode] at h
        split at h
        · rename_i f1 st1 hd
          simp at h; obtain ⟨_, rfl, _⟩ := h
          have := keep_draw hd
          exact ⟨this.1, this.2.1⟩
        · cases h
      | false =>
        simp only [evCode] at h
        split at h
        · rename_i f1 st1 hd
          simp at h; obtain ⟨_, rfl, _⟩ := h
          exact keep_ops _ _ _ _ _ _ _ hd
        · cases h
    | rangeFunc g params assign body =>
      simp only [evCode] at h
      split at h
      · cases h
      · rename_i l f1 st2 hent
        have he : f1.ntmps = f.ntmps ∧ f1.roundOf = f.roundOf := by
          unfold enterA at hent
          split at hent
          · rename_i hr
            simp at hent
            obtain ⟨_, rfl, _⟩ := hent
            exact ⟨rfl, rfl⟩
          · split at hent
            · simp at hent
              obtain ⟨_, rfl, _⟩ := hent
              exact ⟨rfl, rfl⟩
            · cases hent
        repeat' split at h
        all_goals first
          | (cases h; done)
          | (simp at h; obtain ⟨_, rfl, _⟩ := h; exact he)
    | goto l => simp [evCode] at h
    | refuse w => simp [evCode] at h

theorem fr_of {f : Fr} {nt : Nat} {ro : Option Nat} (h1 : f.ntmps = nt) (h2 : f.roundOf = ro) : f = ⟨f.slots, nt, f.defers, ro⟩ := by
  obtain ⟨a, b, c, d⟩ := f
  simp only at h1 h2
  subst h1 h2
  rfl

theorem codeQ_ok {E : Eng} (hE : EngOk P ct E) (hc : CallOk P ct call) (n0 fid nt : Nat) (ro : Option Nat) : ∀ c, CodeOk P ct fid nt ro c (codeQ P E ct n0 call fid nt ro c)
  | .skip => fun s d st k r h => ⟨1, .normal, s, d, st, rfl, h⟩
  | .label _ => fun s d st k r h => ⟨1, .normal, s, d, st, rfl, h⟩
  | .exit id => fun s d st k r h => ⟨1, .exit id, s, d, st, rfl, h⟩
  | .ret => fun s d st k r h => ⟨1, .ret, s, d, st, rfl, h⟩
  | .goto _ => fun s d st k r h => by cases h
  | .refuse _ => fun s d st k r h => by cases h
  | .scope c => fun s d st k r h => by
    obtain ⟨n, e, s', d', st', h1, h2⟩ := codeQ_ok hE hc n0 fid nt ro c s d st k r h
    exact ⟨n + 1, e, s', d', st', by simp only [evCode, h1], h2⟩
  | .seq a b => fun s d st k r h => by
    change codeQ P E ct n0 call fid nt ro a s d st (fun e s d st => @Ex.rec (fun _ => Res) (codeQ P E ct n0 call fid nt ro b s d st k) (fun id => k (.exit id) s d st) (k .ret s d st) e) = some r at h
    obtain ⟨n, e, s1, d1, st1, h1, h⟩ := codeQ_ok hE hc n0 fid nt ro a _ _ _ _ _ h
    cases e with
    | normal =>
      obtain ⟨n2, e2, s2, d2, st2, h2, h3⟩ := codeQ_ok hE hc n0 fid nt ro b _ _ _ _ _ h
      refine ⟨max n n2 + 1, e2, s2, d2, st2, ?_, h3⟩
      simp only [evCode, (mono_le (Nat.le_max_left n n2)).1 _ _ _ _ _ h1, (mono_le (Nat.le_max_right n n2)).1 _ _ _ _ _ h2]
    | exit id => exact ⟨n + 1, .exit id, s1, d1, st1, by simp only [evCode, h1], h⟩
    | ret => exact ⟨n + 1, .ret, s1, d1, st1, by simp only [evCode, h1], h⟩
  | .cond c a b => fun s d st k r h => by
    change (match rdF s c with
      | .bool t => @Bool.rec (fun _ => Res) (codeQ P E ct n0 call fid nt ro b s d st k) (codeQ P E ct n0 call fid nt ro a s d st k) t
      | _ => none) = some r at h
    split at h
    · rename_i t ht
      rw [rdF_eq s nt d ro] at ht
      cases t with
      | false =>
        obtain ⟨n, e, s', d', st', h1, h2⟩ := codeQ_ok hE hc n0 fid nt ro b _ _ _ _ _ h
        exact ⟨n + 1, e, s', d', st', by simp only [evCode, ht, h1], h2⟩
      | true =>
        obtain ⟨n, e, s', d', st', h1, h2⟩ := codeQ_ok hE hc n0 fid nt ro a _ _ _ _ _ h
        exact ⟨n + 1, e, s', d', st', by simp only [evCode, ht, h1], h2⟩
    · cases h
  | .block id c => fun s d st k r h => by
    change (match ct.loop fid id ⟨s, nt, d, ro⟩ st with
      | some t => t.run fun r => k r.1 r.2.1 d r.2.2
      | none => codeQ P E ct n0 call fid nt ro c s d st (fun e s d st => @Ex.rec (fun _ => Res) (k .normal s d st) (fun id' => @Bool.rec (fun _ => Res) (k (.exit id') s d st) (k .normal s d st) (Nat.beq id' id)) (k .ret s d st) e)) = some r at h
    cases hct : ct.loop fid id ⟨s, nt, d, ro⟩ st with
    | some x =>
      rw [hct] at h
      obtain ⟨⟨e, s1, st1⟩, hx, h⟩ := DT.run_spec h
      exact ⟨1, e, s1, d, st1, by simp only [evCode, hct, hx], h⟩
    | none =>
    rw [hct] at h
    obtain ⟨n, e, s1, d1, st1, h1, h⟩ := codeQ_ok hE hc n0 fid nt ro c _ _ _ _ _ h
    cases e with
    | normal => exact ⟨n + 1, .normal, s1, d1, st1, by simp only [evCode, hct, h1], h⟩
    | ret => exact ⟨n + 1, .ret, s1, d1, st1, by simp only [evCode, hct, h1], h⟩
    | exit id' =>
      simp only at h
      cases hb : Nat.beq id' id with
      | true =>
        rw [hb] at h
        have := Nat.eq_of_beq_eq_true hb
        exact ⟨n + 1, .normal, s1, d1, st1, by simp only [evCode, hct, h1, this, if_true], h⟩
      | false =>
        rw [hb] at h
        have := Nat.ne_of_beq_eq_false hb
        exact ⟨n + 1, .exit id', s1, d1, st1, by simp only [evCode, hct, h1, this, if_false], h⟩
  | .loop c => fun s d st k r h => loopF_ok (codeQ_ok hE hc n0 fid nt ro c) n0 s d st k r h
  | .region id ops draw => fun s d st k r h => by
    cases draw with
    | false =>
      change opsF E call nt ro ops ops.toList s d st (fun s d st => k .normal s d st) = some r at h
      obtain ⟨n, s', d', st', h1, h2⟩ := opsF_spec hE hc ops.toList 0 s d st _ r (by intro j; simp) h
      refine ⟨n + 1, .normal, s', d', st', ?_, h2⟩
      have hr : List.range ops.size = List.range' 0 ops.toList.length := by rw [range_eq]; simp
      simp only [evCode, hr, h1]
    | true =>
      change E.draw call ops nt ro s d st (fun s d st => k .normal s d st) = some r at h
      obtain ⟨n, f1, st1, hn, h⟩ := hE.draw hc h
      obtain ⟨k1, k2, _⟩ := keep_draw hn
      refine ⟨n + 1, .normal, f1.slots, f1.defers, st1, ?_, h⟩
      rw [← fr_of k1 k2]
      simp only [evCode, hn]
  | .rangeFunc f ps a b => fun s d st k r h => by
    change rangeQ P call fid nt ro f ps a b s d st k = some r at h
    unfold rangeQ at h
    split at h
    · cases h
    · rename_i x hent
      obtain ⟨l, f1, st1⟩ := x
      simp only at h
      have he : f1.ntmps = nt ∧ f1.roundOf = ro := by
        unfold enterA at hent
        split at hent
        · simp at hent
          obtain ⟨_, rfl, _⟩ := hent
          exact ⟨rfl, rfl⟩
        · split at hent
          · simp at hent
            obtain ⟨_, rfl, _⟩ := hent
            exact ⟨rfl, rfl⟩
          · cases hent
      rw [rdF_eq f1.slots f1.ntmps f1.defers f1.roundOf] at h
      split at h
      · rename_i fn first captured hg
        split at h
        · rename_i f' args st2 hinv
          obtain ⟨n, v, st3, h1, h2⟩ := hc.call _ _ _ _ _ h
          have done : ∀ {e : Ex} {st4 : St} {jump : Option Code}, endA st3 l = some (jump, st4) → k e f1.slots f1.defers st4 = some r → (∀ m, m = n + 1 → evCode P ct m fid (.rangeFunc f ps a b) ⟨s, nt, d, ro⟩ st = some (e, f1, st4)) →
              ∃ n e s' d' st', evCode P ct n fid (.rangeFunc f ps a b) ⟨s, nt, d, ro⟩ st = some (e, ⟨s', nt, d', ro⟩, st') ∧ k e s' d' st' = some r := by
            intro e st4 jump _ hk hev
            refine ⟨n + 1, e, f1.slots, f1.defers, st4, ?_, hk⟩
            rw [← fr_of he.1 he.2]
            exact hev _ rfl
          split at h2
          · rename_i st4 hend
            exact done hend h2 (fun m hm => by subst hm; simp only [evCode, hent, hg, hinv, h1, hend])
          · rename_i id st4 hend
            exact done hend h2 (fun m hm => by subst hm; simp only [evCode, hent, hg, hinv, h1, hend])
          · rename_i st4 hend
            exact done hend h2 (fun m hm => by subst hm; simp only [evCode, hent, hg, hinv, h1, hend])
          · cases h2
        · cases h
      · cases h

theorem argF_eq : ∀ (args : List Value) (i : Nat) (t : Trie Value), argF args i t = argSlots args i t
  | [], _, _ => rfl
  | v :: l, i, t => by
    show argF l (i + 1) (setP (path i) t v) = _
    rw [argF_eq l, setP_path]; rfl

theorem resF_spec {st : St} {s : Trie Value} {nt : Nat} {d : List Deferred} {r : Value × St} : ∀ (rs : List ResultVar) (k : List Value → Res), resF P s st rs k = some r → ∃ vs, rs.mapM (resultV P ⟨s, nt, d, none⟩ st) = some vs ∧ k vs = some r
  | [], k, h => ⟨[], by simp, h⟩
  | .tmp t :: rs, k, h => by
    change resF P s st rs (fun vs => k (slotF s t :: vs)) = some r at h
    obtain ⟨vs, h1, h2⟩ := resF_spec (nt := nt) (d := d) rs _ h
    refine ⟨slotF s t :: vs, ?_, h2⟩
    simp [List.mapM_cons, resultV, h1, slotF_eq]
  | .cell a t :: rs, k, h => by
    change (match getP (path a) s with
      | some (.pointer (some a)) => loadF P st t a fun v => resF P s st rs fun vs => k (v :: vs)
      | _ => none) = some r at h
    rw [getP_path] at h
    split at h
    · rename_i ad hg
      obtain ⟨v, h1, h2⟩ := loadF_spec h
      obtain ⟨vs, h3, h4⟩ := resF_spec (nt := nt) (d := d) rs _ h2
      refine ⟨v :: vs, ?_, h4⟩
      simp [List.mapM_cons, resultV, hg, h1, h3]
    · cases h

theorem deferF_spec {kn : Knot} (hkn : CallOk P ct kn) : ∀ (ds : List Deferred) (st : St) (k : St → Res) (r : Value × St), deferF P ct kn ds st k = some r → ∃ n st', evDefers P ct n ds st = some st' ∧ k st' = some r
  | [], st, k, r, h => ⟨1, st, rfl, h⟩
  | d :: ds, st, k, r, h => by
    obtain ⟨tg, as⟩ := d
    have other : (∀ i, tg ≠ .collected i) → (match invokeV P tg as.toList st with
        | some (.enter g args st) => match ct.call g args st with
          | some _ => none
          | none => kn.call g args st fun _ st => deferF P ct kn ds st k
        | _ => none) = some r → ∃ n st', evDefers P ct n (⟨tg, as⟩ :: ds) st = some st' ∧ k st' = some r := by
      intro hne h
      split at h
      · rename_i g args st1 hinv
        split at h
        · cases h
        rename_i hno
        obtain ⟨n, v, st2, h1, h2⟩ := hkn.call _ _ _ _ _ h
        obtain ⟨n2, st3, h3, h4⟩ := deferF_spec hkn ds st2 k r h2
        refine ⟨max n n2 + 1, st3, ?_, h4⟩
        have e1 := (mono_le (Nat.le_max_left n n2)).2.2.2.1 _ _ _ _ h1
        have e2 := (mono_le (Nat.le_max_right n n2)).2.2.2.2.1 _ _ _ h3
        cases tg <;> first
          | exact absurd rfl (hne _)
          | simp only [evDefers, hinv, hno, e1, e2]
      · cases h
    cases tg with
    | collected i =>
      change (match getP (path i) st.heap with
        | some .deferred => deferF P ct kn ds (kill st i) k
        | _ => none) = some r at h
      rw [getP_path] at h
      split at h
      · rename_i hg
        obtain ⟨n2, st3, h3, h4⟩ := deferF_spec hkn ds _ k r h
        exact ⟨n2 + 1, st3, by simp only [evDefers, hg, h3], h4⟩
      · cases h
    | fn f c => exact other (by simp) h
    | nil => exact other (by simp) h
    | _ => first | exact other (by simp) h | (exact other (by intro i; simp) h)

theorem callB_ok {E : Eng} (hE : EngOk P ct E) (n0 : Nat) {kn : Knot} (hkn : CallOk P ct kn) : ∀ g args st k r, callB P E ct n0 kn g args st k = some r → ∃ n v st', evCall P ct n g args st = some (v, st') ∧ k v st' = some r := by
    intro g args st k r h
    unfold callB at h
    cases hct : ct.call g args st with
    | some x =>
      rw [hct] at h
      obtain ⟨⟨v, st1⟩, hx, h⟩ := DT.run_spec h
      exact ⟨1, v, st1, by simp only [evCall, hct, hx], h⟩
    | none =>
      rw [hct] at h
      simp only at h
      unfold bodyOf at h
      rw [funcsT_eq] at h
      split at h
      · cases h
      · rename_i fb hfb
        split at hfb
        · rename_i fn hfn
          split at hfb
          · rename_i c hcb
            obtain rfl := Option.some.inj hfb
            obtain ⟨m, e, s1, d1, st1, h1, h⟩ := codeQ_ok hE hkn n0 g _ none c _ _ _ _ _ h
            rw [argF_eq] at h1
            have done : (e = .normal ∨ e = .ret) → finF P ct kn fn.results.toList k s1 d1 st1 = some r → ∃ n v st', evCall P ct n g args st = some (v, st') ∧ k v st' = some r := by
              intro he h
              obtain ⟨n2, st2, h2, h⟩ := deferF_spec hkn _ _ _ _ h
              obtain ⟨vs, h3, h4⟩ := resF_spec (nt := max fn.ntmps args.length) (d := d1) _ _ h
              refine ⟨max m n2 + 1, resultOf vs, st2, ?_, h4⟩
              have e1 := (mono_le (Nat.le_max_left m n2)).1 _ _ _ _ _ h1
              have e2 := (mono_le (Nat.le_max_right m n2)).2.2.2.2.1 _ _ _ h2
              have h3' : resultsV P fn ⟨s1, max fn.ntmps args.length, d1, none⟩ st2 = some vs := h3
              rcases he with rfl | rfl <;> simp only [evCall, hct, hfn, hcb, e1, e2, h3']
            cases e with
            | normal => exact done (Or.inl rfl) h
            | ret => exact done (Or.inr rfl) h
            | exit id => cases h
          · cases hfb
        · cases hfb


theorem roundB_ok {E : Eng} (hE : EngOk P ct E) (n0 : Nat) {kn : Knot} (hkn : CallOk P ct kn) : ∀ l args st k r, roundB P E ct n0 kn l args st k = some r → ∃ n v st', evRound P ct n l args st = some (v, st') ∧ k v st' = some r := by
  intro l args st k r h
  unfold roundB at h
  rw [getP_path] at h
  split at h
  · rename_i R hg
    split at h
    · cases h
    · rename_i hc
      split at h
      · cases h
      · rename_i slots hput
        obtain ⟨n, e, s1, d1, st1, h1, h⟩ := codeQ_ok hE hkn n0 R.fn R.ntmps (some l) R.assign _ _ _ _ _ h
        cases e with
        | exit id => cases h
        | ret => cases h
        | normal =>
          simp only at h
          split at h
          · cases h
          · rename_i st2 hb
            obtain ⟨n2, e2, s2, d2, st3, h2, h⟩ := codeQ_ok hE hkn n0 R.fn R.ntmps (some l) R.body _ _ _ _ _ h
            unfold roundEnd at h
            split at h
            · split at h
              · rename_i st4 hend
                refine ⟨max n n2 + 1, .bool (codeOfEx e2).isNone, st4, ?_, h⟩
                simp only [evRound, hg, hput, if_neg hc, (mono_le (Nat.le_max_left n n2)).1 _ _ _ _ _ h1, hb, (mono_le (Nat.le_max_right n n2)).1 _ _ _ _ _ h2, hend]
              · cases h
            · cases h
  · cases h

theorem knotQ_ok {E : Eng} (hE : EngOk P ct E) (n0 : Nat) : ∀ n, CallOk P ct (knotQ P E ct n0 n)
  | 0 => ⟨fun _ _ _ _ _ h => (by cases h), fun _ _ _ _ _ h => (by cases h)⟩
  | n + 1 => ⟨callB_ok hE n0 (knotQ_ok hE n0 n), roundB_ok hE n0 (knotQ_ok hE n0 n)⟩

theorem engQ_ok (P : Program) (ct : Ct) : EngOk P ct (engQ P) where
  comp := fun h => opF_spec h
  draw := by
    intro call hc ops nt ro s d st k r h
    change (match drawQ P (outF call) ops s nt d ro st with
      | some r => k r.1.slots r.1.defers r.2
      | none => none) = some r at h
    cases hd : drawQ P (outF call) ops s nt d ro st with
    | none => rw [hd] at h; cases h
    | some x =>
      rw [hd] at h
      obtain ⟨f1, st1⟩ := x
      obtain ⟨n, hn⟩ := drawRegion_fuel (outF_ok hc) (drawQ_spec hd)
      exact ⟨n, f1, st1, hn, h⟩

/-- Does a call answer true? By the quicker evaluator. -/
noncomputable def trueQ (P : Program) (ct : Ct) (n : Nat) (g : FuncId) (args : List Value) : Bool := isTrue ((knotQ P (engQ P) ct n n).call g args (start 0) fun v st => some (v, st))

theorem trueQ_ev {n : Nat} {g : FuncId} {args : List Value} (h : trueQ P ct n g args = true) : ∃ m st', evCall P ct m g args (start 0) = some (.bool true, st') := by
  unfold trueQ at h
  cases hq : (knotQ P (engQ P) ct n n).call g args (start 0) fun v st => some (v, st) with
  | none => rw [hq] at h; cases h
  | some r =>
    rw [hq] at h
    obtain ⟨m, v, st', h1, h2⟩ := (knotQ_ok (engQ_ok P ct) n n).call _ _ _ _ _ hq
    have : r = (v, st') := (Option.some.inj h2).symm
    rw [this] at h
    unfold isTrue at h
    split at h
    · rename_i e
      cases e
      exact ⟨m, st', h1⟩
    · cases h

theorem trueQ_calls (hN : noNum P = true) (hct : CtOk P ct) {n : Nat} {g : FuncId} {args : List Value} (h : trueQ P ct n g args = true) {w : World} {args' : Array Value} (ha : VRL (envOf w) args args'.toList) :
    Calls P g args' w fun e w' => e = .returned (.bool true) ∧ RowKit.Below w.heap.size w w' := by
  obtain ⟨m, st', h1⟩ := trueQ_ev h
  exact evCall_true hN hct noObs h1 ha

/-- The same by any engine. -/
noncomputable def trueE (P : Program) (E : Eng) (ct : Ct) (n : Nat) (g : FuncId) (args : List Value) : Bool := isTrue ((knotQ P E ct n n).call g args (start 0) fun v st => some (v, st))
theorem trueE_calls {E : Eng} (hE : EngOk P ct E) (hN : noNum P = true) (hct : CtOk P ct) {n : Nat} {g : FuncId} {args : List Value} (h : trueE P E ct n g args = true) {w : World} {args' : Array Value} (ha : VRL (envOf w) args args'.toList) :
    Calls P g args' w fun e w' => e = .returned (.bool true) ∧ RowKit.Below w.heap.size w w' := by
  unfold trueE at h
  cases hq : (knotQ P E ct n n).call g args (start 0) fun v st => some (v, st) with
  | none => rw [hq] at h; cases h
  | some r =>
    rw [hq] at h
    obtain ⟨m, v, st', h1, h2⟩ := (knotQ_ok hE n n).call _ _ _ _ _ hq
    have : r = (v, st') := (Option.some.inj h2).symm
    rw [this] at h
    unfold isTrue at h
    split at h
    · rename_i e
      cases e
      exact evCall_true hN hct noObs h1 ha
    · cases h
end
end Go.VS
