/- The quicker evaluator comes to what the plain one comes to. No conditions. -/
import Derived.Test.YtbdeppefllcocaaVsMono
namespace Go.VS
set_option linter.unusedSimpArgs false
set_option linter.unusedVariables false

theorem pathF_succ (n k : Nat) : pathF (n + 1) (k + 1) = if k % 2 = 0 then .l (pathF n (k / 2)) else .r (pathF n (k / 2)) := by
  show @Bool.rec (fun _ => Path) (.r (pathF n (k / 2))) (.l (pathF n (k / 2))) (Nat.beq (k % 2) 0) = _
  by_cases h : k % 2 = 0
  · rw [if_pos h, h]; rfl
  · rw [if_neg h]
    have h1 : k % 2 = 1 := (Nat.mod_two_eq_zero_or_one k).resolve_left h
    rw [h1]; rfl

theorem getP_pathF {α : Type} : ∀ (n k : Nat) (t : Trie α), k < n → getP (pathF n k) t = t.get k
  | 0, k, t, h => absurd h (Nat.not_lt_zero k)
  | n + 1, 0, t, _ => by cases t <;> rfl
  | n + 1, k + 1, t, h => by
    rw [pathF_succ]
    cases t with
    | leaf => split <;> rfl
    | node v l r =>
      simp only [Trie.get]
      by_cases hk : k % 2 = 0
      · rw [if_pos hk, hk]
        exact getP_pathF n (k / 2) l (by omega)
      · rw [if_neg hk]
        have h1 : k % 2 = 1 := (Nat.mod_two_eq_zero_or_one k).resolve_left hk
        rw [h1]
        exact getP_pathF n (k / 2) r (by omega)
theorem getP_path {α : Type} (k : Nat) (t : Trie α) : getP (path k) t = t.get k := getP_pathF (k + 1) k t (Nat.lt_succ_self k)

theorem setP_pathF {α : Type} : ∀ (n k : Nat) (t : Trie α) (x : α), k < n → setP (pathF n k) t x = t.setF n k x
  | 0, k, t, x, h => absurd h (Nat.not_lt_zero k)
  | n + 1, 0, t, x, _ => by cases t <;> simp [Trie.setF] <;> rfl
  | n + 1, k + 1, t, x, h => by
    rw [pathF_succ]
    cases t with
    | leaf =>
      simp only [Trie.setF]
      by_cases hk : k % 2 = 0
      · rw [if_pos hk, hk]
        show Trie.node none (setP (pathF n (k / 2)) .leaf x) .leaf = _
        rw [setP_pathF n (k / 2) .leaf x (by omega)]
        rfl
      · rw [if_neg hk]
        have h1 : k % 2 = 1 := (Nat.mod_two_eq_zero_or_one k).resolve_left hk
        rw [h1]
        show Trie.node none .leaf (setP (pathF n (k / 2)) .leaf x) = _
        rw [setP_pathF n (k / 2) .leaf x (by omega)]
        rfl
    | node v l r =>
      simp only [Trie.setF]
      by_cases hk : k % 2 = 0
      · rw [if_pos hk, hk]
        show Trie.node v (setP (pathF n (k / 2)) l x) r = _
        rw [setP_pathF n (k / 2) l x (by omega)]
        rfl
      · rw [if_neg hk]
        have h1 : k % 2 = 1 := (Nat.mod_two_eq_zero_or_one k).resolve_left hk
        rw [h1]
        show Trie.node v l (setP (pathF n (k / 2)) r x) = _
        rw [setP_pathF n (k / 2) r x (by omega)]
        rfl
theorem setP_path {α : Type} (k : Nat) (t : Trie α) (x : α) : setP (path k) t x = t.set k x := setP_pathF (k + 1) k t x (Nat.lt_succ_self k)

theorem nthF_eq : ∀ (c : List Value) (n : Nat), nthF c n = c[n]?
  | [], n => rfl
  | v :: c, 0 => rfl
  | v :: c, n + 1 => by
    show nthF c n = _
    rw [nthF_eq c n]; rfl
theorem setL_eq : ∀ (c : List Value) (n : Nat) (x : Value), n < c.length → setL c n x = putAt c n [x]
  | [], n, x, h => by simp at h
  | v :: c, 0, x, _ => by show x :: c = _; simp [putAt]
  | v :: c, n + 1, x, h => by
    show v :: setL c n x = _
    rw [setL_eq c n x (by simpa using h)]
    simp [putAt, Nat.add_right_comm]

theorem altL_get {α : Type} : ∀ (l : List α) (i : Nat), (altL l true)[i]? = l[2 * i]? ∧ (altL l false)[i]? = l[2 * i + 1]?
  | [], i => by constructor <;> rfl
  | x :: l, i => by
    have h1 : altL (x :: l) true = x :: altL l false := rfl
    have h2 : altL (x :: l) false = altL l true := rfl
    rw [h1, h2]
    refine ⟨?_, ?_⟩
    · cases i with
      | zero => rfl
      | succ i =>
        have := (altL_get l i).2
        rw [show 2 * (i + 1) = 2 * i + 1 + 1 by omega]
        simpa using this
    · have := (altL_get l i).1
      simpa using this
theorem altL_length {α : Type} : ∀ (l : List α), (altL l true).length ≤ l.length ∧ (altL l false).length ≤ l.length
  | [] => ⟨Nat.le_refl _, Nat.le_refl _⟩
  | x :: l => by
    have h1 : altL (x :: l) true = x :: altL l false := rfl
    have h2 : altL (x :: l) false = altL l true := rfl
    rw [h1, h2]
    have := altL_length l
    simp only [List.length_cons]
    omega
theorem ofL_get {α : Type} : ∀ (n : Nat) (l : List α) (i : Nat), l.length ≤ n → (ofL n l).get i = l[i]?
  | 0, l, i, h => by
    have : l = [] := List.eq_nil_of_length_eq_zero (by omega)
    subst this; rfl
  | n + 1, [], i, _ => rfl
  | n + 1, x :: l, i, h => by
    have h1 : ofL (n + 1) (x :: l) = .node (some x) (ofL n (altL l true)) (ofL n (altL l false)) := rfl
    rw [h1]
    have hl := altL_length l
    simp only [List.length_cons] at h
    cases i with
    | zero => rfl
    | succ i =>
      simp only [Trie.get]
      rcases Nat.mod_two_eq_zero_or_one i with hi | hi
      · rw [hi]
        show (ofL n (altL l true)).get (i / 2) = _
        rw [ofL_get n _ _ (by omega), (altL_get l (i / 2)).1]
        rw [show 2 * (i / 2) = i by omega]; simp
      · rw [hi]
        show (ofL n (altL l false)).get (i / 2) = _
        rw [ofL_get n _ _ (by omega), (altL_get l (i / 2)).2]
        rw [show 2 * (i / 2) + 1 = i by omega]; simp
theorem infoQ_eq (P : Program) (t : TypeId) : infoQ P t = P.info? t := by
  unfold infoQ typesT
  rw [getP_path, ofL_get _ _ _ (by simp)]
  simp only [Array.getElem?_toList]
  split
  · rename_i i hi
    have hlt := (Array.getElem?_eq_some_iff.1 hi).1
    unfold Tables.info?
    rw [if_pos hlt, hi]
  · rfl
theorem undQ_eq (P : Program) (t : TypeId) : undQ P t = P.underlying t := by
  unfold undQ Program.underlying
  simp only [infoQ_eq]
  rfl
theorem isAggQ_eq (P : Program) (t : TypeId) : isAggQ P t = isAggB P t := by unfold isAggQ isAggB; rw [undQ_eq]; rfl
theorem fieldQ_eq (P : Program) (t : TypeId) (i : Nat) : fieldQ P t i = fieldOf P t i := by unfold fieldQ fieldOf; simp only [undQ_eq, infoQ_eq]; rfl
theorem sizeQ_eq (P : Program) (t : TypeId) : sizeQ P t = sizeOfT P t := by unfold sizeQ sizeOfT; rw [infoQ_eq]
theorem zeroQ_eq (P : Program) (t : TypeId) : zeroQ P t = zeroOfT P t := by unfold zeroQ zeroOfT; rw [infoQ_eq]; rfl
theorem funcsT_eq (P : Program) (g : FuncId) : getP (path g) (funcsT P) = P.funcs[g]? := by
  unfold funcsT
  rw [getP_path, ofL_get _ _ _ (by simp)]
  simp only [Array.getElem?_toList]

section
variable {P : Program} {ct : Ct}

theorem slotF_eq (s : Trie Value) (t : Tmp) : slotF s t = (s.get t).getD undef := by
  unfold slotF; rw [getP_path]; cases s.get t <;> rfl
theorem rdF_eq (s : Trie Value) (nt : Nat) (d : List Deferred) (ro : Option Nat) : rdF s = Fr.eval ⟨s, nt, d, ro⟩ := by
  funext x
  cases x with
  | tmp t => exact slotF_eq s t
  | const v =>
    show @Bool.rec (fun _ => Value) anyV v (flat v) = _
    simp only [Fr.eval]
    cases flat v <;> rfl
  | global g => rfl
  | func g => rfl

theorem putS_spec {nt : Nat} {dst : Option Tmp} {v : Value} {s : Trie Value} {d : List Deferred} {ro : Option Nat} {k : Trie Value → Res} {r : Value × St} (h : putS nt dst v s k = some r) :
    ∃ s', Fr.put ⟨s, nt, d, ro⟩ dst v = some ⟨s', nt, d, ro⟩ ∧ k s' = some r := by
  cases dst with
  | none => exact ⟨s, rfl, h⟩
  | some t =>
    unfold putS at h
    simp only at h
    rw [setP_path] at h
    unfold Fr.put
    simp only
    cases hb : Nat.ble (Nat.add t 1) nt with
    | false => rw [hb] at h; cases h
    | true =>
      rw [hb] at h
      have : t < nt := Nat.le_of_ble_eq_true hb
      rw [if_pos this]
      exact ⟨_, rfl, h⟩

theorem addA_eq (b off n : Nat) (spot : Option Nat) : addA b off n spot = (⟨b, off, spot⟩ : Addr).add n := by
  unfold addA Addr.add
  cases n with
  | zero => rfl
  | succ n => rfl
theorem addA_rec (a : Addr) (n : Nat) : (@Addr.rec (fun _ => Addr) (fun b off spot => addA b off n spot) a) = a.add n := by
  cases a; exact addA_eq _ _ _ _

theorem cellsF_spec {st : St} {a : Addr} {k : Nat → Nat → List Value → TypeId → Bool → Trie Blk → Nat → Res} {r : Value × St} (h : cellsF st a k = some r) :
    ∃ c e x, a.spot = none ∧ st.heap.get a.block = some (.cells c e x) ∧ k a.block a.off c e x st.heap st.next = some r := by
  obtain ⟨heap, next⟩ := st
  obtain ⟨b, off, spot⟩ := a
  unfold cellsF at h
  cases spot with
  | some _ => cases h
  | none =>
    simp only at h
    rw [getP_path] at h
    split at h
    · rename_i c e x hg
      exact ⟨c, e, x, rfl, hg, h⟩
    · cases h

theorem loadF_spec {st : St} {t : TypeId} {a : Addr} {k : Value → Res} {r : Value × St} (h : loadF P st t a k = some r) : ∃ v, loadV P st t a = some v ∧ k v = some r := by
  unfold loadF at h
  split at h
  · cases h
  · rename_i w hw
    obtain ⟨c, e, x, hs, hg, h⟩ := cellsF_spec h
    unfold loadK at hw
    rw [undQ_eq, infoQ_eq, isAggQ_eq] at hw
    unfold loadV
    split at hw
    · rename_i hu hi
      simp only [hu, hi]
      rename_i d i
      have hat : ∀ n, cellsAt st a n = if a.off + n ≤ c.length then some ((c.drop a.off).take n) else none := by
        intro n; unfold cellsAt; simp [hs, hg]
      cases hagg : isAggB P t with
      | true =>
        simp only [hagg, if_true] at hw ⊢
        obtain rfl := Option.some.inj hw
        simp only at h
        rw [hat]
        cases hb : Nat.ble (Nat.add a.off i.size) c.length with
        | false => rw [hb] at h; cases h
        | true =>
          rw [hb] at h
          have hle : a.off + i.size ≤ c.length := Nat.le_of_ble_eq_true hb
          rw [if_pos hle]
          exact ⟨_, rfl, h⟩
      | false =>
        simp only [hagg, Bool.false_eq_true, if_false] at hw ⊢
        obtain rfl := Option.some.inj hw
        simp only [nthF_eq] at h
        rw [hat]
        split at h
        · rename_i v hv
          have hlt := (List.getElem?_eq_some_iff.1 hv).1
          have hv' := (List.getElem?_eq_some_iff.1 hv).2
          rw [if_pos (by omega)]
          have : (c.drop a.off).take 1 = [v] := by
            rw [List.drop_eq_getElem_cons hlt]; simp [hv']
          rw [this]
          exact ⟨v, rfl, h⟩
        · cases h
    · cases hw

theorem storeF_spec {st : St} {t : TypeId} {a : Addr} {v : Value} {k : St → Res} {r : Value × St} (h : storeF P st t a v k = some r) : ∃ st', storeV P st t a v = some st' ∧ k st' = some r := by
  unfold storeF at h
  split at h
  · cases h
  · rename_i n hn
    have slow : (match storeV P st t a v with | some st => k st | none => none) = some r → ∃ st', storeV P st t a v = some st' ∧ k st' = some r := by
      intro h
      cases hs : storeV P st t a v with
      | none => rw [hs] at h; cases h
      | some st' => rw [hs] at h; exact ⟨st', rfl, h⟩
    cases hb : and (Nat.beq n 1) (scalarB v) with
    | false => rw [hb] at h; exact slow h
    | true =>
      rw [hb] at h
      obtain ⟨c, e, x, hs, hg, h⟩ := cellsF_spec h
      simp only [nthF_eq, setP_path] at h
      have hand : Nat.beq n 1 = true ∧ scalarB v = true := by
        cases h1 : Nat.beq n 1 with
        | false => rw [h1] at hb; cases hb
        | true => rw [h1] at hb; exact ⟨rfl, hb⟩
      have hn1 : n = 1 := Nat.eq_of_beq_eq_true hand.1
      subst hn1
      have hv : v.cells = #[v] ∧ isAny v = false ∧ oneCell v = true := by
        have h2 := hand.2
        cases v with
        | chan r => cases r with
          | none => exact ⟨rfl, rfl, rfl⟩
          | some _ => simp [scalarB] at h2
        | agg _ => simp [scalarB] at h2
        | tuple _ => simp [scalarB] at h2
        | _ => exact ⟨rfl, rfl, rfl⟩
      obtain ⟨v1, v2, v3⟩ := hv
      unfold storeV
      rw [sizeQ_eq] at hn
      unfold sizeOfT at hn
      cases hi : P.info? t with
      | none => rw [hi] at hn; cases hn
      | some i =>
        rw [hi] at hn
        have his : i.size = 1 := by simpa using hn
        split at h
        · rename_i u hu
          have hlt := (List.getElem?_eq_some_iff.1 hu).1
          refine ⟨_, ?_, h⟩
          have he : a.off + 1 ≤ c.length := by omega
          simp [v1, v2, his, setCells, hs, hg, v3, he, setL_eq _ _ _ hlt]
        · cases h

theorem kindNo_inj {a b : IntKind} (h : Nat.beq (kindNo a) (kindNo b) = true) : a = b := by
  cases a <;> cases b <;> first | rfl | cases h

theorem wrap_le (k : IntKind) (n : Nat) (h : n ≤ maxN k) : k.wrap (n : Int) = n := by
  cases k <;> simp [IntKind.wrap, IntKind.bits, IntKind.signed, maxN] at * <;> omega

theorem binF_spec {op : BinOp} {f : NatF} (hf : natFn op = some f) {x y : Value} {k : Value → Res} {slow : Res} {r : Value × St} (h : binF f x y k slow = some r) (t : TypeId) (ox oy : Operand) :
    slow = some r ∨ (flat x = true ∧ flat y = true ∧ ∃ v, flat v = true ∧ pureRun P (do eqGuard op t ox oy x y; binOp op t x y) = some v ∧ k v = some r) := by
  unfold binF at h
  split at h
  · rename_i kx a
    split at h
    · rename_i ky b
      cases a with
      | negSucc _ => exact Or.inl h
      | ofNat m =>
        cases b with
        | negSucc _ => exact Or.inl h
        | ofNat n =>
          simp only at h
          cases hk : Nat.beq (kindNo kx) (kindNo ky) with
          | false => rw [hk] at h; exact Or.inl h
          | true =>
            rw [hk] at h
            obtain rfl := kindNo_inj hk
            simp only at h
            have gd : ∀ (o : BinOp) (v : Value), pureRun P (binOp o t (.int kx (.ofNat m)) (.int kx (.ofNat n))) = some v → pureRun P (do eqGuard o t ox oy (.int kx (.ofNat m)) (.int kx (.ofNat n)); binOp o t (.int kx (.ofNat m)) (.int kx (.ofNat n))) = some v := by
              intro o v hv
              have : eqGuard o t ox oy (.int kx (.ofNat m)) (.int kx (.ofNat n)) = pure () := by
                unfold eqGuard
                cases o <;> rfl
              rw [this]; exact hv
            have bl : ∀ (b : Bool), flat (.bool b) = true := fun _ => rfl
            cases op <;> (simp only [natFn, Option.some.injEq] at hf; try subst hf)
            case add =>
              simp only [n_add] at h
              cases hb : Nat.ble (Nat.add m n) (maxN kx) with
              | false => rw [hb] at h; exact Or.inl h
              | true =>
                rw [hb] at h
                refine Or.inr ⟨rfl, rfl, _, ?_, gd _ _ ?_, h⟩
                · rfl
                · have hw := wrap_le kx (m + n) (Nat.le_of_ble_eq_true hb)
                  simp only [binOp, Op.intArith, ne_eq, not_true_eq_false, if_false]
                  show some (Value.int kx (kx.wrap (Int.ofNat m + Int.ofNat n))) = _
                  have : Int.ofNat m + Int.ofNat n = ((m + n : Nat) : Int) := by simp
                  rw [this, hw]; rfl
            case sub =>
              simp only [n_sub] at h
              cases hb : Nat.ble n m with
              | false => rw [hb] at h; exact Or.inl h
              | true =>
                rw [hb] at h
                simp only at h
                cases hb2 : Nat.ble m (maxN kx) with
                | false => rw [hb2] at h; exact Or.inl h
                | true =>
                  rw [hb2] at h
                  refine Or.inr ⟨rfl, rfl, _, ?_, gd _ _ ?_, h⟩
                  · rfl
                  · have hle := Nat.le_of_ble_eq_true hb
                    have hle2 := Nat.le_of_ble_eq_true hb2
                    have hw := wrap_le kx (m - n) (by omega)
                    simp only [binOp, Op.intArith, ne_eq, not_true_eq_false, if_false]
                    show some (Value.int kx (kx.wrap (Int.ofNat m - Int.ofNat n))) = _
                    have : Int.ofNat m - Int.ofNat n = ((m - n : Nat) : Int) := by simp; omega
                    rw [this, hw]; rfl
            case eql =>
              simp only [n_eql] at h
              refine Or.inr ⟨rfl, rfl, _, bl _, gd _ _ ?_, h⟩
              simp only [binOp, Op.intCmp, ne_eq, not_true_eq_false, if_false]
              show some (Value.bool (Int.ofNat m == Int.ofNat n)) = _
              congr 2
              rw [Bool.eq_iff_iff]; simp; omega
            case neq =>
              simp only [n_neq] at h
              refine Or.inr ⟨rfl, rfl, _, bl _, gd _ _ ?_, h⟩
              simp only [binOp, Op.intCmp, ne_eq, not_true_eq_false, if_false]
              show some (Value.bool (Int.ofNat m != Int.ofNat n)) = _
              congr 2
              cases hb : Nat.beq m n with
              | true => have := Nat.eq_of_beq_eq_true hb; subst this; simp
              | false => have := Nat.ne_of_beq_eq_false hb; simp; omega
            case lss =>
              simp only [n_lss] at h
              refine Or.inr ⟨rfl, rfl, _, bl _, gd _ _ ?_, h⟩
              simp only [binOp, Op.intCmp, ne_eq, not_true_eq_false, if_false]
              show some (Value.bool (decide (Int.ofNat m < Int.ofNat n))) = _
              congr 2
              rw [Bool.eq_iff_iff, Nat.ble_eq]; simp; omega
            case leq =>
              simp only [n_leq] at h
              refine Or.inr ⟨rfl, rfl, _, bl _, gd _ _ ?_, h⟩
              simp only [binOp, Op.intCmp, ne_eq, not_true_eq_false, if_false]
              show some (Value.bool (decide (Int.ofNat m ≤ Int.ofNat n))) = _
              congr 2
              rw [Bool.eq_iff_iff, Nat.ble_eq]; simp
            case gtr =>
              simp only [n_gtr] at h
              refine Or.inr ⟨rfl, rfl, _, bl _, gd _ _ ?_, h⟩
              simp only [binOp, Op.intCmp, ne_eq, not_true_eq_false, if_false]
              show some (Value.bool (decide (Int.ofNat m > Int.ofNat n))) = _
              congr 2
              rw [Bool.eq_iff_iff, Nat.ble_eq]; simp; omega
            case geq =>
              simp only [n_geq] at h
              refine Or.inr ⟨rfl, rfl, _, bl _, gd _ _ ?_, h⟩
              simp only [binOp, Op.intCmp, ne_eq, not_true_eq_false, if_false]
              show some (Value.bool (decide (Int.ofNat m ≥ Int.ofNat n))) = _
              congr 2
              rw [Bool.eq_iff_iff, Nat.ble_eq]; simp
            all_goals cases hf
    · exact Or.inl h
  · exact Or.inl h

/-- What is done with an operation's outcome. -/
def Hands (call : Knot) (kv : Value → St → Res) (kd : Deferred → St → Res) (x : Option Out) (r : Value × St) : Prop := match x with
  | some (.val v st) => kv v st = some r
  | some (.skip st) => kv undef st = some r
  | some (.enter g args st) => call.call g args st kv = some r
  | some (.defer d st) => kd d st = some r
  | some (.round l args st) => call.rnd l args st kv = some r
  | none => False

variable {call : Knot} {s : Trie Value} {o : Oper} {st : St} {kv : Value → St → Res} {kd : Deferred → St → Res} {r : Value × St}

theorem evOpA_eq (P : Program) (ρ : Operand → Value) (o : Oper) (st : St) : evOpA P ρ o st = evOp P ρ o st := by
  obtain ⟨dst, op, type, pos, after, guard⟩ := o
  cases op
  case next it b => cases b <;> rfl
  all_goals first
    | rfl
    | (simp only [evOpA, compA, evOp, a_alloc, a_build, a_buildSlice, a_convert, a_makeInterface, a_makeMap, a_makeSlice, a_slice, a_fieldAddr, a_field, a_indexAddr, a_index, a_lookup, a_mapEntry, a_range, a_typeAssert, undQ_eq, infoQ_eq, zeroQ_eq, sizeQ_eq, fieldQ_eq]; try rfl)
theorem evOpA_fun (P : Program) : evOpA P = evOp P := by
  funext ρ o st
  exact evOpA_eq P ρ o st

theorem slowOp_spec (h : q_slow P o call s st kv kd = some r) : Hands call kv kd (evOp P (rdF s) o st) r := by
  unfold q_slow handF at h
  rw [evOpA_eq] at h
  split at h <;> rename_i hx
  · rw [hx]; exact h
  · rw [hx]; exact h
  · rw [hx]; exact h
  · rw [hx]; exact h
  · rw [hx]; exact h
  · cases h

theorem newF_spec {b : Blk} {k : Addr → St → Res} (h : newF st b k = some r) : k ⟨st.next, 0, none⟩ (st.new b).2 = some r := by
  obtain ⟨heap, next⟩ := st
  unfold newF at h
  simp only [setP_path] at h
  exact h

theorem mapF_eq (l : List Operand) : mapF s l = l.map (rdF s) := by
  induction l with
  | nil => rfl
  | cons x l ih => show rdF s x :: mapF s l = _; rw [ih]; rfl

theorem hasBody_callF {g : FuncId} {args : List Value} (h : hasBody P g = true) : VS.callF P g args st = some (.enter g args st) := by
  unfold hasBody bodyOf at h
  rw [funcsT_eq] at h
  unfold VS.callF
  split at h
  · rename_i fn hf
    simp only [hf]
    split at h
    · rename_i c hc
      simp only [hc]
    · cases h
  · cases h

/-! ### regions whose order is drawn -/
theorem bitN_eq (b j : Nat) : bitN b j = b.testBit j := by
  unfold bitN
  have h1 : Nat.land (Nat.shiftRight b j) 1 = (b >>> j) &&& 1 := rfl
  rw [h1]
  have h2 : (b >>> j) &&& 1 = (b >>> j) % 2 := Nat.and_one_is_mod _
  rw [h2, Nat.testBit]
  have h3 : (1 &&& (b >>> j) != 0) = decide ((b >>> j) % 2 = 1) := by
    rw [Nat.and_comm, h2]
    rcases Nat.mod_two_eq_zero_or_one (b >>> j) with h | h <;> rw [h] <;> rfl
  rw [h3]
  rcases Nat.mod_two_eq_zero_or_one (b >>> j) with h | h <;> rw [h] <;> rfl

theorem foldE_eq {T : Trie Nat} {acc : List Nat} (h : ∀ i, T.get i = acc[i]?) : ∀ (es : List Edge) (s : Nat), foldE T es s = es.foldl (fun s e => if Region.binds .any e then s ||| 2 ^ e.on ||| acc.getD e.on 0 else s) s
  | [], s => rfl
  | e :: es, s => by
    rw [List.foldl_cons, ← foldE_eq h es]
    show foldE T es _ = _
    congr 1
    rw [getP_path, h e.on, List.getD_eq_getElem?_getD]
    cases Region.binds .any e with
    | false => rfl
    | true =>
      cases acc[e.on]? <;> rfl

theorem bitsQ_eq : ∀ (os : List Oper) (n : Nat) (T : Trie Nat) (acc : List Nat), acc.length = n → (∀ i, T.get i = acc[i]?) → bitsL os acc = acc ++ bitsQ os n T
  | [], n, T, acc, _, _ => by simp [bitsL]; rfl
  | o :: os, n, T, acc, hn, h => by
    have hq : bitsQ (o :: os) n T = foldE T o.after.toList 0 :: bitsQ os (n + 1) (setP (path n) T (foldE T o.after.toList 0)) := rfl
    rw [hq, foldE_eq h, setP_path]
    simp only [bitsL]
    rw [bitsQ_eq os (n + 1) (T.set n (o.after.toList.foldl (fun s e => if Region.binds .any e then s ||| 2 ^ e.on ||| acc.getD e.on 0 else s) 0)) _ (by simp [hn]) (fun i => ?_)]
    · simp
    · rw [Trie.get_set]
      subst hn
      by_cases hi : i = acc.length
      · subst hi; simp
      · rw [if_neg hi, h i]
        by_cases hlt : i < acc.length
        · rw [List.getElem?_append_left hlt]
        · rw [List.getElem?_eq_none (by omega), List.getElem?_eq_none (by simp; omega)]

theorem writersQ_spec : ∀ (os : List Oper) (i : Nat) (T W : Trie Nat), writersQ os i T = some W → (∀ t j, T.get t = some j → W.get t = some j) ∧ ∀ p ∈ writersL os i, W.get p.2 = some p.1
  | [], i, T, W, h => by
    have : T = W := Option.some.inj h
    subst this
    exact ⟨fun _ _ h => h, fun p hp => by simp [writersL] at hp⟩
  | o :: os, i, T, W, h => by
    change (@Option.rec Tmp (fun _ => Option (Trie Nat)) (writersQ os (i + 1) T) (fun d => @Option.rec Nat (fun _ => Option (Trie Nat)) (writersQ os (i + 1) (setP (path d) T i)) (fun _ => none) (getP (path d) T)) o.dst) = some W at h
    simp only [writersL]
    cases hd : o.dst with
    | none => rw [hd] at h; exact writersQ_spec os (i + 1) T W h
    | some d =>
      rw [hd] at h
      simp only at h ⊢
      rw [getP_path, setP_path] at h
      cases hg : T.get d with
      | some _ => rw [hg] at h; cases h
      | none =>
        rw [hg] at h
        obtain ⟨h1, h2⟩ := writersQ_spec os (i + 1) _ W h
        refine ⟨fun t j ht => ?_, fun p hp => ?_⟩
        · refine h1 t j ?_
          rw [Trie.get_set]
          have : t ≠ d := by rintro rfl; rw [hg] at ht; cases ht
          rw [if_neg this]; exact ht
        · rcases List.mem_cons.1 hp with rfl | hp
          · refine h1 d i ?_
            rw [Trie.get_set, if_pos rfl]
          · exact h2 p hp

theorem tmpQ_spec {bs : List Nat} {W : Trie Nat} {b i : Nat} : ∀ (ts : List Tmp), tmpQ bs W b i ts = true → ∀ t ∈ ts, ∀ j, W.get t = some j → j = i ∨ (if j < i then b.testBit j = true else (bs.getD j 0).testBit i = true)
  | [], _, t, ht => by simp at ht
  | t0 :: ts, h, t, ht => by
    intro j hj
    change (@Bool.rec (fun _ => Bool) false (tmpQ bs W b i ts) (@Option.rec Nat (fun _ => Bool) true (fun j => @Bool.rec (fun _ => Bool) (@Bool.rec (fun _ => Bool) (bitN (bs.getD j 0) i) (bitN b j) (Nat.ble (Nat.add j 1) i)) true (Nat.beq j i)) (getP (path t0) W))) = true at h
    rw [getP_path] at h
    have h' : tmpQ bs W b i ts = true ∧ (@Option.rec Nat (fun _ => Bool) true (fun j => @Bool.rec (fun _ => Bool) (@Bool.rec (fun _ => Bool) (bitN (bs.getD j 0) i) (bitN b j) (Nat.ble (Nat.add j 1) i)) true (Nat.beq j i)) (W.get t0)) = true := by
      revert h
      generalize (@Option.rec Nat (fun _ => Bool) true (fun j => @Bool.rec (fun _ => Bool) (@Bool.rec (fun _ => Bool) (bitN (bs.getD j 0) i) (bitN b j) (Nat.ble (Nat.add j 1) i)) true (Nat.beq j i)) (W.get t0)) = x
      cases x <;> intro h
      · cases h
      · exact ⟨h, rfl⟩
    rcases List.mem_cons.1 ht with rfl | ht
    · have h2 := h'.2
      rw [hj] at h2
      simp only at h2
      cases hji : Nat.beq j i with
      | true => exact Or.inl (Nat.eq_of_beq_eq_true hji)
      | false =>
        right
        rw [hji] at h2
        simp only at h2
        cases hlt : Nat.ble (Nat.add j 1) i with
        | true =>
          rw [hlt] at h2
          have : j < i := Nat.le_of_ble_eq_true hlt
          rw [if_pos this, ← bitN_eq]; exact h2
        | false =>
          rw [hlt] at h2
          have : ¬ j < i := fun hh => by
            have : Nat.ble (Nat.add j 1) i = true := Nat.ble_eq_true_of_le hh
            rw [hlt] at this; cases this
          rw [if_neg this, ← bitN_eq]; exact h2
    · exact tmpQ_spec ts h'.1 t ht j hj

theorem tmpsQ_spec {ops : Array Oper} {bs : List Nat} {W : Trie Nat} {ws : List (Nat × Tmp)} (hW : ∀ p ∈ ws, W.get p.2 = some p.1) : ∀ (os : List Oper) (i : Nat) (l : List Nat), (∀ j, l[j]? = bs[i + j]?) → tmpsQ ops bs W os i l = true → tmpsOk ops bs ws os i = true
  | [], i, l, _, h => rfl
  | o :: os, i, [], _, h => by cases h
  | o :: os, i, b :: l, hl, h => by
    change (@Bool.rec (fun _ => Bool) false (tmpsQ ops bs W os (i + 1) l) (tmpQ bs W b i (tmpsOf ops o))) = true at h
    have h' : tmpsQ ops bs W os (i + 1) l = true ∧ tmpQ bs W b i (tmpsOf ops o) = true := by
      cases hx : tmpQ bs W b i (tmpsOf ops o) with
      | false => rw [hx] at h; cases h
      | true => rw [hx] at h; exact ⟨h, rfl⟩
    have hb : bs.getD i 0 = b := by
      have := hl 0
      simp at this
      rw [List.getD_eq_getElem?_getD, ← this]; rfl
    simp only [tmpsOk, Bool.and_eq_true]
    refine ⟨?_, tmpsQ_spec hW os (i + 1) l (fun j => by have := hl (j + 1); rw [show i + 1 + j = i + (j + 1) by omega]; simpa using this) h'.1⟩
    refine List.all_eq_true.2 fun t ht => List.all_eq_true.2 fun p hp => ?_
    by_cases hpt : p.2 = t
    · rcases tmpQ_spec _ h'.2 t ht p.1 (hpt ▸ hW p hp) with h1 | h1
      · simp [h1]
      · unfold bitOf
        simp only [Bool.or_eq_true, bne_iff_ne, beq_iff_eq]
        right
        rw [hb]
        split
        · rename_i hlt; rw [if_pos hlt] at h1; exact h1
        · rename_i hlt; rw [if_neg hlt] at h1; exact h1
    · simp [hpt]

theorem rdQ_eq : rdQ = Fr.eval := by
  funext f
  exact rdF_eq f.slots f.ntmps f.defers f.roundOf

theorem drawQ_spec {out : Out → Option (Value × St)} {ops : Array Oper} {s : Trie Value} {nt : Nat} {d : List Deferred} {ro : Option Nat} {st : St} {r : Fr × St} (h : drawQ P out ops s nt d ro st = some r) : drawRegion P out ops ⟨s, nt, d, ro⟩ st = some r := by
  simp only [drawQ] at h
  split at h
  · cases h
  · rename_i hm
    split at h
    · exact h
    · rename_i W hW
      have hb : bitsQ ops.toList 0 .leaf = bitsL ops.toList [] := by
        rw [bitsQ_eq ops.toList 0 .leaf [] rfl (fun i => by simp [Trie.get])]; rfl
      rw [hb] at h
      simp only [drawRegion]
      rw [if_neg hm]
      split at h
      · cases h
      · rename_i hc
        simp only [Bool.not_eq_true', Bool.not_eq_false, Bool.and_eq_true] at hc
        obtain ⟨⟨hc1, hc2⟩, hc3⟩ := hc
        have ht := tmpsQ_spec (writersQ_spec ops.toList 0 .leaf W hW).2 ops.toList 0 _ (by simp) hc2
        rw [hc1, ht, hc3]
        simp only [Bool.and_self, Bool.not_true, Bool.false_eq_true, if_false]
        rw [rdQ_eq, evOpA_fun] at h
        exact h
end
end Go.VS
