/- Memory under other numbers: what a loop's round leaves is brought back to the form it began with. No conditions. -/
import Derived.Test.YtbdeppefllcocaaVsFast3
namespace Go.VS
set_option linter.unusedSimpArgs false
set_option linter.unusedVariables false
open Go.RowKit

def top : Value := .chan (some 0)

mutual
/-- A value under other numbers. -/
def renV (z : Bool) (ρ : Nat → Option Nat) : Value → Value
  | .pointer (some a) => match ρ a.block with
    | some b => .pointer (some ⟨b, a.off, a.spot⟩)
    | none => top
  | .slice (some a) n c => match ρ a.block with
    | some b => .slice (some ⟨b, a.off, a.spot⟩) n c
    | none => top
  | .map (some r) => match ρ r with
    | some b => .map (some b)
    | none => top
  | .agg a => .agg (renA z ρ a)
  | .tuple a => .tuple (renA z ρ a)
  | .func f a b => if flatFn f && flatA a && flatA b then .func f a b else anyV
  | .iface t v => if Nat.ble (t + 1) FZ then .iface t (renV z ρ v) else match z with
    | true => .iface t v
    | false => top
  | v => v
def renA (z : Bool) (ρ : Nat → Option Nat) : Array Value → Array Value
  | ⟨l⟩ => ⟨renL z ρ l⟩
def renL (z : Bool) (ρ : Nat → Option Nat) : List Value → List Value
  | [] => []
  | v :: l => renV z ρ v :: renL z ρ l
end

/-- The numbers that ρ keeps stand for the same. -/
structure RenOk (z : Bool) (ρ : Nat → Option Nat) (β β' : Env) : Prop where
  nat : ∀ (b b' : Nat) l, ρ b = some b' → β b = some l → β' b' = some l
  neg : z = true → ∀ k l, β (Int.negSucc k) = some l → β' (Int.negSucc k) = some l

theorem RenOk.le {ρ : Nat → Option Nat} {β β' : Env} (h : RenOk true ρ β β') : (negE β).le (negE β')
  | .ofNat _, _, e => by cases e
  | .negSucc k, l, e => h.neg rfl k l e

theorem slice_one {l : Loc} {o n c : Nat} {v : Value} (e : SliceR l o n c v) : v.oneCell' = true := by
  unfold SliceR at e
  split at e
  · rw [e.2.2.2]; rfl
  split at e
  · subst e; rfl
  · split at e
    · rw [e.1]; rfl
    · rw [e.2.2.2]; split <;> rfl

mutual
theorem renV_rel {z : Bool} {ρ : Nat → Option Nat} {β β' : Env} (h : RenOk z ρ β β') : ∀ (v x : Value), VR β v x → VR β' (renV z ρ v) x
  | .bool _, _, e => e
  | .int _ _, _, e => e
  | .float _ _, _, e => e
  | .complex _ _ _, _, e => e
  | .string _, _, e => e
  | .pointer none, _, e => e
  | .pointer (some a), x, e => by
    simp only [VR] at e
    obtain ⟨hs, l, hl, e⟩ := e
    simp only [renV]
    split
    · rename_i b hb
      exact ⟨hs, l, h.nat _ _ _ hb hl, e⟩
    · show x.oneCell' = true; rw [e]; rfl
  | .slice none _ _, _, e => e
  | .slice (some a) n c, x, e => by
    simp only [VR] at e
    obtain ⟨hs, l, hl, e⟩ := e
    simp only [renV]
    split
    · rename_i b hb
      exact ⟨hs, l, h.nat _ _ _ hb hl, e⟩
    · exact slice_one e
  | .map none, _, e => e
  | .map (some r), x, e => by
    simp only [VR] at e
    obtain ⟨l, hl, e⟩ := e
    simp only [renV]
    split
    · rename_i b hb
      exact ⟨l, h.nat _ _ _ hb hl, e⟩
    · show x.oneCell' = true; rw [e]; rfl
  | .chan none, _, e => e
  | .chan (some 0), _, e => e
  | .chan (some (_ + 1)), _, e => e
  | .func f a b, x, e => by
    simp only [renV]
    split
    · rename_i hf
      have hf' : flat (.func f a b) = true := by simpa [flat] using hf
      rw [VR.of_flat _ _ hf' e]; exact VR.flat_refl _ hf'
    · exact trivial
  | .nilFunc, _, e => e
  | .iface t v, x, e => by
    simp only [renV]
    split
    · rename_i ht
      have ht : t < FZ := Nat.le_of_ble_eq_true ht
      obtain ⟨x', e, hx⟩ := e.iface_of ht
      rw [e]; exact VR.iface_mk ht (renV_rel h v x' hx)
    · rename_i ht
      have ht : ¬ t < FZ := fun k => ht (Nat.ble_eq_true_of_le k)
      cases z with
      | false =>
        simp only [VR, if_neg ht] at e
        exact e.one.1
      | true =>
        simp only [VR, if_neg ht] at e ⊢
        obtain ⟨a, b, c, e', r⟩ := e.form
        subst e'
        simp only [VZ, VZA, VZL]
        exact ⟨a, b, rfl, r.mono' (h.neg rfl) fun l hl => VRL.mono h.le c l hl⟩
  | .nilIface, _, e => e
  | .agg a, x, e => by
    simp only [VR] at e
    obtain ⟨a', e, ha⟩ := e
    simp only [renV, VR]
    exact ⟨a', e, renA_rel h a a' ha⟩
  | .tuple a, x, e => by
    simp only [VR] at e
    obtain ⟨a', e, ha⟩ := e
    simp only [renV, VR]
    exact ⟨a', e, renA_rel h a a' ha⟩
theorem renA_rel {z : Bool} {ρ : Nat → Option Nat} {β β' : Env} (h : RenOk z ρ β β') : ∀ (a b : Array Value), VRA β a b → VRA β' (renA z ρ a) b
  | ⟨l⟩, _, e => by simp only [VRA] at e; simp only [renA, VRA]; exact renL_rel h l _ e
theorem renL_rel {z : Bool} {ρ : Nat → Option Nat} {β β' : Env} (h : RenOk z ρ β β') : ∀ (a b : List Value), VRL β a b → VRL β' (renL z ρ a) b
  | [], _, e => e
  | x :: xs, _, e => by
    simp only [VRL] at e
    obtain ⟨y, ys, e, hx, hxs⟩ := e
    simp only [renL, VRL]
    exact ⟨y, ys, e, renV_rel h x y hx, renL_rel h xs ys hxs⟩
end

mutual
theorem renV_flat {z : Bool} {ρ : Nat → Option Nat} : ∀ {v : Value}, flat v = true → renV z ρ v = v
  | .bool _, _ => rfl | .int _ _, _ => rfl | .float _ _, _ => rfl | .complex _ _ _, _ => rfl | .string _, _ => rfl
  | .pointer none, _ => rfl | .slice none _ _, _ => rfl | .map none, _ => rfl | .chan none, _ => rfl
  | .pointer (some _), h => by simp [flat] at h
  | .slice (some _) _ _, h => by simp [flat] at h
  | .map (some _), h => by simp [flat] at h
  | .chan (some _), h => by simp [flat] at h
  | .func f a b, h => by simp only [flat] at h; simp only [renV, h, if_true]
  | .nilFunc, _ => rfl | .nilIface, _ => rfl
  | .iface t v, h => by
    simp only [flat, Bool.and_eq_true] at h
    simp only [renV, h.1, if_true, renV_flat h.2]
  | .agg a, h => by simp only [flat] at h; simp only [renV, renA_flat h]
  | .tuple a, h => by simp only [flat] at h; simp only [renV, renA_flat h]
theorem renA_flat {z : Bool} {ρ : Nat → Option Nat} : ∀ {a : Array Value}, flatA a = true → renA z ρ a = a
  | ⟨l⟩, h => by simp only [flatA] at h; simp only [renA, renL_flat h]
theorem renL_flat {z : Bool} {ρ : Nat → Option Nat} : ∀ {l : List Value}, flatL l = true → renL z ρ l = l
  | [], _ => rfl
  | x :: xs, h => by
    simp only [flatL, Bool.and_eq_true] at h
    simp only [renL, renV_flat h.1, renL_flat h.2]
end
theorem renL_append {z : Bool} {ρ : Nat → Option Nat} : ∀ (a b : List Value), renL z ρ (a ++ b) = renL z ρ a ++ renL z ρ b
  | [], b => rfl
  | x :: xs, b => by simp only [List.cons_append, renL, renL_append xs b]
theorem renL_length {z : Bool} {ρ : Nat → Option Nat} : ∀ (a : List Value), (renL z ρ a).length = a.length
  | [] => rfl
  | x :: xs => by simp only [renL, List.length_cons, renL_length xs]
theorem flatL_append : ∀ (a b : List Value), flatL (a ++ b) = (flatL a && flatL b)
  | [], b => by simp [flatL]
  | x :: xs, b => by simp only [List.cons_append, flatL, flatL_append xs b, Bool.and_assoc]

/-! ### memory under other numbers -/
def renE (z : Bool) (ρ : Nat → Option Nat) : List MapEntry → List MapEntry
  | [] => []
  | e :: es => { e with key := renV z ρ e.key, val := renV z ρ e.val } :: renE z ρ es

def renB (z : Bool) (ρ : Nat → Option Nat) : Option Blk → Blk
  | some (.cells c e x) => .cells (renL z ρ c) e x
  | some (.map es c) => .map (renE z ρ es) c
  | some (.siter s p) => .siter s p
  | some (.obj o) => match z with
    | true => .obj o
    | false => .dead
  | _ => .dead

def posO : List Nat → Nat → Nat → Option Nat
  | [], _, _ => none
  | x :: l, b, j => match Nat.beq x b with
    | true => some j
    | false => posO l b (j + 1)
def hasN : List Nat → Nat → Bool
  | [], _ => false
  | x :: l, b => match Nat.beq x b with
    | true => true
    | false => hasN l b
def rhoO (N : Nat) (src : List Nat) (b : Nat) : Option Nat := match posO src b N with
  | some j => some j
  | none => match Nat.ble (b + 1) N with
    | true => some b
    | false => none

def rigid (N : Nat) (src : List Nat) (h : Nat → Option Blk) : Nat → Nat → List Blk
  | 0, _ => []
  | n + 1, i => (match hasN src i with
    | true => .dead
    | false => renB true (rhoO N src) (h i)) :: rigid N src h n (i + 1)

def isCells : Option Blk → Bool
  | some (.cells _ _ _) => true
  | _ => false

def movs (N : Nat) (src : List Nat) (h : Nat → Option Blk) : List Nat → Option (List Blk)
  | [] => some []
  | b :: l => match isCells (h b), hasN l b with
    | true, false => match movs N src h l with
      | some r => some (renB true (rhoO N src) (h b) :: r)
      | none => none
    | _, _ => none

/-- A trie of a list, from a number on. -/
noncomputable def putL {α : Type} : List α → Nat → Trie α → Trie α
  | [], _, t => t
  | x :: l, i, t => putL l (i + 1) (setP (path i) t x)

noncomputable def mkSt (bs : List Blk) : St := ⟨putL bs 0 .leaf, bs.length⟩
noncomputable def putTs : List Tmp → List Value → Trie Value → Trie Value
  | t :: ts, v :: vs, s => putTs ts vs (setP (path t) s v)
  | _, _, s => s
noncomputable def mkS (nt : Nat) (L : List Tmp) (vs : List Value) : Trie Value := putTs L vs (putL (List.replicate nt anyV) 0 .leaf)

/-- The lists that are moved, each by its slot; one that is nil gets a number. -/
noncomputable def virtO : List (Tmp × TypeId) → Trie Value → St → Option (List Nat × Trie Value × St)
  | [], s, st => some ([], s, st)
  | m :: M, s, st => match slotF s m.1 with
    | .slice (some a) _ _ => match virtO M s st with
      | some r => some (a.block :: r.1, r.2)
      | none => none
    | .slice none 0 0 => match virtO M (setP (path m.1) s (.slice (some ⟨st.next, 0, none⟩) 0 unk)) ⟨setP (path st.next) st.heap (.cells [] m.2 false), st.next + 1⟩ with
      | some r => some (st.next :: r.1, r.2)
      | none => none
    | _ => none

/-- What is known at a loop's head: numbers below N stay as they are; slots that are looked at; lists that are moved. -/
structure Head where
  N : Nat
  nt : Nat
  L : List Tmp
  M : List (Tmp × TypeId)

noncomputable def canonO (H : Head) (s : Trie Value) (st : St) : Option (List Value × List Blk) :=
  match virtO H.M s st with
  | none => none
  | some (src, s, st) => match movs H.N src (fun i => getP (path i) st.heap) src with
    | none => none
    | some ms => match Nat.ble H.N st.next with
      | true => some (H.L.map (fun t => renV true (rhoO H.N src) (slotF s t)), rigid H.N src (fun i => getP (path i) st.heap) H.N 0 ++ ms)
      | false => none

theorem hasN_iff : ∀ (l : List Nat) (b : Nat), hasN l b = true ↔ b ∈ l
  | [], b => by simp [hasN]
  | x :: l, b => by
    simp only [hasN]
    cases h : Nat.beq x b with
    | true => simp [Nat.eq_of_beq_eq_true h]
    | false =>
      have := Nat.ne_of_beq_eq_false h
      simp only [hasN_iff l b, List.mem_cons]
      exact ⟨Or.inr, fun h => h.resolve_left (fun e => this e.symm)⟩

theorem posO_spec : ∀ (l : List Nat) (b j0 j : Nat), posO l b j0 = some j → ∃ k, j = j0 + k ∧ l[k]? = some b
  | [], b, j0, j, h => by simp [posO] at h
  | x :: l, b, j0, j, h => by
    simp only [posO] at h
    split at h
    · rename_i hb
      exact ⟨0, by simp at h; omega, by simp [Nat.eq_of_beq_eq_true hb]⟩
    · obtain ⟨k, h1, h2⟩ := posO_spec l b _ j h
      exact ⟨k + 1, by omega, by simpa using h2⟩
theorem posO_none : ∀ (l : List Nat) (b j0 : Nat), posO l b j0 = none → b ∉ l
  | [], b, j0, h => by simp
  | x :: l, b, j0, h => by
    simp only [posO] at h
    split at h
    · cases h
    · rename_i hb
      have := Nat.ne_of_beq_eq_false hb
      have := posO_none l b _ h
      simp only [List.mem_cons, not_or]
      exact ⟨fun e => ‹x ≠ b› e.symm, this⟩

theorem putL_get {α : Type} : ∀ (l : List α) (i : Nat) (t : Trie α) (j : Nat), (putL l i t).get j = if i ≤ j ∧ j < i + l.length then l[j - i]? else t.get j
  | [], i, t, j => by simp only [putL]; rw [if_neg (by simp)]
  | x :: l, i, t, j => by
    simp only [putL]
    rw [putL_get l, setP_path, Trie.get_set]
    by_cases h1 : i + 1 ≤ j ∧ j < i + 1 + l.length
    · rw [if_pos h1, if_pos (by simp; omega)]
      rw [show j - i = (j - (i + 1)) + 1 by omega]; simp
    · rw [if_neg h1]
      by_cases h2 : j = i
      · subst h2; simp
      · rw [if_neg h2, if_neg (by simp; omega)]

theorem mkSt_get (bs : List Blk) (i : Nat) : (mkSt bs).heap.get i = bs[i]? := by
  simp only [mkSt, putL_get]
  by_cases h : i < bs.length
  · rw [if_pos (by omega)]; simp
  · rw [if_neg (by omega)]; simp [Trie.get, h]

theorem rigid_get (N : Nat) (src : List Nat) (h : Nat → Option Blk) : ∀ (n i j : Nat), (rigid N src h n i)[j]? = if j < n then some (if (i + j) ∈ src then .dead else renB true (rhoO N src) (h (i + j))) else none
  | 0, i, j => by simp [rigid]
  | n + 1, i, 0 => by
    simp only [rigid, List.getElem?_cons_zero, Nat.add_zero, Nat.zero_lt_succ, if_true]
    congr 1
    by_cases hi : i ∈ src
    · rw [(hasN_iff src i).2 hi, if_pos hi]
    · have : hasN src i = false := by cases hx : hasN src i with
        | true => exact absurd ((hasN_iff src i).1 hx) hi
        | false => rfl
      rw [this, if_neg hi]
  | n + 1, i, j + 1 => by
    simp only [rigid, List.getElem?_cons_succ]
    rw [rigid_get N src h n (i + 1) j]
    rw [show i + 1 + j = i + (j + 1) by omega]
    simp
theorem rigid_length (N : Nat) (src : List Nat) (h : Nat → Option Blk) : ∀ (n i : Nat), (rigid N src h n i).length = n
  | 0, _ => rfl
  | n + 1, i => by simp [rigid, rigid_length N src h n]

theorem movs_spec {N : Nat} {src : List Nat} {h : Nat → Option Blk} : ∀ {l : List Nat} {r : List Blk}, movs N src h l = some r → l.Nodup ∧ (∀ b ∈ l, ∃ c e x, h b = some (.cells c e x)) ∧ r = l.map fun b => renB true (rhoO N src) (h b)
  | [], r, e => by simp [movs] at e; subst e; exact ⟨List.nodup_nil, by simp, rfl⟩
  | b :: l, r, e => by
    simp only [movs] at e
    split at e
    · rename_i h1 h2
      split at e
      · rename_i r' hr
        obtain rfl := Option.some.inj e
        obtain ⟨k1, k2, rfl⟩ := movs_spec hr
        refine ⟨List.nodup_cons.2 ⟨fun hm => ?_, k1⟩, ?_, rfl⟩
        · rw [(hasN_iff l b).2 hm] at h2; cases h2
        · intro x hx
          rcases List.mem_cons.1 hx with rfl | hx
          · unfold isCells at h1
            split at h1
            · exact ⟨_, _, _, ‹_›⟩
            · cases h1
          · exact k2 x hx
      · cases e
    · cases e

def leN (N : Nat) (β β' : Env) : Prop := ∀ (i : Int) l, i < N → β i = some l → β' i = some l
theorem leN.refl (N : Nat) (β : Env) : leN N β β := fun _ _ _ h => h
theorem leN.trans {N : Nat} {a b c : Env} (h : leN N a b) (k : leN N b c) : leN N a c := fun i l hi x => k i l hi (h i l hi x)
theorem Env.le.leN {a b : Env} (h : a.le b) (N : Nat) : leN N a b := fun i l _ x => h i l x
end Go.VS
