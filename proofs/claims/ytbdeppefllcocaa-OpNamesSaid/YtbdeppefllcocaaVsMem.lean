/- What the evaluator's values and memory stand for. No conditions. -/
import Derived.Test.YtbdeppefllcocaaVsEval
namespace Go.VS
set_option linter.unusedSimpArgs false
set_option linter.unusedVariables false

theorem Trie.get_setF {α : Type} : ∀ (n : Nat) (t : Trie α) (k : Nat) (x : α) (j : Nat), k < n → (t.setF n k x).get j = if j = k then some x else t.get j
  | 0, _, k, _, _, h => absurd h (Nat.not_lt_zero k)
  | n + 1, .leaf, 0, x, 0, _ => by simp [setF, get]
  | n + 1, .leaf, 0, x, j + 1, _ => by
    simp only [setF, get]; split <;> simp [get]
  | n + 1, .node v l r, 0, x, 0, _ => by simp [setF, get]
  | n + 1, .node v l r, 0, x, j + 1, _ => by simp [setF, get]
  | n + 1, .leaf, k + 1, x, 0, _ => by
    simp only [setF]; split <;> simp [get]
  | n + 1, .node v l r, k + 1, x, 0, _ => by
    simp only [setF]; split <;> simp [get]
  | n + 1, .leaf, k + 1, x, j + 1, h => by
    have ih := get_setF n (.leaf : Trie α) (k / 2) x (j / 2) (by omega)
    simp only [setF]
    split
    · rename_i hk
      simp only [get]
      split
      · rename_i hj
        rw [ih]
        have : (j / 2 = k / 2) ↔ (j + 1 = k + 1) := by omega
        simp [this, get]
      · rename_i hj
        have : ¬ (j = k) := by rintro rfl; exact hj hk
        simp [get, this]
    · rename_i hk
      simp only [get]
      split
      · rename_i hj
        have : ¬ (j = k) := by rintro rfl; exact hk hj
        simp [get, this]
      · rename_i hj
        rw [ih]
        have h1 : k % 2 = 1 := (Nat.mod_two_eq_zero_or_one k).resolve_left hk
        have h2 : j % 2 = 1 := (Nat.mod_two_eq_zero_or_one j).resolve_left hj
        have : (j / 2 = k / 2) ↔ (j + 1 = k + 1) := by omega
        simp [this, get]
  | n + 1, .node v l r, k + 1, x, j + 1, h => by
    have ihl := get_setF n l (k / 2) x (j / 2) (by omega)
    have ihr := get_setF n r (k / 2) x (j / 2) (by omega)
    simp only [setF]
    split
    · rename_i hk
      simp only [get]
      split
      · rename_i hj
        rw [ihl]
        have : (j / 2 = k / 2) ↔ (j + 1 = k + 1) := by omega
        simp [this]
      · rename_i hj
        have : ¬ (j = k) := by rintro rfl; exact hj hk
        simp [this]
    · rename_i hk
      simp only [get]
      split
      · rename_i hj
        have : ¬ (j = k) := by rintro rfl; exact hk hj
        simp [this]
      · rename_i hj
        rw [ihr]
        have h1 : k % 2 = 1 := (Nat.mod_two_eq_zero_or_one k).resolve_left hk
        have h2 : j % 2 = 1 := (Nat.mod_two_eq_zero_or_one j).resolve_left hj
        have : (j / 2 = k / 2) ↔ (j + 1 = k + 1) := by omega
        simp [this]

theorem Trie.get_set {α : Type} (t : Trie α) (k : Nat) (x : α) (j : Nat) : (t.set k x).get j = if j = k then some x else t.get j :=
  get_setF (k + 1) t k x j (Nat.lt_succ_self k)

/-- Where a block of the evaluator lies. -/
structure Loc where
  blk : Nat
  base : Nat
  total : Nat
  esize : Nat
  obj : Option Obj
  virt : Bool

/-- Where numbers lie; below 0: what the world's blocks that are frozen hold. -/
abbrev Env := Int → Option Loc

/-- The frozen part. -/
def negE (β : Env) : Env
  | .ofNat _ => none
  | .negSucc k => β (.negSucc k)

/-- 'virt': a list without an element that has no block yet. -/
def SliceR (l : Loc) (off n c : Nat) (v : Value) : Prop :=
  if l.virt = true then n = 0 ∧ off = 0 ∧ (c = 0 ∨ c = unk) ∧ v = .slice none 0 0
  else if c < unk then v = .slice (some ⟨l.blk, l.base + off, none⟩) n c
  else if c = unk then v = .slice (some ⟨l.blk, l.base + off, none⟩) n ((l.total - off) / l.esize) ∧ off ≤ l.total
  else n = 0 ∧ c - unk ≤ (l.total - off) / l.esize ∧ off ≤ l.total ∧
    v = (if (l.total - off) / l.esize = c - unk then .slice (some ⟨l.blk, l.base + off, none⟩) 0 0
      else .slice (some ⟨l.blk, l.base + (off + (c - unk) * l.esize), none⟩) 0 ((l.total - off) / l.esize - (c - unk)))

def FnR (β : Env) : Fn → Fn → Prop
  | .yield i, f => ∃ l, β i = some l ∧ f = .yield l.blk
  | g, f => f = g

/-- What a frozen slice of a elements, s cells each, is in the world, or (s = 0) a pointer a cells into frozen ones. -/
def FrzR (β : Env) (s a b len : Nat) (R : List Value → Prop) (v : Value) : Prop :=
  if s = 0 then ∃ k o cs e f l, v = .pointer (some ⟨k, o + a, none⟩) ∧ β (Int.negSucc k) = some l ∧ l.obj = some (.cells cs e f) ∧ o + len ≤ cs.size ∧ R ((cs.toList.drop o).take len)
  else len = a * s ∧ ((a = 0 ∧ b ≤ 1 ∧ v = .slice none 0 0) ∨ (a = 0 ∧ ∃ p cap, v = .slice (some p) 0 cap ∧ (b ≠ 0 → b = cap + 1)) ∨
    (0 < a ∧ ∃ k o cap cs e f l, v = .slice (some ⟨k, o, none⟩) a cap ∧ (b ≠ 0 → b = cap + 1) ∧ β (Int.negSucc k) = some l ∧ l.obj = some (.cells cs e f) ∧ o + len ≤ cs.size ∧ R ((cs.toList.drop o).take len) ∧ a ≤ cap))

theorem FrzR.mono' {β β' : Env} (h : ∀ k l, β (Int.negSucc k) = some l → β' (Int.negSucc k) = some l) {s a b len : Nat} {R R' : List Value → Prop} (hR : ∀ l, R l → R' l) {v : Value} (r : FrzR β s a b len R v) : FrzR β' s a b len R' v := by
  unfold FrzR at r ⊢
  split at r
  · rename_i hs
    rw [if_pos hs]
    obtain ⟨k, o, cs, e, f, l, h1, h2, h3, h4, h5⟩ := r
    exact ⟨k, o, cs, e, f, l, h1, h _ _ h2, h3, h4, hR _ h5⟩
  · rename_i hs
    rw [if_neg hs]
    obtain ⟨h1, h2 | h2 | ⟨h0, k, o, cap, cs, e, f, l, h2, h3, h4, h5, h6, h7, h8⟩⟩ := r
    · exact ⟨h1, Or.inl h2⟩
    · exact ⟨h1, Or.inr (Or.inl h2)⟩
    · exact ⟨h1, Or.inr (Or.inr ⟨h0, k, o, cap, cs, e, f, l, h2, h3, h _ _ h4, h5, h6, hR _ h7, h8⟩)⟩
theorem FrzR.mono {β β' : Env} (h : ∀ i l, β i = some l → β' i = some l) {s a b len : Nat} {R R' : List Value → Prop} (hR : ∀ l, R l → R' l) {v : Value} (r : FrzR β s a b len R v) : FrzR β' s a b len R' v := r.mono' (fun k => h _) hR

theorem FrzR.one {β : Env} {s a b len : Nat} {R : List Value → Prop} {v : Value} (r : FrzR β s a b len R v) : v.oneCell' = true ∧ v.cells = #[v] := by
  unfold FrzR at r
  split at r
  · obtain ⟨k, o, cs, e, f, l, h1, h2, h3, h4, h5⟩ := r
    subst h1; exact ⟨rfl, rfl⟩
  · obtain ⟨h1, ⟨_, _, h2⟩ | ⟨_, p, cap, h2, _⟩ | ⟨h0, k, o, cap, cs, e, f, l, h2, h3, h4, h5, h6, h7⟩⟩ := r
    all_goals subst h2; exact ⟨rfl, rfl⟩

mutual
def VR (β : Env) : Value → Value → Prop
  | .bool b, v => v = .bool b
  | .int k n, v => v = .int k n
  | .float k n, v => v = .float k n
  | .complex k a b, v => v = .complex k a b
  | .string s, v => v = .string s
  | .pointer none, v => v = .pointer none
  | .pointer (some a), v => a.spot = none ∧ ∃ l, β a.block = some l ∧ v = .pointer (some ⟨l.blk, l.base + a.off, none⟩)
  | .slice none n c, v => v = .slice none n c
  | .slice (some a) n c, v => a.spot = none ∧ ∃ l, β a.block = some l ∧ SliceR l a.off n c v
  | .map none, v => v = .map none
  | .map (some r), v => ∃ l, β r = some l ∧ v = .map (some l.blk)
  | .chan none, v => v = .chan none
  | .chan (some 0), v => v.oneCell' = true
  | .chan (some (_ + 1)), _ => True
  | .func f a b, v => ∃ f' a' b', v = .func f' a' b' ∧ FnR β f f' ∧ VRA β a a' ∧ VRA β b b'
  | .nilFunc, v => v = .nilFunc
  | .iface t x, v => if t < FZ then ∃ x', v = .iface t x' ∧ VR β x x' else VZ β x (t - FZ) v
  | .nilIface, v => v = .nilIface
  | .agg a, v => ∃ a', v = .agg a' ∧ VRA β a a'
  | .tuple a, v => ∃ a', v = .tuple a' ∧ VRA β a a'
  termination_by structural x => x
def VZ (β : Env) : Value → Nat → Value → Prop
  | .agg a, s, v => VZA β a s v
  | _, _, _ => False
  termination_by structural x => x
def VZA (β : Env) : Array Value → Nat → Value → Prop
  | ⟨l⟩, s, v => VZL β l s v
  termination_by structural x => x
def VZL (β : Env) : List Value → Nat → Value → Prop
  | [], _, _ => False
  | x :: c, s, v => ∃ a b, x = .slice none a b ∧ FrzR β s a b c.length (fun l => VRL (negE β) c l) v
  termination_by structural x => x
def VRA (β : Env) : Array Value → Array Value → Prop
  | ⟨l⟩, a => VRL β l a.toList
  termination_by structural x => x
def VRL (β : Env) : List Value → List Value → Prop
  | [], l => l = []
  | x :: xs, l => ∃ y ys, l = y :: ys ∧ VR β x y ∧ VRL β xs ys
  termination_by structural x => x
end

def Env.le (β β' : Env) : Prop := ∀ i l, β i = some l → β' i = some l
theorem Env.le.refl (β : Env) : β.le β := fun _ _ h => h
theorem Env.le.trans {a b c : Env} (h : a.le b) (k : b.le c) : a.le c := fun i l x => k i l (h i l x)

theorem negE_mono {β β' : Env} (h : β.le β') : (negE β).le (negE β')
  | .ofNat _, _, e => by cases e
  | .negSucc _, _, e => h _ _ e
theorem negE_le (β : Env) : (negE β).le β
  | .ofNat _, _, e => by cases e
  | .negSucc _, _, e => e

theorem FnR.mono {β β' : Env} (h : β.le β') : ∀ {f g : Fn}, FnR β f g → FnR β' f g
  | .yield _, _, ⟨l, hl, e⟩ => ⟨l, h _ _ hl, e⟩
  | .func _, _, e => e
  | .method _, _, e => e
  | .methodOf _ _, _, e => e
  | .via _ _ _ _, _, e => e

mutual
theorem VR.mono {β β' : Env} (h : β.le β') : ∀ (x v : Value), VR β x v → VR β' x v
  | .bool _, _, e => e
  | .int _ _, _, e => e
  | .float _ _, _, e => e
  | .complex _ _ _, _, e => e
  | .string _, _, e => e
  | .pointer none, _, e => e
  | .pointer (some _), _, e => by
    simp only [VR] at e ⊢
    obtain ⟨hs, l, hl, e⟩ := e
    exact ⟨hs, l, h _ _ hl, e⟩
  | .slice none _ _, _, e => e
  | .slice (some _) _ _, _, e => by
    simp only [VR] at e ⊢
    obtain ⟨hs, l, hl, e⟩ := e
    exact ⟨hs, l, h _ _ hl, e⟩
  | .map none, _, e => e
  | .map (some _), _, e => by
    simp only [VR] at e ⊢
    obtain ⟨l, hl, e⟩ := e
    exact ⟨l, h _ _ hl, e⟩
  | .chan none, _, e => e
  | .chan (some 0), _, e => e
  | .chan (some (_ + 1)), _, e => e
  | .func _ a b, _, e => by
    simp only [VR] at e ⊢
    obtain ⟨f', a', b', e, hf, ha, hb⟩ := e
    exact ⟨f', a', b', e, hf.mono h, VRA.mono h a a' ha, VRA.mono h b b' hb⟩
  | .nilFunc, _, e => e
  | .iface t x, v, e => by
    simp only [VR] at e ⊢
    split at e
    · rename_i ht
      rw [if_pos ht]
      obtain ⟨x', e, hx⟩ := e
      exact ⟨x', e, VR.mono h x x' hx⟩
    · rename_i ht
      rw [if_neg ht]
      exact VZ.mono h x _ v e
  | .nilIface, _, e => e
  | .agg a, _, e => by
    simp only [VR] at e ⊢
    obtain ⟨a', e, ha⟩ := e
    exact ⟨a', e, VRA.mono h a a' ha⟩
  | .tuple a, _, e => by
    simp only [VR] at e ⊢
    obtain ⟨a', e, ha⟩ := e
    exact ⟨a', e, VRA.mono h a a' ha⟩
theorem VZ.mono {β β' : Env} (h : β.le β') : ∀ (x : Value) (s : Nat) (v : Value), VZ β x s v → VZ β' x s v
  | .agg a, s, v, e => by simp only [VZ] at e ⊢; exact VZA.mono h a s v e
  | .bool _, _, _, e => e | .int _ _, _, _, e => e | .float _ _, _, _, e => e | .complex _ _ _, _, _, e => e | .string _, _, _, e => e | .pointer _, _, _, e => e | .slice _ _ _, _, _, e => e | .map _, _, _, e => e | .chan _, _, _, e => e
  | .func _ _ _, _, _, e => e | .nilFunc, _, _, e => e | .iface _ _, _, _, e => e | .nilIface, _, _, e => e | .tuple _, _, _, e => e
theorem VZA.mono {β β' : Env} (h : β.le β') : ∀ (x : Array Value) (s : Nat) (v : Value), VZA β x s v → VZA β' x s v
  | ⟨l⟩, s, v, e => by simp only [VZA] at e ⊢; exact VZL.mono h l s v e
theorem VZL.mono {β β' : Env} (h : β.le β') : ∀ (x : List Value) (s : Nat) (v : Value), VZL β x s v → VZL β' x s v
  | [], _, _, e => e
  | x :: c, s, v, e => by
    simp only [VZL] at e ⊢
    obtain ⟨a, b, e, r⟩ := e
    exact ⟨a, b, e, r.mono h fun l hl => VRL.mono (negE_mono h) c l hl⟩
theorem VRA.mono {β β' : Env} (h : β.le β') : ∀ (a b : Array Value), VRA β a b → VRA β' a b
  | ⟨l⟩, _, e => by simp only [VRA] at e ⊢; exact VRL.mono h l _ e
theorem VRL.mono {β β' : Env} (h : β.le β') : ∀ (a b : List Value), VRL β a b → VRL β' a b
  | [], _, e => e
  | x :: xs, _, e => by
    simp only [VRL] at e ⊢
    obtain ⟨y, ys, e, hx, hxs⟩ := e
    exact ⟨y, ys, e, VR.mono h x y hx, VRL.mono h xs ys hxs⟩
end

mutual
theorem VR.of_flat {β : Env} : ∀ (x v : Value), flat x = true → VR β x v → v = x
  | .bool _, _, _, e => e
  | .int _ _, _, _, e => e
  | .float _ _, _, _, e => e
  | .complex _ _ _, _, _, e => e
  | .string _, _, _, e => e
  | .pointer none, _, _, e => e
  | .pointer (some _), _, h, _ => by simp [flat] at h
  | .slice none _ _, _, _, e => e
  | .slice (some _) _ _, _, h, _ => by simp [flat] at h
  | .map none, _, _, e => e
  | .map (some _), _, h, _ => by simp [flat] at h
  | .chan none, _, _, e => e
  | .chan (some _), _, h, _ => by simp [flat] at h
  | .func f a b, _, h, e => by
    simp only [flat, Bool.and_eq_true] at h
    simp only [VR] at e
    obtain ⟨f', a', b', e, hf, ha, hb⟩ := e
    have h1 := VRA.of_flat a a' h.1.2 ha
    have h2 := VRA.of_flat b b' h.2 hb
    subst h1 h2
    cases f <;> simp_all [FnR, flatFn]
  | .nilFunc, _, _, e => e
  | .iface t x, _, h, e => by
    simp only [flat, Bool.and_eq_true] at h
    obtain ⟨ht, h⟩ := h
    have ht : t < FZ := Nat.le_of_ble_eq_true ht
    simp only [VR, if_pos ht] at e
    obtain ⟨x', e, hx⟩ := e
    rw [e, VR.of_flat x x' h hx]
  | .nilIface, _, _, e => e
  | .agg a, _, h, e => by
    simp only [flat] at h
    simp only [VR] at e
    obtain ⟨a', e, ha⟩ := e
    rw [e, VRA.of_flat a a' h ha]
  | .tuple a, _, h, e => by
    simp only [flat] at h
    simp only [VR] at e
    obtain ⟨a', e, ha⟩ := e
    rw [e, VRA.of_flat a a' h ha]
theorem VRA.of_flat {β : Env} : ∀ (a b : Array Value), flatA a = true → VRA β a b → b = a
  | ⟨l⟩, ⟨l'⟩, h, e => by
    simp only [flatA] at h
    simp only [VRA] at e
    have := VRL.of_flat l l' h e
    subst this; rfl
theorem VRL.of_flat {β : Env} : ∀ (a b : List Value), flatL a = true → VRL β a b → b = a
  | [], _, _, e => e
  | x :: xs, _, h, e => by
    simp only [flatL, Bool.and_eq_true] at h
    simp only [VRL] at e
    obtain ⟨y, ys, e, hx, hxs⟩ := e
    rw [e, VR.of_flat x y h.1 hx, VRL.of_flat xs ys h.2 hxs]
end

mutual
theorem VR.flat_refl {β : Env} : ∀ (x : Value), flat x = true → VR β x x
  | .bool _, _ => rfl
  | .int _ _, _ => rfl
  | .float _ _, _ => rfl
  | .complex _ _ _, _ => rfl
  | .string _, _ => rfl
  | .pointer none, _ => rfl
  | .pointer (some _), h => by simp [flat] at h
  | .slice none _ _, _ => rfl
  | .slice (some _) _ _, h => by simp [flat] at h
  | .map none, _ => rfl
  | .map (some _), h => by simp [flat] at h
  | .chan none, _ => rfl
  | .chan (some _), h => by simp [flat] at h
  | .func f a b, h => by
    simp only [flat, Bool.and_eq_true] at h
    simp only [VR]
    refine ⟨f, a, b, rfl, ?_, VRA.flat_refl a h.1.2, VRA.flat_refl b h.2⟩
    cases f <;> simp_all [FnR, flatFn]
  | .nilFunc, _ => rfl
  | .iface t x, h => by
    simp only [flat, Bool.and_eq_true] at h
    obtain ⟨ht, h⟩ := h
    have ht : t < FZ := Nat.le_of_ble_eq_true ht
    simp only [VR, if_pos ht]; exact ⟨x, rfl, VR.flat_refl x h⟩
  | .nilIface, _ => rfl
  | .agg a, h => by simp only [flat] at h; simp only [VR]; exact ⟨a, rfl, VRA.flat_refl a h⟩
  | .tuple a, h => by simp only [flat] at h; simp only [VR]; exact ⟨a, rfl, VRA.flat_refl a h⟩
theorem VRA.flat_refl {β : Env} : ∀ (a : Array Value), flatA a = true → VRA β a a
  | ⟨l⟩, h => by simp only [flatA] at h; simp only [VRA]; exact VRL.flat_refl l h
theorem VRL.flat_refl {β : Env} : ∀ (a : List Value), flatL a = true → VRL β a a
  | [], _ => rfl
  | x :: xs, h => by
    simp only [flatL, Bool.and_eq_true] at h
    simp only [VRL]
    exact ⟨x, xs, rfl, VR.flat_refl x h.1, VRL.flat_refl xs h.2⟩
end

theorem VRL_iff {β : Env} : ∀ {a b : List Value}, VRL β a b ↔ a.length = b.length ∧ ∀ (i : Nat) (v v' : Value), a[i]? = some v → b[i]? = some v' → VR β v v'
  | [], b => by
    simp only [VRL]
    constructor
    · rintro rfl; exact ⟨rfl, fun i v v' h => by simp at h⟩
    · rintro ⟨h, _⟩; cases b with
      | nil => rfl
      | cons _ _ => simp at h
  | x :: xs, b => by
    simp only [VRL]
    constructor
    · rintro ⟨y, ys, rfl, hx, hxs⟩
      obtain ⟨hl, hi⟩ := VRL_iff.1 hxs
      refine ⟨by simp [hl], fun i v v' h h' => ?_⟩
      cases i with
      | zero => simp at h h'; subst h h'; exact hx
      | succ i => exact hi i v v' (by simpa using h) (by simpa using h')
    · rintro ⟨hl, hi⟩
      cases b with
      | nil => simp at hl
      | cons y ys =>
        refine ⟨y, ys, rfl, hi 0 x y rfl rfl, VRL_iff.2 ⟨by simpa using hl, fun i v v' h h' => hi (i + 1) v v' (by simpa using h) (by simpa using h')⟩⟩

theorem VRL.length {β : Env} {a b : List Value} (h : VRL β a b) : a.length = b.length := (VRL_iff.1 h).1
theorem VRL.get {β : Env} {a b : List Value} (h : VRL β a b) {i : Nat} {v : Value} (hv : a[i]? = some v) : ∃ v', b[i]? = some v' ∧ VR β v v' := by
  obtain ⟨hl, hi⟩ := VRL_iff.1 h
  have : i < b.length := by rw [← hl]; exact (List.getElem?_eq_some_iff.1 hv).1
  exact ⟨b[i], List.getElem?_eq_getElem this, hi i v _ hv (List.getElem?_eq_getElem this)⟩
theorem VRL.append {β : Env} : ∀ {a b c d : List Value}, VRL β a b → VRL β c d → VRL β (a ++ c) (b ++ d)
  | [], _, _, _, h, k => by simp only [VRL] at h; subst h; simpa using k
  | x :: xs, _, _, _, h, k => by
    simp only [VRL] at h
    obtain ⟨y, ys, rfl, hx, hxs⟩ := h
    simp only [List.cons_append, VRL]
    exact ⟨y, _, rfl, hx, hxs.append k⟩
theorem VRL.take {β : Env} {a b : List Value} (h : VRL β a b) (n : Nat) : VRL β (a.take n) (b.take n) := by
  obtain ⟨hl, hi⟩ := VRL_iff.1 h
  refine VRL_iff.2 ⟨by simp [hl], fun i v v' h1 h2 => ?_⟩
  rw [List.getElem?_take] at h1 h2
  split at h1
  · rw [if_pos ‹_›] at h2; exact hi i v v' h1 h2
  · simp at h1
theorem VRL.drop {β : Env} {a b : List Value} (h : VRL β a b) (n : Nat) : VRL β (a.drop n) (b.drop n) := by
  obtain ⟨hl, hi⟩ := VRL_iff.1 h
  refine VRL_iff.2 ⟨by simp [hl], fun i v v' h1 h2 => ?_⟩
  rw [List.getElem?_drop] at h1 h2
  exact hi _ v v' h1 h2
theorem VRL.cons {β : Env} {x y : Value} {a b : List Value} (h : VR β x y) (k : VRL β a b) : VRL β (x :: a) (y :: b) := by
  simp only [VRL]; exact ⟨y, b, rfl, h, k⟩
theorem VRL.nil {β : Env} : VRL β [] [] := by simp [VRL]
theorem VRL.map {β : Env} {α : Type} (f g : α → Value) : ∀ (l : List α), (∀ x ∈ l, VR β (f x) (g x)) → VRL β (l.map f) (l.map g)
  | [], _ => VRL.nil
  | x :: xs, h => VRL.cons (h x (by simp)) (VRL.map f g xs fun y hy => h y (by simp [hy]))
theorem VRA_iff {β : Env} {a b : Array Value} : VRA β a b ↔ VRL β a.toList b.toList := by cases a; simp [VRA]
theorem VZ.form {β : Env} {s : Nat} {x v : Value} (h : VZ β x s v) : ∃ a b c, x = .agg ⟨.slice none a b :: c⟩ ∧ FrzR β s a b c.length (fun l => VRL (negE β) c l) v := by
  cases x with
  | agg a =>
    obtain ⟨l⟩ := a
    cases l with
    | nil => simp [VZ, VZA, VZL] at h
    | cons x c =>
      simp only [VZ, VZA, VZL] at h
      obtain ⟨a, b, e, r⟩ := h
      subst e
      exact ⟨a, b, c, rfl, r⟩
  | _ => simp [VZ] at h
theorem VZ.one {β : Env} {s : Nat} {x v : Value} (h : VZ β x s v) : v.oneCell' = true ∧ v.cells = #[v] := by
  obtain ⟨a, b, c, _, r⟩ := h.form
  exact r.one
theorem fzOf_rel {β : Env} {x v : Value} {z : FzV} (hz : fzOf x = some z) (h : VR β x v) : z.sz ≠ 0 ∧ FrzR β z.sz z.n z.cap z.cells.length (fun l => VRL (negE β) z.cells l) v := by
  unfold fzOf at hz
  split at hz
  · rename_i t n b c
    split at hz
    · rename_i ht
      have ht : FZ + 1 ≤ t := Nat.le_of_ble_eq_true ht
      simp at hz
      subst hz
      simp only [VR, if_neg (Nat.not_lt.2 (Nat.le_of_succ_le ht)), VZ, VZA, VZL] at h
      obtain ⟨a', b', e, r⟩ := h
      cases e
      exact ⟨Nat.sub_ne_zero_of_lt ht, r⟩
    · cases hz
  · cases hz
theorem fpOf_rel {β : Env} {x v : Value} {a : Nat} {c : List Value} (hz : fpOf x = some (a, c)) (h : VR β x v) : ∃ k o cs e f l, v = .pointer (some ⟨k, o + a, none⟩) ∧ β (Int.negSucc k) = some l ∧ l.obj = some (.cells cs e f) ∧ o + c.length ≤ cs.size ∧ VRL (negE β) c ((cs.toList.drop o).take c.length) := by
  unfold fpOf at hz
  split at hz
  · rename_i t n b c'
    split at hz
    · rename_i ht
      have ht : t = FZ := Nat.eq_of_beq_eq_true ht
      simp at hz
      obtain ⟨rfl, rfl⟩ := hz
      subst ht
      simp only [VR, if_neg (Nat.lt_irrefl _), VZ, VZA, VZL, Nat.sub_self] at h
      obtain ⟨a', b', e, r⟩ := h
      cases e
      unfold FrzR at r
      rw [if_pos rfl] at r
      exact r
    · cases hz
  · cases hz
theorem fz_mk {β : Env} {s n b : Nat} {c : List Value} {v : Value} (hs : s ≠ 0) (r : FrzR β s n b c.length (fun l => VRL (negE β) c l) v) : VR β (mkFz s n b c) v := by
  unfold mkFz
  simp only [VR, if_neg (Nat.not_lt.2 (Nat.le_add_right FZ s)), VZ, VZA, VZL]
  have e : FZ + s - FZ = s := by omega
  rw [e]
  exact ⟨n, b, rfl, r⟩
theorem fp_mk {β : Env} {a : Nat} {c : List Value} {k o : Nat} {cs : Array Value} {e : TypeId} {f : Nat × Nat} {l : Loc} (hl : β (Int.negSucc k) = some l) (hb : l.obj = some (.cells cs e f)) (hle : o + c.length ≤ cs.size) (hc : VRL (negE β) c ((cs.toList.drop o).take c.length)) :
    VR β (mkFp a c) (.pointer (some ⟨k, o + a, none⟩)) := by
  unfold mkFp
  simp only [VR, if_neg (Nat.lt_irrefl _), VZ, VZA, VZL, Nat.sub_self]
  refine ⟨a, 0, rfl, ?_⟩
  unfold FrzR
  rw [if_pos rfl]
  exact ⟨k, o, cs, e, f, l, rfl, hl, hb, hle, hc⟩
theorem VR.iface_of {β : Env} {t : TypeId} {x v : Value} (ht : t < FZ) (h : VR β (.iface t x) v) : ∃ x', v = .iface t x' ∧ VR β x x' := by
  simp only [VR, if_pos ht] at h; exact h
theorem VR.iface_mk {β : Env} {t : TypeId} {x x' : Value} (ht : t < FZ) (h : VR β x x') : VR β (.iface t x) (.iface t x') := by
  simp only [VR, if_pos ht]; exact ⟨x', rfl, h⟩
theorem VR.ifaceFZ {β : Env} {x v : Value} (h : VR β (.iface FZ x) v) : ∃ a, v = .pointer (some a) := by
  simp only [VR, if_neg (Nat.lt_irrefl _), Nat.sub_self] at h
  obtain ⟨a, b, c, _, r⟩ := h.form
  unfold FrzR at r
  rw [if_pos rfl] at r
  obtain ⟨k, o, cs, e, f, l, h1, _⟩ := r
  exact ⟨_, h1⟩
theorem VRL.oneCells {β : Env} {a b : List Value} (h : VRL β a b) (k : a.all oneCell = true) : ∀ v ∈ b, v.oneCell' = true := by
  intro v hv
  obtain ⟨hl, hi⟩ := VRL_iff.1 h
  obtain ⟨i, hib, rfl⟩ := List.getElem_of_mem hv
  have hia : i < a.length := by omega
  have r := hi i a[i] b[i] (List.getElem?_eq_getElem hia) (List.getElem?_eq_getElem hib)
  have o := List.all_eq_true.1 k a[i] (List.getElem_mem hia)
  revert r o
  generalize a[i] = x
  generalize b[i] = y
  intro r o
  cases x with
  | agg _ => simp [oneCell] at o
  | tuple _ => simp [oneCell] at o
  | pointer p => cases p with
    | none => simp only [VR] at r; subst r; rfl
    | some p => simp only [VR] at r; obtain ⟨_, l, _, e⟩ := r; subst e; rfl
  | slice p n c => cases p with
    | none => simp only [VR] at r; subst r; rfl
    | some p =>
      simp only [VR] at r
      obtain ⟨_, l, _, e⟩ := r
      unfold SliceR at e
      split at e
      · rw [e.2.2.2]; rfl
      split at e
      · subst e; rfl
      · split at e
        · rw [e.1]; rfl
        · rw [e.2.2.2]; split <;> rfl
  | map p => cases p with
    | none => simp only [VR] at r; subst r; rfl
    | some p => simp only [VR] at r; obtain ⟨l, _, e⟩ := r; subst e; rfl
  | chan p => cases p with
    | none => simp only [VR] at r; subst r; rfl
    | some p => cases p with
      | zero => simpa only [VR] using r
      | succ _ => simp [oneCell] at o
  | func f p q => simp only [VR] at r; obtain ⟨_, _, _, e, _⟩ := r; subst e; rfl
  | iface t p =>
    simp only [VR] at r
    split at r
    · obtain ⟨_, e, _⟩ := r; subst e; rfl
    · exact (VZ.one r).1
  | _ => simp only [VR] at r; subst r; rfl
theorem VR.cells {β : Env} {x y : Value} (h : VR β x y) (hx : isAny x = false) : VRL β x.cells.toList y.cells.toList := by
  have one : ∀ {x y : Value}, x.cells = #[x] → y.cells = #[y] → VR β x y → VRL β x.cells.toList y.cells.toList := by
    intro x y e1 e2 h; rw [e1, e2]; exact VRL.cons h VRL.nil
  cases x with
  | agg a => simp only [VR] at h; obtain ⟨a', rfl, ha⟩ := h; exact VRA_iff.1 ha
  | tuple a => have h' := h; simp only [VR] at h'; obtain ⟨a', rfl, ha⟩ := h'; exact one rfl rfl h
  | chan p => cases p with
    | none => have h' := h; simp only [VR] at h'; subst h'; exact one rfl rfl h
    | some p => cases p with
      | succ _ => simp [isAny] at hx
      | zero =>
        refine one rfl ?_ h
        simp only [VR] at h
        cases y <;> first | rfl | simp [Value.oneCell'] at h
  | pointer p =>
    have h' := h
    cases p with
    | none => simp only [VR] at h'; subst h'; exact one rfl rfl h
    | some p => simp only [VR] at h'; obtain ⟨_, l, _, e⟩ := h'; subst e; exact one rfl rfl h
  | slice p n c =>
    have h' := h
    cases p with
    | none => simp only [VR] at h'; subst h'; exact one rfl rfl h
    | some p =>
      simp only [VR] at h'
      obtain ⟨_, l, _, e⟩ := h'
      unfold SliceR at e
      split at e
      · rw [e.2.2.2] at h ⊢; exact one rfl rfl h
      split at e
      · subst e; exact one rfl rfl h
      · split at e
        · rw [e.1] at h ⊢; exact one rfl rfl h
        · rw [e.2.2.2] at h ⊢; split at h <;> (rename_i hh; simp only [hh, if_true, if_false]; exact one rfl rfl h)
  | map p =>
    have h' := h
    cases p with
    | none => simp only [VR] at h'; subst h'; exact one rfl rfl h
    | some p => simp only [VR] at h'; obtain ⟨l, _, e⟩ := h'; subst e; exact one rfl rfl h
  | func f p q => have h' := h; simp only [VR] at h'; obtain ⟨_, _, _, e, _⟩ := h'; subst e; exact one rfl rfl h
  | iface t p =>
    have h' := h
    simp only [VR] at h'
    split at h'
    · obtain ⟨_, e, _⟩ := h'; subst e; exact one rfl rfl h
    · exact one rfl (VZ.one h').2 h
  | _ => have h' := h; simp only [VR] at h'; subst h'; exact one rfl rfl h

end Go.VS
