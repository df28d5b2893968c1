/- Operations of the evaluator: what they look at, and which leave memory as it is. No conditions. -/
import Derived.Test.YtbdeppefllcocaaVsOps10
import Derived.Orders
namespace Go.VS
set_option linter.unusedSimpArgs false
set_option linter.unusedVariables false
open Go.RowKit
section
variable {P : Program}

theorem parts_congr {ρ ρ' : Operand → Value} {ps : Array (Nat × Operand)} (h : ∀ x ∈ ps.map (·.2), ρ x = ρ' x) :
    (ps.toList.map fun p => (p.1, ρ p.2)) = (ps.toList.map fun p => (p.1, ρ' p.2)) ∧ ps.toList.any (fun p => isAny (ρ p.2)) = ps.toList.any (fun p => isAny (ρ' p.2)) := by
  have h' : ∀ p ∈ ps.toList, ρ p.2 = ρ' p.2 := fun p hp => h p.2 (Array.mem_map.2 ⟨p, by simpa using hp, rfl⟩)
  generalize ps.toList = l at h'
  clear h
  induction l with
  | nil => exact ⟨rfl, rfl⟩
  | cons a l ih =>
    obtain ⟨h1, h2⟩ := ih (fun p hp => h' p (by simp [hp]))
    have := h' a (by simp)
    simp [this, h1, h2]

theorem evOp_congr {ρ ρ' : Operand → Value} (o : Oper) (st : St) (h : ∀ x ∈ o.op.operands, ρ x = ρ' x) : evOp P ρ o st = evOp P ρ' o st := by
  obtain ⟨dst, op, type, pos, after, guard⟩ := o
  cases op <;> simp only [Op.operands] at h
  case next it ok => cases ok <;> simp only [evOp, h it (by simp)]
  all_goals simp only [evOp]
  case build t ps => obtain ⟨h1, h2⟩ := parts_congr (ps := ps) (fun x hx => h x (by simpa using hx)); rw [h1, h2]
  case buildSlice t n ps => obtain ⟨h1, h2⟩ := parts_congr (ps := ps) (fun x hx => h x (by simpa using hx)); rw [h1, h2]
  case makeFunc fn first captured =>
    rw [Array.map_congr_left (xs := first) fun x hx => h x (by simp [hx]), Array.map_congr_left (xs := captured) fun x hx => h x (by simp [hx])]
  case call c =>
    have hargs : c.args.toList.map ρ = c.args.toList.map ρ' := List.map_congr_left fun x hx => h x (by simp [Call.operands]; exact (by first | exact Or.inr (by simpa using hx) | exact Or.inl (by simpa using hx)))
    rw [hargs]
    cases hc : c.callee with
    | value f => have hf : ρ f = ρ' f := h f (by simp [Call.operands, hc]); simp only [hf]
    | invoke r m => have hr : ρ r = ρ' r := h r (by simp [Call.operands, hc]); simp only [hr]
    | builtin b => rfl
  case defer c =>
    have hargs : c.args.toList.map ρ = c.args.toList.map ρ' := List.map_congr_left fun x hx => h x (by simp [Call.operands]; exact (by first | exact Or.inr (by simpa using hx) | exact Or.inl (by simpa using hx)))
    rw [hargs]
    cases hc : c.callee with
    | value f => have hf : ρ f = ρ' f := h f (by simp [Call.operands, hc]); simp only [hf]
    | invoke r m => have hr : ρ r = ρ' r := h r (by simp [Call.operands, hc]); simp only [hr]
    | builtin b => rfl
  case makeMap t r => cases r <;> simp_all
  case slice t x lo hi mx => cases lo <;> cases hi <;> cases mx <;> simp_all
  all_goals (first | rfl | (simp_all; done))

theorem val_inj {a b : Value} {s t : St} (h : some (Out.val a s) = some (Out.val b t)) : s = t := by cases h; rfl

theorem builtinS_quiet {b : Builtin} (hb : b ≠ .append) (hb2 : b ≠ .clear) {at' : Array TypeId} {t : TypeId} {cs : Array Bool} {args : List Value} {st st' : St} {v : Value} (h : builtinS P b at' t cs args st = some (.val v st')) : st' = st := by
  unfold builtinS at h
  split at h
  · exact absurd rfl hb
  · repeat' split at h
    all_goals first | (cases h; done) | exact (val_inj h).symm
  · exact absurd rfl hb2
  · repeat' split at h
    all_goals first | (cases h; done) | exact (val_inj h).symm

theorem evOp_quiet {ρ : Operand → Value} {o : Oper} {st st' : St} {v : Value} (hk : kindOf P o = .quiet) (h : evOp P ρ o st = some (.val v st')) : st' = st := by
  obtain ⟨dst, op, type, pos, after, guard⟩ := o
  cases op
  case next it ok => cases hk
  case convert s d x =>
    simp only [kindOf] at hk
    simp only [evOp] at h
    split at h
    · repeat' split at h
      all_goals first | (cases h; done) | exact (val_inj h).symm
    · repeat' split at h
      all_goals first | (cases h; done) | exact (val_inj h).symm
    · rename_i hd _
      rw [hd] at hk
      cases hk
    · repeat' split at h
      all_goals first | (cases h; done) | exact (val_inj h).symm
  case call c =>
    simp only [kindOf] at hk
    simp only [evOp] at h
    cases hc : c.callee with
    | value f => simp [hc] at hk
    | invoke r m => simp [hc] at hk
    | builtin b =>
      simp only [hc] at hk h
      exact builtinS_quiet (by rintro rfl; cases hk) (by rintro rfl; cases hk) h
  all_goals first
    | (cases hk; done)
    | (simp only [evOp] at h
       repeat' split at h
       all_goals first | (cases h; done) | exact (val_inj h).symm)

theorem val_ex {v x : Value} {st st1 st' : St} (h : some (Out.val x st) = some (Out.val v st1)) : ∃ st2, some (Out.val x st') = some (Out.val v st2) := by
  cases h; exact ⟨_, rfl⟩
theorem noHeap_spec {ρ : Operand → Value} {o : Oper} {st st1 : St} {v : Value} (hn : noHeap o = true) (h : evOp P ρ o st = some (.val v st1)) (st' : St) : ∃ st2, evOp P ρ o st' = some (.val v st2) := by
  obtain ⟨dst, op, type, pos, after, guard⟩ := o
  cases op
  case binOp op t x y t' =>
    simp only [evOp] at h ⊢
    by_cases c : (flat (ρ x) && flat (ρ y)) = true
    · rw [if_pos c] at h ⊢
      repeat' split at h
      all_goals first | (cases h; done) | exact val_ex h | (simp_all; done)
    · rw [if_neg c] at h ⊢
      repeat' split at h
      all_goals first | (cases h; done) | exact val_ex h | (simp only [*]; exact val_ex h)
  all_goals first
    | (cases hn; done)
    | (simp only [evOp] at h ⊢
       repeat' split at h
       all_goals first
         | (cases h; done)
         | exact val_ex h
         | (simp_all; done))

/-! ### values that are the same -/
theorem addr_eq {a b : Addr} (h1 : a.block = b.block) (h2 : a.off = b.off) (h3 : a.spot.isNone = true) (h4 : b.spot.isNone = true) : a = b := by
  obtain ⟨x, y, z⟩ := a
  obtain ⟨x', y', z'⟩ := b
  simp at h1 h2 h3 h4
  subst h1 h2 h3 h4; rfl

mutual
theorem beqV_eq : ∀ (x y : Value), beqV x y = true → x = y
  | .bool a, y, h => by cases y <;> simp [beqV] at h; simp [h]
  | .int a b, y, h => by cases y <;> simp [beqV] at h; simp [h]
  | .float a b, y, h => by simp [beqV] at h
  | .complex a b c, y, h => by simp [beqV] at h
  | .string a, y, h => by
    cases y <;> simp [beqV] at h
    rename_i b
    obtain ⟨⟨a⟩⟩ := a; obtain ⟨⟨b⟩⟩ := b
    simp at h; rw [h]
  | .pointer none, y, h => by
    cases y <;> try (simp [beqV] at h; done)
    rename_i b; cases b <;> simp [beqV] at h; rfl
  | .pointer (some a), y, h => by
    cases y <;> try (simp [beqV] at h; done)
    rename_i b
    cases b with
    | none => simp [beqV] at h
    | some b =>
      simp only [beqV, Bool.and_eq_true, decide_eq_true_eq] at h
      rw [addr_eq h.1.1.1 h.1.1.2 h.1.2 h.2]
  | .slice none n c, y, h => by
    cases y <;> try (simp [beqV] at h; done)
    rename_i b _ _; cases b <;> simp [beqV] at h; simp [h]
  | .slice (some a) n c, y, h => by
    cases y <;> try (simp [beqV] at h; done)
    rename_i b _ _
    cases b with
    | none => simp [beqV] at h
    | some b =>
      simp only [beqV, Bool.and_eq_true, decide_eq_true_eq] at h
      rw [addr_eq h.1.1.1.1.1 h.1.1.1.1.2 h.1.1.1.2 h.1.1.2, h.1.2, h.2]
  | .map a, y, h => by cases y <;> simp [beqV] at h; simp [h]
  | .chan a, y, h => by cases y <;> simp [beqV] at h; simp [h]
  | .func a b c, y, h => by simp [beqV] at h
  | .nilFunc, y, h => by cases y <;> simp [beqV] at h; rfl
  | .nilIface, y, h => by cases y <;> simp [beqV] at h; rfl
  | .iface t x, y, h => by
    cases y <;> try (simp [beqV] at h; done)
    simp only [beqV, Bool.and_eq_true, decide_eq_true_eq] at h
    rw [h.1, beqV_eq x _ h.2]
  | .agg a, y, h => by
    cases y <;> try (simp [beqV] at h; done)
    simp only [beqV] at h
    rw [beqVA_eq a _ h]
  | .tuple a, y, h => by
    cases y <;> try (simp [beqV] at h; done)
    simp only [beqV] at h
    rw [beqVA_eq a _ h]
theorem beqVA_eq : ∀ (x y : Array Value), beqVA x y = true → x = y
  | ⟨a⟩, ⟨b⟩, h => by simp only [beqVA] at h; rw [beqVL_eq a b h]
theorem beqVL_eq : ∀ (x y : List Value), beqVL x y = true → x = y
  | [], [], _ => rfl
  | [], _ :: _, h => by simp [beqVL] at h
  | _ :: _, [], h => by simp [beqVL] at h
  | x :: xs, y :: ys, h => by
    simp only [beqVL, Bool.and_eq_true] at h
    rw [beqV_eq x y h.1, beqVL_eq xs ys h.2]
end
end
end Go.VS
