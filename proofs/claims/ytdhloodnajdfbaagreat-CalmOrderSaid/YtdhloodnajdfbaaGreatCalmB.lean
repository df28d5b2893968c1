/- The laws of the order of measures and of the bound: what the calls come to. No conditions. -/
import Derived.Test.YtdhloodnajdfbaaGreatCalmA
namespace Go.VS.Tryz
set_option linter.unusedSimpArgs false
set_option linter.unusedVariables false
set_option maxRecDepth 1000000
open Go.VS

theorem pure_true (a b c x y z o : Int) : callQ P E ct2 50 9 [.agg ⟨[.int .i64 a, .int .i64 b, .int .i64 c]⟩, .agg ⟨[.int .i64 x, .int .i64 y, .int .i64 z]⟩, .int .i64 o] = some (.bool true, mkSt []) := by
  rw [dec_pure]
  refine ite_t (by simp [eqB]) (need_eq (same_agg rfl) (need_eq (same_agg rfl) (leaf_eq ?_ rfl)))
  have : eqI (boundM o) (boundM o) = true := by simp [eqI]
  rw [this]

theorem less_iff (a b c x y z : Int) : lessM a b c x y z = true ↔ a < x ∨ (a = x ∧ (b < y ∨ (b = y ∧ c < z))) := by
  unfold lessM
  cases h1 : neI a x with
  | true =>
    simp only [neI, bne_iff_ne, ne_eq] at h1
    simp only [cond_true, ltI, decide_eq_true_eq]
    omega
  | false =>
    simp only [neI, bne_eq_false_iff_eq] at h1
    cases h2 : neI b y with
    | true =>
      simp only [neI, bne_iff_ne, ne_eq] at h2
      simp only [cond_true, cond_false, ltI, decide_eq_true_eq]
      omega
    | false =>
      simp only [neI, bne_eq_false_iff_eq] at h2
      simp only [cond_false, ltI, decide_eq_true_eq]
      omega

theorem order_true (a b c x y z p q r : Int) : callQ P E ct2 50 10 [.agg ⟨[.int .i64 a, .int .i64 b, .int .i64 c]⟩, .agg ⟨[.int .i64 x, .int .i64 y, .int .i64 z]⟩, .agg ⟨[.int .i64 p, .int .i64 q, .int .i64 r]⟩] = some (.bool true, mkSt []) := by
  rw [dec_order]
  iterate 12 (refine need_eq (same_agg rfl) ?_)
  have k1 : (lessM a b c x y z && lessM x y z a b c) = false := by
    rw [Bool.eq_false_iff]
    intro h
    simp only [Bool.and_eq_true, less_iff] at h
    omega
  have k2 : (!lessM a b c x y z && !lessM x y z a b c && notB (Bool.and (eqI a x) (Bool.and (eqI b y) (Bool.and (eqI c z) true)))) = false := by
    rw [Bool.eq_false_iff]
    intro h
    simp only [Bool.and_eq_true, Bool.not_eq_true', notB, Bool.and_true, Bool.not_eq_true', Bool.and_eq_false_iff, eqI, beq_eq_false_iff_ne, ne_eq] at h
    obtain ⟨⟨h1, h2⟩, h3⟩ := h
    have h1 : ¬ lessM a b c x y z = true := by rw [h1]; decide
    have h2 : ¬ lessM x y z a b c = true := by rw [h2]; decide
    rw [less_iff] at h1 h2
    omega
  have k3 : (lessM a b c x y z && lessM x y z p q r && !lessM a b c p q r) = false := by
    rw [Bool.eq_false_iff]
    intro h
    simp only [Bool.and_eq_true, Bool.not_eq_true'] at h
    obtain ⟨⟨h1, h2⟩, h3⟩ := h
    have h3 : ¬ lessM a b c p q r = true := by rw [h3]; decide
    rw [less_iff] at h1 h2 h3
    omega
  have k4 : (geI a 0 && geI b 0 && geI c 0 && lessM a b c 0 0 0) = false := by
    rw [Bool.eq_false_iff]
    intro h
    simp only [Bool.and_eq_true, less_iff, geI, decide_eq_true_eq] at h
    omega
  revert k1 k2 k3 k4
  generalize lessM a b c x y z = l1
  generalize lessM x y z a b c = l2
  generalize lessM x y z p q r = l3
  generalize lessM a b c p q r = l4
  generalize lessM a b c 0 0 0 = l5
  generalize Bool.and (eqI a x) (Bool.and (eqI b y) (Bool.and (eqI c z) true)) = e
  generalize geI a 0 = g1
  generalize geI b 0 = g2
  generalize geI c 0 = g3
  intro k1 k2 k3 k4
  cases l1 <;> cases l2 <;> first | exact absurd k1 (by decide) | skip
  all_goals cases e <;> first | exact absurd k2 (by decide) | skip
  all_goals cases l3 <;> cases l4 <;> first | exact absurd k3 (by decide) | skip
  all_goals cases g1 <;> cases g2 <;> cases g3 <;> cases l5 <;> first | exact absurd k4 (by decide) | rfl
end Go.VS.Tryz
