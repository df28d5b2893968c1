/- Arguments of which nothing is known but how many cells they have. No conditions. -/
import Derived.Test.YtdhloodnajdfbaaGreatVsFast3
import Derived.WalkKit
import Derived.ProofKit
import Derived.OpenShut
import Derived.Carry
namespace Go.VS
set_option linter.unusedSimpArgs false
set_option linter.unusedVariables false
section
variable {P : Program}

theorem cell_one {w : World} {r : Reach} {base : Nat} {t : TypeId} {v : Value} (h : Cell.okWide P w r base t v) : v.oneCell' = true := by
  cases v with
  | agg cs => cases hu : P.underlying t with
    | none => simp [Cell.okWide, Cell.ok, hu] at h
    | some d => cases d <;> simp [Cell.okWide, Cell.ok, hu] at h
  | tuple cs => cases hu : P.underlying t with
    | none => simp [Cell.okWide, Cell.ok, hu] at h
    | some d => cases d <;> simp [Cell.okWide, Cell.ok, hu] at h
  | _ => rfl

theorem vrl_tops {β : Env} : ∀ (l : List Value), (∀ v ∈ l, v.oneCell' = true) → VRL β (List.replicate l.length (.chan (some 0))) l
  | [], _ => VRL.nil
  | v :: l, h => VRL.cons (h v (by simp)) (vrl_tops l fun x hx => h x (by simp [hx]))

theorem top_struct {w : World} {r : Reach} {base : Nat} {t : TypeId} {v : Value} {fs : Array Field} {n : Nat} (ht : P.underlying t = some (.struct fs)) (hn : P.cellsOf t = n) (h : Value.okWide P w r base t v) :
    VR noEnv (.agg ⟨List.replicate n (.chan (some 0))⟩) v := by
  unfold Value.okWide at h
  rw [ht] at h
  obtain ⟨cs, rfl, hsz, ts, _, _, hc⟩ := h
  refine ⟨cs, rfl, ?_⟩
  obtain ⟨l⟩ := cs
  have hl : l.length = n := by rw [← hn, ← hsz]; rfl
  show VRL noEnv (List.replicate n (.chan (some 0))) l
  rw [← hl]
  refine vrl_tops l fun v hv => ?_
  obtain ⟨i, hi⟩ := List.getElem?_of_mem hv
  obtain ⟨u, _, hu⟩ := hc i v (by simpa using hi)
  exact cell_one hu

theorem top_int {w : World} {r : Reach} {base : Nat} {t : TypeId} {v : Value} {k : IntKind} (ht : P.underlying t = some (.int k)) (h : Value.okWide P w r base t v) : VR noEnv (.chan (some 0)) v := by
  unfold Value.okWide at h
  rw [ht] at h
  exact cell_one h
end
end Go.VS
