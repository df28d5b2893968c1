/- Arguments of which nothing is known but how many cells they have. No conditions. -/
import Derived.Test.YtbdeppefllcocaaVsFast3
import Derived.WalkKit
import Derived.ProofKit
import Derived.OpenShut
import Derived.Carry
namespace Go.VS
set_option linter.unusedSimpArgs false
set_option linter.unusedVariables false
section
variable {P : Program}

theorem cell_one {w : World} {r : Reach} {base : Nat} {t : TypeId} {v : Value} (h : Cell.okWide P w r base t v) : v.oneCell' = true := by
  cases v with
  | agg cs => cases hu : P.underlying t with
    | none => simp [Cell.okWide, Cell.ok, hu] at h
    | some d => cases d <;> simp [Cell.okWide, Cell.ok, hu] at h
  | tuple cs => cases hu : P.underlying t with
    | none => simp [Cell.okWide, Cell.ok, hu] at h
    | some d => cases d <;> simp [Cell.okWide, Cell.ok, hu] at h
  | _ => rfl

theorem vrl_tops {β : Env} : ∀ (l : List Value), (∀ v ∈ l, v.oneCell' = true) → VRL β (List.replicate l.length (.chan (some 0))) l
  | [], _ => VRL.nil
  | v :: l, h => VRL.cons (h v (by simp)) (vrl_tops l fun x hx => h x (by simp [hx]))

theorem top_struct {β : Env} {w : World} {r : Reach} {base : Nat} {t : TypeId} {v : Value} {fs : Array Field} {n : Nat} (ht : P.underlying t = some (.struct fs)) (hn : P.cellsOf t = n) (h : Value.okWide P w r base t v) :
    VR β (.agg ⟨List.replicate n (.chan (some 0))⟩) v := by
  unfold Value.okWide at h
  rw [ht] at h
  obtain ⟨cs, rfl, hsz, ts, _, _, hc⟩ := h
  refine ⟨cs, rfl, ?_⟩
  obtain ⟨l⟩ := cs
  have hl : l.length = n := by rw [← hn, ← hsz]; rfl
  show VRL β (List.replicate n (.chan (some 0))) l
  rw [← hl]
  refine vrl_tops l fun v hv => ?_
  obtain ⟨i, hi⟩ := List.getElem?_of_mem hv
  obtain ⟨u, _, hu⟩ := hc i v (by simpa using hi)
  exact cell_one hu

theorem top_int {β : Env} {w : World} {r : Reach} {base : Nat} {t : TypeId} {v : Value} {k : IntKind} (ht : P.underlying t = some (.int k)) (h : Value.okWide P w r base t v) : VR β (.chan (some 0)) v := by
  unfold Value.okWide at h
  rw [ht] at h
  exact cell_one h

theorem struct_cells {w : World} {r : Reach} {base : Nat} {t : TypeId} {v : Value} {fs : Array Field} {ts : List TypeId} (ht : P.underlying t = some (.struct fs)) (hts : P.cellTypes P.depth t = some ts) (hn : P.cellsOf t = ts.length) (h : Value.okWide P w r base t v) :
    ∃ l : List Value, v = .agg ⟨l⟩ ∧ l.length = ts.length ∧ ∀ (i : Nat) u x, ts[i]? = some u → l[i]? = some x → Cell.okWide P w r base u x := by
  unfold Value.okWide at h
  rw [ht] at h
  obtain ⟨cs, rfl, hsz, ts', h1, _, hc⟩ := h
  rw [hts] at h1
  obtain rfl := Option.some.inj h1
  obtain ⟨l⟩ := cs
  have hl : l.length = ts.length := by rw [← hn, ← hsz]; rfl
  refine ⟨l, rfl, hl, fun i u x hu hx => ?_⟩
  obtain ⟨u', h1, h2⟩ := hc i x (by simpa using hx)
  have : i < ts.length := (List.getElem?_eq_some_iff.1 hu).1
  rw [Nat.mod_eq_of_lt this, hu] at h1
  obtain rfl := Option.some.inj h1
  exact h2
theorem cell_int {w : World} {r : Reach} {base : Nat} {t : TypeId} {k : IntKind} {v : Value} (ht : P.underlying t = some (.int k)) (h : Cell.okWide P w r base t v) : ∃ n, v = .int k n :=
  WideShapes.okWide_int ht (by unfold Value.okWide; rw [ht]; exact h)
theorem cell_string {w : World} {r : Reach} {base : Nat} {t : TypeId} {v : Value} (ht : P.underlying t = some .string) (h : Cell.okWide P w r base t v) : ∃ s, v = .string s :=
  WideShapes.okWide_string ht (by unfold Value.okWide; rw [ht]; exact h)
theorem cell_bool {w : World} {r : Reach} {base : Nat} {t : TypeId} {v : Value} (ht : P.underlying t = some .bool) (h : Cell.okWide P w r base t v) : ∃ b, v = .bool b :=
  WideShapes.okWide_bool ht (by unfold Value.okWide; rw [ht]; exact h)
theorem vr_agg {β : Env} {l l' : List Value} (h : VRL β l l') : VR β (.agg ⟨l⟩) (.agg ⟨l'⟩) := ⟨_, rfl, h⟩
theorem vr_int {β : Env} {k : IntKind} {n : Int} : VR β (.int k n) (.int k n) := rfl
theorem vr_string {β : Env} {s : ByteArray} : VR β (.string s) (.string s) := rfl
theorem vr_bool {β : Env} {b : Bool} : VR β (.bool b) (.bool b) := rfl
theorem vr_top {β : Env} {v : Value} (h : v.oneCell' = true) : VR β (.chan (some 0)) v := h
end
end Go.VS
