/- A call that the evaluator carries out is one of the machine's. No conditions. -/
import Derived.Test.YtbdeppefllcocaaVsSound2
namespace Go.VS
set_option linter.unusedSimpArgs false
set_option linter.unusedVariables false
open Go.RowKit
section
variable {P : Program} {ct : Ct}

theorem noCt_ok (P : Program) : CtOk P noCt := ⟨fun _ _ _ _ _ _ h => (by cases h), fun _ _ _ _ _ _ _ _ _ h => (by cases h)⟩

/-- All that the world has is frozen. -/
def envOf (w : World) : Env
  | .ofNat _ => none
  | .negSucc k => match w.heap[k]? with
    | some o => some ⟨k, 0, 0, 0, some o, false⟩
    | none => none

theorem envOf_neg {w : World} {k : Nat} {l : Loc} (h : envOf w (Int.negSucc k) = some l) : ∃ o, w.heap[k]? = some o ∧ l = ⟨k, 0, 0, 0, some o, false⟩ := by
  simp only [envOf] at h
  split at h
  · rename_i o ho; exact ⟨o, ho, (Option.some.inj h).symm⟩
  · cases h

def K0 (w : World) (obs : Obs) : Prot := ⟨(· < w.heap.size), fun _ => False, fun _ => False, obs⟩

theorem rel_start (w : World) (obs : Obs) : Rel P (K0 w obs) (envOf w) (start 0) w := by
  have hg : ∀ (i : Nat) b, (start 0).heap.get i = some b → False := fun i b h => by simp [start, Trie.get] at h
  refine ⟨fun k hk => hk, fun i l h => (by cases h), fun i b h => (hg i b h).elim, fun i j bi bj li lj h => (hg i bi h).elim, fun i h => h.elim, fun _ _ _ h => h.elim, fun k l hk => ?_, fun _ _ => False, fun i o h => (hg i _ h).elim, fun i k h => h.elim⟩
  obtain ⟨o, ho, rfl⟩ := envOf_neg hk
  exact ⟨⟨rfl, rfl⟩, ho, fun j bj lj h => (hg j bj h).elim⟩

theorem evCall_calls (hN : noNum P = true) (hct : CtOk P ct) (obs : Obs) {n : Nat} {g : FuncId} {args : List Value} {v : Value} {st' : St} (h : evCall P ct n g args (start 0) = some (v, st')) {w : World} {args' : Array Value} (ha : VRL (envOf w) args args'.toList) :
    Calls P g args' w fun e w' => (∃ β v', e = .returned v' ∧ VR β v v') ∧ Below w.heap.size w w' := by
  intro cs
  obtain ⟨β', fr, w', v', h1, h2, h3, h4, h5, h6⟩ := (sound_all hN hct n (K0 w obs)).call g args (start 0) v st' h (envOf w) w args' .normal cs (Or.inl rfl) ha (rel_start w obs)
  exact ⟨.returned v', w', fr, ⟨⟨β', v', rfl, h5⟩, h4.below⟩, h1, h6.2.2.2.1, h6.1, h6.2.1, h6.2.2.1, by rw [h6.2.2.2.1]; exact h6.2.2.2.2⟩

theorem evCall_true (hN : noNum P = true) (hct : CtOk P ct) (obs : Obs) {n : Nat} {g : FuncId} {args : List Value} {st' : St} (h : evCall P ct n g args (start 0) = some (.bool true, st')) {w : World} {args' : Array Value} (ha : VRL (envOf w) args args'.toList) :
    Calls P g args' w fun e w' => e = .returned (.bool true) ∧ Below w.heap.size w w' :=
  (evCall_calls hN hct obs h ha).mono fun e w' ⟨⟨β, v', h1, h2⟩, h3⟩ => ⟨by rw [h1, h2.bool'], h3⟩

def noObs : Obs := ⟨fun _ _ _ _ _ => False, fun _ _ _ _ _ _ _ h => h.elim⟩

/-- Does a call answer true? -/
def isTrue (r : Option (Value × St)) : Bool := match r with
  | some (.bool true, _) => true
  | _ => false

theorem isTrue_calls (hN : noNum P = true) (hct : CtOk P ct) {n : Nat} {g : FuncId} {args : List Value} (h : isTrue (evCall P ct n g args (start 0)) = true) {w : World} {args' : Array Value} (ha : VRL (envOf w) args args'.toList) :
    Calls P g args' w fun e w' => e = .returned (.bool true) ∧ Below w.heap.size w w' := by
  cases he : evCall P ct n g args (start 0) with
  | none => rw [he] at h; cases h
  | some r =>
    obtain ⟨v, st'⟩ := r
    rw [he] at h
    unfold isTrue at h
    split at h
    · rename_i s e
      cases e
      exact evCall_true hN hct noObs he ha
    · cases h
end
end Go.VS
