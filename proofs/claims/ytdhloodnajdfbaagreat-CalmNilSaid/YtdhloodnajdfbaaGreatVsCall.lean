/- A call that the evaluator carries out is one of the machine's. No conditions. -/
import Derived.Test.YtdhloodnajdfbaaGreatVsSound2
namespace Go.VS
set_option linter.unusedSimpArgs false
set_option linter.unusedVariables false
open Go.RowKit
section
variable {P : Program} {ct : Ct}

theorem noCt_ok (P : Program) : CtOk P noCt := fun _ _ _ _ _ _ h => by cases h

def noEnv : Env := fun _ => none

theorem rel_start (w : World) : Rel P ⟨(· < w.heap.size), fun _ => False⟩ noEnv (start 0) w :=
  ⟨fun k hk => hk, fun i l h => (by cases h), fun i b h => (by simp [start, Trie.get] at h), fun i j bi bj li lj h => (by simp [start, Trie.get] at h), fun i h => h.elim⟩

theorem evCall_calls (hN : noNum P = true) (hct : CtOk P ct) {n : Nat} {g : FuncId} {args : List Value} {v : Value} {st' : St} (h : evCall P ct n g args (start 0) = some (v, st')) {w : World} {args' : Array Value} (ha : VRL noEnv args args'.toList) :
    Calls P g args' w fun e w' => (∃ β v', e = .returned v' ∧ VR β v v') ∧ Below w.heap.size w w' := by
  intro cs
  obtain ⟨β', fr, w', v', h1, h2, h3, h4, h5, h6⟩ := (sound_all hN hct n ⟨(· < w.heap.size), fun _ => False⟩).call g args (start 0) v st' h noEnv w args' .normal cs ha (rel_start w)
  exact ⟨.returned v', w', fr, ⟨⟨β', v', rfl, h5⟩, h4.below⟩, h1, h6.2.2.2.1, h6.1, h6.2.1, h6.2.2.1, by rw [h6.2.2.2.1]; exact h6.2.2.2.2⟩

theorem evCall_true (hN : noNum P = true) (hct : CtOk P ct) {n : Nat} {g : FuncId} {args : List Value} {st' : St} (h : evCall P ct n g args (start 0) = some (.bool true, st')) {w : World} {args' : Array Value} (ha : VRL noEnv args args'.toList) :
    Calls P g args' w fun e w' => e = .returned (.bool true) ∧ Below w.heap.size w w' :=
  (evCall_calls hN hct h ha).mono fun e w' ⟨⟨β, v', h1, h2⟩, h3⟩ => ⟨by rw [h1, h2.bool'], h3⟩

/-- Does a call answer true? -/
def isTrue (r : Option (Value × St)) : Bool := match r with
  | some (.bool true, _) => true
  | _ => false

theorem isTrue_calls (hN : noNum P = true) (hct : CtOk P ct) {n : Nat} {g : FuncId} {args : List Value} (h : isTrue (evCall P ct n g args (start 0)) = true) {w : World} {args' : Array Value} (ha : VRL noEnv args args'.toList) :
    Calls P g args' w fun e w' => e = .returned (.bool true) ∧ Below w.heap.size w w' := by
  cases he : evCall P ct n g args (start 0) with
  | none => rw [he] at h; cases h
  | some r =>
    obtain ⟨v, st'⟩ := r
    rw [he] at h
    unfold isTrue at h
    split at h
    · rename_i s e
      cases e
      exact evCall_true hN hct he ha
    · cases h
end
end Go.VS
