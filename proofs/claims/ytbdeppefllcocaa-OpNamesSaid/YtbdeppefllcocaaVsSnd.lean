/- What there is to show of the evaluator's code. No conditions. -/
import Derived.Test.YtbdeppefllcocaaVsRun
import Derived.Test.YtbdeppefllcocaaVsDraw3
namespace Go.VS
set_option linter.unusedSimpArgs false
set_option linter.unusedVariables false
open Go.RowKit
section
variable {P : Program} {ct : Ct} {K : Prot}

/-- What is known of calls is so. -/
structure CtOk (P : Program) (ct : Ct) : Prop where
  call : ∀ K g args st v st', (ct.call g args st).bind DT.eval = some (v, st') → ∀ β w args' cs, VRL β args args'.toList → Rel P K β st w → CallReach P K β g args' .normal cs w v st'
  loop : ∀ K fid id c f st e s' st', (ct.loop fid id f st).bind DT.eval = some (e, s', st') → Occ P fid (.block id c) → ∀ β w fr cs k, fr.todo = .code (.block id c) :: k → fr.fn = fid → FrR β f fr → Rel P K β st w → Reaches P K β fr cs w e k { f with slots := s' } st'

structure Snd (P : Program) (ct : Ct) (K : Prot) (n : Nat) : Prop where
  code : ∀ fid c f st e f' st', evCode P ct n fid c f st = some (e, f', st') → Occ P fid c → ∀ β w fr cs k, fr.todo = .code c :: k → fr.fn = fid → FrR β f fr → Rel P K β st w → Reaches P K β fr cs w e k f' st'
  ops : ∀ ops l f st f' st', evOps P ct n ops l f st = some (f', st') → ∀ β w fr cs k, fr.todo = .inRegion ops l :: k → FrR β f fr → Rel P K β st w → Reaches P K β fr cs w .normal k f' st'
  inloop : ∀ fid c f st e f' st', evCode P ct n fid (.loop c) f st = some (e, f', st') → Occ P fid (.loop c) → ∀ β w fr cs k, fr.todo = .inLoop c :: k → fr.fn = fid → FrR β f fr → Rel P K β st w → Reaches P K β fr cs w e k f' st'
  call : ∀ g args st v st', evCall P ct n g args st = some (v, st') → ∀ β w args' kind cs, (kind = .normal ∨ ct.call g args st = none) → VRL β args args'.toList → Rel P K β st w → CallReach P K β g args' kind cs w v st'
  defers : ∀ ds st st', evDefers P ct n ds st = some st' → ∀ β w fr cs, fr.mode = .returning → DefsR β ds fr.defers → Rel P K β st w →
    ∃ β' w', Steps P (lone fr cs w) (lone { fr with defers := [] } cs w') ∧ β.le β' ∧ Rel P K β' st' w' ∧ Bel K w w'
  round : ∀ l args st v st', evRound P ct n l args st = some (v, st') → ∀ β w ll args' c cs nx, β l = some ll → VRL β args args'.toList → Rel P K β st w → (Instr.yield ll.blk args').run P w = nx →
    ∃ g tmps a b, nx = .ok (.round ll.blk g tmps a b) w ∧ ∃ β' w' v', Steps P (lone (Frame.round ll.blk g tmps a b .normal) (c :: cs) w) (lone (c.finish v') cs w') ∧ β.le β' ∧ Rel P K β' st' w' ∧ Bel K w w' ∧ VR β' v v'
  out : ∀ ρ o st x v st', evOp P ρ o st = some x → evOut P ct n x = some (v, st') → ∀ β w fr cs k ops i rest, fr.mode = .run → fr.todo = .inRegion ops (i :: rest) :: k → ops[i]? = some o → Region.wanted o (yielded ops fr.tmps) = true →
    (∀ y, VR β (ρ y) (fr.eval y)) → Rel P K β st w →
    ∃ β1 w1 v', Steps P (lone fr cs w) (lone (putF fr o v' (.inRegion ops rest :: k)) cs w1) ∧ β.le β1 ∧ Rel P K β1 st' w1 ∧ Bel K w w1 ∧ VR β1 v v'
end
end Go.VS
