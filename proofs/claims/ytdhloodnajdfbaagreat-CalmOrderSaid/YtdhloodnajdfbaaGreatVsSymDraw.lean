/- The engine for values of unknown content. No conditions. -/
import Derived.Test.YtdhloodnajdfbaaGreatVsSym3
namespace Go.VS
noncomputable def engS (P : Program) : Eng := ⟨compS P, drawM P (compS P)⟩
theorem engS_ok (P : Program) (ct : Ct) : EngOk P ct (engS P) where
  comp := fun h => compS_spec h
  draw := by
    intro call hc ops nt ro s d st k r h
    exact drawM_spec (fun h => compS_spec h) hc h
end Go.VS
