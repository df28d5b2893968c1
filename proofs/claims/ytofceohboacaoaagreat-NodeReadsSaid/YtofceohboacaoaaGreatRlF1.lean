/- What holds of the program as a whole: closed facts, each by itself (together they take too much memory). Conditions: none. -/
import Derived.Test.YtofceohboacaoaaGreatRows
import Derived.JoinedOf
import Derived.KernelRfl
namespace Go.Proofs.YtofceohboacaoaaGreat.Facts
theorem laid : laidOutB Tryz.prog = true := by kernel_rfl
theorem rowed : mapsRowed Tryz.prog = true := by kernel_rfl
theorem heard : Tryz.prog.stopsHeard = true := by kernel_rfl
theorem enter : Tryz.prog.mayEnter = true := by kernel_rfl
theorem stops : (Tryz.prog.stops == []) = true := by kernel_rfl
theorem knobs : (Tryz.prog.stopKnobs == []) = true := by kernel_rfl
theorem own : ownKnob Tryz.prog.godebug = none := by kernel_rfl
theorem plain : (true == Tryz.prog.plainKeys) = true := by kernel_rfl
end Go.Proofs.YtofceohboacaoaaGreat.Facts
