/- What holds of the program as a whole: closed facts, each by itself (together they take too much memory). Conditions: none. -/
import Derived.Test.YtbdeppefllcocaaRows
import Derived.JoinedOf
import Derived.KernelRfl
namespace Go.Proofs.Ytbdeppefllcocaa.Facts
theorem laid : laidOutB Try.prog = true := by kernel_rfl
theorem rowed : mapsRowed Try.prog = true := by kernel_rfl
theorem heard : Try.prog.stopsHeard = true := by kernel_rfl
theorem enter : Try.prog.mayEnter = true := by kernel_rfl
theorem stops : (Try.prog.stops == []) = true := by kernel_rfl
theorem knobs : (Try.prog.stopKnobs == []) = true := by kernel_rfl
theorem own : ownKnob Try.prog.godebug = none := by kernel_rfl
theorem plain : (true == Try.prog.plainKeys) = true := by kernel_rfl
end Go.Proofs.Ytbdeppefllcocaa.Facts
