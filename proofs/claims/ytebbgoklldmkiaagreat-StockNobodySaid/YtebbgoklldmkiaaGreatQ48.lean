/- What all rows of this seat ask of the program, each fact by itself. -/
import Derived.Test.YtebbgoklldmkiaaGreatRows
import Derived.JoinedOf
namespace Go.Proofs.YtebbgoklldmkiaaGreat.Facts
open Go
theorem laid : laidOutB Tryz.prog = true := by kernel_rfl
theorem mapsR : mapsRowed Tryz.prog = true := by kernel_rfl
theorem stops : (Tryz.prog.stops == []) = true := by kernel_rfl
theorem stopK : (Tryz.prog.stopKnobs == []) = true := by kernel_rfl
theorem heard : Tryz.prog.stopsHeard = true := by kernel_rfl
theorem may : Tryz.prog.mayEnter = true := by kernel_rfl
end Go.Proofs.YtebbgoklldmkiaaGreat.Facts
