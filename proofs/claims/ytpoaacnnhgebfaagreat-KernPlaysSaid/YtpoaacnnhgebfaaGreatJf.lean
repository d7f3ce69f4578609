/-
  What holds of the loaded program at all rows. Conditions: none.
-/
import Derived.Test.YtpoaacnnhgebfaaGreatRows
import Derived.JoinedOf
set_option maxRecDepth 100000
namespace Go.Proofs.YtpoaacnnhgebfaaGreat
open Go.ChangeShapes Go.WideShapes
theorem jLaid : laidOutB Tryz.prog = true := by kernel_rfl
theorem jMaps : mapsRowed Tryz.prog = true := by kernel_rfl
theorem jKeys : Tryz.prog.plainKeys = true := by kernel_rfl
theorem jHeard : Tryz.prog.stopsHeard = true := by kernel_rfl
theorem jEnter : Tryz.prog.mayEnter = true := by kernel_rfl
theorem jLift : Tryz.prog.liftsFinal = false := by kernel_rfl
theorem jMake : Tryz.prog.make = some Rows.kernPlaysRow.make := by kernel_rfl
end Go.Proofs.YtpoaacnnhgebfaaGreat
