/-
  What holds of the loaded program at all rows. Conditions: none.
-/
import Derived.Test.YthddogeenimjcaaRows
import Derived.JoinedOf
set_option maxRecDepth 100000
namespace Go.Proofs.Ythddogeenimjcaa
open Go.ChangeShapes Go.WideShapes
theorem jLaid : laidOutB Try.prog = true := by kernel_rfl
theorem jMaps : mapsRowed Try.prog = true := by kernel_rfl
theorem jKeys : Try.prog.plainKeys = true := by kernel_rfl
theorem jHeard : Try.prog.stopsHeard = true := by kernel_rfl
theorem jEnter : Try.prog.mayEnter = true := by kernel_rfl
theorem jLift : Try.prog.liftsFinal = false := by kernel_rfl
theorem jMake : Try.prog.make = some Rows.pushbackStepsRow.make := by kernel_rfl
end Go.Proofs.Ythddogeenimjcaa
