/- Part 19 of 21 of the proof of TopFlushed. Conditions: the theorem's: none. -/
import Derived.Test.YteojolihgijdhaaGreatDoorKTopFlushed1
set_option linter.unusedVariables false
set_option maxRecDepth 100000
namespace Go.Proofs.YteojolihgijdhaaGreatDoor.topFlushed
open Go Go.ChangeShapes Go.WideShapes
theorem iPlace:Tryz.prog.inPlace 3=Rows.topFlushedRow.inPlace:=by kernel_rfl
theorem iUnf:Tryz.prog.unfollowed 3=Rows.topFlushedRow.unfollowed:=by kernel_rfl
theorem iRec:Tryz.prog.recurses 3=Rows.topFlushedRow.recurses:=by kernel_rfl
theorem iVars:Tryz.prog.varsNamed 3=Rows.topFlushedRow.named:=by kernel_rfl
end Go.Proofs.YteojolihgijdhaaGreatDoor.topFlushed
