/- Part 20 of 21 of the proof of TopFlushed. Conditions: the theorem's: none. -/
import Derived.Test.YteojolihgijdhaaGreatDoorKTopFlushed1
set_option linter.unusedVariables false
set_option maxRecDepth 100000
namespace Go.Proofs.YteojolihgijdhaaGreatDoor.topFlushed
open Go Go.ChangeShapes Go.WideShapes
theorem goesN:false=Rows.topFlushedRow.goesBy Tryz.pinned.checked.prog:=by kernel_rfl
theorem wfText:Rows.topFlushedRow.wfByText (OpenSpec.ofChange Rows.topFlushedSpec)=true:=by kernel_rfl
theorem mainIs : Tryz.pinned.checked.prog.mainIs = some (true, ("d0aba9c462a4682590f8f3f05616c9be13192190475e33e82a93bb287e6dcf2b" : String).toList) := by kernel_rfl
theorem looksT:true=Tryz.pinned.checked.prog.looks []:=by kernel_rfl
theorem fnamed : Tryz.prog.funcNamed "millrace/millracetop.TopFlushed" = some 3 := by kernel_rfl
end Go.Proofs.YteojolihgijdhaaGreatDoor.topFlushed
