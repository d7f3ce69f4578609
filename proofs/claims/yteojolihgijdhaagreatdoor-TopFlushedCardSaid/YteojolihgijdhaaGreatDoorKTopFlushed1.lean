/- Part 1 of 21 of the proof of TopFlushed. Conditions: the theorem's: none. -/
import Derived.Test.YteojolihgijdhaaGreatDoorRows
import Derived.JoinedOf
import Derived.WalkKit
import Derived.Deep.Quiet
import Derived.OrdersHeld
import Derived.ProofKit
import Derived.SizedLaws
import Derived.Carry
import Derived.OpenShut
import Derived.ChangeSame
import Derived.ChangeArms
import Derived.Deep.Slices
import Derived.Laws.BytesArg
import Derived.Lib.SlBytesConst
import Derived.Test.YteojolihgijdhaaGreatDoorProg
import Derived.Laws.StandIn
import Derived.Laws.Strings
import Derived.Laws.StructEq
import Derived.Lib.OthersKept
import Derived.Defers
import Derived.Recover
import Derived.Test.YteojolihgijdhaaGreatDoorChecked
import Derived.Shelf.Sort.AssemblysIn
import Derived.Sort.EveryDepth
import Derived.RangeFuncIn
import Derived.RangeFuncLeaves
import Derived.RangeFuncRecord
import Derived.TacticsIn
import Derived.MapKept
import Derived.Laws.RangeAny
import Derived.FollowTie
import Derived.Maps.RangeRun
import Derived.Sort.KeysCollected
import Derived.Sort.OwnSorted
import Derived.Lib.SliceRun
import Derived.SevenTiedAt
import Derived.KernelRfl
import Derived.Test.YteojolihgijdhaaGreatDoorCards
import Derived.Test.YteojolihgijdhaaGreatDoorTie
import Derived.PinnedBridge
import Derived.Lay
import Derived.LaidOnce
set_option linter.unusedVariables false
set_option maxRecDepth 100000
namespace Go.Proofs.YteojolihgijdhaaGreatDoor
open Go.ChangeShapes Go.WideShapes
theorem jLaid:laidOutB Tryz.prog=true:=by kernel_rfl
theorem jMaps:mapsRowed Tryz.prog=true:=by kernel_rfl
theorem jKeys:Tryz.prog.plainKeys=true:=by kernel_rfl
theorem jHeard:Tryz.prog.stopsHeard=true:=by kernel_rfl
theorem jEnter:Tryz.prog.mayEnter=true:=by kernel_rfl
theorem jLift:Tryz.prog.liftsFinal=false:=by kernel_rfl
theorem jMake:Tryz.prog.make=some Rows.topFlushedRow.make:=by kernel_rfl
end Go.Proofs.YteojolihgijdhaaGreatDoor
