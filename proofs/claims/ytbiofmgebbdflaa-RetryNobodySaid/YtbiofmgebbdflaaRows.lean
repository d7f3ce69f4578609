/-
  No cell of these rows narrows 'for every input' (looked for: loops, veiled, ifaces, maps, wideKeys, modest, calm, conditions, laid).
  DERIVED. THE GIVEN ROWS OF THIS SEAT. 12 by the template 'for every input the law returns true; each argument reads behind the call as it read before'; 0 by the template 'total and deterministic' (their statements: YtbiofmgebbdflaaTotals.lean).
  GIVEN WITH THE SEED: the statements are not yours to turn. If you find one false, say at which input.
  Laid BY PROGRAM, IN A SANDBOX (cutbox-rows.mjs): the forced cells as the released guide's own fill.sh prints them over the translation 2897a7d0fc0c8714… (all of the seat's roots in one cut). By AI agents, Wed Nov 11 2026. No macro, syntax, notation, axiom, sorry.
-/
import Derived.Test.YtbiofmgebbdflaaChecked
import GoSem.Claim
import GoSem.ClaimJoined
import GoSem.ClaimMapViews
import Derived.JoinedTies
import Derived.KernelRfl
namespace Go.Proofs.Ytbiofmgebbdflaa
/- THE CELL 'sum', in the pinned program and in every row, IS THE sha256 OF THE DUMP (.gsa) THAT YtbiofmgebbdflaaProg.lean LOADS. Nothing in Lean hashes anything: it is a label: what it is worth is what the hold of that sum in a sandbox is worth. -/
noncomputable def Try.pinned : Pinned := { name := "ytbiofmgebbdflaa", sum := "2897a7d0fc0c8714bf46641d09e5808af2b125eb4145425ec61420ad8606b5f7", checked := Try.checked }
namespace Rows
def none {H : Type} : Left H := { results := [], args := [] }

/-- 'millracetop.TopWhole': WHATEVER THE INPUT: true; the input reads as it did. -/
def topWholeSpec : ChangeSpec := { name := "topWhole", fn := fun _ => fun
  | [d1, d2] => { results := [.lit (.bool true)], args := [d1, d2] }
  | _ => none }
def topWholeRow : OpenClaim := { program := "ytbiofmgebbdflaa", sum := "2897a7d0fc0c8714bf46641d09e5808af2b125eb4145425ec61420ad8606b5f7", func := "millrace/millracetop.TopWhole", spec := "topWhole", unfollowed := true, recurses := true, apart := false }
def TopWholeSaid : Prop := topWholeRow.holds Try.pinned (OpenSpec.ofChange topWholeSpec)

/-- ITS FALSE NEIGHBOUR: 'it returns false'. Refute it at one input. -/
def topWholeWrong : ChangeSpec := { name := "topWhole", fn := fun _ => fun
  | [d1, d2] => { results := [.lit (.bool false)], args := [d1, d2] }
  | _ => none }
def TopWholeWrongFalsely : Prop := topWholeRow.holds Try.pinned (OpenSpec.ofChange topWholeWrong)

/-- 'millracelaw07.FdtableLowest': WHATEVER THE INPUT: true; the input reads as it did. -/
def fdtableLowestSpec : ChangeSpec := { name := "fdtableLowest", fn := fun _ => fun
  | [d] => { results := [.lit (.bool true)], args := [d] }
  | _ => none }
def fdtableLowestRow : OpenClaim := { program := "ytbiofmgebbdflaa", sum := "2897a7d0fc0c8714bf46641d09e5808af2b125eb4145425ec61420ad8606b5f7", func := "millrace/millracelaw07.FdtableLowest", spec := "fdtableLowest", unfollowed := true, recurses := true, apart := false }
def FdtableLowestSaid : Prop := fdtableLowestRow.holds Try.pinned (OpenSpec.ofChange fdtableLowestSpec)

/-- ITS FALSE NEIGHBOUR: 'it returns false'. Refute it at one input. -/
def fdtableLowestWrong : ChangeSpec := { name := "fdtableLowest", fn := fun _ => fun
  | [d] => { results := [.lit (.bool false)], args := [d] }
  | _ => none }
def FdtableLowestWrongFalsely : Prop := fdtableLowestRow.holds Try.pinned (OpenSpec.ofChange fdtableLowestWrong)

/-- 'millracelaw08.RetrySome': WHATEVER THE INPUT: true; the input reads as it did. -/
def retrySomeSpec : ChangeSpec := { name := "retrySome", fn := fun _ => fun
  | [d1, d2, d3] => { results := [.lit (.bool true)], args := [d1, d2, d3] }
  | _ => none }
def retrySomeRow : OpenClaim := { program := "ytbiofmgebbdflaa", sum := "2897a7d0fc0c8714bf46641d09e5808af2b125eb4145425ec61420ad8606b5f7", func := "millrace/millracelaw08.RetrySome", spec := "retrySome", unfollowed := true, recurses := true, apart := false }
def RetrySomeSaid : Prop := retrySomeRow.holds Try.pinned (OpenSpec.ofChange retrySomeSpec)

/-- ITS FALSE NEIGHBOUR: 'it returns false'. Refute it at one input. -/
def retrySomeWrong : ChangeSpec := { name := "retrySome", fn := fun _ => fun
  | [d1, d2, d3] => { results := [.lit (.bool false)], args := [d1, d2, d3] }
  | _ => none }
def RetrySomeWrongFalsely : Prop := retrySomeRow.holds Try.pinned (OpenSpec.ofChange retrySomeWrong)

/-- 'millracelaw13.PushbackNext': WHATEVER THE INPUT: true; the input reads as it did. -/
def pushbackNextSpec : ChangeSpec := { name := "pushbackNext", fn := fun _ => fun
  | [d1, d2, d3, d4] => { results := [.lit (.bool true)], args := [d1, d2, d3, d4] }
  | _ => none }
def pushbackNextRow : OpenClaim := { program := "ytbiofmgebbdflaa", sum := "2897a7d0fc0c8714bf46641d09e5808af2b125eb4145425ec61420ad8606b5f7", func := "millrace/millracelaw13.PushbackNext", spec := "pushbackNext", inPlace := ["internal/bytealg.IndexByteString"], unfollowed := true, recurses := true, apart := false }
def PushbackNextSaid : Prop := pushbackNextRow.holds Try.pinned (OpenSpec.ofChange pushbackNextSpec)

/-- ITS FALSE NEIGHBOUR: 'it returns false'. Refute it at one input. -/
def pushbackNextWrong : ChangeSpec := { name := "pushbackNext", fn := fun _ => fun
  | [d1, d2, d3, d4] => { results := [.lit (.bool false)], args := [d1, d2, d3, d4] }
  | _ => none }
def PushbackNextWrongFalsely : Prop := pushbackNextRow.holds Try.pinned (OpenSpec.ofChange pushbackNextWrong)

/-- 'millracelaw06.KernPlace': WHATEVER THE INPUT: true; the input reads as it did. -/
def kernPlaceSpec : ChangeSpec := { name := "kernPlace", fn := fun _ => fun
  | [d1, d2, d3] => { results := [.lit (.bool true)], args := [d1, d2, d3] }
  | _ => none }
def kernPlaceRow : OpenClaim := { program := "ytbiofmgebbdflaa", sum := "2897a7d0fc0c8714bf46641d09e5808af2b125eb4145425ec61420ad8606b5f7", func := "millrace/millracelaw06.KernPlace", spec := "kernPlace", unfollowed := true, recurses := true, apart := false }
def KernPlaceSaid : Prop := kernPlaceRow.holds Try.pinned (OpenSpec.ofChange kernPlaceSpec)

/-- ITS FALSE NEIGHBOUR: 'it returns false'. Refute it at one input. -/
def kernPlaceWrong : ChangeSpec := { name := "kernPlace", fn := fun _ => fun
  | [d1, d2, d3] => { results := [.lit (.bool false)], args := [d1, d2, d3] }
  | _ => none }
def KernPlaceWrongFalsely : Prop := kernPlaceRow.holds Try.pinned (OpenSpec.ofChange kernPlaceWrong)

/-- 'millracelaw07.FdtableShares': WHATEVER THE INPUT: true; the input reads as it did. -/
def fdtableSharesSpec : ChangeSpec := { name := "fdtableShares", fn := fun _ => fun
  | [d1, d2] => { results := [.lit (.bool true)], args := [d1, d2] }
  | _ => none }
def fdtableSharesRow : OpenClaim := { program := "ytbiofmgebbdflaa", sum := "2897a7d0fc0c8714bf46641d09e5808af2b125eb4145425ec61420ad8606b5f7", func := "millrace/millracelaw07.FdtableShares", spec := "fdtableShares", unfollowed := true, recurses := true, apart := false }
def FdtableSharesSaid : Prop := fdtableSharesRow.holds Try.pinned (OpenSpec.ofChange fdtableSharesSpec)

/-- ITS FALSE NEIGHBOUR: 'it returns false'. Refute it at one input. -/
def fdtableSharesWrong : ChangeSpec := { name := "fdtableShares", fn := fun _ => fun
  | [d1, d2] => { results := [.lit (.bool false)], args := [d1, d2] }
  | _ => none }
def FdtableSharesWrongFalsely : Prop := fdtableSharesRow.holds Try.pinned (OpenSpec.ofChange fdtableSharesWrong)

/-- 'millracelaw06.KernSays': WHATEVER THE INPUT: true; the input reads as it did. -/
def kernSaysSpec : ChangeSpec := { name := "kernSays", fn := fun _ => fun
  | [d1, d2, d3, d4] => { results := [.lit (.bool true)], args := [d1, d2, d3, d4] }
  | _ => none }
def kernSaysRow : OpenClaim := { program := "ytbiofmgebbdflaa", sum := "2897a7d0fc0c8714bf46641d09e5808af2b125eb4145425ec61420ad8606b5f7", func := "millrace/millracelaw06.KernSays", spec := "kernSays", unfollowed := true, recurses := true, apart := false }
def KernSaysSaid : Prop := kernSaysRow.holds Try.pinned (OpenSpec.ofChange kernSaysSpec)

/-- ITS FALSE NEIGHBOUR: 'it returns false'. Refute it at one input. -/
def kernSaysWrong : ChangeSpec := { name := "kernSays", fn := fun _ => fun
  | [d1, d2, d3, d4] => { results := [.lit (.bool false)], args := [d1, d2, d3, d4] }
  | _ => none }
def KernSaysWrongFalsely : Prop := kernSaysRow.holds Try.pinned (OpenSpec.ofChange kernSaysWrong)

/-- 'millracelaw07.FdtableDrops': WHATEVER THE INPUT: true; the input reads as it did. -/
def fdtableDropsSpec : ChangeSpec := { name := "fdtableDrops", fn := fun _ => fun
  | [d1, d2] => { results := [.lit (.bool true)], args := [d1, d2] }
  | _ => none }
def fdtableDropsRow : OpenClaim := { program := "ytbiofmgebbdflaa", sum := "2897a7d0fc0c8714bf46641d09e5808af2b125eb4145425ec61420ad8606b5f7", func := "millrace/millracelaw07.FdtableDrops", spec := "fdtableDrops", unfollowed := true, recurses := true, apart := false }
def FdtableDropsSaid : Prop := fdtableDropsRow.holds Try.pinned (OpenSpec.ofChange fdtableDropsSpec)

/-- ITS FALSE NEIGHBOUR: 'it returns false'. Refute it at one input. -/
def fdtableDropsWrong : ChangeSpec := { name := "fdtableDrops", fn := fun _ => fun
  | [d1, d2] => { results := [.lit (.bool false)], args := [d1, d2] }
  | _ => none }
def FdtableDropsWrongFalsely : Prop := fdtableDropsRow.holds Try.pinned (OpenSpec.ofChange fdtableDropsWrong)

/-- 'millracelaw08.RetryOdd': WHATEVER THE INPUT: true; the input reads as it did. -/
def retryOddSpec : ChangeSpec := { name := "retryOdd", fn := fun _ => fun
  | [d1, d2, d3, d4] => { results := [.lit (.bool true)], args := [d1, d2, d3, d4] }
  | _ => none }
def retryOddRow : OpenClaim := { program := "ytbiofmgebbdflaa", sum := "2897a7d0fc0c8714bf46641d09e5808af2b125eb4145425ec61420ad8606b5f7", func := "millrace/millracelaw08.RetryOdd", spec := "retryOdd", unfollowed := true, recurses := true, apart := false }
def RetryOddSaid : Prop := retryOddRow.holds Try.pinned (OpenSpec.ofChange retryOddSpec)

/-- ITS FALSE NEIGHBOUR: 'it returns false'. Refute it at one input. -/
def retryOddWrong : ChangeSpec := { name := "retryOdd", fn := fun _ => fun
  | [d1, d2, d3, d4] => { results := [.lit (.bool false)], args := [d1, d2, d3, d4] }
  | _ => none }
def RetryOddWrongFalsely : Prop := retryOddRow.holds Try.pinned (OpenSpec.ofChange retryOddWrong)

/-- 'millracelaw08.RetryNobody': WHATEVER THE INPUT: true; the input reads as it did. -/
def retryNobodySpec : ChangeSpec := { name := "retryNobody", fn := fun _ => fun
  | [d1, d2] => { results := [.lit (.bool true)], args := [d1, d2] }
  | _ => none }
def retryNobodyRow : OpenClaim := { program := "ytbiofmgebbdflaa", sum := "2897a7d0fc0c8714bf46641d09e5808af2b125eb4145425ec61420ad8606b5f7", func := "millrace/millracelaw08.RetryNobody", spec := "retryNobody", unfollowed := true, recurses := true, apart := false }
def RetryNobodySaid : Prop := retryNobodyRow.holds Try.pinned (OpenSpec.ofChange retryNobodySpec)

/-- ITS FALSE NEIGHBOUR: 'it returns false'. Refute it at one input. -/
def retryNobodyWrong : ChangeSpec := { name := "retryNobody", fn := fun _ => fun
  | [d1, d2] => { results := [.lit (.bool false)], args := [d1, d2] }
  | _ => none }
def RetryNobodyWrongFalsely : Prop := retryNobodyRow.holds Try.pinned (OpenSpec.ofChange retryNobodyWrong)

/-- 'millracelaw06.KernPieces': WHATEVER THE INPUT: true; the input reads as it did. -/
def kernPiecesSpec : ChangeSpec := { name := "kernPieces", fn := fun _ => fun
  | [d1, d2, d3, d4] => { results := [.lit (.bool true)], args := [d1, d2, d3, d4] }
  | _ => none }
def kernPiecesRow : OpenClaim := { program := "ytbiofmgebbdflaa", sum := "2897a7d0fc0c8714bf46641d09e5808af2b125eb4145425ec61420ad8606b5f7", func := "millrace/millracelaw06.KernPieces", spec := "kernPieces", unfollowed := true, recurses := true, apart := false }
def KernPiecesSaid : Prop := kernPiecesRow.holds Try.pinned (OpenSpec.ofChange kernPiecesSpec)

/-- ITS FALSE NEIGHBOUR: 'it returns false'. Refute it at one input. -/
def kernPiecesWrong : ChangeSpec := { name := "kernPieces", fn := fun _ => fun
  | [d1, d2, d3, d4] => { results := [.lit (.bool false)], args := [d1, d2, d3, d4] }
  | _ => none }
def KernPiecesWrongFalsely : Prop := kernPiecesRow.holds Try.pinned (OpenSpec.ofChange kernPiecesWrong)

/-- 'millracelaw08.RetryWhole': WHATEVER THE INPUT: true; the input reads as it did. -/
def retryWholeSpec : ChangeSpec := { name := "retryWhole", fn := fun _ => fun
  | [d1, d2, d3, d4] => { results := [.lit (.bool true)], args := [d1, d2, d3, d4] }
  | _ => none }
def retryWholeRow : OpenClaim := { program := "ytbiofmgebbdflaa", sum := "2897a7d0fc0c8714bf46641d09e5808af2b125eb4145425ec61420ad8606b5f7", func := "millrace/millracelaw08.RetryWhole", spec := "retryWhole", unfollowed := true, recurses := true, apart := false }
def RetryWholeSaid : Prop := retryWholeRow.holds Try.pinned (OpenSpec.ofChange retryWholeSpec)

/-- ITS FALSE NEIGHBOUR: 'it returns false'. Refute it at one input. -/
def retryWholeWrong : ChangeSpec := { name := "retryWhole", fn := fun _ => fun
  | [d1, d2, d3, d4] => { results := [.lit (.bool false)], args := [d1, d2, d3, d4] }
  | _ => none }
def RetryWholeWrongFalsely : Prop := retryWholeRow.holds Try.pinned (OpenSpec.ofChange retryWholeWrong)

/- THE SECOND FORM. 'bulk': how many values and letters a reading holds, each counted each time it is reached (what is shared counts as often as it is met; a slice's spare places count too). A statement '..UptoSaid' is the law's where the arguments, and the package variables that the reading takes, are together of bulk at most 1048576: NARROWER than '..Said'. Prove '..Said' where nothing that the law and all that it calls make is longer than what came in: it says more and counts as full. Else prove '..UptoSaid'. A law counts once. -/
mutual
def uptoBulk {H : Type} : DataW H → Nat
  | .lit (.string bytes) => bytes.length + 1
  | .lit _ => 1
  | .nil => 1
  | .ptr d => uptoBulk d + 1
  | .slice elems spare => uptoBulkAll elems + uptoBulkAll spare + 1
  | .agg parts => uptoBulkAll parts + 1
  | .iface _ d => uptoBulk d + 1
  | .map entries => uptoBulkEntries entries + 1
  | .held _ => 1
def uptoBulkAll {H : Type} : List (DataW H) → Nat
  | [] => 0
  | d :: r => uptoBulk d + uptoBulkAll r
def uptoBulkEntries {H : Type} : List (Lit × DataW H) → Nat
  | [] => 0
  | x :: r => uptoBulkEntry x + uptoBulkEntries r
def uptoBulkEntry {H : Type} : Lit × DataW H → Nat
  | (.string bytes, d) => bytes.length + uptoBulk d + 1
  | (_, d) => uptoBulk d + 1
 end
def uptoSmall : (H : Type) → List (DataW H) → Bool := fun _ ds => decide (uptoBulkAll ds ≤ 1048576)
def OpenSpec.upto (s : _root_.Go.ChangeSpec) : _root_.Go.OpenSpec := { _root_.Go.OpenSpec.ofChange s with cond := some uptoSmall }

/-- 'millracetop.TopWhole', WHERE WHAT IT READS IS OF BULK AT MOST 1048576: true; the input reads as it did. -/
def topWholeUptoRow : OpenClaim := { program := "ytbiofmgebbdflaa", sum := "2897a7d0fc0c8714bf46641d09e5808af2b125eb4145425ec61420ad8606b5f7", func := "millrace/millracetop.TopWhole", spec := "topWhole", unfollowed := true, recurses := true, apart := false, narrowed := true }
def TopWholeUptoSaid : Prop := topWholeUptoRow.holds Try.pinned (OpenSpec.upto topWholeSpec)

/-- 'millracelaw07.FdtableLowest', WHERE WHAT IT READS IS OF BULK AT MOST 1048576: true; the input reads as it did. -/
def fdtableLowestUptoRow : OpenClaim := { program := "ytbiofmgebbdflaa", sum := "2897a7d0fc0c8714bf46641d09e5808af2b125eb4145425ec61420ad8606b5f7", func := "millrace/millracelaw07.FdtableLowest", spec := "fdtableLowest", unfollowed := true, recurses := true, apart := false, narrowed := true }
def FdtableLowestUptoSaid : Prop := fdtableLowestUptoRow.holds Try.pinned (OpenSpec.upto fdtableLowestSpec)

/-- 'millracelaw08.RetrySome', WHERE WHAT IT READS IS OF BULK AT MOST 1048576: true; the input reads as it did. -/
def retrySomeUptoRow : OpenClaim := { program := "ytbiofmgebbdflaa", sum := "2897a7d0fc0c8714bf46641d09e5808af2b125eb4145425ec61420ad8606b5f7", func := "millrace/millracelaw08.RetrySome", spec := "retrySome", unfollowed := true, recurses := true, apart := false, narrowed := true }
def RetrySomeUptoSaid : Prop := retrySomeUptoRow.holds Try.pinned (OpenSpec.upto retrySomeSpec)

/-- 'millracelaw13.PushbackNext', WHERE WHAT IT READS IS OF BULK AT MOST 1048576: true; the input reads as it did. -/
def pushbackNextUptoRow : OpenClaim := { program := "ytbiofmgebbdflaa", sum := "2897a7d0fc0c8714bf46641d09e5808af2b125eb4145425ec61420ad8606b5f7", func := "millrace/millracelaw13.PushbackNext", spec := "pushbackNext", inPlace := ["internal/bytealg.IndexByteString"], unfollowed := true, recurses := true, apart := false, narrowed := true }
def PushbackNextUptoSaid : Prop := pushbackNextUptoRow.holds Try.pinned (OpenSpec.upto pushbackNextSpec)

/-- 'millracelaw06.KernPlace', WHERE WHAT IT READS IS OF BULK AT MOST 1048576: true; the input reads as it did. -/
def kernPlaceUptoRow : OpenClaim := { program := "ytbiofmgebbdflaa", sum := "2897a7d0fc0c8714bf46641d09e5808af2b125eb4145425ec61420ad8606b5f7", func := "millrace/millracelaw06.KernPlace", spec := "kernPlace", unfollowed := true, recurses := true, apart := false, narrowed := true }
def KernPlaceUptoSaid : Prop := kernPlaceUptoRow.holds Try.pinned (OpenSpec.upto kernPlaceSpec)

/-- 'millracelaw07.FdtableShares', WHERE WHAT IT READS IS OF BULK AT MOST 1048576: true; the input reads as it did. -/
def fdtableSharesUptoRow : OpenClaim := { program := "ytbiofmgebbdflaa", sum := "2897a7d0fc0c8714bf46641d09e5808af2b125eb4145425ec61420ad8606b5f7", func := "millrace/millracelaw07.FdtableShares", spec := "fdtableShares", unfollowed := true, recurses := true, apart := false, narrowed := true }
def FdtableSharesUptoSaid : Prop := fdtableSharesUptoRow.holds Try.pinned (OpenSpec.upto fdtableSharesSpec)

/-- 'millracelaw06.KernSays', WHERE WHAT IT READS IS OF BULK AT MOST 1048576: true; the input reads as it did. -/
def kernSaysUptoRow : OpenClaim := { program := "ytbiofmgebbdflaa", sum := "2897a7d0fc0c8714bf46641d09e5808af2b125eb4145425ec61420ad8606b5f7", func := "millrace/millracelaw06.KernSays", spec := "kernSays", unfollowed := true, recurses := true, apart := false, narrowed := true }
def KernSaysUptoSaid : Prop := kernSaysUptoRow.holds Try.pinned (OpenSpec.upto kernSaysSpec)

/-- 'millracelaw07.FdtableDrops', WHERE WHAT IT READS IS OF BULK AT MOST 1048576: true; the input reads as it did. -/
def fdtableDropsUptoRow : OpenClaim := { program := "ytbiofmgebbdflaa", sum := "2897a7d0fc0c8714bf46641d09e5808af2b125eb4145425ec61420ad8606b5f7", func := "millrace/millracelaw07.FdtableDrops", spec := "fdtableDrops", unfollowed := true, recurses := true, apart := false, narrowed := true }
def FdtableDropsUptoSaid : Prop := fdtableDropsUptoRow.holds Try.pinned (OpenSpec.upto fdtableDropsSpec)

/-- 'millracelaw08.RetryOdd', WHERE WHAT IT READS IS OF BULK AT MOST 1048576: true; the input reads as it did. -/
def retryOddUptoRow : OpenClaim := { program := "ytbiofmgebbdflaa", sum := "2897a7d0fc0c8714bf46641d09e5808af2b125eb4145425ec61420ad8606b5f7", func := "millrace/millracelaw08.RetryOdd", spec := "retryOdd", unfollowed := true, recurses := true, apart := false, narrowed := true }
def RetryOddUptoSaid : Prop := retryOddUptoRow.holds Try.pinned (OpenSpec.upto retryOddSpec)

/-- 'millracelaw08.RetryNobody', WHERE WHAT IT READS IS OF BULK AT MOST 1048576: true; the input reads as it did. -/
def retryNobodyUptoRow : OpenClaim := { program := "ytbiofmgebbdflaa", sum := "2897a7d0fc0c8714bf46641d09e5808af2b125eb4145425ec61420ad8606b5f7", func := "millrace/millracelaw08.RetryNobody", spec := "retryNobody", unfollowed := true, recurses := true, apart := false, narrowed := true }
def RetryNobodyUptoSaid : Prop := retryNobodyUptoRow.holds Try.pinned (OpenSpec.upto retryNobodySpec)

/-- 'millracelaw06.KernPieces', WHERE WHAT IT READS IS OF BULK AT MOST 1048576: true; the input reads as it did. -/
def kernPiecesUptoRow : OpenClaim := { program := "ytbiofmgebbdflaa", sum := "2897a7d0fc0c8714bf46641d09e5808af2b125eb4145425ec61420ad8606b5f7", func := "millrace/millracelaw06.KernPieces", spec := "kernPieces", unfollowed := true, recurses := true, apart := false, narrowed := true }
def KernPiecesUptoSaid : Prop := kernPiecesUptoRow.holds Try.pinned (OpenSpec.upto kernPiecesSpec)

/-- 'millracelaw08.RetryWhole', WHERE WHAT IT READS IS OF BULK AT MOST 1048576: true; the input reads as it did. -/
def retryWholeUptoRow : OpenClaim := { program := "ytbiofmgebbdflaa", sum := "2897a7d0fc0c8714bf46641d09e5808af2b125eb4145425ec61420ad8606b5f7", func := "millrace/millracelaw08.RetryWhole", spec := "retryWhole", unfollowed := true, recurses := true, apart := false, narrowed := true }
def RetryWholeUptoSaid : Prop := retryWholeUptoRow.holds Try.pinned (OpenSpec.upto retryWholeSpec)

end Rows
end Go.Proofs.Ytbiofmgebbdflaa
