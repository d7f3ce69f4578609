/-
  No cell of these rows narrows 'for every input' (looked for: loops, veiled, ifaces, maps, wideKeys, modest, calm, conditions, laid).
  DERIVED. THE GIVEN ROWS OF THIS SEAT. 4 by the template 'for every input the law returns true; each argument reads behind the call as it read before'; 0 by the template 'total and deterministic' (their statements: YtkjmlbplmffekaaTotals.lean).
  GIVEN WITH THE SEED: the statements are not yours to turn. If you find one false, say at which input.
  Laid BY PROGRAM, IN A SANDBOX (cutbox-rows.mjs): the forced cells as the released guide's own fill.sh prints them over the translation bc9eb0e6b57df2e8… (all of the seat's roots in one cut). By AI agents, Wed Nov 11 2026. No macro, syntax, notation, axiom, sorry.
-/
import Derived.Test.YtkjmlbplmffekaaChecked
import GoSem.Claim
import GoSem.ClaimJoined
import GoSem.ClaimMapViews
import Derived.JoinedTies
import Derived.KernelRfl
namespace Go.Proofs.Ytkjmlbplmffekaa
/- THE CELL 'sum', in the pinned program and in every row, IS THE sha256 OF THE DUMP (.gsa) THAT YtkjmlbplmffekaaProg.lean LOADS. Nothing in Lean hashes anything: it is a label: what it is worth is what the hold of that sum in a sandbox is worth. -/
noncomputable def Try.pinned : Pinned := { name := "ytkjmlbplmffekaa", sum := "bc9eb0e6b57df2e849baf52306b45cbdcddc631dfccd83a5a2a4deeb6cff63c5", checked := Try.checked }
namespace Rows
def none {H : Type} : Left H := { results := [], args := [] }

/-- 'millracelaw06.KernSays': WHATEVER THE INPUT: true; the input reads as it did. -/
def kernSaysSpec : ChangeSpec := { name := "kernSays", fn := fun _ => fun
  | [d1, d2, d3, d4] => { results := [.lit (.bool true)], args := [d1, d2, d3, d4] }
  | _ => none }
def kernSaysRow : OpenClaim := { program := "ytkjmlbplmffekaa", sum := "bc9eb0e6b57df2e849baf52306b45cbdcddc631dfccd83a5a2a4deeb6cff63c5", func := "millrace/millracelaw06.KernSays", spec := "kernSays", unfollowed := true, recurses := true, apart := false }
def KernSaysSaid : Prop := kernSaysRow.holds Try.pinned (OpenSpec.ofChange kernSaysSpec)

/-- ITS FALSE NEIGHBOUR: 'it returns false'. Refute it at one input. -/
def kernSaysWrong : ChangeSpec := { name := "kernSays", fn := fun _ => fun
  | [d1, d2, d3, d4] => { results := [.lit (.bool false)], args := [d1, d2, d3, d4] }
  | _ => none }
def KernSaysWrongFalsely : Prop := kernSaysRow.holds Try.pinned (OpenSpec.ofChange kernSaysWrong)

/-- 'millracelaw06.KernPieces': WHATEVER THE INPUT: true; the input reads as it did. -/
def kernPiecesSpec : ChangeSpec := { name := "kernPieces", fn := fun _ => fun
  | [d1, d2, d3, d4] => { results := [.lit (.bool true)], args := [d1, d2, d3, d4] }
  | _ => none }
def kernPiecesRow : OpenClaim := { program := "ytkjmlbplmffekaa", sum := "bc9eb0e6b57df2e849baf52306b45cbdcddc631dfccd83a5a2a4deeb6cff63c5", func := "millrace/millracelaw06.KernPieces", spec := "kernPieces", unfollowed := true, recurses := true, apart := false }
def KernPiecesSaid : Prop := kernPiecesRow.holds Try.pinned (OpenSpec.ofChange kernPiecesSpec)

/-- ITS FALSE NEIGHBOUR: 'it returns false'. Refute it at one input. -/
def kernPiecesWrong : ChangeSpec := { name := "kernPieces", fn := fun _ => fun
  | [d1, d2, d3, d4] => { results := [.lit (.bool false)], args := [d1, d2, d3, d4] }
  | _ => none }
def KernPiecesWrongFalsely : Prop := kernPiecesRow.holds Try.pinned (OpenSpec.ofChange kernPiecesWrong)

/-- 'millracelaw08.RetryOdd': WHATEVER THE INPUT: true; the input reads as it did. -/
def retryOddSpec : ChangeSpec := { name := "retryOdd", fn := fun _ => fun
  | [d1, d2, d3, d4] => { results := [.lit (.bool true)], args := [d1, d2, d3, d4] }
  | _ => none }
def retryOddRow : OpenClaim := { program := "ytkjmlbplmffekaa", sum := "bc9eb0e6b57df2e849baf52306b45cbdcddc631dfccd83a5a2a4deeb6cff63c5", func := "millrace/millracelaw08.RetryOdd", spec := "retryOdd", unfollowed := true, recurses := true, apart := false }
def RetryOddSaid : Prop := retryOddRow.holds Try.pinned (OpenSpec.ofChange retryOddSpec)

/-- ITS FALSE NEIGHBOUR: 'it returns false'. Refute it at one input. -/
def retryOddWrong : ChangeSpec := { name := "retryOdd", fn := fun _ => fun
  | [d1, d2, d3, d4] => { results := [.lit (.bool false)], args := [d1, d2, d3, d4] }
  | _ => none }
def RetryOddWrongFalsely : Prop := retryOddRow.holds Try.pinned (OpenSpec.ofChange retryOddWrong)

/-- 'millracelaw08.RetryWhole': WHATEVER THE INPUT: true; the input reads as it did. -/
def retryWholeSpec : ChangeSpec := { name := "retryWhole", fn := fun _ => fun
  | [d1, d2, d3, d4] => { results := [.lit (.bool true)], args := [d1, d2, d3, d4] }
  | _ => none }
def retryWholeRow : OpenClaim := { program := "ytkjmlbplmffekaa", sum := "bc9eb0e6b57df2e849baf52306b45cbdcddc631dfccd83a5a2a4deeb6cff63c5", func := "millrace/millracelaw08.RetryWhole", spec := "retryWhole", unfollowed := true, recurses := true, apart := false }
def RetryWholeSaid : Prop := retryWholeRow.holds Try.pinned (OpenSpec.ofChange retryWholeSpec)

/-- ITS FALSE NEIGHBOUR: 'it returns false'. Refute it at one input. -/
def retryWholeWrong : ChangeSpec := { name := "retryWhole", fn := fun _ => fun
  | [d1, d2, d3, d4] => { results := [.lit (.bool false)], args := [d1, d2, d3, d4] }
  | _ => none }
def RetryWholeWrongFalsely : Prop := retryWholeRow.holds Try.pinned (OpenSpec.ofChange retryWholeWrong)

/- THE SECOND FORM. 'bulk': how many values and letters a reading holds, each counted each time it is reached (what is shared counts as often as it is met; a slice's spare places count too). A statement '..UptoSaid' is the law's where the arguments, and the package variables that the reading takes, are together of bulk at most 1048576: NARROWER than '..Said'. Prove '..Said' where nothing that the law and all that it calls make is longer than what came in: it says more and counts as full. Else prove '..UptoSaid'. A law counts once. -/
mutual
def uptoBulk {H : Type} : DataW H → Nat
  | .lit (.string bytes) => bytes.length + 1
  | .lit _ => 1
  | .nil => 1
  | .ptr d => uptoBulk d + 1
  | .slice elems spare => uptoBulkAll elems + uptoBulkAll spare + 1
  | .agg parts => uptoBulkAll parts + 1
  | .iface _ d => uptoBulk d + 1
  | .map entries => uptoBulkEntries entries + 1
  | .held _ => 1
def uptoBulkAll {H : Type} : List (DataW H) → Nat
  | [] => 0
  | d :: r => uptoBulk d + uptoBulkAll r
def uptoBulkEntries {H : Type} : List (Lit × DataW H) → Nat
  | [] => 0
  | x :: r => uptoBulkEntry x + uptoBulkEntries r
def uptoBulkEntry {H : Type} : Lit × DataW H → Nat
  | (.string bytes, d) => bytes.length + uptoBulk d + 1
  | (_, d) => uptoBulk d + 1
 end
def uptoSmall : (H : Type) → List (DataW H) → Bool := fun _ ds => decide (uptoBulkAll ds ≤ 1048576)
def OpenSpec.upto (s : _root_.Go.ChangeSpec) : _root_.Go.OpenSpec := { _root_.Go.OpenSpec.ofChange s with cond := some uptoSmall }

/-- 'millracelaw06.KernSays', WHERE WHAT IT READS IS OF BULK AT MOST 1048576: true; the input reads as it did. -/
def kernSaysUptoRow : OpenClaim := { program := "ytkjmlbplmffekaa", sum := "bc9eb0e6b57df2e849baf52306b45cbdcddc631dfccd83a5a2a4deeb6cff63c5", func := "millrace/millracelaw06.KernSays", spec := "kernSays", unfollowed := true, recurses := true, apart := false, narrowed := true }
def KernSaysUptoSaid : Prop := kernSaysUptoRow.holds Try.pinned (OpenSpec.upto kernSaysSpec)

/-- 'millracelaw06.KernPieces', WHERE WHAT IT READS IS OF BULK AT MOST 1048576: true; the input reads as it did. -/
def kernPiecesUptoRow : OpenClaim := { program := "ytkjmlbplmffekaa", sum := "bc9eb0e6b57df2e849baf52306b45cbdcddc631dfccd83a5a2a4deeb6cff63c5", func := "millrace/millracelaw06.KernPieces", spec := "kernPieces", unfollowed := true, recurses := true, apart := false, narrowed := true }
def KernPiecesUptoSaid : Prop := kernPiecesUptoRow.holds Try.pinned (OpenSpec.upto kernPiecesSpec)

/-- 'millracelaw08.RetryOdd', WHERE WHAT IT READS IS OF BULK AT MOST 1048576: true; the input reads as it did. -/
def retryOddUptoRow : OpenClaim := { program := "ytkjmlbplmffekaa", sum := "bc9eb0e6b57df2e849baf52306b45cbdcddc631dfccd83a5a2a4deeb6cff63c5", func := "millrace/millracelaw08.RetryOdd", spec := "retryOdd", unfollowed := true, recurses := true, apart := false, narrowed := true }
def RetryOddUptoSaid : Prop := retryOddUptoRow.holds Try.pinned (OpenSpec.upto retryOddSpec)

/-- 'millracelaw08.RetryWhole', WHERE WHAT IT READS IS OF BULK AT MOST 1048576: true; the input reads as it did. -/
def retryWholeUptoRow : OpenClaim := { program := "ytkjmlbplmffekaa", sum := "bc9eb0e6b57df2e849baf52306b45cbdcddc631dfccd83a5a2a4deeb6cff63c5", func := "millrace/millracelaw08.RetryWhole", spec := "retryWhole", unfollowed := true, recurses := true, apart := false, narrowed := true }
def RetryWholeUptoSaid : Prop := retryWholeUptoRow.holds Try.pinned (OpenSpec.upto retryWholeSpec)

end Rows
end Go.Proofs.Ytkjmlbplmffekaa
