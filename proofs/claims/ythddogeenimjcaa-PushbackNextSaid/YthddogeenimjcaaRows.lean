/-
  No cell of these rows narrows 'for every input' (looked for: loops, veiled, ifaces, maps, wideKeys, modest, calm, conditions, laid).
  DERIVED. THE GIVEN ROWS OF THIS SEAT. 4 by the template 'for every input the law returns true; each argument reads behind the call as it read before'; 0 by the template 'total and deterministic' (their statements: YthddogeenimjcaaTotals.lean).
  GIVEN WITH THE SEED: the statements are not yours to turn. If you find one false, say at which input.
  Laid BY PROGRAM, IN A SANDBOX (cutbox-rows.mjs): the forced cells as the released guide's own fill.sh prints them over the translation 8a14c34c76a7389d… (all of the seat's roots in one cut). By AI agents, Wed Nov 11 2026. No macro, syntax, notation, axiom, sorry.
-/
import Derived.Test.YthddogeenimjcaaChecked
import GoSem.Claim
import GoSem.ClaimJoined
import GoSem.ClaimMapViews
import Derived.JoinedTies
import Derived.KernelRfl
namespace Go.Proofs.Ythddogeenimjcaa
/- THE CELL 'sum', in the pinned program and in every row, IS THE sha256 OF THE DUMP (.gsa) THAT YthddogeenimjcaaProg.lean LOADS. Nothing in Lean hashes anything: it is a label: what it is worth is what the hold of that sum in a sandbox is worth. -/
noncomputable def Try.pinned : Pinned := { name := "ythddogeenimjcaa", sum := "8a14c34c76a7389df2ba8c11484c1d26584c4c8007210e4f685f470ba102523c", checked := Try.checked }
namespace Rows
def none {H : Type} : Left H := { results := [], args := [] }

/-- 'millracelaw13.PushbackSteps': WHATEVER THE INPUT: true; the input reads as it did. -/
def pushbackStepsSpec : ChangeSpec := { name := "pushbackSteps", fn := fun _ => fun
  | [d1, d2, d3] => { results := [.lit (.bool true)], args := [d1, d2, d3] }
  | _ => none }
def pushbackStepsRow : OpenClaim := { program := "ythddogeenimjcaa", sum := "8a14c34c76a7389df2ba8c11484c1d26584c4c8007210e4f685f470ba102523c", func := "millrace/millracelaw13.PushbackSteps", spec := "pushbackSteps", inPlace := ["internal/bytealg.IndexByteString"], unfollowed := true, recurses := true, apart := false }
def PushbackStepsSaid : Prop := pushbackStepsRow.holds Try.pinned (OpenSpec.ofChange pushbackStepsSpec)

/-- ITS FALSE NEIGHBOUR: 'it returns false'. Refute it at one input. -/
def pushbackStepsWrong : ChangeSpec := { name := "pushbackSteps", fn := fun _ => fun
  | [d1, d2, d3] => { results := [.lit (.bool false)], args := [d1, d2, d3] }
  | _ => none }
def PushbackStepsWrongFalsely : Prop := pushbackStepsRow.holds Try.pinned (OpenSpec.ofChange pushbackStepsWrong)

/-- 'millracelaw13.PushbackOne': WHATEVER THE INPUT: true; the input reads as it did. -/
def pushbackOneSpec : ChangeSpec := { name := "pushbackOne", fn := fun _ => fun
  | [d1, d2] => { results := [.lit (.bool true)], args := [d1, d2] }
  | _ => none }
def pushbackOneRow : OpenClaim := { program := "ythddogeenimjcaa", sum := "8a14c34c76a7389df2ba8c11484c1d26584c4c8007210e4f685f470ba102523c", func := "millrace/millracelaw13.PushbackOne", spec := "pushbackOne", inPlace := ["internal/bytealg.IndexByteString"], unfollowed := true, recurses := true, apart := false }
def PushbackOneSaid : Prop := pushbackOneRow.holds Try.pinned (OpenSpec.ofChange pushbackOneSpec)

/-- ITS FALSE NEIGHBOUR: 'it returns false'. Refute it at one input. -/
def pushbackOneWrong : ChangeSpec := { name := "pushbackOne", fn := fun _ => fun
  | [d1, d2] => { results := [.lit (.bool false)], args := [d1, d2] }
  | _ => none }
def PushbackOneWrongFalsely : Prop := pushbackOneRow.holds Try.pinned (OpenSpec.ofChange pushbackOneWrong)

/-- 'millracelaw13.PushbackOwn': WHATEVER THE INPUT: true; the input reads as it did. -/
def pushbackOwnSpec : ChangeSpec := { name := "pushbackOwn", fn := fun _ => fun
  | [d1, d2] => { results := [.lit (.bool true)], args := [d1, d2] }
  | _ => none }
def pushbackOwnRow : OpenClaim := { program := "ythddogeenimjcaa", sum := "8a14c34c76a7389df2ba8c11484c1d26584c4c8007210e4f685f470ba102523c", func := "millrace/millracelaw13.PushbackOwn", spec := "pushbackOwn", inPlace := ["internal/bytealg.IndexByteString"], unfollowed := true, recurses := true, apart := false }
def PushbackOwnSaid : Prop := pushbackOwnRow.holds Try.pinned (OpenSpec.ofChange pushbackOwnSpec)

/-- ITS FALSE NEIGHBOUR: 'it returns false'. Refute it at one input. -/
def pushbackOwnWrong : ChangeSpec := { name := "pushbackOwn", fn := fun _ => fun
  | [d1, d2] => { results := [.lit (.bool false)], args := [d1, d2] }
  | _ => none }
def PushbackOwnWrongFalsely : Prop := pushbackOwnRow.holds Try.pinned (OpenSpec.ofChange pushbackOwnWrong)

/-- 'millracelaw13.PushbackNext': WHATEVER THE INPUT: true; the input reads as it did. -/
def pushbackNextSpec : ChangeSpec := { name := "pushbackNext", fn := fun _ => fun
  | [d1, d2, d3, d4] => { results := [.lit (.bool true)], args := [d1, d2, d3, d4] }
  | _ => none }
def pushbackNextRow : OpenClaim := { program := "ythddogeenimjcaa", sum := "8a14c34c76a7389df2ba8c11484c1d26584c4c8007210e4f685f470ba102523c", func := "millrace/millracelaw13.PushbackNext", spec := "pushbackNext", inPlace := ["internal/bytealg.IndexByteString"], unfollowed := true, recurses := true, apart := false }
def PushbackNextSaid : Prop := pushbackNextRow.holds Try.pinned (OpenSpec.ofChange pushbackNextSpec)

/-- ITS FALSE NEIGHBOUR: 'it returns false'. Refute it at one input. -/
def pushbackNextWrong : ChangeSpec := { name := "pushbackNext", fn := fun _ => fun
  | [d1, d2, d3, d4] => { results := [.lit (.bool false)], args := [d1, d2, d3, d4] }
  | _ => none }
def PushbackNextWrongFalsely : Prop := pushbackNextRow.holds Try.pinned (OpenSpec.ofChange pushbackNextWrong)

/- THE SECOND FORM. 'bulk': how many values and letters a reading holds, each counted each time it is reached (what is shared counts as often as it is met; a slice's spare places count too). A statement '..UptoSaid' is the law's where the arguments, and the package variables that the reading takes, are together of bulk at most 1048576: NARROWER than '..Said'. Prove '..Said' where nothing that the law and all that it calls make is longer than what came in: it says more and counts as full. Else prove '..UptoSaid'. A law counts once. -/
mutual
def uptoBulk {H : Type} : DataW H → Nat
  | .lit (.string bytes) => bytes.length + 1
  | .lit _ => 1
  | .nil => 1
  | .ptr d => uptoBulk d + 1
  | .slice elems spare => uptoBulkAll elems + uptoBulkAll spare + 1
  | .agg parts => uptoBulkAll parts + 1
  | .iface _ d => uptoBulk d + 1
  | .map entries => uptoBulkEntries entries + 1
  | .held _ => 1
def uptoBulkAll {H : Type} : List (DataW H) → Nat
  | [] => 0
  | d :: r => uptoBulk d + uptoBulkAll r
def uptoBulkEntries {H : Type} : List (Lit × DataW H) → Nat
  | [] => 0
  | x :: r => uptoBulkEntry x + uptoBulkEntries r
def uptoBulkEntry {H : Type} : Lit × DataW H → Nat
  | (.string bytes, d) => bytes.length + uptoBulk d + 1
  | (_, d) => uptoBulk d + 1
 end
def uptoSmall : (H : Type) → List (DataW H) → Bool := fun _ ds => decide (uptoBulkAll ds ≤ 1048576)
def OpenSpec.upto (s : _root_.Go.ChangeSpec) : _root_.Go.OpenSpec := { _root_.Go.OpenSpec.ofChange s with cond := some uptoSmall }

/-- 'millracelaw13.PushbackSteps', WHERE WHAT IT READS IS OF BULK AT MOST 1048576: true; the input reads as it did. -/
def pushbackStepsUptoRow : OpenClaim := { program := "ythddogeenimjcaa", sum := "8a14c34c76a7389df2ba8c11484c1d26584c4c8007210e4f685f470ba102523c", func := "millrace/millracelaw13.PushbackSteps", spec := "pushbackSteps", inPlace := ["internal/bytealg.IndexByteString"], unfollowed := true, recurses := true, apart := false, narrowed := true }
def PushbackStepsUptoSaid : Prop := pushbackStepsUptoRow.holds Try.pinned (OpenSpec.upto pushbackStepsSpec)

/-- 'millracelaw13.PushbackOne', WHERE WHAT IT READS IS OF BULK AT MOST 1048576: true; the input reads as it did. -/
def pushbackOneUptoRow : OpenClaim := { program := "ythddogeenimjcaa", sum := "8a14c34c76a7389df2ba8c11484c1d26584c4c8007210e4f685f470ba102523c", func := "millrace/millracelaw13.PushbackOne", spec := "pushbackOne", inPlace := ["internal/bytealg.IndexByteString"], unfollowed := true, recurses := true, apart := false, narrowed := true }
def PushbackOneUptoSaid : Prop := pushbackOneUptoRow.holds Try.pinned (OpenSpec.upto pushbackOneSpec)

/-- 'millracelaw13.PushbackOwn', WHERE WHAT IT READS IS OF BULK AT MOST 1048576: true; the input reads as it did. -/
def pushbackOwnUptoRow : OpenClaim := { program := "ythddogeenimjcaa", sum := "8a14c34c76a7389df2ba8c11484c1d26584c4c8007210e4f685f470ba102523c", func := "millrace/millracelaw13.PushbackOwn", spec := "pushbackOwn", inPlace := ["internal/bytealg.IndexByteString"], unfollowed := true, recurses := true, apart := false, narrowed := true }
def PushbackOwnUptoSaid : Prop := pushbackOwnUptoRow.holds Try.pinned (OpenSpec.upto pushbackOwnSpec)

/-- 'millracelaw13.PushbackNext', WHERE WHAT IT READS IS OF BULK AT MOST 1048576: true; the input reads as it did. -/
def pushbackNextUptoRow : OpenClaim := { program := "ythddogeenimjcaa", sum := "8a14c34c76a7389df2ba8c11484c1d26584c4c8007210e4f685f470ba102523c", func := "millrace/millracelaw13.PushbackNext", spec := "pushbackNext", inPlace := ["internal/bytealg.IndexByteString"], unfollowed := true, recurses := true, apart := false, narrowed := true }
def PushbackNextUptoSaid : Prop := pushbackNextUptoRow.holds Try.pinned (OpenSpec.upto pushbackNextSpec)

end Rows
end Go.Proofs.Ythddogeenimjcaa
