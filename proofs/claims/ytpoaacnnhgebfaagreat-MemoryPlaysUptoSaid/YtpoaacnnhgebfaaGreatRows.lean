/-
  No cell of these rows narrows 'for every input' (looked for: loops, veiled, ifaces, maps, wideKeys, modest, calm, conditions, laid).
  DERIVED. THE GIVEN ROWS OF THIS SEAT. 4 by the template 'for every input the law returns true; each argument reads behind the call as it read before'; 0 by the template 'total and deterministic' (their statements: YtpoaacnnhgebfaaGreatTotals.lean).
  GIVEN WITH THE SEED: the statements are not yours to turn. If you find one false, say at which input.
  Laid BY PROGRAM, IN A SANDBOX (cutbox-rows.mjs): the forced cells as the released guide's own fill.sh prints them over the translation 793436e12dfe4cef… (all of the seat's roots in one cut). By AI agents, Wed Nov 11 2026. No macro, syntax, notation, axiom, sorry.
-/
import Derived.Test.YtpoaacnnhgebfaaGreatChecked
import GoSem.Claim
import GoSem.ClaimJoined
import GoSem.ClaimMapViews
import Derived.JoinedTies
import Derived.KernelRfl
namespace Go.Proofs.YtpoaacnnhgebfaaGreat
/- THE CELL 'sum', in the pinned program and in every row, IS THE sha256 OF THE DUMP (.gsa) THAT YtpoaacnnhgebfaaGreatProg.lean LOADS. Nothing in Lean hashes anything: it is a label: what it is worth is what the hold of that sum in a sandbox is worth. -/
noncomputable def Tryz.pinned : Pinned := { name := "ytpoaacnnhgebfaagreat", sum := "793436e12dfe4cefa54d320e8e4f2164c34052802c3b5d6808e667d2d787bc54", checked := Tryz.checked }
namespace Rows
def none {H : Type} : Left H := { results := [], args := [] }

/-- 'millracelaw06.KernPlays': WHATEVER THE INPUT: true; the input reads as it did. -/
def kernPlaysSpec : ChangeSpec := { name := "kernPlays", fn := fun _ => fun
  | [d1, d2] => { results := [.lit (.bool true)], args := [d1, d2] }
  | _ => none }
def kernPlaysRow : OpenClaim := { program := "ytpoaacnnhgebfaagreat", sum := "793436e12dfe4cefa54d320e8e4f2164c34052802c3b5d6808e667d2d787bc54", func := "millrace/millracelaw06.KernPlays", spec := "kernPlays", unfollowed := true, recurses := true, apart := false }
def KernPlaysSaid : Prop := kernPlaysRow.holds Tryz.pinned (OpenSpec.ofChange kernPlaysSpec)

/-- ITS FALSE NEIGHBOUR: 'it returns false'. Refute it at one input. -/
def kernPlaysWrong : ChangeSpec := { name := "kernPlays", fn := fun _ => fun
  | [d1, d2] => { results := [.lit (.bool false)], args := [d1, d2] }
  | _ => none }
def KernPlaysWrongFalsely : Prop := kernPlaysRow.holds Tryz.pinned (OpenSpec.ofChange kernPlaysWrong)

/-- 'millracelaw07.FdtablePlays': WHATEVER THE INPUT: true; the input reads as it did. -/
def fdtablePlaysSpec : ChangeSpec := { name := "fdtablePlays", fn := fun _ => fun
  | [d1, d2] => { results := [.lit (.bool true)], args := [d1, d2] }
  | _ => none }
def fdtablePlaysRow : OpenClaim := { program := "ytpoaacnnhgebfaagreat", sum := "793436e12dfe4cefa54d320e8e4f2164c34052802c3b5d6808e667d2d787bc54", func := "millrace/millracelaw07.FdtablePlays", spec := "fdtablePlays", unfollowed := true, recurses := true, apart := false }
def FdtablePlaysSaid : Prop := fdtablePlaysRow.holds Tryz.pinned (OpenSpec.ofChange fdtablePlaysSpec)

/-- ITS FALSE NEIGHBOUR: 'it returns false'. Refute it at one input. -/
def fdtablePlaysWrong : ChangeSpec := { name := "fdtablePlays", fn := fun _ => fun
  | [d1, d2] => { results := [.lit (.bool false)], args := [d1, d2] }
  | _ => none }
def FdtablePlaysWrongFalsely : Prop := fdtablePlaysRow.holds Tryz.pinned (OpenSpec.ofChange fdtablePlaysWrong)

/-- 'millracelaw08.RetryPlays': WHATEVER THE INPUT: true; the input reads as it did. -/
def retryPlaysSpec : ChangeSpec := { name := "retryPlays", fn := fun _ => fun
  | [d1, d2, d3, d4] => { results := [.lit (.bool true)], args := [d1, d2, d3, d4] }
  | _ => none }
def retryPlaysRow : OpenClaim := { program := "ytpoaacnnhgebfaagreat", sum := "793436e12dfe4cefa54d320e8e4f2164c34052802c3b5d6808e667d2d787bc54", func := "millrace/millracelaw08.RetryPlays", spec := "retryPlays", unfollowed := true, recurses := true, apart := false }
def RetryPlaysSaid : Prop := retryPlaysRow.holds Tryz.pinned (OpenSpec.ofChange retryPlaysSpec)

/-- ITS FALSE NEIGHBOUR: 'it returns false'. Refute it at one input. -/
def retryPlaysWrong : ChangeSpec := { name := "retryPlays", fn := fun _ => fun
  | [d1, d2, d3, d4] => { results := [.lit (.bool false)], args := [d1, d2, d3, d4] }
  | _ => none }
def RetryPlaysWrongFalsely : Prop := retryPlaysRow.holds Tryz.pinned (OpenSpec.ofChange retryPlaysWrong)

/-- 'millracelaw10.MemoryPlays': WHATEVER THE INPUT: true; the input reads as it did. -/
def memoryPlaysSpec : ChangeSpec := { name := "memoryPlays", fn := fun _ => fun
  | [d1, d2] => { results := [.lit (.bool true)], args := [d1, d2] }
  | _ => none }
def memoryPlaysRow : OpenClaim := { program := "ytpoaacnnhgebfaagreat", sum := "793436e12dfe4cefa54d320e8e4f2164c34052802c3b5d6808e667d2d787bc54", func := "millrace/millracelaw10.MemoryPlays", spec := "memoryPlays", unfollowed := true, recurses := true, apart := false }
def MemoryPlaysSaid : Prop := memoryPlaysRow.holds Tryz.pinned (OpenSpec.ofChange memoryPlaysSpec)

/-- ITS FALSE NEIGHBOUR: 'it returns false'. Refute it at one input. -/
def memoryPlaysWrong : ChangeSpec := { name := "memoryPlays", fn := fun _ => fun
  | [d1, d2] => { results := [.lit (.bool false)], args := [d1, d2] }
  | _ => none }
def MemoryPlaysWrongFalsely : Prop := memoryPlaysRow.holds Tryz.pinned (OpenSpec.ofChange memoryPlaysWrong)

/- THE SECOND FORM. 'bulk': how many values and letters a reading holds, each counted each time it is reached (what is shared counts as often as it is met; a slice's spare places count too). A statement '..UptoSaid' is the law's where the arguments, and the package variables that the reading takes, are together of bulk at most 1048576: NARROWER than '..Said'. Prove '..Said' where nothing that the law and all that it calls make is longer than what came in: it says more and counts as full. Else prove '..UptoSaid'. A law counts once. -/
mutual
def uptoBulk {H : Type} : DataW H → Nat
  | .lit (.string bytes) => bytes.length + 1
  | .lit _ => 1
  | .nil => 1
  | .ptr d => uptoBulk d + 1
  | .slice elems spare => uptoBulkAll elems + uptoBulkAll spare + 1
  | .agg parts => uptoBulkAll parts + 1
  | .iface _ d => uptoBulk d + 1
  | .map entries => uptoBulkEntries entries + 1
  | .held _ => 1
def uptoBulkAll {H : Type} : List (DataW H) → Nat
  | [] => 0
  | d :: r => uptoBulk d + uptoBulkAll r
def uptoBulkEntries {H : Type} : List (Lit × DataW H) → Nat
  | [] => 0
  | x :: r => uptoBulkEntry x + uptoBulkEntries r
def uptoBulkEntry {H : Type} : Lit × DataW H → Nat
  | (.string bytes, d) => bytes.length + uptoBulk d + 1
  | (_, d) => uptoBulk d + 1
 end
def uptoSmall : (H : Type) → List (DataW H) → Bool := fun _ ds => decide (uptoBulkAll ds ≤ 1048576)
def OpenSpec.upto (s : _root_.Go.ChangeSpec) : _root_.Go.OpenSpec := { _root_.Go.OpenSpec.ofChange s with cond := some uptoSmall }

/-- 'millracelaw06.KernPlays', WHERE WHAT IT READS IS OF BULK AT MOST 1048576: true; the input reads as it did. -/
def kernPlaysUptoRow : OpenClaim := { program := "ytpoaacnnhgebfaagreat", sum := "793436e12dfe4cefa54d320e8e4f2164c34052802c3b5d6808e667d2d787bc54", func := "millrace/millracelaw06.KernPlays", spec := "kernPlays", unfollowed := true, recurses := true, apart := false, narrowed := true }
def KernPlaysUptoSaid : Prop := kernPlaysUptoRow.holds Tryz.pinned (OpenSpec.upto kernPlaysSpec)

/-- 'millracelaw07.FdtablePlays', WHERE WHAT IT READS IS OF BULK AT MOST 1048576: true; the input reads as it did. -/
def fdtablePlaysUptoRow : OpenClaim := { program := "ytpoaacnnhgebfaagreat", sum := "793436e12dfe4cefa54d320e8e4f2164c34052802c3b5d6808e667d2d787bc54", func := "millrace/millracelaw07.FdtablePlays", spec := "fdtablePlays", unfollowed := true, recurses := true, apart := false, narrowed := true }
def FdtablePlaysUptoSaid : Prop := fdtablePlaysUptoRow.holds Tryz.pinned (OpenSpec.upto fdtablePlaysSpec)

/-- 'millracelaw08.RetryPlays', WHERE WHAT IT READS IS OF BULK AT MOST 1048576: true; the input reads as it did. -/
def retryPlaysUptoRow : OpenClaim := { program := "ytpoaacnnhgebfaagreat", sum := "793436e12dfe4cefa54d320e8e4f2164c34052802c3b5d6808e667d2d787bc54", func := "millrace/millracelaw08.RetryPlays", spec := "retryPlays", unfollowed := true, recurses := true, apart := false, narrowed := true }
def RetryPlaysUptoSaid : Prop := retryPlaysUptoRow.holds Tryz.pinned (OpenSpec.upto retryPlaysSpec)

/-- 'millracelaw10.MemoryPlays', WHERE WHAT IT READS IS OF BULK AT MOST 1048576: true; the input reads as it did. -/
def memoryPlaysUptoRow : OpenClaim := { program := "ytpoaacnnhgebfaagreat", sum := "793436e12dfe4cefa54d320e8e4f2164c34052802c3b5d6808e667d2d787bc54", func := "millrace/millracelaw10.MemoryPlays", spec := "memoryPlays", unfollowed := true, recurses := true, apart := false, narrowed := true }
def MemoryPlaysUptoSaid : Prop := memoryPlaysUptoRow.holds Tryz.pinned (OpenSpec.upto memoryPlaysSpec)

end Rows
end Go.Proofs.YtpoaacnnhgebfaaGreat
