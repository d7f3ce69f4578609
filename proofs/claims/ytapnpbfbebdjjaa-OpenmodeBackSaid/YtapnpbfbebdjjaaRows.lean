/-
  No cell of these rows narrows 'for every input' (looked for: loops, veiled, ifaces, maps, wideKeys, modest, calm, conditions, laid).
  DERIVED. THE GIVEN ROWS OF THIS SEAT. 11 by the template 'for every input the law returns true; each argument reads behind the call as it read before'; 0 by the template 'total and deterministic' (their statements: YtapnpbfbebdjjaaTotals.lean).
  GIVEN WITH THE SEED: the statements are not yours to turn. If you find one false, say at which input.
  Laid BY PROGRAM, IN A SANDBOX (cutbox-rows.mjs): the forced cells as the released guide's own fill.sh prints them over the translation f5e2654012f92b2c… (all of the seat's roots in one cut). By AI agents, Wed Nov 11 2026. No macro, syntax, notation, axiom, sorry.
-/
import Derived.Test.YtapnpbfbebdjjaaChecked
import GoSem.Claim
import GoSem.ClaimJoined
import GoSem.ClaimMapViews
import Derived.JoinedTies
import Derived.KernelRfl
namespace Go.Proofs.Ytapnpbfbebdjjaa
/- THE CELL 'sum', in the pinned program and in every row, IS THE sha256 OF THE DUMP (.gsa) THAT YtapnpbfbebdjjaaProg.lean LOADS. Nothing in Lean hashes anything: it is a label: what it is worth is what the hold of that sum in a sandbox is worth. -/
noncomputable def Try.pinned : Pinned := { name := "ytapnpbfbebdjjaa", sum := "f5e2654012f92b2c8a340247060dda5601f8d5caa068c693a7c291f4c4fa73d3", checked := Try.checked }
namespace Rows
def none {H : Type} : Left H := { results := [], args := [] }

/-- 'millracelaw03.FileLast': WHATEVER THE INPUT: true; the input reads as it did. -/
def fileLastSpec : ChangeSpec := { name := "fileLast", fn := fun _ => fun
  | [d1, d2, d3] => { results := [.lit (.bool true)], args := [d1, d2, d3] }
  | _ => none }
def fileLastRow : OpenClaim := { program := "ytapnpbfbebdjjaa", sum := "f5e2654012f92b2c8a340247060dda5601f8d5caa068c693a7c291f4c4fa73d3", func := "millrace/millracelaw03.FileLast", spec := "fileLast", apart := false }
def FileLastSaid : Prop := fileLastRow.holds Try.pinned (OpenSpec.ofChange fileLastSpec)

/-- ITS FALSE NEIGHBOUR: 'it returns false'. Refute it at one input. -/
def fileLastWrong : ChangeSpec := { name := "fileLast", fn := fun _ => fun
  | [d1, d2, d3] => { results := [.lit (.bool false)], args := [d1, d2, d3] }
  | _ => none }
def FileLastWrongFalsely : Prop := fileLastRow.holds Try.pinned (OpenSpec.ofChange fileLastWrong)

/-- 'millracelaw03.FilePieces': WHATEVER THE INPUT: true; the input reads as it did. -/
def filePiecesSpec : ChangeSpec := { name := "filePieces", fn := fun _ => fun
  | [d1, d2] => { results := [.lit (.bool true)], args := [d1, d2] }
  | _ => none }
def filePiecesRow : OpenClaim := { program := "ytapnpbfbebdjjaa", sum := "f5e2654012f92b2c8a340247060dda5601f8d5caa068c693a7c291f4c4fa73d3", func := "millrace/millracelaw03.FilePieces", spec := "filePieces", apart := false }
def FilePiecesSaid : Prop := filePiecesRow.holds Try.pinned (OpenSpec.ofChange filePiecesSpec)

/-- ITS FALSE NEIGHBOUR: 'it returns false'. Refute it at one input. -/
def filePiecesWrong : ChangeSpec := { name := "filePieces", fn := fun _ => fun
  | [d1, d2] => { results := [.lit (.bool false)], args := [d1, d2] }
  | _ => none }
def FilePiecesWrongFalsely : Prop := filePiecesRow.holds Try.pinned (OpenSpec.ofChange filePiecesWrong)

/-- 'millracelaw09.OpenmodeParses': WHATEVER THE INPUT: true; the input reads as it did. -/
def openmodeParsesSpec : ChangeSpec := { name := "openmodeParses", fn := fun _ => fun
  | [d] => { results := [.lit (.bool true)], args := [d] }
  | _ => none }
def openmodeParsesRow : OpenClaim := { program := "ytapnpbfbebdjjaa", sum := "f5e2654012f92b2c8a340247060dda5601f8d5caa068c693a7c291f4c4fa73d3", func := "millrace/millracelaw09.OpenmodeParses", spec := "openmodeParses", inPlace := ["internal/bytealg.IndexByteString"], unfollowed := true, recurses := true, apart := false }
def OpenmodeParsesSaid : Prop := openmodeParsesRow.holds Try.pinned (OpenSpec.ofChange openmodeParsesSpec)

/-- ITS FALSE NEIGHBOUR: 'it returns false'. Refute it at one input. -/
def openmodeParsesWrong : ChangeSpec := { name := "openmodeParses", fn := fun _ => fun
  | [d] => { results := [.lit (.bool false)], args := [d] }
  | _ => none }
def OpenmodeParsesWrongFalsely : Prop := openmodeParsesRow.holds Try.pinned (OpenSpec.ofChange openmodeParsesWrong)

/-- 'millracelaw09.OpenmodeBack': WHATEVER THE INPUT: true; the input reads as it did. -/
def openmodeBackSpec : ChangeSpec := { name := "openmodeBack", fn := fun _ => fun
  | [d1, d2] => { results := [.lit (.bool true)], args := [d1, d2] }
  | _ => none }
def openmodeBackRow : OpenClaim := { program := "ytapnpbfbebdjjaa", sum := "f5e2654012f92b2c8a340247060dda5601f8d5caa068c693a7c291f4c4fa73d3", func := "millrace/millracelaw09.OpenmodeBack", spec := "openmodeBack", inPlace := ["internal/bytealg.IndexByteString"], unfollowed := true, recurses := true, apart := false }
def OpenmodeBackSaid : Prop := openmodeBackRow.holds Try.pinned (OpenSpec.ofChange openmodeBackSpec)

/-- ITS FALSE NEIGHBOUR: 'it returns false'. Refute it at one input. -/
def openmodeBackWrong : ChangeSpec := { name := "openmodeBack", fn := fun _ => fun
  | [d1, d2] => { results := [.lit (.bool false)], args := [d1, d2] }
  | _ => none }
def OpenmodeBackWrongFalsely : Prop := openmodeBackRow.holds Try.pinned (OpenSpec.ofChange openmodeBackWrong)

/-- 'millracelaw04.TerminalLines': WHATEVER THE INPUT: true; the input reads as it did. -/
def terminalLinesSpec : ChangeSpec := { name := "terminalLines", fn := fun _ => fun
  | [d1, d2] => { results := [.lit (.bool true)], args := [d1, d2] }
  | _ => none }
def terminalLinesRow : OpenClaim := { program := "ytapnpbfbebdjjaa", sum := "f5e2654012f92b2c8a340247060dda5601f8d5caa068c693a7c291f4c4fa73d3", func := "millrace/millracelaw04.TerminalLines", spec := "terminalLines", apart := false }
def TerminalLinesSaid : Prop := terminalLinesRow.holds Try.pinned (OpenSpec.ofChange terminalLinesSpec)

/-- ITS FALSE NEIGHBOUR: 'it returns false'. Refute it at one input. -/
def terminalLinesWrong : ChangeSpec := { name := "terminalLines", fn := fun _ => fun
  | [d1, d2] => { results := [.lit (.bool false)], args := [d1, d2] }
  | _ => none }
def TerminalLinesWrongFalsely : Prop := terminalLinesRow.holds Try.pinned (OpenSpec.ofChange terminalLinesWrong)

/-- 'millracelaw04.TerminalScreen': WHATEVER THE INPUT: true; the input reads as it did. -/
def terminalScreenSpec : ChangeSpec := { name := "terminalScreen", fn := fun _ => fun
  | [d1, d2] => { results := [.lit (.bool true)], args := [d1, d2] }
  | _ => none }
def terminalScreenRow : OpenClaim := { program := "ytapnpbfbebdjjaa", sum := "f5e2654012f92b2c8a340247060dda5601f8d5caa068c693a7c291f4c4fa73d3", func := "millrace/millracelaw04.TerminalScreen", spec := "terminalScreen", apart := false }
def TerminalScreenSaid : Prop := terminalScreenRow.holds Try.pinned (OpenSpec.ofChange terminalScreenSpec)

/-- ITS FALSE NEIGHBOUR: 'it returns false'. Refute it at one input. -/
def terminalScreenWrong : ChangeSpec := { name := "terminalScreen", fn := fun _ => fun
  | [d1, d2] => { results := [.lit (.bool false)], args := [d1, d2] }
  | _ => none }
def TerminalScreenWrongFalsely : Prop := terminalScreenRow.holds Try.pinned (OpenSpec.ofChange terminalScreenWrong)

/-- 'millracelaw04.TerminalPlays': WHATEVER THE INPUT: true; the input reads as it did. -/
def terminalPlaysSpec : ChangeSpec := { name := "terminalPlays", fn := fun _ => fun
  | [d1, d2] => { results := [.lit (.bool true)], args := [d1, d2] }
  | _ => none }
def terminalPlaysRow : OpenClaim := { program := "ytapnpbfbebdjjaa", sum := "f5e2654012f92b2c8a340247060dda5601f8d5caa068c693a7c291f4c4fa73d3", func := "millrace/millracelaw04.TerminalPlays", spec := "terminalPlays", apart := false }
def TerminalPlaysSaid : Prop := terminalPlaysRow.holds Try.pinned (OpenSpec.ofChange terminalPlaysSpec)

/-- ITS FALSE NEIGHBOUR: 'it returns false'. Refute it at one input. -/
def terminalPlaysWrong : ChangeSpec := { name := "terminalPlays", fn := fun _ => fun
  | [d1, d2] => { results := [.lit (.bool false)], args := [d1, d2] }
  | _ => none }
def TerminalPlaysWrongFalsely : Prop := terminalPlaysRow.holds Try.pinned (OpenSpec.ofChange terminalPlaysWrong)

/-- 'millracelaw04.TerminalOwn': WHATEVER THE INPUT: true; the input reads as it did. -/
def terminalOwnSpec : ChangeSpec := { name := "terminalOwn", fn := fun _ => fun
  | [d1, d2] => { results := [.lit (.bool true)], args := [d1, d2] }
  | _ => none }
def terminalOwnRow : OpenClaim := { program := "ytapnpbfbebdjjaa", sum := "f5e2654012f92b2c8a340247060dda5601f8d5caa068c693a7c291f4c4fa73d3", func := "millrace/millracelaw04.TerminalOwn", spec := "terminalOwn", apart := false }
def TerminalOwnSaid : Prop := terminalOwnRow.holds Try.pinned (OpenSpec.ofChange terminalOwnSpec)

/-- ITS FALSE NEIGHBOUR: 'it returns false'. Refute it at one input. -/
def terminalOwnWrong : ChangeSpec := { name := "terminalOwn", fn := fun _ => fun
  | [d1, d2] => { results := [.lit (.bool false)], args := [d1, d2] }
  | _ => none }
def TerminalOwnWrongFalsely : Prop := terminalOwnRow.holds Try.pinned (OpenSpec.ofChange terminalOwnWrong)

/-- 'millracelaw09.OpenmodePrints': WHATEVER THE INPUT: true; the input reads as it did. -/
def openmodePrintsSpec : ChangeSpec := { name := "openmodePrints", fn := fun _ => fun
  | [d] => { results := [.lit (.bool true)], args := [d] }
  | _ => none }
def openmodePrintsRow : OpenClaim := { program := "ytapnpbfbebdjjaa", sum := "f5e2654012f92b2c8a340247060dda5601f8d5caa068c693a7c291f4c4fa73d3", func := "millrace/millracelaw09.OpenmodePrints", spec := "openmodePrints", inPlace := ["internal/bytealg.IndexByteString"], unfollowed := true, recurses := true, apart := false }
def OpenmodePrintsSaid : Prop := openmodePrintsRow.holds Try.pinned (OpenSpec.ofChange openmodePrintsSpec)

/-- ITS FALSE NEIGHBOUR: 'it returns false'. Refute it at one input. -/
def openmodePrintsWrong : ChangeSpec := { name := "openmodePrints", fn := fun _ => fun
  | [d] => { results := [.lit (.bool false)], args := [d] }
  | _ => none }
def OpenmodePrintsWrongFalsely : Prop := openmodePrintsRow.holds Try.pinned (OpenSpec.ofChange openmodePrintsWrong)

/-- 'millracelaw03.FilePlays': WHATEVER THE INPUT: true; the input reads as it did. -/
def filePlaysSpec : ChangeSpec := { name := "filePlays", fn := fun _ => fun
  | [d1, d2] => { results := [.lit (.bool true)], args := [d1, d2] }
  | _ => none }
def filePlaysRow : OpenClaim := { program := "ytapnpbfbebdjjaa", sum := "f5e2654012f92b2c8a340247060dda5601f8d5caa068c693a7c291f4c4fa73d3", func := "millrace/millracelaw03.FilePlays", spec := "filePlays", apart := false }
def FilePlaysSaid : Prop := filePlaysRow.holds Try.pinned (OpenSpec.ofChange filePlaysSpec)

/-- ITS FALSE NEIGHBOUR: 'it returns false'. Refute it at one input. -/
def filePlaysWrong : ChangeSpec := { name := "filePlays", fn := fun _ => fun
  | [d1, d2] => { results := [.lit (.bool false)], args := [d1, d2] }
  | _ => none }
def FilePlaysWrongFalsely : Prop := filePlaysRow.holds Try.pinned (OpenSpec.ofChange filePlaysWrong)

/-- 'millracelaw03.FileOwn': WHATEVER THE INPUT: true; the input reads as it did. -/
def fileOwnSpec : ChangeSpec := { name := "fileOwn", fn := fun _ => fun
  | [d1, d2] => { results := [.lit (.bool true)], args := [d1, d2] }
  | _ => none }
def fileOwnRow : OpenClaim := { program := "ytapnpbfbebdjjaa", sum := "f5e2654012f92b2c8a340247060dda5601f8d5caa068c693a7c291f4c4fa73d3", func := "millrace/millracelaw03.FileOwn", spec := "fileOwn", apart := false }
def FileOwnSaid : Prop := fileOwnRow.holds Try.pinned (OpenSpec.ofChange fileOwnSpec)

/-- ITS FALSE NEIGHBOUR: 'it returns false'. Refute it at one input. -/
def fileOwnWrong : ChangeSpec := { name := "fileOwn", fn := fun _ => fun
  | [d1, d2] => { results := [.lit (.bool false)], args := [d1, d2] }
  | _ => none }
def FileOwnWrongFalsely : Prop := fileOwnRow.holds Try.pinned (OpenSpec.ofChange fileOwnWrong)

/- THE SECOND FORM. 'bulk': how many values and letters a reading holds, each counted each time it is reached (what is shared counts as often as it is met; a slice's spare places count too). A statement '..UptoSaid' is the law's where the arguments, and the package variables that the reading takes, are together of bulk at most 1048576: NARROWER than '..Said'. Prove '..Said' where nothing that the law and all that it calls make is longer than what came in: it says more and counts as full. Else prove '..UptoSaid'. A law counts once. -/
mutual
def uptoBulk {H : Type} : DataW H → Nat
  | .lit (.string bytes) => bytes.length + 1
  | .lit _ => 1
  | .nil => 1
  | .ptr d => uptoBulk d + 1
  | .slice elems spare => uptoBulkAll elems + uptoBulkAll spare + 1
  | .agg parts => uptoBulkAll parts + 1
  | .iface _ d => uptoBulk d + 1
  | .map entries => uptoBulkEntries entries + 1
  | .held _ => 1
def uptoBulkAll {H : Type} : List (DataW H) → Nat
  | [] => 0
  | d :: r => uptoBulk d + uptoBulkAll r
def uptoBulkEntries {H : Type} : List (Lit × DataW H) → Nat
  | [] => 0
  | x :: r => uptoBulkEntry x + uptoBulkEntries r
def uptoBulkEntry {H : Type} : Lit × DataW H → Nat
  | (.string bytes, d) => bytes.length + uptoBulk d + 1
  | (_, d) => uptoBulk d + 1
 end
def uptoSmall : (H : Type) → List (DataW H) → Bool := fun _ ds => decide (uptoBulkAll ds ≤ 1048576)
def OpenSpec.upto (s : _root_.Go.ChangeSpec) : _root_.Go.OpenSpec := { _root_.Go.OpenSpec.ofChange s with cond := some uptoSmall }

/-- 'millracelaw03.FileLast', WHERE WHAT IT READS IS OF BULK AT MOST 1048576: true; the input reads as it did. -/
def fileLastUptoRow : OpenClaim := { program := "ytapnpbfbebdjjaa", sum := "f5e2654012f92b2c8a340247060dda5601f8d5caa068c693a7c291f4c4fa73d3", func := "millrace/millracelaw03.FileLast", spec := "fileLast", apart := false, narrowed := true }
def FileLastUptoSaid : Prop := fileLastUptoRow.holds Try.pinned (OpenSpec.upto fileLastSpec)

/-- 'millracelaw03.FilePieces', WHERE WHAT IT READS IS OF BULK AT MOST 1048576: true; the input reads as it did. -/
def filePiecesUptoRow : OpenClaim := { program := "ytapnpbfbebdjjaa", sum := "f5e2654012f92b2c8a340247060dda5601f8d5caa068c693a7c291f4c4fa73d3", func := "millrace/millracelaw03.FilePieces", spec := "filePieces", apart := false, narrowed := true }
def FilePiecesUptoSaid : Prop := filePiecesUptoRow.holds Try.pinned (OpenSpec.upto filePiecesSpec)

/-- 'millracelaw09.OpenmodeParses', WHERE WHAT IT READS IS OF BULK AT MOST 1048576: true; the input reads as it did. -/
def openmodeParsesUptoRow : OpenClaim := { program := "ytapnpbfbebdjjaa", sum := "f5e2654012f92b2c8a340247060dda5601f8d5caa068c693a7c291f4c4fa73d3", func := "millrace/millracelaw09.OpenmodeParses", spec := "openmodeParses", inPlace := ["internal/bytealg.IndexByteString"], unfollowed := true, recurses := true, apart := false, narrowed := true }
def OpenmodeParsesUptoSaid : Prop := openmodeParsesUptoRow.holds Try.pinned (OpenSpec.upto openmodeParsesSpec)

/-- 'millracelaw09.OpenmodeBack', WHERE WHAT IT READS IS OF BULK AT MOST 1048576: true; the input reads as it did. -/
def openmodeBackUptoRow : OpenClaim := { program := "ytapnpbfbebdjjaa", sum := "f5e2654012f92b2c8a340247060dda5601f8d5caa068c693a7c291f4c4fa73d3", func := "millrace/millracelaw09.OpenmodeBack", spec := "openmodeBack", inPlace := ["internal/bytealg.IndexByteString"], unfollowed := true, recurses := true, apart := false, narrowed := true }
def OpenmodeBackUptoSaid : Prop := openmodeBackUptoRow.holds Try.pinned (OpenSpec.upto openmodeBackSpec)

/-- 'millracelaw04.TerminalLines', WHERE WHAT IT READS IS OF BULK AT MOST 1048576: true; the input reads as it did. -/
def terminalLinesUptoRow : OpenClaim := { program := "ytapnpbfbebdjjaa", sum := "f5e2654012f92b2c8a340247060dda5601f8d5caa068c693a7c291f4c4fa73d3", func := "millrace/millracelaw04.TerminalLines", spec := "terminalLines", apart := false, narrowed := true }
def TerminalLinesUptoSaid : Prop := terminalLinesUptoRow.holds Try.pinned (OpenSpec.upto terminalLinesSpec)

/-- 'millracelaw04.TerminalScreen', WHERE WHAT IT READS IS OF BULK AT MOST 1048576: true; the input reads as it did. -/
def terminalScreenUptoRow : OpenClaim := { program := "ytapnpbfbebdjjaa", sum := "f5e2654012f92b2c8a340247060dda5601f8d5caa068c693a7c291f4c4fa73d3", func := "millrace/millracelaw04.TerminalScreen", spec := "terminalScreen", apart := false, narrowed := true }
def TerminalScreenUptoSaid : Prop := terminalScreenUptoRow.holds Try.pinned (OpenSpec.upto terminalScreenSpec)

/-- 'millracelaw04.TerminalPlays', WHERE WHAT IT READS IS OF BULK AT MOST 1048576: true; the input reads as it did. -/
def terminalPlaysUptoRow : OpenClaim := { program := "ytapnpbfbebdjjaa", sum := "f5e2654012f92b2c8a340247060dda5601f8d5caa068c693a7c291f4c4fa73d3", func := "millrace/millracelaw04.TerminalPlays", spec := "terminalPlays", apart := false, narrowed := true }
def TerminalPlaysUptoSaid : Prop := terminalPlaysUptoRow.holds Try.pinned (OpenSpec.upto terminalPlaysSpec)

/-- 'millracelaw04.TerminalOwn', WHERE WHAT IT READS IS OF BULK AT MOST 1048576: true; the input reads as it did. -/
def terminalOwnUptoRow : OpenClaim := { program := "ytapnpbfbebdjjaa", sum := "f5e2654012f92b2c8a340247060dda5601f8d5caa068c693a7c291f4c4fa73d3", func := "millrace/millracelaw04.TerminalOwn", spec := "terminalOwn", apart := false, narrowed := true }
def TerminalOwnUptoSaid : Prop := terminalOwnUptoRow.holds Try.pinned (OpenSpec.upto terminalOwnSpec)

/-- 'millracelaw09.OpenmodePrints', WHERE WHAT IT READS IS OF BULK AT MOST 1048576: true; the input reads as it did. -/
def openmodePrintsUptoRow : OpenClaim := { program := "ytapnpbfbebdjjaa", sum := "f5e2654012f92b2c8a340247060dda5601f8d5caa068c693a7c291f4c4fa73d3", func := "millrace/millracelaw09.OpenmodePrints", spec := "openmodePrints", inPlace := ["internal/bytealg.IndexByteString"], unfollowed := true, recurses := true, apart := false, narrowed := true }
def OpenmodePrintsUptoSaid : Prop := openmodePrintsUptoRow.holds Try.pinned (OpenSpec.upto openmodePrintsSpec)

/-- 'millracelaw03.FilePlays', WHERE WHAT IT READS IS OF BULK AT MOST 1048576: true; the input reads as it did. -/
def filePlaysUptoRow : OpenClaim := { program := "ytapnpbfbebdjjaa", sum := "f5e2654012f92b2c8a340247060dda5601f8d5caa068c693a7c291f4c4fa73d3", func := "millrace/millracelaw03.FilePlays", spec := "filePlays", apart := false, narrowed := true }
def FilePlaysUptoSaid : Prop := filePlaysUptoRow.holds Try.pinned (OpenSpec.upto filePlaysSpec)

/-- 'millracelaw03.FileOwn', WHERE WHAT IT READS IS OF BULK AT MOST 1048576: true; the input reads as it did. -/
def fileOwnUptoRow : OpenClaim := { program := "ytapnpbfbebdjjaa", sum := "f5e2654012f92b2c8a340247060dda5601f8d5caa068c693a7c291f4c4fa73d3", func := "millrace/millracelaw03.FileOwn", spec := "fileOwn", apart := false, narrowed := true }
def FileOwnUptoSaid : Prop := fileOwnUptoRow.holds Try.pinned (OpenSpec.upto fileOwnSpec)

end Rows
end Go.Proofs.Ytapnpbfbebdjjaa
