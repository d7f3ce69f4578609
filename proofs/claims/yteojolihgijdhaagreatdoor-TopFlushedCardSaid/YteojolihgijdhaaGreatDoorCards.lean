/-
  DERIVED. GIVEN WITH THE SEED: THE CARDS: each row of YteojolihgijdhaaGreatDoorRows.lean that lists a variable, with what it lists TIED to the program's text (the seventh form; the later family's looks); each row that meets fmt, with fmt's text TOLD by the authors' own Lean function (tested against real Go, not proved from fmt's source: count such statements apart). THE CARD IS WHAT COUNTS. Prove the row's statement (the work); the ties are given (YteojolihgijdhaaGreatDoorTie.lean); close each card by the builder's one call (the guide's Derived/Test/ToyasCard.lean, 'card_holds'). Laid BY PROGRAM, IN A SANDBOX (cutbox-door.mjs). By AI agents, Wed Nov 11 2026. No macro, syntax, notation, axiom, sorry.
-/
import Derived.Test.YteojolihgijdhaaGreatDoorRows
import GoSem.ClaimSeven
namespace Go.Proofs.YteojolihgijdhaaGreatDoor
namespace Rows

/-- THE TIED CARD OF 'millracetop.TopFlushed'. -/
def topFlushedCard : Claim7 := { stood := { row := topFlushedRow, standIns := [], harness := (true, "d0aba9c462a4682590f8f3f05616c9be13192190475e33e82a93bb287e6dcf2b"), looks := true }, kinds := [], alts := [], laidByText := true, laidKinds := [.data, .sentinel, .pinned, .pinned], laidTests := true, laidLooks := .later }
def TopFlushedCardSaid : Prop := Claim7.holds Tryz.pinned (.plain (OpenSpec.ofChange topFlushedSpec)) topFlushedCard

/-- THE SECOND FORM's CARD OF 'millracetop.TopFlushed'. -/
def topFlushedUptoCard : Claim7 := { stood := { row := topFlushedUptoRow, standIns := [], harness := (true, "d0aba9c462a4682590f8f3f05616c9be13192190475e33e82a93bb287e6dcf2b"), looks := true }, kinds := [], alts := [], laidByText := true, laidKinds := [.data, .sentinel, .pinned, .pinned], laidTests := true, laidLooks := .later }
def TopFlushedUptoCardSaid : Prop := Claim7.holds Tryz.pinned (.plain (OpenSpec.upto topFlushedSpec)) topFlushedUptoCard
end Rows
end Go.Proofs.YteojolihgijdhaaGreatDoor
