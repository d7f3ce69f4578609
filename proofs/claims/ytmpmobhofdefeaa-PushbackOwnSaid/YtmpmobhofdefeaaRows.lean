/-
  No cell of these rows narrows 'for every input' (looked for: loops, veiled, ifaces, maps, wideKeys, modest, calm, conditions, laid).
  DERIVED. THE GIVEN ROWS OF THIS SEAT. 13 by the template 'for every input the law returns true; each argument reads behind the call as it read before'; 0 by the template 'total and deterministic' (their statements: YtmpmobhofdefeaaTotals.lean).
  GIVEN WITH THE SEED: the statements are not yours to turn. If you find one false, say at which input.
  Laid BY PROGRAM, IN A SANDBOX (cutbox-rows.mjs): the forced cells as the released guide's own fill.sh prints them over the translation d47c80eca114d11f… (all of the seat's roots in one cut). By AI agents, Wed Nov 11 2026. No macro, syntax, notation, axiom, sorry.
-/
import Derived.Test.YtmpmobhofdefeaaChecked
import GoSem.Claim
import GoSem.ClaimJoined
import GoSem.ClaimMapViews
import Derived.JoinedTies
import Derived.KernelRfl
namespace Go.Proofs.Ytmpmobhofdefeaa
/- THE CELL 'sum', in the pinned program and in every row, IS THE sha256 OF THE DUMP (.gsa) THAT YtmpmobhofdefeaaProg.lean LOADS. Nothing in Lean hashes anything: it is a label: what it is worth is what the hold of that sum in a sandbox is worth. -/
noncomputable def Try.pinned : Pinned := { name := "ytmpmobhofdefeaa", sum := "d47c80eca114d11fb5bf1e1903d1346afc91c803033126a5a091317f09984873", checked := Try.checked }
namespace Rows
def none {H : Type} : Left H := { results := [], args := [] }

/-- 'millracelaw05.KpipeOrder': WHATEVER THE INPUT: true; the input reads as it did. -/
def kpipeOrderSpec : ChangeSpec := { name := "kpipeOrder", fn := fun _ => fun
  | [d] => { results := [.lit (.bool true)], args := [d] }
  | _ => none }
def kpipeOrderRow : OpenClaim := { program := "ytmpmobhofdefeaa", sum := "d47c80eca114d11fb5bf1e1903d1346afc91c803033126a5a091317f09984873", func := "millrace/millracelaw05.KpipeOrder", spec := "kpipeOrder", apart := false }
def KpipeOrderSaid : Prop := kpipeOrderRow.holds Try.pinned (OpenSpec.ofChange kpipeOrderSpec)

/-- ITS FALSE NEIGHBOUR: 'it returns false'. Refute it at one input. -/
def kpipeOrderWrong : ChangeSpec := { name := "kpipeOrder", fn := fun _ => fun
  | [d] => { results := [.lit (.bool false)], args := [d] }
  | _ => none }
def KpipeOrderWrongFalsely : Prop := kpipeOrderRow.holds Try.pinned (OpenSpec.ofChange kpipeOrderWrong)

/-- 'millracelaw05.KpipeWhole': WHATEVER THE INPUT: true; the input reads as it did. -/
def kpipeWholeSpec : ChangeSpec := { name := "kpipeWhole", fn := fun _ => fun
  | [d1, d2, d3] => { results := [.lit (.bool true)], args := [d1, d2, d3] }
  | _ => none }
def kpipeWholeRow : OpenClaim := { program := "ytmpmobhofdefeaa", sum := "d47c80eca114d11fb5bf1e1903d1346afc91c803033126a5a091317f09984873", func := "millrace/millracelaw05.KpipeWhole", spec := "kpipeWhole", apart := false }
def KpipeWholeSaid : Prop := kpipeWholeRow.holds Try.pinned (OpenSpec.ofChange kpipeWholeSpec)

/-- ITS FALSE NEIGHBOUR: 'it returns false'. Refute it at one input. -/
def kpipeWholeWrong : ChangeSpec := { name := "kpipeWhole", fn := fun _ => fun
  | [d1, d2, d3] => { results := [.lit (.bool false)], args := [d1, d2, d3] }
  | _ => none }
def KpipeWholeWrongFalsely : Prop := kpipeWholeRow.holds Try.pinned (OpenSpec.ofChange kpipeWholeWrong)

/-- 'millracelaw05.KpipeSays': WHATEVER THE INPUT: true; the input reads as it did. -/
def kpipeSaysSpec : ChangeSpec := { name := "kpipeSays", fn := fun _ => fun
  | [d1, d2] => { results := [.lit (.bool true)], args := [d1, d2] }
  | _ => none }
def kpipeSaysRow : OpenClaim := { program := "ytmpmobhofdefeaa", sum := "d47c80eca114d11fb5bf1e1903d1346afc91c803033126a5a091317f09984873", func := "millrace/millracelaw05.KpipeSays", spec := "kpipeSays", apart := false }
def KpipeSaysSaid : Prop := kpipeSaysRow.holds Try.pinned (OpenSpec.ofChange kpipeSaysSpec)

/-- ITS FALSE NEIGHBOUR: 'it returns false'. Refute it at one input. -/
def kpipeSaysWrong : ChangeSpec := { name := "kpipeSays", fn := fun _ => fun
  | [d1, d2] => { results := [.lit (.bool false)], args := [d1, d2] }
  | _ => none }
def KpipeSaysWrongFalsely : Prop := kpipeSaysRow.holds Try.pinned (OpenSpec.ofChange kpipeSaysWrong)

/-- 'millracelaw05.KpipePlays': WHATEVER THE INPUT: true; the input reads as it did. -/
def kpipePlaysSpec : ChangeSpec := { name := "kpipePlays", fn := fun _ => fun
  | [d] => { results := [.lit (.bool true)], args := [d] }
  | _ => none }
def kpipePlaysRow : OpenClaim := { program := "ytmpmobhofdefeaa", sum := "d47c80eca114d11fb5bf1e1903d1346afc91c803033126a5a091317f09984873", func := "millrace/millracelaw05.KpipePlays", spec := "kpipePlays", apart := false }
def KpipePlaysSaid : Prop := kpipePlaysRow.holds Try.pinned (OpenSpec.ofChange kpipePlaysSpec)

/-- ITS FALSE NEIGHBOUR: 'it returns false'. Refute it at one input. -/
def kpipePlaysWrong : ChangeSpec := { name := "kpipePlays", fn := fun _ => fun
  | [d] => { results := [.lit (.bool false)], args := [d] }
  | _ => none }
def KpipePlaysWrongFalsely : Prop := kpipePlaysRow.holds Try.pinned (OpenSpec.ofChange kpipePlaysWrong)

/-- 'millracelaw05.KpipeOwn': WHATEVER THE INPUT: true; the input reads as it did. -/
def kpipeOwnSpec : ChangeSpec := { name := "kpipeOwn", fn := fun _ => fun
  | [d] => { results := [.lit (.bool true)], args := [d] }
  | _ => none }
def kpipeOwnRow : OpenClaim := { program := "ytmpmobhofdefeaa", sum := "d47c80eca114d11fb5bf1e1903d1346afc91c803033126a5a091317f09984873", func := "millrace/millracelaw05.KpipeOwn", spec := "kpipeOwn", apart := false }
def KpipeOwnSaid : Prop := kpipeOwnRow.holds Try.pinned (OpenSpec.ofChange kpipeOwnSpec)

/-- ITS FALSE NEIGHBOUR: 'it returns false'. Refute it at one input. -/
def kpipeOwnWrong : ChangeSpec := { name := "kpipeOwn", fn := fun _ => fun
  | [d] => { results := [.lit (.bool false)], args := [d] }
  | _ => none }
def KpipeOwnWrongFalsely : Prop := kpipeOwnRow.holds Try.pinned (OpenSpec.ofChange kpipeOwnWrong)

/-- 'millracelaw10.MemoryTold': WHATEVER THE INPUT: true; the input reads as it did. -/
def memoryToldSpec : ChangeSpec := { name := "memoryTold", fn := fun _ => fun
  | [d1, d2] => { results := [.lit (.bool true)], args := [d1, d2] }
  | _ => none }
def memoryToldRow : OpenClaim := { program := "ytmpmobhofdefeaa", sum := "d47c80eca114d11fb5bf1e1903d1346afc91c803033126a5a091317f09984873", func := "millrace/millracelaw10.MemoryTold", spec := "memoryTold", unfollowed := true, recurses := true, apart := false }
def MemoryToldSaid : Prop := memoryToldRow.holds Try.pinned (OpenSpec.ofChange memoryToldSpec)

/-- ITS FALSE NEIGHBOUR: 'it returns false'. Refute it at one input. -/
def memoryToldWrong : ChangeSpec := { name := "memoryTold", fn := fun _ => fun
  | [d1, d2] => { results := [.lit (.bool false)], args := [d1, d2] }
  | _ => none }
def MemoryToldWrongFalsely : Prop := memoryToldRow.holds Try.pinned (OpenSpec.ofChange memoryToldWrong)

/-- 'millracelaw10.MemoryRoom': WHATEVER THE INPUT: true; the input reads as it did. -/
def memoryRoomSpec : ChangeSpec := { name := "memoryRoom", fn := fun _ => fun
  | [d1, d2] => { results := [.lit (.bool true)], args := [d1, d2] }
  | _ => none }
def memoryRoomRow : OpenClaim := { program := "ytmpmobhofdefeaa", sum := "d47c80eca114d11fb5bf1e1903d1346afc91c803033126a5a091317f09984873", func := "millrace/millracelaw10.MemoryRoom", spec := "memoryRoom", unfollowed := true, recurses := true, apart := false }
def MemoryRoomSaid : Prop := memoryRoomRow.holds Try.pinned (OpenSpec.ofChange memoryRoomSpec)

/-- ITS FALSE NEIGHBOUR: 'it returns false'. Refute it at one input. -/
def memoryRoomWrong : ChangeSpec := { name := "memoryRoom", fn := fun _ => fun
  | [d1, d2] => { results := [.lit (.bool false)], args := [d1, d2] }
  | _ => none }
def MemoryRoomWrongFalsely : Prop := memoryRoomRow.holds Try.pinned (OpenSpec.ofChange memoryRoomWrong)

/-- 'millracelaw10.MemoryMakes': WHATEVER THE INPUT: true; the input reads as it did. -/
def memoryMakesSpec : ChangeSpec := { name := "memoryMakes", fn := fun _ => fun
  | [d] => { results := [.lit (.bool true)], args := [d] }
  | _ => none }
def memoryMakesRow : OpenClaim := { program := "ytmpmobhofdefeaa", sum := "d47c80eca114d11fb5bf1e1903d1346afc91c803033126a5a091317f09984873", func := "millrace/millracelaw10.MemoryMakes", spec := "memoryMakes", unfollowed := true, recurses := true, apart := false }
def MemoryMakesSaid : Prop := memoryMakesRow.holds Try.pinned (OpenSpec.ofChange memoryMakesSpec)

/-- ITS FALSE NEIGHBOUR: 'it returns false'. Refute it at one input. -/
def memoryMakesWrong : ChangeSpec := { name := "memoryMakes", fn := fun _ => fun
  | [d] => { results := [.lit (.bool false)], args := [d] }
  | _ => none }
def MemoryMakesWrongFalsely : Prop := memoryMakesRow.holds Try.pinned (OpenSpec.ofChange memoryMakesWrong)

/-- 'millracelaw13.PushbackSteps': WHATEVER THE INPUT: true; the input reads as it did. -/
def pushbackStepsSpec : ChangeSpec := { name := "pushbackSteps", fn := fun _ => fun
  | [d1, d2, d3] => { results := [.lit (.bool true)], args := [d1, d2, d3] }
  | _ => none }
def pushbackStepsRow : OpenClaim := { program := "ytmpmobhofdefeaa", sum := "d47c80eca114d11fb5bf1e1903d1346afc91c803033126a5a091317f09984873", func := "millrace/millracelaw13.PushbackSteps", spec := "pushbackSteps", inPlace := ["internal/bytealg.IndexByteString"], unfollowed := true, recurses := true, apart := false }
def PushbackStepsSaid : Prop := pushbackStepsRow.holds Try.pinned (OpenSpec.ofChange pushbackStepsSpec)

/-- ITS FALSE NEIGHBOUR: 'it returns false'. Refute it at one input. -/
def pushbackStepsWrong : ChangeSpec := { name := "pushbackSteps", fn := fun _ => fun
  | [d1, d2, d3] => { results := [.lit (.bool false)], args := [d1, d2, d3] }
  | _ => none }
def PushbackStepsWrongFalsely : Prop := pushbackStepsRow.holds Try.pinned (OpenSpec.ofChange pushbackStepsWrong)

/-- 'millracelaw13.PushbackOne': WHATEVER THE INPUT: true; the input reads as it did. -/
def pushbackOneSpec : ChangeSpec := { name := "pushbackOne", fn := fun _ => fun
  | [d1, d2] => { results := [.lit (.bool true)], args := [d1, d2] }
  | _ => none }
def pushbackOneRow : OpenClaim := { program := "ytmpmobhofdefeaa", sum := "d47c80eca114d11fb5bf1e1903d1346afc91c803033126a5a091317f09984873", func := "millrace/millracelaw13.PushbackOne", spec := "pushbackOne", inPlace := ["internal/bytealg.IndexByteString"], unfollowed := true, recurses := true, apart := false }
def PushbackOneSaid : Prop := pushbackOneRow.holds Try.pinned (OpenSpec.ofChange pushbackOneSpec)

/-- ITS FALSE NEIGHBOUR: 'it returns false'. Refute it at one input. -/
def pushbackOneWrong : ChangeSpec := { name := "pushbackOne", fn := fun _ => fun
  | [d1, d2] => { results := [.lit (.bool false)], args := [d1, d2] }
  | _ => none }
def PushbackOneWrongFalsely : Prop := pushbackOneRow.holds Try.pinned (OpenSpec.ofChange pushbackOneWrong)

/-- 'millracelaw13.PushbackOwn': WHATEVER THE INPUT: true; the input reads as it did. -/
def pushbackOwnSpec : ChangeSpec := { name := "pushbackOwn", fn := fun _ => fun
  | [d1, d2] => { results := [.lit (.bool true)], args := [d1, d2] }
  | _ => none }
def pushbackOwnRow : OpenClaim := { program := "ytmpmobhofdefeaa", sum := "d47c80eca114d11fb5bf1e1903d1346afc91c803033126a5a091317f09984873", func := "millrace/millracelaw13.PushbackOwn", spec := "pushbackOwn", inPlace := ["internal/bytealg.IndexByteString"], unfollowed := true, recurses := true, apart := false }
def PushbackOwnSaid : Prop := pushbackOwnRow.holds Try.pinned (OpenSpec.ofChange pushbackOwnSpec)

/-- ITS FALSE NEIGHBOUR: 'it returns false'. Refute it at one input. -/
def pushbackOwnWrong : ChangeSpec := { name := "pushbackOwn", fn := fun _ => fun
  | [d1, d2] => { results := [.lit (.bool false)], args := [d1, d2] }
  | _ => none }
def PushbackOwnWrongFalsely : Prop := pushbackOwnRow.holds Try.pinned (OpenSpec.ofChange pushbackOwnWrong)

/-- 'millracelaw10.MemoryAlike': WHATEVER THE INPUT: true; the input reads as it did. -/
def memoryAlikeSpec : ChangeSpec := { name := "memoryAlike", fn := fun _ => fun
  | [d1, d2] => { results := [.lit (.bool true)], args := [d1, d2] }
  | _ => none }
def memoryAlikeRow : OpenClaim := { program := "ytmpmobhofdefeaa", sum := "d47c80eca114d11fb5bf1e1903d1346afc91c803033126a5a091317f09984873", func := "millrace/millracelaw10.MemoryAlike", spec := "memoryAlike", unfollowed := true, recurses := true, apart := false }
def MemoryAlikeSaid : Prop := memoryAlikeRow.holds Try.pinned (OpenSpec.ofChange memoryAlikeSpec)

/-- ITS FALSE NEIGHBOUR: 'it returns false'. Refute it at one input. -/
def memoryAlikeWrong : ChangeSpec := { name := "memoryAlike", fn := fun _ => fun
  | [d1, d2] => { results := [.lit (.bool false)], args := [d1, d2] }
  | _ => none }
def MemoryAlikeWrongFalsely : Prop := memoryAlikeRow.holds Try.pinned (OpenSpec.ofChange memoryAlikeWrong)

/-- 'millracelaw10.MemoryOwn': WHATEVER THE INPUT: true; the input reads as it did. -/
def memoryOwnSpec : ChangeSpec := { name := "memoryOwn", fn := fun _ => fun
  | [d] => { results := [.lit (.bool true)], args := [d] }
  | _ => none }
def memoryOwnRow : OpenClaim := { program := "ytmpmobhofdefeaa", sum := "d47c80eca114d11fb5bf1e1903d1346afc91c803033126a5a091317f09984873", func := "millrace/millracelaw10.MemoryOwn", spec := "memoryOwn", unfollowed := true, recurses := true, apart := false }
def MemoryOwnSaid : Prop := memoryOwnRow.holds Try.pinned (OpenSpec.ofChange memoryOwnSpec)

/-- ITS FALSE NEIGHBOUR: 'it returns false'. Refute it at one input. -/
def memoryOwnWrong : ChangeSpec := { name := "memoryOwn", fn := fun _ => fun
  | [d] => { results := [.lit (.bool false)], args := [d] }
  | _ => none }
def MemoryOwnWrongFalsely : Prop := memoryOwnRow.holds Try.pinned (OpenSpec.ofChange memoryOwnWrong)

/- THE SECOND FORM. 'bulk': how many values and letters a reading holds, each counted each time it is reached (what is shared counts as often as it is met; a slice's spare places count too). A statement '..UptoSaid' is the law's where the arguments, and the package variables that the reading takes, are together of bulk at most 1048576: NARROWER than '..Said'. Prove '..Said' where nothing that the law and all that it calls make is longer than what came in: it says more and counts as full. Else prove '..UptoSaid'. A law counts once. -/
mutual
def uptoBulk {H : Type} : DataW H → Nat
  | .lit (.string bytes) => bytes.length + 1
  | .lit _ => 1
  | .nil => 1
  | .ptr d => uptoBulk d + 1
  | .slice elems spare => uptoBulkAll elems + uptoBulkAll spare + 1
  | .agg parts => uptoBulkAll parts + 1
  | .iface _ d => uptoBulk d + 1
  | .map entries => uptoBulkEntries entries + 1
  | .held _ => 1
def uptoBulkAll {H : Type} : List (DataW H) → Nat
  | [] => 0
  | d :: r => uptoBulk d + uptoBulkAll r
def uptoBulkEntries {H : Type} : List (Lit × DataW H) → Nat
  | [] => 0
  | x :: r => uptoBulkEntry x + uptoBulkEntries r
def uptoBulkEntry {H : Type} : Lit × DataW H → Nat
  | (.string bytes, d) => bytes.length + uptoBulk d + 1
  | (_, d) => uptoBulk d + 1
 end
def uptoSmall : (H : Type) → List (DataW H) → Bool := fun _ ds => decide (uptoBulkAll ds ≤ 1048576)
def OpenSpec.upto (s : _root_.Go.ChangeSpec) : _root_.Go.OpenSpec := { _root_.Go.OpenSpec.ofChange s with cond := some uptoSmall }

/-- 'millracelaw05.KpipeOrder', WHERE WHAT IT READS IS OF BULK AT MOST 1048576: true; the input reads as it did. -/
def kpipeOrderUptoRow : OpenClaim := { program := "ytmpmobhofdefeaa", sum := "d47c80eca114d11fb5bf1e1903d1346afc91c803033126a5a091317f09984873", func := "millrace/millracelaw05.KpipeOrder", spec := "kpipeOrder", apart := false, narrowed := true }
def KpipeOrderUptoSaid : Prop := kpipeOrderUptoRow.holds Try.pinned (OpenSpec.upto kpipeOrderSpec)

/-- 'millracelaw05.KpipeWhole', WHERE WHAT IT READS IS OF BULK AT MOST 1048576: true; the input reads as it did. -/
def kpipeWholeUptoRow : OpenClaim := { program := "ytmpmobhofdefeaa", sum := "d47c80eca114d11fb5bf1e1903d1346afc91c803033126a5a091317f09984873", func := "millrace/millracelaw05.KpipeWhole", spec := "kpipeWhole", apart := false, narrowed := true }
def KpipeWholeUptoSaid : Prop := kpipeWholeUptoRow.holds Try.pinned (OpenSpec.upto kpipeWholeSpec)

/-- 'millracelaw05.KpipeSays', WHERE WHAT IT READS IS OF BULK AT MOST 1048576: true; the input reads as it did. -/
def kpipeSaysUptoRow : OpenClaim := { program := "ytmpmobhofdefeaa", sum := "d47c80eca114d11fb5bf1e1903d1346afc91c803033126a5a091317f09984873", func := "millrace/millracelaw05.KpipeSays", spec := "kpipeSays", apart := false, narrowed := true }
def KpipeSaysUptoSaid : Prop := kpipeSaysUptoRow.holds Try.pinned (OpenSpec.upto kpipeSaysSpec)

/-- 'millracelaw05.KpipePlays', WHERE WHAT IT READS IS OF BULK AT MOST 1048576: true; the input reads as it did. -/
def kpipePlaysUptoRow : OpenClaim := { program := "ytmpmobhofdefeaa", sum := "d47c80eca114d11fb5bf1e1903d1346afc91c803033126a5a091317f09984873", func := "millrace/millracelaw05.KpipePlays", spec := "kpipePlays", apart := false, narrowed := true }
def KpipePlaysUptoSaid : Prop := kpipePlaysUptoRow.holds Try.pinned (OpenSpec.upto kpipePlaysSpec)

/-- 'millracelaw05.KpipeOwn', WHERE WHAT IT READS IS OF BULK AT MOST 1048576: true; the input reads as it did. -/
def kpipeOwnUptoRow : OpenClaim := { program := "ytmpmobhofdefeaa", sum := "d47c80eca114d11fb5bf1e1903d1346afc91c803033126a5a091317f09984873", func := "millrace/millracelaw05.KpipeOwn", spec := "kpipeOwn", apart := false, narrowed := true }
def KpipeOwnUptoSaid : Prop := kpipeOwnUptoRow.holds Try.pinned (OpenSpec.upto kpipeOwnSpec)

/-- 'millracelaw10.MemoryTold', WHERE WHAT IT READS IS OF BULK AT MOST 1048576: true; the input reads as it did. -/
def memoryToldUptoRow : OpenClaim := { program := "ytmpmobhofdefeaa", sum := "d47c80eca114d11fb5bf1e1903d1346afc91c803033126a5a091317f09984873", func := "millrace/millracelaw10.MemoryTold", spec := "memoryTold", unfollowed := true, recurses := true, apart := false, narrowed := true }
def MemoryToldUptoSaid : Prop := memoryToldUptoRow.holds Try.pinned (OpenSpec.upto memoryToldSpec)

/-- 'millracelaw10.MemoryRoom', WHERE WHAT IT READS IS OF BULK AT MOST 1048576: true; the input reads as it did. -/
def memoryRoomUptoRow : OpenClaim := { program := "ytmpmobhofdefeaa", sum := "d47c80eca114d11fb5bf1e1903d1346afc91c803033126a5a091317f09984873", func := "millrace/millracelaw10.MemoryRoom", spec := "memoryRoom", unfollowed := true, recurses := true, apart := false, narrowed := true }
def MemoryRoomUptoSaid : Prop := memoryRoomUptoRow.holds Try.pinned (OpenSpec.upto memoryRoomSpec)

/-- 'millracelaw10.MemoryMakes', WHERE WHAT IT READS IS OF BULK AT MOST 1048576: true; the input reads as it did. -/
def memoryMakesUptoRow : OpenClaim := { program := "ytmpmobhofdefeaa", sum := "d47c80eca114d11fb5bf1e1903d1346afc91c803033126a5a091317f09984873", func := "millrace/millracelaw10.MemoryMakes", spec := "memoryMakes", unfollowed := true, recurses := true, apart := false, narrowed := true }
def MemoryMakesUptoSaid : Prop := memoryMakesUptoRow.holds Try.pinned (OpenSpec.upto memoryMakesSpec)

/-- 'millracelaw13.PushbackSteps', WHERE WHAT IT READS IS OF BULK AT MOST 1048576: true; the input reads as it did. -/
def pushbackStepsUptoRow : OpenClaim := { program := "ytmpmobhofdefeaa", sum := "d47c80eca114d11fb5bf1e1903d1346afc91c803033126a5a091317f09984873", func := "millrace/millracelaw13.PushbackSteps", spec := "pushbackSteps", inPlace := ["internal/bytealg.IndexByteString"], unfollowed := true, recurses := true, apart := false, narrowed := true }
def PushbackStepsUptoSaid : Prop := pushbackStepsUptoRow.holds Try.pinned (OpenSpec.upto pushbackStepsSpec)

/-- 'millracelaw13.PushbackOne', WHERE WHAT IT READS IS OF BULK AT MOST 1048576: true; the input reads as it did. -/
def pushbackOneUptoRow : OpenClaim := { program := "ytmpmobhofdefeaa", sum := "d47c80eca114d11fb5bf1e1903d1346afc91c803033126a5a091317f09984873", func := "millrace/millracelaw13.PushbackOne", spec := "pushbackOne", inPlace := ["internal/bytealg.IndexByteString"], unfollowed := true, recurses := true, apart := false, narrowed := true }
def PushbackOneUptoSaid : Prop := pushbackOneUptoRow.holds Try.pinned (OpenSpec.upto pushbackOneSpec)

/-- 'millracelaw13.PushbackOwn', WHERE WHAT IT READS IS OF BULK AT MOST 1048576: true; the input reads as it did. -/
def pushbackOwnUptoRow : OpenClaim := { program := "ytmpmobhofdefeaa", sum := "d47c80eca114d11fb5bf1e1903d1346afc91c803033126a5a091317f09984873", func := "millrace/millracelaw13.PushbackOwn", spec := "pushbackOwn", inPlace := ["internal/bytealg.IndexByteString"], unfollowed := true, recurses := true, apart := false, narrowed := true }
def PushbackOwnUptoSaid : Prop := pushbackOwnUptoRow.holds Try.pinned (OpenSpec.upto pushbackOwnSpec)

/-- 'millracelaw10.MemoryAlike', WHERE WHAT IT READS IS OF BULK AT MOST 1048576: true; the input reads as it did. -/
def memoryAlikeUptoRow : OpenClaim := { program := "ytmpmobhofdefeaa", sum := "d47c80eca114d11fb5bf1e1903d1346afc91c803033126a5a091317f09984873", func := "millrace/millracelaw10.MemoryAlike", spec := "memoryAlike", unfollowed := true, recurses := true, apart := false, narrowed := true }
def MemoryAlikeUptoSaid : Prop := memoryAlikeUptoRow.holds Try.pinned (OpenSpec.upto memoryAlikeSpec)

/-- 'millracelaw10.MemoryOwn', WHERE WHAT IT READS IS OF BULK AT MOST 1048576: true; the input reads as it did. -/
def memoryOwnUptoRow : OpenClaim := { program := "ytmpmobhofdefeaa", sum := "d47c80eca114d11fb5bf1e1903d1346afc91c803033126a5a091317f09984873", func := "millrace/millracelaw10.MemoryOwn", spec := "memoryOwn", unfollowed := true, recurses := true, apart := false, narrowed := true }
def MemoryOwnUptoSaid : Prop := memoryOwnUptoRow.holds Try.pinned (OpenSpec.upto memoryOwnSpec)

end Rows
end Go.Proofs.Ytmpmobhofdefeaa
