/-
  What the row of MemoryOwn says of its arguments, printed by a program; held against the kit by evaluation. Conditions: none.
-/
import Derived.Test.YtmpmobhofdefeaaProg
import Derived.Test.YtmpmobhofdefeaaLr
set_option linter.unusedVariables false
set_option maxRecDepth 100000
namespace Go.Proofs.Ytmpmobhofdefeaa
open Go.Lw
def V15 (W : World) (args : List Value) : Prop :=
  ∃ (a1 : Option Addr) (l2 c3 : Nat) (ns4 : List Int), RdS 1 W a1 l2 c3 (ns4.map (Value.int .u8)) ∧ (∀ n ∈ ns4, (Lit.int .u8 n).wf = true) ∧ l2 * 1 ≤ 140737488351232 ∧
  args = [.slice a1 l2 c3]
theorem O15 {W : World} {args : List Value} (h : vwA Try.prog W 6 [26] (fun vs => args = vs)) : V15 W args := Eq.mp (by kernel_rfl) h
end Go.Proofs.Ytmpmobhofdefeaa
