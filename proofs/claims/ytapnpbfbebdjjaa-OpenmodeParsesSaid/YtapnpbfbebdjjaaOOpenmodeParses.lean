/-
  What the row of OpenmodeParses says of its arguments, printed by a program; held against the kit by evaluation. Conditions: none.
-/
import Derived.Test.YtapnpbfbebdjjaaProg
import Derived.Test.YtapnpbfbebdjjaaLr
set_option linter.unusedVariables false
set_option maxRecDepth 100000
namespace Go.Proofs.Ytapnpbfbebdjjaa
open Go.Lw
def V5 (W : World) (args : List Value) : Prop :=
  ∃ s1 : ByteArray, s1.size ≤ 140737488351232 ∧ args = [.string s1]
theorem O5 {W : World} {args : List Value} (h : vwA Try.prog W 6 [9] (fun vs => args = vs)) : V5 W args := Eq.mp (by kernel_rfl) h
end Go.Proofs.Ytapnpbfbebdjjaa
