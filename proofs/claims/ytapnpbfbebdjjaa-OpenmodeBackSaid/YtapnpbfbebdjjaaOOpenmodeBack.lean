/-
  What the row of OpenmodeBack says of its arguments, printed by a program; held against the kit by evaluation. Conditions: none.
-/
import Derived.Test.YtapnpbfbebdjjaaProg
import Derived.Test.YtapnpbfbebdjjaaLr
set_option linter.unusedVariables false
set_option maxRecDepth 100000
namespace Go.Proofs.Ytapnpbfbebdjjaa
open Go.Lw
def V6 (W : World) (args : List Value) : Prop :=
  ∃ b1, ∃ b2, ∃ b3, ∃ b4, ∃ b5, ∃ b6, ∃ b7, ∃ b8, ∃ s9 : ByteArray, s9.size ≤ 140737488351232 ∧ args = [.agg #[.bool b1, .bool b2, .bool b3, .bool b4, .bool b5, .bool b6, .bool b7, .bool b8], .string s9]
theorem O6 {W : World} {args : List Value} (h : vwA Try.prog W 6 [40, 9] (fun vs => args = vs)) : V6 W args := Eq.mp (by kernel_rfl) h
end Go.Proofs.Ytapnpbfbebdjjaa
