/-
  What the row of RetryNobody says of its arguments, printed by a program; held against the kit by evaluation. Conditions: none.
-/
import Derived.Test.YtbiofmgebbdflaaProg
import Derived.Test.YtbiofmgebbdflaaLr
set_option linter.unusedVariables false
set_option maxRecDepth 100000
namespace Go.Proofs.Ytbiofmgebbdflaa
open Go.Lw
def V12 (W : World) (args : List Value) : Prop :=
  ∃ n1, (Lit.int .i64 n1).wf = true ∧ ∃ (a2 : Option Addr) (l3 c4 : Nat) (ns5 : List Int), RdS 1 W a2 l3 c4 (ns5.map (Value.int .u8)) ∧ (∀ n ∈ ns5, (Lit.int .u8 n).wf = true) ∧ l3 * 1 ≤ 140737488351232 ∧
  args = [.int .i64 n1, .slice a2 l3 c4]
theorem O12 {W : World} {args : List Value} (h : vwA Try.prog W 6 [3, 36] (fun vs => args = vs)) : V12 W args := Eq.mp (by kernel_rfl) h
end Go.Proofs.Ytbiofmgebbdflaa
