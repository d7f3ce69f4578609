/-
  What the row of FdtableLowest says of its arguments, printed by a program; held against the kit by evaluation. Conditions: none.
-/
import Derived.Test.YtbiofmgebbdflaaProg
import Derived.Test.YtbiofmgebbdflaaLr
set_option linter.unusedVariables false
set_option maxRecDepth 100000
namespace Go.Proofs.Ytbiofmgebbdflaa
open Go.Lw
def V4 (W : World) (args : List Value) : Prop :=
  ∃ (a1 : Option Addr) (l2 c3 : Nat) (ns4 : List Int), RdS 1 W a1 l2 c3 (ns4.map (Value.int .i64)) ∧ (∀ n ∈ ns4, (Lit.int .i64 n).wf = true) ∧ l2 * 8 ≤ 140737488351232 ∧
  args = [.slice a1 l2 c3]
theorem O4 {W : World} {args : List Value} (h : vwA Try.prog W 6 [46] (fun vs => args = vs)) : V4 W args := Eq.mp (by kernel_rfl) h
end Go.Proofs.Ytbiofmgebbdflaa
