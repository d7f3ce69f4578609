/-
  What the row of RetryOdd says of its arguments, printed by a program; held against the kit by evaluation. Conditions: none.
-/
import Derived.Test.YtkjmlbplmffekaaProg
import Derived.Test.YtkjmlbplmffekaaLr
set_option linter.unusedVariables false
set_option maxRecDepth 100000
namespace Go.Proofs.Ytkjmlbplmffekaa
open Go.Lw
def V5 (W : World) (args : List Value) : Prop :=
  ∃ (a1 : Option Addr) (l2 c3 : Nat) (ns4 : List Int), RdS 1 W a1 l2 c3 (ns4.map (Value.int .i64)) ∧ (∀ n ∈ ns4, (Lit.int .i64 n).wf = true) ∧ l2 * 8 ≤ 140737488351232 ∧
  ∃ (a5 : Option Addr) (l6 c7 : Nat) (ns8 : List Int), RdS 1 W a5 l6 c7 (ns8.map (Value.int .i64)) ∧ (∀ n ∈ ns8, (Lit.int .i64 n).wf = true) ∧ l6 * 8 ≤ 140737488351232 ∧
  ∃ n9, (Lit.int .i64 n9).wf = true ∧ ∃ n10, (Lit.int .i64 n10).wf = true ∧ args = [.slice a1 l2 c3, .slice a5 l6 c7, .int .i64 n9, .int .i64 n10]
theorem O5 {W : World} {args : List Value} (h : vwA Try.prog W 6 [56, 56, 30, 3] (fun vs => args = vs)) : V5 W args := Eq.mp (by kernel_rfl) h
end Go.Proofs.Ytkjmlbplmffekaa
