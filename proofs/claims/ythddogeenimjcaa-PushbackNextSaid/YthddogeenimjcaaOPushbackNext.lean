/-
  What the row of PushbackNext says of its arguments, printed by a program; held against the kit by evaluation. Conditions: none.
-/
import Derived.Test.YthddogeenimjcaaProg
import Derived.Test.YthddogeenimjcaaLr
set_option linter.unusedVariables false
set_option maxRecDepth 100000
namespace Go.Proofs.Ythddogeenimjcaa
open Go.Lw
def V6 (W : World) (args : List Value) : Prop :=
  ∃ (a1 : Option Addr) (l2 c3 : Nat) (ns4 : List Int), RdS 1 W a1 l2 c3 (ns4.map (Value.int .u8)) ∧ (∀ n ∈ ns4, (Lit.int .u8 n).wf = true) ∧ l2 * 1 ≤ 140737488351232 ∧
  ∃ n5, (Lit.int .i64 n5).wf = true ∧ ∃ n6, (Lit.int .i64 n6).wf = true ∧ ∃ (a7 : Option Addr) (l8 c9 : Nat) (ns10 : List Int), RdS 1 W a7 l8 c9 (ns10.map (Value.int .u8)) ∧ (∀ n ∈ ns10, (Lit.int .u8 n).wf = true) ∧ l8 * 1 ≤ 140737488351232 ∧
  args = [.slice a1 l2 c3, .int .i64 n5, .int .i64 n6, .slice a7 l8 c9]
theorem O6 {W : World} {args : List Value} (h : vwA Try.prog W 6 [22, 3, 3, 22] (fun vs => args = vs)) : V6 W args := Eq.mp (by kernel_rfl) h
end Go.Proofs.Ythddogeenimjcaa
