/-
  What the row of FileOwn says of its arguments, printed by a program; held against the kit by evaluation. Conditions: none.
-/
import Derived.Test.YtapnpbfbebdjjaaProg
import Derived.Test.YtapnpbfbebdjjaaLr
set_option linter.unusedVariables false
set_option maxRecDepth 100000
namespace Go.Proofs.Ytapnpbfbebdjjaa
open Go.Lw
def V13 (W : World) (args : List Value) : Prop :=
  ∃ (a1 : Option Addr) (l2 c3 : Nat) (ns4 : List Int), RdS 1 W a1 l2 c3 (ns4.map (Value.int .u8)) ∧ (∀ n ∈ ns4, (Lit.int .u8 n).wf = true) ∧ l2 * 1 ≤ 140737488351232 ∧
  ∃ n5, (Lit.int .i64 n5).wf = true ∧ ∃ n6, (Lit.int .i64 n6).wf = true ∧ ∃ n7, (Lit.int .i64 n7).wf = true ∧ ∃ (a8 : Option Addr) (l9 c10 : Nat) (ns11 : List Int), RdS 1 W a8 l9 c10 (ns11.map (Value.int .u8)) ∧ (∀ n ∈ ns11, (Lit.int .u8 n).wf = true) ∧ l9 * 1 ≤ 140737488351232 ∧
  args = [.slice a1 l2 c3, .agg #[.int .i64 n5, .int .i64 n6, .int .i64 n7, .slice a8 l9 c10]]
theorem O13 {W : World} {args : List Value} (h : vwA Try.prog W 6 [22, 31] (fun vs => args = vs)) : V13 W args := Eq.mp (by kernel_rfl) h
end Go.Proofs.Ytapnpbfbebdjjaa
