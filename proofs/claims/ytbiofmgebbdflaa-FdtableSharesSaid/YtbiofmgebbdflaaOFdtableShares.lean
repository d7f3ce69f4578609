/-
  What the row of FdtableShares says of its arguments, printed by a program; held against the kit by evaluation. Conditions: none.
-/
import Derived.Test.YtbiofmgebbdflaaProg
import Derived.Test.YtbiofmgebbdflaaLr
set_option linter.unusedVariables false
set_option maxRecDepth 100000
namespace Go.Proofs.Ytbiofmgebbdflaa
open Go.Lw
def V8 (W : World) (args : List Value) : Prop :=
  ∃ (a1 : Option Addr) (l2 c3 : Nat) (ns4 : List Int), RdS 1 W a1 l2 c3 (ns4.map (Value.int .u8)) ∧ (∀ n ∈ ns4, (Lit.int .u8 n).wf = true) ∧ l2 * 1 ≤ 140737488351232 ∧
  ∃ (a5 : Option Addr) (l6 c7 : Nat) (ns8 : List Int), RdS 1 W a5 l6 c7 (ns8.map (Value.int .i64)) ∧ (∀ n ∈ ns8, (Lit.int .i64 n).wf = true) ∧ l6 * 8 ≤ 140737488351232 ∧
  args = [.slice a1 l2 c3, .slice a5 l6 c7]
theorem O8 {W : World} {args : List Value} (h : vwA Try.prog W 6 [36, 46] (fun vs => args = vs)) : V8 W args := Eq.mp (by kernel_rfl) h
end Go.Proofs.Ytbiofmgebbdflaa
