/-
  What the row of RetrySome says of its arguments, printed by a program; held against the kit by evaluation. Conditions: none.
-/
import Derived.Test.YtbiofmgebbdflaaProg
import Derived.Test.YtbiofmgebbdflaaLr
set_option linter.unusedVariables false
set_option maxRecDepth 100000
namespace Go.Proofs.Ytbiofmgebbdflaa
open Go.Lw
def V5 (W : World) (args : List Value) : Prop :=
  ∃ (a1 : Option Addr) (l2 c3 : Nat) (ns4 : List Int), RdS 1 W a1 l2 c3 (ns4.map (Value.int .u8)) ∧ (∀ n ∈ ns4, (Lit.int .u8 n).wf = true) ∧ l2 * 1 ≤ 140737488351232 ∧
  ∃ (a5 : Option Addr) (l6 c7 : Nat), l6 ≤ c7 ∧ (a5 = none → c7 = 0) ∧ l6 * 16 ≤ 140737488351232 ∧
  (∀ (q8 : Addr), a5 = some q8 → ∀ i9 : Nat, i9 < l6 → ∃ n10, (Lit.int .i64 n10).wf = true ∧ ∃ n11, (Lit.int .i64 n11).wf = true ∧ W.cell? (Addr.add q8 (i9 * 2)) = some (.int .i64 n10) ∧ W.cell? (Addr.add (Addr.add q8 (i9 * 2)) 1) = some (.int .i64 n11) ∧ True) ∧
  ∃ n12, (Lit.int .i64 n12).wf = true ∧ args = [.slice a1 l2 c3, .slice a5 l6 c7, .int .i64 n12]
theorem O5 {W : World} {args : List Value} (h : vwA Try.prog W 6 [36, 22, 3] (fun vs => args = vs)) : V5 W args := Eq.mp (by kernel_rfl) h
end Go.Proofs.Ytbiofmgebbdflaa
