/-
  What the row of TopWhole says of its arguments, printed by a program; held against the kit by evaluation. Conditions: none.
-/
import Derived.Test.YtbiofmgebbdflaaProg
import Derived.Test.YtbiofmgebbdflaaLu
set_option linter.unusedVariables false
set_option maxRecDepth 100000
namespace Go.Proofs.Ytbiofmgebbdflaa
open Go.Lw
def V3 (W : World) (args : List Value) : Prop :=
  ∃ (a1 : Option Addr) (l2 c3 : Nat), l2 ≤ c3 ∧ (a1 = none → c3 = 0) ∧ l2 ≤ 1048576 ∧
  (∀ (q4 : Addr), a1 = some q4 → ∀ i5 : Nat, i5 < l2 → ∃ n6, (Lit.int .i64 n6).wf = true ∧ ∃ n7, (Lit.int .i64 n7).wf = true ∧ W.cell? (Addr.add q4 (i5 * 2)) = some (.int .i64 n6) ∧ W.cell? (Addr.add (Addr.add q4 (i5 * 2)) 1) = some (.int .i64 n7) ∧ True) ∧
  ∃ (a8 : Option Addr) (l9 c10 : Nat), l9 ≤ c10 ∧ (a8 = none → c10 = 0) ∧ l9 ≤ 1048576 ∧
  (∀ (q11 : Addr), a8 = some q11 → ∀ i12 : Nat, i12 < l9 → ∃ n13, (Lit.int .i64 n13).wf = true ∧ ∃ n14, (Lit.int .i64 n14).wf = true ∧ W.cell? (Addr.add q11 (i12 * 2)) = some (.int .i64 n13) ∧ W.cell? (Addr.add (Addr.add q11 (i12 * 2)) 1) = some (.int .i64 n14) ∧ True) ∧
  args = [.slice a1 l2 c3, .slice a8 l9 c10]
theorem O3 {W : World} {args : List Value} (h : vwAU Try.prog W 6 [22, 23] (fun vs => args = vs)) : V3 W args := Eq.mp (by kernel_rfl) h
end Go.Proofs.Ytbiofmgebbdflaa
