/-
  What the row of MemoryRoom says of its arguments, printed by a program; held against the kit by evaluation. Conditions: none.
-/
import Derived.Test.YtmpmobhofdefeaaProg
import Derived.Test.YtmpmobhofdefeaaLr
set_option linter.unusedVariables false
set_option maxRecDepth 100000
namespace Go.Proofs.Ytmpmobhofdefeaa
open Go.Lw
def V9 (W : World) (args : List Value) : Prop :=
  ∃ n1, (Lit.int .i64 n1).wf = true ∧ ∃ (a2 : Option Addr) (l3 c4 : Nat), l3 ≤ c4 ∧ (a2 = none → c4 = 0) ∧ l3 * 24 ≤ 140737488351232 ∧
  (∀ (q5 : Addr), a2 = some q5 → ∀ i6 : Nat, i6 < l3 → ∃ (a7 : Option Addr) (l8 c9 : Nat) (ns10 : List Int), RdS 1 W a7 l8 c9 (ns10.map (Value.int .u8)) ∧ (∀ n ∈ ns10, (Lit.int .u8 n).wf = true) ∧ l8 * 1 ≤ 140737488351232 ∧
  W.cell? (Addr.add q5 (i6 * 1)) = some (.slice a7 l8 c9) ∧ True) ∧
  args = [.int .i64 n1, .slice a2 l3 c4]
theorem O9 {W : World} {args : List Value} (h : vwA Try.prog W 6 [3, 61] (fun vs => args = vs)) : V9 W args := Eq.mp (by kernel_rfl) h
end Go.Proofs.Ytmpmobhofdefeaa
