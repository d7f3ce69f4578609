/-
  What the row of TerminalOwn says of its arguments, printed by a program; held against the kit by evaluation. Conditions: none.
-/
import Derived.Test.YtapnpbfbebdjjaaProg
import Derived.Test.YtapnpbfbebdjjaaLr
set_option linter.unusedVariables false
set_option maxRecDepth 100000
namespace Go.Proofs.Ytapnpbfbebdjjaa
open Go.Lw
def V10 (W : World) (args : List Value) : Prop :=
  ∃ (a1 : Option Addr) (l2 c3 : Nat), l2 ≤ c3 ∧ (a1 = none → c3 = 0) ∧ l2 * 24 ≤ 140737488351232 ∧
  (∀ (q4 : Addr), a1 = some q4 → ∀ i5 : Nat, i5 < l2 → ∃ (a6 : Option Addr) (l7 c8 : Nat) (ns9 : List Int), RdS 1 W a6 l7 c8 (ns9.map (Value.int .u8)) ∧ (∀ n ∈ ns9, (Lit.int .u8 n).wf = true) ∧ l7 * 1 ≤ 140737488351232 ∧
  W.cell? (Addr.add q4 (i5 * 1)) = some (.slice a6 l7 c8) ∧ True) ∧
  ∃ (a10 : Option Addr) (l11 c12 : Nat) (ns13 : List Int), RdS 1 W a10 l11 c12 (ns13.map (Value.int .u8)) ∧ (∀ n ∈ ns13, (Lit.int .u8 n).wf = true) ∧ l11 * 1 ≤ 140737488351232 ∧
  args = [.slice a1 l2 c3, .slice a10 l11 c12]
theorem O10 {W : World} {args : List Value} (h : vwA Try.prog W 6 [49, 22] (fun vs => args = vs)) : V10 W args := Eq.mp (by kernel_rfl) h
end Go.Proofs.Ytapnpbfbebdjjaa
