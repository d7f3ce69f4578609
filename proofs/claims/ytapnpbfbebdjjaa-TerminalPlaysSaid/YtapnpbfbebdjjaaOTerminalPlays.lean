/-
  What the row of TerminalPlays says of its arguments, printed by a program; held against the kit by evaluation. Conditions: none.
-/
import Derived.Test.YtapnpbfbebdjjaaProg
import Derived.Test.YtapnpbfbebdjjaaLr
set_option linter.unusedVariables false
set_option maxRecDepth 100000
namespace Go.Proofs.Ytapnpbfbebdjjaa
open Go.Lw
def V9 (W : World) (args : List Value) : Prop :=
  ∃ (a1 : Option Addr) (l2 c3 : Nat), l2 ≤ c3 ∧ (a1 = none → c3 = 0) ∧ l2 * 24 ≤ 140737488351232 ∧
  (∀ (q4 : Addr), a1 = some q4 → ∀ i5 : Nat, i5 < l2 → ∃ (a6 : Option Addr) (l7 c8 : Nat) (ns9 : List Int), RdS 1 W a6 l7 c8 (ns9.map (Value.int .u8)) ∧ (∀ n ∈ ns9, (Lit.int .u8 n).wf = true) ∧ l7 * 1 ≤ 140737488351232 ∧
  W.cell? (Addr.add q4 (i5 * 1)) = some (.slice a6 l7 c8) ∧ True) ∧
  ∃ (a10 : Option Addr) (l11 c12 : Nat), l11 ≤ c12 ∧ (a10 = none → c12 = 0) ∧ l11 * 40 ≤ 140737488351232 ∧
  (∀ (q13 : Addr), a10 = some q13 → ∀ i14 : Nat, i14 < l11 → ∃ n15, (Lit.int .i64 n15).wf = true ∧ ∃ n16, (Lit.int .i64 n16).wf = true ∧ ∃ (a17 : Option Addr) (l18 c19 : Nat) (ns20 : List Int), RdS 1 W a17 l18 c19 (ns20.map (Value.int .u8)) ∧ (∀ n ∈ ns20, (Lit.int .u8 n).wf = true) ∧ l18 * 1 ≤ 140737488351232 ∧
  W.cell? (Addr.add q13 (i14 * 3)) = some (.int .i64 n15) ∧ W.cell? (Addr.add (Addr.add q13 (i14 * 3)) 1) = some (.int .i64 n16) ∧ W.cell? (Addr.add (Addr.add q13 (i14 * 3)) 2) = some (.slice a17 l18 c19) ∧ True) ∧
  args = [.slice a1 l2 c3, .slice a10 l11 c12]
theorem O9 {W : World} {args : List Value} (h : vwA Try.prog W 6 [49, 58] (fun vs => args = vs)) : V9 W args := Eq.mp (by kernel_rfl) h
end Go.Proofs.Ytapnpbfbebdjjaa
