/-
  What the row of MemoryAlike says of its arguments, printed by a program; held against the kit by evaluation. Conditions: none.
-/
import Derived.Test.YtmpmobhofdefeaaProg
import Derived.Test.YtmpmobhofdefeaaLr
set_option linter.unusedVariables false
set_option maxRecDepth 100000
namespace Go.Proofs.Ytmpmobhofdefeaa
open Go.Lw
def V14 (W : World) (args : List Value) : Prop :=
  ∃ (a1 : Option Addr) (l2 c3 : Nat) (ns4 : List Int), RdS 1 W a1 l2 c3 (ns4.map (Value.int .u8)) ∧ (∀ n ∈ ns4, (Lit.int .u8 n).wf = true) ∧ l2 * 1 ≤ 140737488351232 ∧
  ∃ (a5 : Option Addr) (l6 c7 : Nat), l6 ≤ c7 ∧ (a5 = none → c7 = 0) ∧ l6 * 48 ≤ 140737488351232 ∧
  (∀ (q8 : Addr), a5 = some q8 → ∀ i9 : Nat, i9 < l6 → ∃ n10, (Lit.int .i64 n10).wf = true ∧ ∃ n11, (Lit.int .i64 n11).wf = true ∧ ∃ n12, (Lit.int .i64 n12).wf = true ∧ ∃ (a13 : Option Addr) (l14 c15 : Nat) (ns16 : List Int), RdS 1 W a13 l14 c15 (ns16.map (Value.int .u8)) ∧ (∀ n ∈ ns16, (Lit.int .u8 n).wf = true) ∧ l14 * 1 ≤ 140737488351232 ∧
  W.cell? (Addr.add q8 (i9 * 4)) = some (.int .i64 n10) ∧ W.cell? (Addr.add (Addr.add q8 (i9 * 4)) 1) = some (.int .i64 n11) ∧ W.cell? (Addr.add (Addr.add q8 (i9 * 4)) 2) = some (.int .i64 n12) ∧ W.cell? (Addr.add (Addr.add q8 (i9 * 4)) 3) = some (.slice a13 l14 c15) ∧ True) ∧
  args = [.slice a1 l2 c3, .slice a5 l6 c7]
theorem O14 {W : World} {args : List Value} (h : vwA Try.prog W 6 [26, 107] (fun vs => args = vs)) : V14 W args := Eq.mp (by kernel_rfl) h
end Go.Proofs.Ytmpmobhofdefeaa
