/-
  What the row of MemoryTold says of its arguments, printed by a program; held against the kit by evaluation. Conditions: none.
-/
import Derived.Test.YtmpmobhofdefeaaProg
import Derived.Test.YtmpmobhofdefeaaLu
set_option linter.unusedVariables false
set_option maxRecDepth 100000
namespace Go.Proofs.Ytmpmobhofdefeaa
open Go.Lw
def V8 (W : World) (args : List Value) : Prop :=
  ∃ (a1 : Option Addr) (l2 c3 : Nat), l2 ≤ c3 ∧ (a1 = none → c3 = 0) ∧ l2 ≤ 1048576 ∧
  (∀ (q4 : Addr), a1 = some q4 → ∀ i5 : Nat, i5 < l2 → ∃ (a6 : Option Addr) (l7 c8 : Nat) (ns9 : List Int), RdS 1 W a6 l7 c8 (ns9.map (Value.int .u8)) ∧ (∀ n ∈ ns9, (Lit.int .u8 n).wf = true) ∧ l7 ≤ 1048576 ∧
  W.cell? (Addr.add q4 (i5 * 1)) = some (.slice a6 l7 c8) ∧ True) ∧
  ∃ n10, (Lit.int .i64 n10).wf = true ∧ args = [.slice a1 l2 c3, .int .i64 n10]
theorem O8 {W : World} {args : List Value} (h : vwAU Try.prog W 6 [61, 3] (fun vs => args = vs)) : V8 W args := Eq.mp (by kernel_rfl) h
end Go.Proofs.Ytmpmobhofdefeaa
