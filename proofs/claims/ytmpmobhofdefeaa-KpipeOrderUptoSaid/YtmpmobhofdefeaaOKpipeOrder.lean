/-
  What the row of KpipeOrder says of its arguments, printed by a program; held against the kit by evaluation. Conditions: none.
-/
import Derived.Test.YtmpmobhofdefeaaProg
import Derived.Test.YtmpmobhofdefeaaLu
set_option linter.unusedVariables false
set_option maxRecDepth 100000
namespace Go.Proofs.Ytmpmobhofdefeaa
open Go.Lw
def V3 (W : World) (args : List Value) : Prop :=
  ∃ (a1 : Option Addr) (l2 c3 : Nat), l2 ≤ c3 ∧ (a1 = none → c3 = 0) ∧ l2 ≤ 1048576 ∧
  (∀ (q4 : Addr), a1 = some q4 → ∀ i5 : Nat, i5 < l2 → ∃ n6, (Lit.int .i64 n6).wf = true ∧ ∃ n7, (Lit.int .i64 n7).wf = true ∧ ∃ b8, ∃ (a9 : Option Addr) (l10 c11 : Nat) (ns12 : List Int), RdS 1 W a9 l10 c11 (ns12.map (Value.int .u8)) ∧ (∀ n ∈ ns12, (Lit.int .u8 n).wf = true) ∧ l10 ≤ 1048576 ∧
  W.cell? (Addr.add q4 (i5 * 4)) = some (.int .i64 n6) ∧ W.cell? (Addr.add (Addr.add q4 (i5 * 4)) 1) = some (.int .i64 n7) ∧ W.cell? (Addr.add (Addr.add q4 (i5 * 4)) 2) = some (.bool b8) ∧ W.cell? (Addr.add (Addr.add q4 (i5 * 4)) 3) = some (.slice a9 l10 c11) ∧ True) ∧
  args = [.slice a1 l2 c3]
theorem O3 {W : World} {args : List Value} (h : vwAU Try.prog W 6 [22] (fun vs => args = vs)) : V3 W args := Eq.mp (by kernel_rfl) h
end Go.Proofs.Ytmpmobhofdefeaa
