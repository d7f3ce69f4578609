/-
  What the row of KernPieces says of its arguments, printed by a program; held against the kit by evaluation. Conditions: none.
-/
import Derived.Test.YtkjmlbplmffekaaProg
import Derived.Test.YtkjmlbplmffekaaLr
set_option linter.unusedVariables false
set_option maxRecDepth 100000
namespace Go.Proofs.Ytkjmlbplmffekaa
open Go.Lw
def V4 (W : World) (args : List Value) : Prop :=
  ∃ (a1 : Option Addr) (l2 c3 : Nat) (ns4 : List Int), RdS 1 W a1 l2 c3 (ns4.map (Value.int .u8)) ∧ (∀ n ∈ ns4, (Lit.int .u8 n).wf = true) ∧ l2 * 1 ≤ 140737488351232 ∧
  ∃ (a5 : Option Addr) (l6 c7 : Nat) (ns8 : List Int), RdS 1 W a5 l6 c7 (ns8.map (Value.int .u8)) ∧ (∀ n ∈ ns8, (Lit.int .u8 n).wf = true) ∧ l6 * 1 ≤ 140737488351232 ∧
  ∃ (a9 : Option Addr) (l10 c11 : Nat), l10 ≤ c11 ∧ (a9 = none → c11 = 0) ∧ l10 * 16 ≤ 140737488351232 ∧
  (∀ (q12 : Addr), a9 = some q12 → ∀ i13 : Nat, i13 < l10 → ∃ n14, (Lit.int .i64 n14).wf = true ∧ ∃ n15, (Lit.int .i64 n15).wf = true ∧ W.cell? (Addr.add q12 (i13 * 2)) = some (.int .i64 n14) ∧ W.cell? (Addr.add (Addr.add q12 (i13 * 2)) 1) = some (.int .i64 n15) ∧ True) ∧
  ∃ n16, (Lit.int .i64 n16).wf = true ∧ args = [.slice a1 l2 c3, .slice a5 l6 c7, .slice a9 l10 c11, .int .i64 n16]
theorem O4 {W : World} {args : List Value} (h : vwA Try.prog W 6 [36, 36, 24, 3] (fun vs => args = vs)) : V4 W args := Eq.mp (by kernel_rfl) h
end Go.Proofs.Ytkjmlbplmffekaa
