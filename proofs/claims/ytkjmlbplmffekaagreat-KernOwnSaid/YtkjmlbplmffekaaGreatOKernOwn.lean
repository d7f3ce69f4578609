/-
  What the row of KernOwn says of its arguments, printed by a program; held against the kit by evaluation. Conditions: none.
-/
import Derived.Test.YtkjmlbplmffekaaGreatProg
import Derived.Test.YtkjmlbplmffekaaGreatLr
set_option linter.unusedVariables false
set_option maxRecDepth 100000
namespace Go.Proofs.YtkjmlbplmffekaaGreat
open Go.Lw
def V6 (W : World) (args : List Value) : Prop :=
  ∃ (a1 : Option Addr) (l2 c3 : Nat), l2 ≤ c3 ∧ (a1 = none → c3 = 0) ∧ l2 * 40 ≤ 140737488351232 ∧
  (∀ (q4 : Addr), a1 = some q4 → ∀ i5 : Nat, i5 < l2 → ∃ s6 : ByteArray, s6.size ≤ 140737488351232 ∧ ∃ (a7 : Option Addr) (l8 c9 : Nat) (ns10 : List Int), RdS 1 W a7 l8 c9 (ns10.map (Value.int .u8)) ∧ (∀ n ∈ ns10, (Lit.int .u8 n).wf = true) ∧ l8 * 1 ≤ 140737488351232 ∧
  W.cell? (Addr.add q4 (i5 * 2)) = some (.string s6) ∧ W.cell? (Addr.add (Addr.add q4 (i5 * 2)) 1) = some (.slice a7 l8 c9) ∧ True) ∧
  ∃ (a11 : Option Addr) (l12 c13 : Nat), l12 ≤ c13 ∧ (a11 = none → c13 = 0) ∧ l12 * 40 ≤ 140737488351232 ∧
  (∀ (q14 : Addr), a11 = some q14 → ∀ i15 : Nat, i15 < l12 → ∃ s16 : ByteArray, s16.size ≤ 140737488351232 ∧ ∃ (a17 : Option Addr) (l18 c19 : Nat), l18 ≤ c19 ∧ (a17 = none → c19 = 0) ∧ l18 * 24 ≤ 140737488351232 ∧
  (∀ (q20 : Addr), a17 = some q20 → ∀ i21 : Nat, i21 < l18 → ∃ (a22 : Option Addr) (l23 c24 : Nat) (ns25 : List Int), RdS 1 W a22 l23 c24 (ns25.map (Value.int .u8)) ∧ (∀ n ∈ ns25, (Lit.int .u8 n).wf = true) ∧ l23 * 1 ≤ 140737488351232 ∧
  W.cell? (Addr.add q20 (i21 * 1)) = some (.slice a22 l23 c24) ∧ True) ∧
  W.cell? (Addr.add q14 (i15 * 2)) = some (.string s16) ∧ W.cell? (Addr.add (Addr.add q14 (i15 * 2)) 1) = some (.slice a17 l18 c19) ∧ True) ∧
  ∃ (a26 : Option Addr) (l27 c28 : Nat), l27 ≤ c28 ∧ (a26 = none → c28 = 0) ∧ l27 * 16 ≤ 140737488351232 ∧
  (∀ (q29 : Addr), a26 = some q29 → ∀ i30 : Nat, i30 < l27 → ∃ n31, (Lit.int .i64 n31).wf = true ∧ ∃ n32, (Lit.int .i64 n32).wf = true ∧ W.cell? (Addr.add q29 (i30 * 2)) = some (.int .i64 n31) ∧ W.cell? (Addr.add (Addr.add q29 (i30 * 2)) 1) = some (.int .i64 n32) ∧ True) ∧
  args = [.agg #[.slice a1 l2 c3, .slice a11 l12 c13, .slice a26 l27 c28]]
theorem O6 {W : World} {args : List Value} (h : vwA Tryz.prog W 6 [26] (fun vs => args = vs)) : V6 W args := Eq.mp (by kernel_rfl) h
end Go.Proofs.YtkjmlbplmffekaaGreat
