/-
  What the row of OpenmodeOpens says of its arguments, printed by a program; held against the kit by evaluation. Conditions: none.
-/
import Derived.Test.YtkjmlbplmffekaaGreatProg
import Derived.Test.YtkjmlbplmffekaaGreatLr
set_option linter.unusedVariables false
set_option maxRecDepth 100000
namespace Go.Proofs.YtkjmlbplmffekaaGreat
open Go.Lw
def V10 (W : World) (args : List Value) : Prop :=
  ∃ s1 : ByteArray, s1.size ≤ 140737488351232 ∧ ∃ b2, ∃ (a3 : Option Addr) (l4 c5 : Nat) (ns6 : List Int), RdS 1 W a3 l4 c5 (ns6.map (Value.int .u8)) ∧ (∀ n ∈ ns6, (Lit.int .u8 n).wf = true) ∧ l4 * 1 ≤ 140737488351232 ∧
  args = [.string s1, .bool b2, .slice a3 l4 c5]
theorem O10 {W : World} {args : List Value} (h : vwA Tryz.prog W 6 [9, 4, 32] (fun vs => args = vs)) : V10 W args := Eq.mp (by kernel_rfl) h
end Go.Proofs.YtkjmlbplmffekaaGreat
