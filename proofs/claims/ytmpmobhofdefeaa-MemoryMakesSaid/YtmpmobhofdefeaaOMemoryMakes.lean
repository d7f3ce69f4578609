/-
  What the row of MemoryMakes says of its arguments, printed by a program; held against the kit by evaluation. Conditions: none.
-/
import Derived.Test.YtmpmobhofdefeaaProg
import Derived.Test.YtmpmobhofdefeaaLr
set_option linter.unusedVariables false
set_option maxRecDepth 100000
namespace Go.Proofs.Ytmpmobhofdefeaa
open Go.Lw
def V10 (W : World) (args : List Value) : Prop :=
  ∃ n1, (Lit.int .i64 n1).wf = true ∧ ∃ n2, (Lit.int .i64 n2).wf = true ∧ ∃ (a3 : Option Addr) (l4 c5 : Nat) (ns6 : List Int), RdS 1 W a3 l4 c5 (ns6.map (Value.int .u8)) ∧ (∀ n ∈ ns6, (Lit.int .u8 n).wf = true) ∧ l4 * 1 ≤ 140737488351232 ∧
  ∃ (a7 : Option Addr) (l8 c9 : Nat), l8 ≤ c9 ∧ (a7 = none → c9 = 0) ∧ l8 * 32 ≤ 140737488351232 ∧
  (∀ (q10 : Addr), a7 = some q10 → ∀ i11 : Nat, i11 < l8 → ∃ (a12 : Option Addr) (l13 c14 : Nat) (ns15 : List Int), RdS 1 W a12 l13 c14 (ns15.map (Value.int .u8)) ∧ (∀ n ∈ ns15, (Lit.int .u8 n).wf = true) ∧ l13 * 1 ≤ 140737488351232 ∧
  ∃ n16, (Lit.int .i64 n16).wf = true ∧ W.cell? (Addr.add q10 (i11 * 2)) = some (.slice a12 l13 c14) ∧ W.cell? (Addr.add (Addr.add q10 (i11 * 2)) 1) = some (.int .i64 n16) ∧ True) ∧
  ∃ (a17 : Option Addr) (l18 c19 : Nat) (ns20 : List Int), RdS 1 W a17 l18 c19 (ns20.map (Value.int .i64)) ∧ (∀ n ∈ ns20, (Lit.int .i64 n).wf = true) ∧ l18 * 8 ≤ 140737488351232 ∧
  ∃ (a21 : Option Addr) (l22 c23 : Nat), l22 ≤ c23 ∧ (a21 = none → c23 = 0) ∧ l22 * 16 ≤ 140737488351232 ∧
  (∀ (q24 : Addr), a21 = some q24 → ∀ i25 : Nat, i25 < l22 → ∃ n26, (Lit.int .i64 n26).wf = true ∧ ∃ n27, (Lit.int .i64 n27).wf = true ∧ W.cell? (Addr.add q24 (i25 * 2)) = some (.int .i64 n26) ∧ W.cell? (Addr.add (Addr.add q24 (i25 * 2)) 1) = some (.int .i64 n27) ∧ True) ∧
  ∃ (a28 : Option Addr) (l29 c30 : Nat), l29 ≤ c30 ∧ (a28 = none → c30 = 0) ∧ l29 * 24 ≤ 140737488351232 ∧
  (∀ (q31 : Addr), a28 = some q31 → ∀ i32 : Nat, i32 < l29 → ∃ (a33 : Option Addr) (l34 c35 : Nat) (ns36 : List Int), RdS 1 W a33 l34 c35 (ns36.map (Value.int .u8)) ∧ (∀ n ∈ ns36, (Lit.int .u8 n).wf = true) ∧ l34 * 1 ≤ 140737488351232 ∧
  W.cell? (Addr.add q31 (i32 * 1)) = some (.slice a33 l34 c35) ∧ True) ∧
  ∃ n37, (Lit.int .i64 n37).wf = true ∧ ∃ b38, args = [.agg #[.int .i64 n1, .int .i64 n2, .slice a3 l4 c5, .slice a7 l8 c9, .slice a17 l18 c19, .slice a21 l22 c23, .slice a28 l29 c30, .int .i64 n37, .bool b38]]
theorem O10 {W : World} {args : List Value} (h : vwA Try.prog W 6 [78] (fun vs => args = vs)) : V10 W args := Eq.mp (by kernel_rfl) h
end Go.Proofs.Ytmpmobhofdefeaa
