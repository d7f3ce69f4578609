/-
  What the row of PushbackOwn says of its arguments, printed by a program; held against the kit by evaluation. Conditions: none.
-/
import Derived.Test.YthddogeenimjcaaProg
import Derived.Test.YthddogeenimjcaaLr
set_option linter.unusedVariables false
set_option maxRecDepth 100000
namespace Go.Proofs.Ythddogeenimjcaa
open Go.Lw
def V5 (W : World) (args : List Value) : Prop :=
  ∃ b1, ∃ b2, ∃ n3, (Lit.int .i64 n3).wf = true ∧ ∃ n4, (Lit.int .i64 n4).wf = true ∧ ∃ (a5 : Option Addr) (l6 c7 : Nat) (ns8 : List Int), RdS 1 W a5 l6 c7 (ns8.map (Value.int .u8)) ∧ (∀ n ∈ ns8, (Lit.int .u8 n).wf = true) ∧ l6 * 1 ≤ 140737488351232 ∧
  ∃ (a9 : Option Addr) (l10 c11 : Nat) (ns12 : List Int), RdS 1 W a9 l10 c11 (ns12.map (Value.int .u8)) ∧ (∀ n ∈ ns12, (Lit.int .u8 n).wf = true) ∧ l10 * 1 ≤ 140737488351232 ∧
  ∃ (a13 : Option Addr) (l14 c15 : Nat) (ns16 : List Int), RdS 1 W a13 l14 c15 (ns16.map (Value.int .u8)) ∧ (∀ n ∈ ns16, (Lit.int .u8 n).wf = true) ∧ l14 * 1 ≤ 140737488351232 ∧
  ∃ n17, (Lit.int .i64 n17).wf = true ∧ ∃ b18, ∃ b19, ∃ b20, ∃ (a21 : Option Addr) (l22 c23 : Nat) (ns24 : List Int), RdS 1 W a21 l22 c23 (ns24.map (Value.int .u8)) ∧ (∀ n ∈ ns24, (Lit.int .u8 n).wf = true) ∧ l22 * 1 ≤ 140737488351232 ∧
  args = [.agg #[.bool b1, .bool b2, .int .i64 n3, .int .i64 n4, .slice a5 l6 c7, .slice a9 l10 c11, .slice a13 l14 c15, .int .i64 n17, .bool b18, .bool b19, .bool b20], .slice a21 l22 c23]
theorem O5 {W : World} {args : List Value} (h : vwA Try.prog W 6 [24, 22] (fun vs => args = vs)) : V5 W args := Eq.mp (by kernel_rfl) h
end Go.Proofs.Ythddogeenimjcaa
