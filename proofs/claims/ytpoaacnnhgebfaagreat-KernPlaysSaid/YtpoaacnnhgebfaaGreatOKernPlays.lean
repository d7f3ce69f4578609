/-
  What the row of KernPlays says of its arguments, printed by a program; held against the kit by evaluation. Conditions: none.
-/
import Derived.Test.YtpoaacnnhgebfaaGreatProg
import Derived.Test.YtpoaacnnhgebfaaGreatLr
set_option linter.unusedVariables false
set_option maxRecDepth 100000
namespace Go.Proofs.YtpoaacnnhgebfaaGreat
open Go.Lw
def V3 (W : World) (args : List Value) : Prop :=
  ∃ (a1 : Option Addr) (l2 c3 : Nat), l2 ≤ c3 ∧ (a1 = none → c3 = 0) ∧ l2 * 40 ≤ 140737488351232 ∧
  (∀ (q4 : Addr), a1 = some q4 → ∀ i5 : Nat, i5 < l2 → ∃ s6 : ByteArray, s6.size ≤ 140737488351232 ∧ ∃ (a7 : Option Addr) (l8 c9 : Nat) (ns10 : List Int), RdS 1 W a7 l8 c9 (ns10.map (Value.int .u8)) ∧ (∀ n ∈ ns10, (Lit.int .u8 n).wf = true) ∧ l8 * 1 ≤ 140737488351232 ∧
  W.cell? (Addr.add q4 (i5 * 2)) = some (.string s6) ∧ W.cell? (Addr.add (Addr.add q4 (i5 * 2)) 1) = some (.slice a7 l8 c9) ∧ True) ∧
  ∃ (a11 : Option Addr) (l12 c13 : Nat), l12 ≤ c13 ∧ (a11 = none → c13 = 0) ∧ l12 * 40 ≤ 140737488351232 ∧
  (∀ (q14 : Addr), a11 = some q14 → ∀ i15 : Nat, i15 < l12 → ∃ s16 : ByteArray, s16.size ≤ 140737488351232 ∧ ∃ (a17 : Option Addr) (l18 c19 : Nat), l18 ≤ c19 ∧ (a17 = none → c19 = 0) ∧ l18 * 24 ≤ 140737488351232 ∧
  (∀ (q20 : Addr), a17 = some q20 → ∀ i21 : Nat, i21 < l18 → ∃ (a22 : Option Addr) (l23 c24 : Nat) (ns25 : List Int), RdS 1 W a22 l23 c24 (ns25.map (Value.int .u8)) ∧ (∀ n ∈ ns25, (Lit.int .u8 n).wf = true) ∧ l23 * 1 ≤ 140737488351232 ∧
  W.cell? (Addr.add q20 (i21 * 1)) = some (.slice a22 l23 c24) ∧ True) ∧
  W.cell? (Addr.add q14 (i15 * 2)) = some (.string s16) ∧ W.cell? (Addr.add (Addr.add q14 (i15 * 2)) 1) = some (.slice a17 l18 c19) ∧ True) ∧
  ∃ (a26 : Option Addr) (l27 c28 : Nat), l27 ≤ c28 ∧ (a26 = none → c28 = 0) ∧ l27 * 16 ≤ 140737488351232 ∧
  (∀ (q29 : Addr), a26 = some q29 → ∀ i30 : Nat, i30 < l27 → ∃ n31, (Lit.int .i64 n31).wf = true ∧ ∃ n32, (Lit.int .i64 n32).wf = true ∧ W.cell? (Addr.add q29 (i30 * 2)) = some (.int .i64 n31) ∧ W.cell? (Addr.add (Addr.add q29 (i30 * 2)) 1) = some (.int .i64 n32) ∧ True) ∧
  ∃ (a33 : Option Addr) (l34 c35 : Nat), l34 ≤ c35 ∧ (a33 = none → c35 = 0) ∧ l34 * 72 ≤ 140737488351232 ∧
  (∀ (q36 : Addr), a33 = some q36 → ∀ i37 : Nat, i37 < l34 → ∃ n38, (Lit.int .i64 n38).wf = true ∧ ∃ s39 : ByteArray, s39.size ≤ 140737488351232 ∧ ∃ n40, (Lit.int .i64 n40).wf = true ∧ ∃ n41, (Lit.int .i64 n41).wf = true ∧ ∃ n42, (Lit.int .i64 n42).wf = true ∧ ∃ (a43 : Option Addr) (l44 c45 : Nat) (ns46 : List Int), RdS 1 W a43 l44 c45 (ns46.map (Value.int .u8)) ∧ (∀ n ∈ ns46, (Lit.int .u8 n).wf = true) ∧ l44 * 1 ≤ 140737488351232 ∧
  W.cell? (Addr.add q36 (i37 * 6)) = some (.int .i64 n38) ∧ W.cell? (Addr.add (Addr.add q36 (i37 * 6)) 1) = some (.string s39) ∧ W.cell? (Addr.add (Addr.add q36 (i37 * 6)) 2) = some (.int .i64 n40) ∧ W.cell? (Addr.add (Addr.add q36 (i37 * 6)) 3) = some (.int .i64 n41) ∧ W.cell? (Addr.add (Addr.add q36 (i37 * 6)) 4) = some (.int .i64 n42) ∧ W.cell? (Addr.add (Addr.add q36 (i37 * 6)) 5) = some (.slice a43 l44 c45) ∧ True) ∧
  args = [.agg #[.slice a1 l2 c3, .slice a11 l12 c13, .slice a26 l27 c28], .slice a33 l34 c35]
theorem O3 {W : World} {args : List Value} (h : vwA Tryz.prog W 6 [26, 27] (fun vs => args = vs)) : V3 W args := Eq.mp (by kernel_rfl) h
end Go.Proofs.YtpoaacnnhgebfaaGreat
