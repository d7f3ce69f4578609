/-
  What some functions of the program ask of the world, printed by a program out of the loaded program; each text is held against the code by evaluation. Conditions: none.
-/
import Derived.Test.YtkjmlbplmffekaaProg
import Derived.Test.YtkjmlbplmffekaaLm
import Derived.Test.YtkjmlbplmffekaaLX
import Derived.Test.YtkjmlbplmffekaaRfC
set_option linter.unusedVariables false
set_option maxRecDepth 100000
namespace Go.Proofs.Ytkjmlbplmffekaa
open Go.Lw
/-- (*millrace/millracelaw08.Odd).Read -/
def A103 : Ann := ⟨[], [], [], [], [], []⟩
def L103 (p1 : Option Addr) (n2 : Int) (Q : Value → World → Prop) (w : World) : Prop :=
  nn p1 (fun (q3 : Addr) =>
  ∃ (a4 : Option Addr) (l4 : Nat) (c4 : Nat), w.cell? q3 = some ((.slice a4 l4 c4 : Value)) ∧
  cond ((((l4 : Nat) : Int)) == 0)
  (nn p1 (fun (q6 : Addr) =>
  ∃ (n7 : Int), w.cell? (Addr.add q6 2) = some ((.int .i64 n7 : Value)) ∧
  ∀ nd5 : Nat, let w1 := World.drewN w nd5;
  Q (.tuple #[.slice none 0 0, .int .i64 n7]) w1))
  (nn p1 (fun (q8 : Addr) =>
  ∃ (a9 : Option Addr) (l9 : Nat) (c9 : Nat), w.cell? q8 = some ((.slice a9 l9 c9 : Value)) ∧
  (0 ≤ (0 : Int) ∧ (0 : Int) < ((l9 : Nat) : Int)) ∧
  nn a9 (fun (q10 : Addr) =>
  ∃ (n11 : Int), w.cell? (Addr.add q10 (Int.toNat 0)) = some ((.int .i64 n11 : Value)) ∧
  nn p1 (fun (q12 : Addr) =>
  ∃ (a13 : Option Addr) (l13 : Nat) (c13 : Nat), w.cell? q12 = some ((.slice a13 l13 c13 : Value)) ∧
  (0 ≤ (1 : Int) ∧ (1 : Int) ≤ ((l13 : Nat) : Int)) ∧
  nn p1 (fun (q14 : Addr) =>
  stC q14 (.slice (adv a13 (Int.toNat 1) c13 1) (l13 - Int.toNat 1) (c13 - Int.toNat 1)) w (fun (w2 : World) =>
  ∃ (a15 : Option Addr) (l15 : Nat) (c15 : Nat) (w3 : World), Sem.run Try.prog (Instr.makeSlice 36 (.int .i64 (mn (mx n11 0) 5000)) (.int .i64 (mn (mx n11 0) 5000))) w2 = .ok ((.slice a15 l15 c15 : Value)) w3 ∧
  Q (.tuple #[.slice a15 l15 c15, .int .i64 0]) w3)))))))
theorem C103 {p1 : Option Addr} {n2 : Int} {Q : Value → World → Prop} {w : World} (h : L103 p1 n2 Q w) : CallR Try.prog 103 [.pointer p1, .int .i64 n2] w Q :=
  fun_calls (A := A103) mixed Try.func103 (c := (Try.f103.body).getD .skip) rfl (by kernel_rfl) (Eq.mp (by kernel_rfl) h)

/-- (*millrace/millracelaw08.Odd).Write -/
def A105 : Ann := ⟨[], [], [], [], [], []⟩
def L105 (p1 : Option Addr) (a2 : Option Addr) (l2 : Nat) (c2 : Nat) (Q : Value → World → Prop) (w : World) : Prop :=
  nn p1 (fun (q3 : Addr) =>
  ∃ (a4 : Option Addr) (l4 : Nat) (c4 : Nat), w.cell? (Addr.add q3 1) = some ((.slice a4 l4 c4 : Value)) ∧
  cond ((((l4 : Nat) : Int)) == 0)
  (nn p1 (fun (q6 : Addr) =>
  ∃ (n7 : Int), w.cell? (Addr.add q6 2) = some ((.int .i64 n7 : Value)) ∧
  ∀ nd5 : Nat, let w1 := World.drewN w nd5;
  Q (.tuple #[.int .i64 0, .int .i64 n7]) w1))
  (nn p1 (fun (q8 : Addr) =>
  ∃ (a9 : Option Addr) (l9 : Nat) (c9 : Nat), w.cell? (Addr.add q8 1) = some ((.slice a9 l9 c9 : Value)) ∧
  (0 ≤ (0 : Int) ∧ (0 : Int) < ((l9 : Nat) : Int)) ∧
  nn a9 (fun (q10 : Addr) =>
  ∃ (n11 : Int), w.cell? (Addr.add q10 (Int.toNat 0)) = some ((.int .i64 n11 : Value)) ∧
  nn p1 (fun (q12 : Addr) =>
  ∃ (a13 : Option Addr) (l13 : Nat) (c13 : Nat), w.cell? (Addr.add q12 1) = some ((.slice a13 l13 c13 : Value)) ∧
  (0 ≤ (1 : Int) ∧ (1 : Int) ≤ ((l13 : Nat) : Int)) ∧
  nn p1 (fun (q14 : Addr) =>
  stC (Addr.add q14 1) (.slice (adv a13 (Int.toNat 1) c13 1) (l13 - Int.toNat 1) (c13 - Int.toNat 1)) w (fun (w2 : World) =>
  Q (.tuple #[.int .i64 n11, .int .i64 0]) w2)))))))
theorem C105 {p1 : Option Addr} {a2 : Option Addr} {l2 : Nat} {c2 : Nat} {Q : Value → World → Prop} {w : World} (h : L105 p1 a2 l2 c2 Q w) : CallR Try.prog 105 [.pointer p1, .slice a2 l2 c2] w Q :=
  fun_calls (A := A105) mixed Try.func105 (c := (Try.f105.body).getD .skip) rfl (by kernel_rfl) (Eq.mp (by kernel_rfl) h)

end Go.Proofs.Ytkjmlbplmffekaa
