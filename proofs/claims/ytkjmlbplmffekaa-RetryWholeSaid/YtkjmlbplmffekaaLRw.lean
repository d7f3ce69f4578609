/-
  What some functions of the program ask of the world, printed by a program out of the loaded program; each text is held against the code by evaluation. Conditions: none.
-/
import Derived.Test.YtkjmlbplmffekaaProg
import Derived.Test.YtkjmlbplmffekaaLm
import Derived.Test.YtkjmlbplmffekaaLX
import Derived.Test.YtkjmlbplmffekaaRfC
set_option linter.unusedVariables false
set_option maxRecDepth 100000
namespace Go.Proofs.Ytkjmlbplmffekaa
open Go.Lw
/-- millrace/millracelaw08.RetryWhole -/
def A6 : Ann := ⟨[], [], [], [], [], []⟩
def L6 (a1 : Option Addr) (l1 : Nat) (c1 : Nat) (a2 : Option Addr) (l2 : Nat) (c2 : Nat) (a3 : Option Addr) (l3 : Nat) (c3 : Nat) (n4 : Int) (Q : Value → World → Prop) (w : World) : Prop :=
  CallR Try.prog 22 [] w (fun (r6 : Value) (w1 : World) =>
  ∃ (b5 : Bool), r6 = .bool b5 ∧
  cond (!b5)
  (Q (.bool false) w1)
  (let w2 := World.alloc w1 (Obj.cells #[.string (ByteArray.mk #[102]), .slice a1 l1 c1] 52);
  CallR Try.prog 8 [.agg #[.slice (some (Addr.mk w1.heap.size 0 none)) 1 1, .slice none 0 0, .slice a3 l3 c3]] w2 (fun (r9 : Value) (w3 : World) =>
  ∃ (p7 : Option Addr) (n8 : Int), r9 = .tuple #[.pointer p7, .int .i64 n8] ∧
  CallR Try.prog 25 [.int .i64 n8] w3 (fun (r11 : Value) (w4 : World) =>
  ∃ (n10 : Int), r11 = .int .i64 n10 ∧
  cond (n10 != 0)
  (Q (.bool (Option.isNone p7)) w4)
  (cond (Option.isNone p7)
  (Q (.bool (Option.isNone p7)) w4)
  (CallR Try.prog 11 [.pointer p7, .string (ByteArray.mk #[102]), .int .i64 1] w4 (fun (r14 : Value) (w5 : World) =>
  ∃ (n12 : Int) (n13 : Int), r14 = .tuple #[.int .i64 n12, .int .i64 n13] ∧
  CallR Try.prog 11 [.pointer p7, .string (ByteArray.mk #[103]), .int .i64 10] w5 (fun (r17 : Value) (w6 : World) =>
  ∃ (n15 : Int) (n16 : Int), r17 = .tuple #[.int .i64 n15, .int .i64 n16] ∧
  CallR Try.prog 25 [.int .i64 n13] w6 (fun (r19 : Value) (w7 : World) =>
  ∃ (n18 : Int), r19 = .int .i64 n18 ∧
  CallR Try.prog 25 [.int .i64 n16] w7 (fun (r21 : Value) (w8 : World) =>
  ∃ (n20 : Int), r21 = .int .i64 n20 ∧
  inI (n18 + n20) ∧
  cond ((n18 + n20) != 0)
  (Q (.bool (decide ((((l2 : Nat) : Int)) > 1048576))) w8)
  (cond (decide ((((l2 : Nat) : Int)) > 1048576))
  (Q (.bool (decide ((((l2 : Nat) : Int)) > 1048576))) w8)
  ((300 : Int) ≠ 0 ∧
  inI ((Int.tmod n4 (300 : Int)) + 300) ∧
  (300 : Int) ≠ 0 ∧
  inI ((1 : Int) + (Int.tmod ((Int.tmod n4 (300 : Int)) + 300) (300 : Int))) ∧
  CallR Try.prog 27 [.iface 65 (.agg #[.pointer p7, .int .i64 n12]), .int .i64 ((1 : Int) + (Int.tmod ((Int.tmod n4 (300 : Int)) + 300) (300 : Int)))] w8 (fun (r24 : Value) (w9 : World) =>
  ∃ (a22 : Option Addr) (l22 : Nat) (c22 : Nat) (n23 : Int), r24 = .tuple #[.slice a22 l22 c22, .int .i64 n23] ∧
  CallR Try.prog 26 [.iface 65 (.agg #[.pointer p7, .int .i64 n15]), .slice a2 l2 c2] w9 (fun (r27 : Value) (w10 : World) =>
  ∃ (n25 : Int) (n26 : Int), r27 = .tuple #[.int .i64 n25, .int .i64 n26] ∧
  CallR Try.prog 21 [.pointer p7] w10 (fun (r29 : Value) (w11 : World) =>
  ∃ (a28 : Option Addr) (l28 : Nat) (c28 : Nat), r29 = .slice a28 l28 c28 ∧
  CallR Try.prog 25 [.int .i64 n23] w11 (fun (r31 : Value) (w12 : World) =>
  ∃ (n30 : Int), r31 = .int .i64 n30 ∧
  CallR Try.prog 25 [.int .i64 n26] w12 (fun (r33 : Value) (w13 : World) =>
  ∃ (n32 : Int), r33 = .int .i64 n32 ∧
  inI (n30 + n32) ∧
  cond ((n30 + n32) == 0)
  ((0 ≤ (mn ((1 : Int) + (Int.tmod ((Int.tmod n4 (300 : Int)) + 300) (300 : Int))) (((l1 : Nat) : Int)) : Int) ∧ (mn ((1 : Int) + (Int.tmod ((Int.tmod n4 (300 : Int)) + 300) (300 : Int))) (((l1 : Nat) : Int)) : Int) ≤ ((c1 : Nat) : Int)) ∧
  CallR Try.prog 20 [.slice a22 l22 c22, .slice a1 (Int.toNat (mn ((1 : Int) + (Int.tmod ((Int.tmod n4 (300 : Int)) + 300) (300 : Int))) (((l1 : Nat) : Int)))) c1] w13 (fun (r35 : Value) (w14 : World) =>
  ∃ (b34 : Bool), r35 = .bool b34 ∧
  cond b34
  (cond (n25 == (((l2 : Nat) : Int)))
  (cond ((((l28 : Nat) : Int)) == 2)
  ((0 ≤ (1 : Int) ∧ (1 : Int) < ((l28 : Nat) : Int)) ∧
  nn a28 (fun (q36 : Addr) =>
  ∃ (a37 : Option Addr) (l37 : Nat) (c37 : Nat), w14.cell? (Addr.add (Addr.add q36 (Int.toNat 1 * 2)) 1) = some ((.slice a37 l37 c37 : Value)) ∧
  CallR Try.prog 20 [.slice a37 l37 c37, .slice a2 l2 c2] w14 (fun (r39 : Value) (w15 : World) =>
  ∃ (b38 : Bool), r39 = .bool b38 ∧
  Q (.bool b38) w15)))
  (Q (.bool false) w14))
  (Q (.bool false) w14))
  (Q (.bool false) w14)))
  (Q (.bool false) w13))))))))))))))))))
theorem C6 {a1 : Option Addr} {l1 : Nat} {c1 : Nat} {a2 : Option Addr} {l2 : Nat} {c2 : Nat} {a3 : Option Addr} {l3 : Nat} {c3 : Nat} {n4 : Int} {Q : Value → World → Prop} {w : World} (h : L6 a1 l1 c1 a2 l2 c2 a3 l3 c3 n4 Q w) : CallR Try.prog 6 [.slice a1 l1 c1, .slice a2 l2 c2, .slice a3 l3 c3, .int .i64 n4] w Q :=
  fun_calls (A := A6) mixed Try.func6 (c := (Try.f6.body).getD .skip) rfl (by kernel_rfl) (Eq.mp (by kernel_rfl) h)

end Go.Proofs.Ytkjmlbplmffekaa
