/-
  What some functions of the program ask of the world, printed by a program out of the loaded program; each text is held against the code by evaluation. Conditions: none.
-/
import Derived.Test.YtapnpbfbebdjjaaProg
import Derived.Test.YtapnpbfbebdjjaaLm
import Derived.Test.YtapnpbfbebdjjaaLA
import Derived.Test.YtapnpbfbebdjjaaLT
set_option linter.unusedVariables false
set_option maxRecDepth 100000
namespace Go.Proofs.Ytapnpbfbebdjjaa
open Go.Lw
/-- millrace/millraceplain.CopyLists -/
def A33 : Ann := ⟨[(3, [(3, .one (.slice)), (4, .one (.int .i64))])], [], [], [], []⟩
def L33 (a1 : Option Addr) (l1 : Nat) (c1 : Nat) (Q : Value → World → Prop) (w : World) : Prop :=
  ∃ (I2 : List Value → World → Prop) (mu3 : List Value → World → Nat),
  I2 [.slice none 0 0, .int .i64 0] w ∧
  ∀ (_ : Env) (a4 : Option Addr) (l4 : Nat) (c4 : Nat) (n5 : Int) (w1 : World), I2 [.slice a4 l4 c4, .int .i64 n5] w1 →
  cond (decide (n5 < (((l1 : Nat) : Int))))
  ((0 ≤ (n5 : Int) ∧ (n5 : Int) < ((l1 : Nat) : Int)) ∧
  nn a1 (fun (q6 : Addr) =>
  ∃ (a7 : Option Addr) (l7 : Nat) (c7 : Nat), w1.cell? (Addr.add q6 (Int.toNat n5)) = some ((.slice a7 l7 c7 : Value)) ∧
  CallR Try.prog 36 [.slice a7 l7 c7] w1 (fun (r9 : Value) (w2 : World) =>
  ∃ (a8 : Option Addr) (l8 : Nat) (c8 : Nat), r9 = .slice a8 l8 c8 ∧
  let w3 := World.alloc w2 (Obj.cells #[.slice a8 l8 c8] 22);
  ∃ (a10 : Option Addr) (l10 : Nat) (c10 : Nat) (w4 : World), Sem.run Try.prog (Builtin.append_ #[49, 49] 49 #[.slice a4 l4 c4, .slice (some (Addr.mk w2.heap.size 0 none)) 1 1]) w3 = .ok ((.slice a10 l10 c10 : Value)) w4 ∧
  inI (n5 + 1) ∧
  I2 [.slice a10 l10 c10, .int .i64 (n5 + 1)] w4 ∧ mu3 [.slice a10 l10 c10, .int .i64 (n5 + 1)] w4 < mu3 [.slice a4 l4 c4, .int .i64 n5] w1)))
  (Q (.slice a4 l4 c4) w1)
theorem C33 {a1 : Option Addr} {l1 : Nat} {c1 : Nat} {Q : Value → World → Prop} {w : World} (h : L33 a1 l1 c1 Q w) : CallR Try.prog 33 [.slice a1 l1 c1] w Q :=
  fun_calls (A := A33) mixed Try.func33 (c := (Try.f33.body).getD .skip) rfl (by kernel_rfl) (Eq.mp (by kernel_rfl) h)

/-- millrace/millracelaw04.num -/
def A28 : Ann := ⟨[], [], [], [], []⟩
def L28 (n1 : Int) (Q : Value → World → Prop) (w : World) : Prop :=
  Q (.int .i64 n1) w
theorem C28 {n1 : Int} {Q : Value → World → Prop} {w : World} (h : L28 n1 Q w) : CallR Try.prog 28 [.int .i64 n1] w Q :=
  fun_calls (A := A28) mixed Try.func28 (c := (Try.f28.body).getD .skip) rfl (by kernel_rfl) (Eq.mp (by kernel_rfl) h)

/-- millrace/millracelaw04.alive -/
def A26 : Ann := ⟨[], [], [], [], []⟩
def L26 (Q : Value → World → Prop) (w : World) : Prop :=
  let w1 := World.alloc w (Obj.cells #[.int .u8 97, .int .u8 98, .int .u8 10] 5);
  ∃ (a1 : Option Addr) (l1 : Nat) (c1 : Nat) (w2 : World), Sem.run Try.prog (convert 22 22 (.slice (some (Addr.mk w.heap.size 0 none)) 3 3)) w1 = .ok ((.slice a1 l1 c1 : Value)) w2 ∧
  let w3 := World.alloc w2 (Obj.cells #[.int .u8 99] 5);
  ∃ (a2 : Option Addr) (l2 : Nat) (c2 : Nat) (w4 : World), Sem.run Try.prog (convert 22 22 (.slice (some (Addr.mk w2.heap.size 0 none)) 1 1)) w3 = .ok ((.slice a2 l2 c2 : Value)) w4 ∧
  let w5 := World.alloc w4 (Obj.cells #[.slice a1 l1 c1, .slice none 0 0, .slice a2 l2 c2] 22);
  CallR Try.prog 27 [.slice (some (Addr.mk w4.heap.size 0 none)) 3 3] w5 (fun (r5 : Value) (w6 : World) =>
  ∃ (p3 : Option Addr) (n4 : Int), r5 = .tuple #[.pointer p3, .int .i64 n4] ∧
  CallR Try.prog 28 [.int .i64 n4] w6 (fun (r7 : Value) (w7 : World) =>
  ∃ (n6 : Int), r7 = .int .i64 n6 ∧
  cond (n6 != 0)
  (Q (.bool false) w7)
  (cond (Option.isNone p3)
  (Q (.bool false) w7)
  (CallR Try.prog 30 [.pointer p3, .int .i64 2] w7 (fun (r10 : Value) (w8 : World) =>
  ∃ (a8 : Option Addr) (l8 : Nat) (c8 : Nat) (n9 : Int), r10 = .tuple #[.slice a8 l8 c8, .int .i64 n9] ∧
  CallR Try.prog 30 [.pointer p3, .int .i64 9] w8 (fun (r13 : Value) (w9 : World) =>
  ∃ (a11 : Option Addr) (l11 : Nat) (c11 : Nat) (n12 : Int), r13 = .tuple #[.slice a11 l11 c11, .int .i64 n12] ∧
  CallR Try.prog 30 [.pointer p3, .int .i64 9] w9 (fun (r16 : Value) (w10 : World) =>
  ∃ (a14 : Option Addr) (l14 : Nat) (c14 : Nat) (n15 : Int), r16 = .tuple #[.slice a14 l14 c14, .int .i64 n15] ∧
  CallR Try.prog 30 [.pointer p3, .int .i64 9] w10 (fun (r19 : Value) (w11 : World) =>
  ∃ (a17 : Option Addr) (l17 : Nat) (c17 : Nat) (n18 : Int), r19 = .tuple #[.slice a17 l17 c17, .int .i64 n18] ∧
  let w12 := World.alloc w11 (Obj.cells #[.int .u8 104, .int .u8 105] 5);
  ∃ (a20 : Option Addr) (l20 : Nat) (c20 : Nat) (w13 : World), Sem.run Try.prog (convert 22 22 (.slice (some (Addr.mk w11.heap.size 0 none)) 2 2)) w12 = .ok ((.slice a20 l20 c20 : Value)) w13 ∧
  CallR Try.prog 31 [.pointer p3, .slice a20 l20 c20] w13 (fun (r22 : Value) (w14 : World) =>
  ∃ (n21 : Int), r22 = .int .i64 n21 ∧
  CallR Try.prog 28 [.int .i64 n9] w14 (fun (r24 : Value) (w15 : World) =>
  ∃ (n23 : Int), r24 = .int .i64 n23 ∧
  CallR Try.prog 28 [.int .i64 n12] w15 (fun (r26 : Value) (w16 : World) =>
  ∃ (n25 : Int), r26 = .int .i64 n25 ∧
  inI (n23 + n25) ∧
  CallR Try.prog 28 [.int .i64 n15] w16 (fun (r28 : Value) (w17 : World) =>
  ∃ (n27 : Int), r28 = .int .i64 n27 ∧
  inI ((n23 + n25) + n27) ∧
  CallR Try.prog 28 [.int .i64 n18] w17 (fun (r30 : Value) (w18 : World) =>
  ∃ (n29 : Int), r30 = .int .i64 n29 ∧
  inI (((n23 + n25) + n27) + n29) ∧
  CallR Try.prog 28 [.int .i64 n21] w18 (fun (r32 : Value) (w19 : World) =>
  ∃ (n31 : Int), r32 = .int .i64 n31 ∧
  inI ((((n23 + n25) + n27) + n29) + n31) ∧
  cond (((((n23 + n25) + n27) + n29) + n31) == 0)
  (∃ (s33 : ByteArray) (w20 : World), Sem.run Try.prog (convert 22 9 (.slice a8 l8 c8)) w19 = .ok ((.string s33 : Value)) w20 ∧
  cond (ByteArray.toList s33 == ByteArray.toList (ByteArray.mk #[97, 98]))
  (∃ (s34 : ByteArray) (w21 : World), Sem.run Try.prog (convert 22 9 (.slice a11 l11 c11)) w20 = .ok ((.string s34 : Value)) w21 ∧
  cond (ByteArray.toList s34 == ByteArray.toList (ByteArray.mk #[10]))
  (cond ((((l14 : Nat) : Int)) == 0)
  (∃ (s35 : ByteArray) (w22 : World), Sem.run Try.prog (convert 22 9 (.slice a17 l17 c17)) w21 = .ok ((.string s35 : Value)) w22 ∧
  cond (ByteArray.toList s35 == ByteArray.toList (ByteArray.mk #[99]))
  (CallR Try.prog 29 [.pointer p3] w22 (fun (r37 : Value) (w23 : World) =>
  ∃ (n36 : Int), r37 = .int .i64 n36 ∧
  cond (n36 == 0)
  (CallR Try.prog 32 [.pointer p3] w23 (fun (r39 : Value) (w24 : World) =>
  ∃ (a38 : Option Addr) (l38 : Nat) (c38 : Nat), r39 = .slice a38 l38 c38 ∧
  ∃ (s40 : ByteArray) (w25 : World), Sem.run Try.prog (convert 22 9 (.slice a38 l38 c38)) w24 = .ok ((.string s40 : Value)) w25 ∧
  Q (.bool (ByteArray.toList s40 == ByteArray.toList (ByteArray.mk #[104, 105]))) w25))
  (Q (.bool false) w23)))
  (Q (.bool false) w22))
  (Q (.bool false) w21))
  (Q (.bool false) w21))
  (Q (.bool false) w20))
  (Q (.bool false) w19)))))))))))))))
theorem C26 {Q : Value → World → Prop} {w : World} (h : L26 Q w) : CallR Try.prog 26 [] w Q :=
  fun_calls (A := A26) mixed Try.func26 (c := (Try.f26.body).getD .skip) rfl (by kernel_rfl) (Eq.mp (by kernel_rfl) h)

/-- millrace/millracelaw04.nothing -/
def A39 : Ann := ⟨[], [], [], [], []⟩
def L39 (p1 : Option Addr) (Q : Value → World → Prop) (w : World) : Prop :=
  CallR Try.prog 30 [.pointer p1, .int .i64 1] w (fun (r4 : Value) (w1 : World) =>
  ∃ (a2 : Option Addr) (l2 : Nat) (c2 : Nat) (n3 : Int), r4 = .tuple #[.slice a2 l2 c2, .int .i64 n3] ∧
  CallR Try.prog 28 [.int .i64 n3] w1 (fun (r6 : Value) (w2 : World) =>
  ∃ (n5 : Int), r6 = .int .i64 n5 ∧
  cond (n5 == 2)
  (CallR Try.prog 31 [.pointer p1, .slice none 0 0] w2 (fun (r8 : Value) (w3 : World) =>
  ∃ (n7 : Int), r8 = .int .i64 n7 ∧
  CallR Try.prog 28 [.int .i64 n7] w3 (fun (r10 : Value) (w4 : World) =>
  ∃ (n9 : Int), r10 = .int .i64 n9 ∧
  cond (n9 == 2)
  (CallR Try.prog 29 [.pointer p1] w4 (fun (r12 : Value) (w5 : World) =>
  ∃ (n11 : Int), r12 = .int .i64 n11 ∧
  cond (n11 == 0)
  (CallR Try.prog 32 [.pointer p1] w5 (fun (r14 : Value) (w6 : World) =>
  ∃ (a13 : Option Addr) (l13 : Nat) (c13 : Nat), r14 = .slice a13 l13 c13 ∧
  cond ((((l13 : Nat) : Int)) == 0)
  (CallR Try.prog 38 [.pointer p1] w6 (fun (r16 : Value) (w7 : World) =>
  ∃ (p15 : Option Addr), r16 = .pointer p15 ∧
  Q (.bool (Option.isNone p15)) w7))
  (Q (.bool false) w6)))
  (Q (.bool false) w5)))
  (Q (.bool false) w4))))
  (Q (.bool false) w2)))
theorem C39 {p1 : Option Addr} {Q : Value → World → Prop} {w : World} (h : L39 p1 Q w) : CallR Try.prog 39 [.pointer p1] w Q :=
  fun_calls (A := A39) mixed Try.func39 (c := (Try.f39.body).getD .skip) rfl (by kernel_rfl) (Eq.mp (by kernel_rfl) h)

/-- millrace/millracelaw04.TerminalLines -/
def A7 : Ann := ⟨[(8, [(7, .one (.int .i64))]), (11, [(8, .one (.slice))])], [], [], [], []⟩
def L7 (a1 : Option Addr) (l1 : Nat) (c1 : Nat) (n2 : Int) (Q : Value → World → Prop) (w : World) : Prop :=
  CallR Try.prog 26 [] w (fun (r4 : Value) (w1 : World) =>
  ∃ (b3 : Bool), r4 = .bool b3 ∧
  cond (!b3)
  (Q (.bool false) w1)
  (CallR Try.prog 27 [.slice a1 l1 c1] w1 (fun (r7 : Value) (w2 : World) =>
  ∃ (p5 : Option Addr) (n6 : Int), r7 = .tuple #[.pointer p5, .int .i64 n6] ∧
  CallR Try.prog 28 [.int .i64 n6] w2 (fun (r9 : Value) (w3 : World) =>
  ∃ (n8 : Int), r9 = .int .i64 n8 ∧
  cond (n8 != 0)
  (Q (.bool (Option.isNone p5)) w3)
  (cond (Option.isNone p5)
  (Q (.bool (Option.isNone p5)) w3)
  ((64 : Int) ≠ 0 ∧
  inI ((Int.tmod n2 (64 : Int)) + 64) ∧
  (64 : Int) ≠ 0 ∧
  inI ((1 : Int) + (Int.tmod ((Int.tmod n2 (64 : Int)) + 64) (64 : Int))) ∧
  ∃ (I10 : List Value → World → Prop) (mu11 : List Value → World → Nat),
  I10 [.int .i64 0] w3 ∧
  ∀ (_ : Env) (n12 : Int) (w4 : World), I10 [.int .i64 n12] w4 →
  cond (decide (n12 < (((l1 : Nat) : Int))))
  (∃ (I13 : List Value → World → Prop) (mu14 : List Value → World → Nat),
  I13 [.slice none 0 0] w4 ∧
  ∀ (_ : Env) (a15 : Option Addr) (l15 : Nat) (c15 : Nat) (w5 : World), I13 [.slice a15 l15 c15] w5 →
  CallR Try.prog 29 [.pointer p5] w5 (fun (r17 : Value) (w6 : World) =>
  ∃ (n16 : Int), r17 = .int .i64 n16 ∧
  inI ((((l1 : Nat) : Int)) - n12) ∧
  cond (n16 == ((((l1 : Nat) : Int)) - n12))
  (CallR Try.prog 30 [.pointer p5, .int .i64 ((1 : Int) + (Int.tmod ((Int.tmod n2 (64 : Int)) + 64) (64 : Int)))] w6 (fun (r20 : Value) (w7 : World) =>
  ∃ (a18 : Option Addr) (l18 : Nat) (c18 : Nat) (n19 : Int), r20 = .tuple #[.slice a18 l18 c18, .int .i64 n19] ∧
  CallR Try.prog 28 [.int .i64 n19] w7 (fun (r22 : Value) (w8 : World) =>
  ∃ (n21 : Int), r22 = .int .i64 n21 ∧
  cond (n21 != 0)
  (Q (.bool false) w8)
  (cond (decide ((((l18 : Nat) : Int)) > ((1 : Int) + (Int.tmod ((Int.tmod n2 (64 : Int)) + 64) (64 : Int)))))
  (Q (.bool false) w8)
  (cond ((((l18 : Nat) : Int)) == 0)
  ((0 ≤ (n12 : Int) ∧ (n12 : Int) < ((l1 : Nat) : Int)) ∧
  nn a1 (fun (q23 : Addr) =>
  ∃ (a24 : Option Addr) (l24 : Nat) (c24 : Nat), w8.cell? (Addr.add q23 (Int.toNat n12)) = some ((.slice a24 l24 c24 : Value)) ∧
  cond (decide ((((l24 : Nat) : Int)) > 0))
  (Q (.bool false) w8)
  (∃ (a25 : Option Addr) (l25 : Nat) (c25 : Nat) (w9 : World), Sem.run Try.prog (Builtin.append_ #[22, 22] 22 #[.slice a15 l15 c15, .slice a18 l18 c18]) w8 = .ok ((.slice a25 l25 c25 : Value)) w9 ∧
  I13 [.slice a25 l25 c25] w9 ∧ mu14 [.slice a25 l25 c25] w9 < mu14 [.slice a15 l15 c15] w5)))
  (∃ (a26 : Option Addr) (l26 : Nat) (c26 : Nat) (w10 : World), Sem.run Try.prog (Builtin.append_ #[22, 22] 22 #[.slice a15 l15 c15, .slice a18 l18 c18]) w8 = .ok ((.slice a26 l26 c26 : Value)) w10 ∧
  I13 [.slice a26 l26 c26] w10 ∧ mu14 [.slice a26 l26 c26] w10 < mu14 [.slice a15 l15 c15] w5))))))
  ((0 ≤ (n12 : Int) ∧ (n12 : Int) < ((l1 : Nat) : Int)) ∧
  nn a1 (fun (q27 : Addr) =>
  ∃ (a28 : Option Addr) (l28 : Nat) (c28 : Nat), w6.cell? (Addr.add q27 (Int.toNat n12)) = some ((.slice a28 l28 c28 : Value)) ∧
  CallR Try.prog 20 [.slice a15 l15 c15, .slice a28 l28 c28] w6 (fun (r30 : Value) (w11 : World) =>
  ∃ (b29 : Bool), r30 = .bool b29 ∧
  cond (!b29)
  (Q (.bool false) w11)
  (CallR Try.prog 29 [.pointer p5] w11 (fun (r32 : Value) (w12 : World) =>
  ∃ (n31 : Int), r32 = .int .i64 n31 ∧
  inI ((((l1 : Nat) : Int)) - n12) ∧
  inI (((((l1 : Nat) : Int)) - n12) - 1) ∧
  cond (n31 != (((((l1 : Nat) : Int)) - n12) - 1))
  (Q (.bool false) w12)
  (inI (n12 + 1) ∧
  I10 [.int .i64 (n12 + 1)] w12 ∧ mu11 [.int .i64 (n12 + 1)] w12 < mu11 [.int .i64 n12] w4))))))))
  (CallR Try.prog 30 [.pointer p5, .int .i64 ((1 : Int) + (Int.tmod ((Int.tmod n2 (64 : Int)) + 64) (64 : Int)))] w4 (fun (r35 : Value) (w13 : World) =>
  ∃ (a33 : Option Addr) (l33 : Nat) (c33 : Nat) (n34 : Int), r35 = .tuple #[.slice a33 l33 c33, .int .i64 n34] ∧
  CallR Try.prog 28 [.int .i64 n34] w13 (fun (r37 : Value) (w14 : World) =>
  ∃ (n36 : Int), r37 = .int .i64 n36 ∧
  cond (n36 == 0)
  (Q (.bool ((((l33 : Nat) : Int)) == 0)) w14)
  (Q (.bool false) w14))))))))))
theorem C7 {a1 : Option Addr} {l1 : Nat} {c1 : Nat} {n2 : Int} {Q : Value → World → Prop} {w : World} (h : L7 a1 l1 c1 n2 Q w) : CallR Try.prog 7 [.slice a1 l1 c1, .int .i64 n2] w Q :=
  fun_calls (A := A7) mixed Try.func7 (c := (Try.f7.body).getD .skip) rfl (by kernel_rfl) (Eq.mp (by kernel_rfl) h)

/-- millrace/millracelaw04.TerminalScreen -/
def A8 : Ann := ⟨[(8, [(7, .one (.slice)), (8, .one (.int .i64))])], [], [], [], []⟩
def L8 (a1 : Option Addr) (l1 : Nat) (c1 : Nat) (a2 : Option Addr) (l2 : Nat) (c2 : Nat) (Q : Value → World → Prop) (w : World) : Prop :=
  CallR Try.prog 26 [] w (fun (r4 : Value) (w1 : World) =>
  ∃ (b3 : Bool), r4 = .bool b3 ∧
  cond (!b3)
  (Q (.bool false) w1)
  (CallR Try.prog 27 [.slice a1 l1 c1] w1 (fun (r7 : Value) (w2 : World) =>
  ∃ (p5 : Option Addr) (n6 : Int), r7 = .tuple #[.pointer p5, .int .i64 n6] ∧
  CallR Try.prog 28 [.int .i64 n6] w2 (fun (r9 : Value) (w3 : World) =>
  ∃ (n8 : Int), r9 = .int .i64 n8 ∧
  cond (n8 != 0)
  (Q (.bool (Option.isNone p5)) w3)
  (cond (Option.isNone p5)
  (Q (.bool (Option.isNone p5)) w3)
  (∃ (I10 : List Value → World → Prop) (mu11 : List Value → World → Nat),
  I10 [.slice none 0 0, .int .i64 0] w3 ∧
  ∀ (_ : Env) (a12 : Option Addr) (l12 : Nat) (c12 : Nat) (n13 : Int) (w4 : World), I10 [.slice a12 l12 c12, .int .i64 n13] w4 →
  cond (decide (n13 < (((l2 : Nat) : Int))))
  ((7 : Int) ≠ 0 ∧
  inI ((1 : Int) + (Int.tmod n13 (7 : Int))) ∧
  CallR Try.prog 30 [.pointer p5, .int .i64 ((1 : Int) + (Int.tmod n13 (7 : Int)))] w4 (fun (r16 : Value) (w5 : World) =>
  ∃ (a14 : Option Addr) (l14 : Nat) (c14 : Nat) (n15 : Int), r16 = .tuple #[.slice a14 l14 c14, .int .i64 n15] ∧
  (0 ≤ (n13 : Int) ∧ (n13 : Int) < ((l2 : Nat) : Int)) ∧
  nn a2 (fun (q17 : Addr) =>
  ∃ (a18 : Option Addr) (l18 : Nat) (c18 : Nat), w5.cell? (Addr.add q17 (Int.toNat n13)) = some ((.slice a18 l18 c18 : Value)) ∧
  CallR Try.prog 31 [.pointer p5, .slice a18 l18 c18] w5 (fun (r20 : Value) (w6 : World) =>
  ∃ (n19 : Int), r20 = .int .i64 n19 ∧
  (0 ≤ (n13 : Int) ∧ (n13 : Int) < ((l2 : Nat) : Int)) ∧
  nn a2 (fun (q21 : Addr) =>
  ∃ (a22 : Option Addr) (l22 : Nat) (c22 : Nat), w6.cell? (Addr.add q21 (Int.toNat n13)) = some ((.slice a22 l22 c22 : Value)) ∧
  inI ((((l12 : Nat) : Int)) + (((l22 : Nat) : Int))) ∧
  CallR Try.prog 28 [.int .i64 n19] w6 (fun (r24 : Value) (w7 : World) =>
  ∃ (n23 : Int), r24 = .int .i64 n23 ∧
  cond (!((decide (((((l12 : Nat) : Int)) + (((l22 : Nat) : Int))) > 1048576)) == (n23 == 31)))
  (Q (.bool false) w7)
  (cond (!(decide (((((l12 : Nat) : Int)) + (((l22 : Nat) : Int))) > 1048576)))
  ((0 ≤ (n13 : Int) ∧ (n13 : Int) < ((l2 : Nat) : Int)) ∧
  nn a2 (fun (q25 : Addr) =>
  ∃ (a26 : Option Addr) (l26 : Nat) (c26 : Nat), w7.cell? (Addr.add q25 (Int.toNat n13)) = some ((.slice a26 l26 c26 : Value)) ∧
  ∃ (a27 : Option Addr) (l27 : Nat) (c27 : Nat) (w8 : World), Sem.run Try.prog (Builtin.append_ #[22, 22] 22 #[.slice a12 l12 c12, .slice a26 l26 c26]) w7 = .ok ((.slice a27 l27 c27 : Value)) w8 ∧
  inI (n13 + 1) ∧
  I10 [.slice a27 l27 c27, .int .i64 (n13 + 1)] w8 ∧ mu11 [.slice a27 l27 c27, .int .i64 (n13 + 1)] w8 < mu11 [.slice a12 l12 c12, .int .i64 n13] w4))
  (inI (n13 + 1) ∧
  I10 [.slice a12 l12 c12, .int .i64 (n13 + 1)] w7 ∧ mu11 [.slice a12 l12 c12, .int .i64 (n13 + 1)] w7 < mu11 [.slice a12 l12 c12, .int .i64 n13] w4))))))))
  (CallR Try.prog 32 [.pointer p5] w4 (fun (r29 : Value) (w9 : World) =>
  ∃ (a28 : Option Addr) (l28 : Nat) (c28 : Nat), r29 = .slice a28 l28 c28 ∧
  CallR Try.prog 20 [.slice a28 l28 c28, .slice a12 l12 c12] w9 (fun (r31 : Value) (w10 : World) =>
  ∃ (b30 : Bool), r31 = .bool b30 ∧
  Q (.bool b30) w10)))))))))
theorem C8 {a1 : Option Addr} {l1 : Nat} {c1 : Nat} {a2 : Option Addr} {l2 : Nat} {c2 : Nat} {Q : Value → World → Prop} {w : World} (h : L8 a1 l1 c1 a2 l2 c2 Q w) : CallR Try.prog 8 [.slice a1 l1 c1, .slice a2 l2 c2] w Q :=
  fun_calls (A := A8) mixed Try.func8 (c := (Try.f8.body).getD .skip) rfl (by kernel_rfl) (Eq.mp (by kernel_rfl) h)

/-- millrace/millracelaw04.TerminalOwn -/
def A10 : Ann := ⟨[(11, [(9, .one (.int .i64))])], [], [], [], []⟩
def L10 (a1 : Option Addr) (l1 : Nat) (c1 : Nat) (a2 : Option Addr) (l2 : Nat) (c2 : Nat) (Q : Value → World → Prop) (w : World) : Prop :=
  CallR Try.prog 26 [] w (fun (r4 : Value) (w1 : World) =>
  ∃ (b3 : Bool), r4 = .bool b3 ∧
  cond (!b3)
  (Q (.bool false) w1)
  (CallR Try.prog 39 [.pointer none] w1 (fun (r6 : Value) (w2 : World) =>
  ∃ (b5 : Bool), r6 = .bool b5 ∧
  cond (!b5)
  (Q (.bool false) w2)
  (let w3 := World.alloc w2 (Obj.cells #[.bool false, .slice none 0 0, .int .i64 0, .slice none 0 0] 75);
  CallR Try.prog 39 [.pointer (some (Addr.mk w2.heap.size 0 none))] w3 (fun (r8 : Value) (w4 : World) =>
  ∃ (b7 : Bool), r8 = .bool b7 ∧
  cond (!b7)
  (Q (.bool false) w4)
  (CallR Try.prog 33 [.slice a1 l1 c1] w4 (fun (r10 : Value) (w5 : World) =>
  ∃ (a9 : Option Addr) (l9 : Nat) (c9 : Nat), r10 = .slice a9 l9 c9 ∧
  CallR Try.prog 27 [.slice a9 l9 c9] w5 (fun (r13 : Value) (w6 : World) =>
  ∃ (p11 : Option Addr) (n12 : Int), r13 = .tuple #[.pointer p11, .int .i64 n12] ∧
  CallR Try.prog 28 [.int .i64 n12] w6 (fun (r15 : Value) (w7 : World) =>
  ∃ (n14 : Int), r15 = .int .i64 n14 ∧
  cond (n14 != 0)
  (Q (.bool (Option.isNone p11)) w7)
  (cond (Option.isNone p11)
  (Q (.bool (Option.isNone p11)) w7)
  (∃ (I16 : List Value → World → Prop) (mu17 : List Value → World → Nat),
  I16 [.int .i64 0] w7 ∧
  ∀ (_ : Env) (n18 : Int) (w8 : World), I16 [.int .i64 n18] w8 →
  cond (decide (n18 < (((l9 : Nat) : Int))))
  ((0 ≤ (n18 : Int) ∧ (n18 : Int) < ((l9 : Nat) : Int)) ∧
  nn a9 (fun (q19 : Addr) =>
  ∃ (a20 : Option Addr) (l20 : Nat) (c20 : Nat), w8.cell? (Addr.add q19 (Int.toNat n18)) = some ((.slice a20 l20 c20 : Value)) ∧
  CallR Try.prog 40 [.slice a20 l20 c20] w8 (fun (r21 : Value) (w9 : World) =>
  r21 = .tuple #[] ∧
  inI (n18 + 1) ∧
  I16 [.int .i64 (n18 + 1)] w9 ∧ mu17 [.int .i64 (n18 + 1)] w9 < mu17 [.int .i64 n18] w8)))
  (CallR Try.prog 36 [.slice a2 l2 c2] w8 (fun (r23 : Value) (w10 : World) =>
  ∃ (a22 : Option Addr) (l22 : Nat) (c22 : Nat), r23 = .slice a22 l22 c22 ∧
  CallR Try.prog 31 [.pointer p11, .slice a22 l22 c22] w10 (fun (r25 : Value) (w11 : World) =>
  ∃ (n24 : Int), r25 = .int .i64 n24 ∧
  CallR Try.prog 40 [.slice a22 l22 c22] w11 (fun (r26 : Value) (w12 : World) =>
  r26 = .tuple #[] ∧
  CallR Try.prog 32 [.pointer p11] w12 (fun (r28 : Value) (w13 : World) =>
  ∃ (a27 : Option Addr) (l27 : Nat) (c27 : Nat), r28 = .slice a27 l27 c27 ∧
  CallR Try.prog 40 [.slice a27 l27 c27] w13 (fun (r29 : Value) (w14 : World) =>
  r29 = .tuple #[] ∧
  CallR Try.prog 30 [.pointer p11, .int .i64 0] w14 (fun (r32 : Value) (w15 : World) =>
  ∃ (a30 : Option Addr) (l30 : Nat) (c30 : Nat) (n31 : Int), r32 = .tuple #[.slice a30 l30 c30, .int .i64 n31] ∧
  CallR Try.prog 28 [.int .i64 n31] w15 (fun (r34 : Value) (w16 : World) =>
  ∃ (n33 : Int), r34 = .int .i64 n33 ∧
  cond (n33 != 4)
  (Q (.bool false) w16)
  (CallR Try.prog 29 [.pointer p11] w16 (fun (r36 : Value) (w17 : World) =>
  ∃ (n35 : Int), r36 = .int .i64 n35 ∧
  cond (n35 != (((l1 : Nat) : Int)))
  (Q (.bool false) w17)
  (CallR Try.prog 28 [.int .i64 n24] w17 (fun (r38 : Value) (w18 : World) =>
  ∃ (n37 : Int), r38 = .int .i64 n37 ∧
  cond (n37 == 0)
  (CallR Try.prog 32 [.pointer p11] w18 (fun (r40 : Value) (w19 : World) =>
  ∃ (a39 : Option Addr) (l39 : Nat) (c39 : Nat), r40 = .slice a39 l39 c39 ∧
  CallR Try.prog 20 [.slice a39 l39 c39, .slice a2 l2 c2] w19 (fun (r42 : Value) (w20 : World) =>
  ∃ (b41 : Bool), r42 = .bool b41 ∧
  cond (!b41)
  (Q (.bool false) w20)
  (cond ((((l1 : Nat) : Int)) == 0)
  (Q (.bool true) w20)
  (CallR Try.prog 30 [.pointer p11, .int .i64 1048576] w20 (fun (r45 : Value) (w21 : World) =>
  ∃ (a43 : Option Addr) (l43 : Nat) (c43 : Nat) (n44 : Int), r45 = .tuple #[.slice a43 l43 c43, .int .i64 n44] ∧
  CallR Try.prog 28 [.int .i64 n44] w21 (fun (r47 : Value) (w22 : World) =>
  ∃ (n46 : Int), r47 = .int .i64 n46 ∧
  cond (n46 == 0)
  ((0 ≤ (0 : Int) ∧ (0 : Int) < ((l1 : Nat) : Int)) ∧
  nn a1 (fun (q48 : Addr) =>
  ∃ (a49 : Option Addr) (l49 : Nat) (c49 : Nat), w22.cell? (Addr.add q48 (Int.toNat 0)) = some ((.slice a49 l49 c49 : Value)) ∧
  CallR Try.prog 20 [.slice a43 l43 c43, .slice a49 l49 c49] w22 (fun (r51 : Value) (w23 : World) =>
  ∃ (b50 : Bool), r51 = .bool b50 ∧
  Q (.bool b50) w23)))
  (Q (.bool false) w22))))))))
  (cond ((((l1 : Nat) : Int)) == 0)
  (Q (.bool true) w18)
  (CallR Try.prog 30 [.pointer p11, .int .i64 1048576] w18 (fun (r54 : Value) (w24 : World) =>
  ∃ (a52 : Option Addr) (l52 : Nat) (c52 : Nat) (n53 : Int), r54 = .tuple #[.slice a52 l52 c52, .int .i64 n53] ∧
  CallR Try.prog 28 [.int .i64 n53] w24 (fun (r56 : Value) (w25 : World) =>
  ∃ (n55 : Int), r56 = .int .i64 n55 ∧
  cond (n55 == 0)
  ((0 ≤ (0 : Int) ∧ (0 : Int) < ((l1 : Nat) : Int)) ∧
  nn a1 (fun (q57 : Addr) =>
  ∃ (a58 : Option Addr) (l58 : Nat) (c58 : Nat), w25.cell? (Addr.add q57 (Int.toNat 0)) = some ((.slice a58 l58 c58 : Value)) ∧
  CallR Try.prog 20 [.slice a52 l52 c52, .slice a58 l58 c58] w25 (fun (r60 : Value) (w26 : World) =>
  ∃ (b59 : Bool), r60 = .bool b59 ∧
  Q (.bool b59) w26)))
  (Q (.bool false) w25))))))))))))))))))))))))))))
theorem C10 {a1 : Option Addr} {l1 : Nat} {c1 : Nat} {a2 : Option Addr} {l2 : Nat} {c2 : Nat} {Q : Value → World → Prop} {w : World} (h : L10 a1 l1 c1 a2 l2 c2 Q w) : CallR Try.prog 10 [.slice a1 l1 c1, .slice a2 l2 c2] w Q :=
  fun_calls (A := A10) mixed Try.func10 (c := (Try.f10.body).getD .skip) rfl (by kernel_rfl) (Eq.mp (by kernel_rfl) h)

end Go.Proofs.Ytapnpbfbebdjjaa
