/-
  What some functions of the program ask of the world, printed by a program out of the loaded program; each text is held against the code by evaluation. Conditions: none.
-/
import Derived.Test.YtbiofmgebbdflaaProg
import Derived.Test.YtbiofmgebbdflaaLm
import Derived.Test.YtbiofmgebbdflaaLX
import Derived.Test.YtbiofmgebbdflaaRfC
set_option linter.unusedVariables false
set_option maxRecDepth 100000
namespace Go.Proofs.Ytbiofmgebbdflaa
open Go.Lw
/-- millrace/millracelaw07.FdtableLowest -/
def A4 : Ann := ⟨[(9, [(7, .one (.int .i64))]), (17, [(9, .one (.int .i64))])], [(10, [])], [(13, [0, 3, 4, 5, 6, 7, 8, 1, 2, 9])], [], []⟩
def L4 (a1 : Option Addr) (l1 : Nat) (c1 : Nat) (Q : Value → World → Prop) (w : World) : Prop :=
  CallR Try.prog 23 [] w (fun (r3 : Value) (w1 : World) =>
  ∃ (b2 : Bool), r3 = .bool b2 ∧
  cond (!b2)
  (Q (.bool false) w1)
  (let w2 := World.alloc w1 (Obj.cells #[.string (ByteArray.mk #[102]), .slice none 0 0] 48);
  CallR Try.prog 16 [.agg #[.slice (some (Addr.mk w1.heap.size 0 none)) 1 1, .slice none 0 0, .slice none 0 0]] w2 (fun (r6 : Value) (w3 : World) =>
  ∃ (p4 : Option Addr) (n5 : Int), r6 = .tuple #[.pointer p4, .int .i64 n5] ∧
  CallR Try.prog 24 [.pointer p4] w3 (fun (r8 : Value) (w4 : World) =>
  ∃ (p7 : Option Addr), r8 = .pointer p7 ∧
  CallR Try.prog 25 [.int .i64 n5] w4 (fun (r10 : Value) (w5 : World) =>
  ∃ (n9 : Int), r10 = .int .i64 n9 ∧
  cond (n9 != 0)
  (Q (.bool false) w5)
  (cond (Option.isNone p7)
  (Q (.bool false) w5)
  (let w6 := World.alloc w5 (Obj.cells #[.bool false, .bool false, .bool false, .bool false, .bool false, .bool false, .bool false, .bool false, .bool false, .bool false, .bool false, .bool false, .bool false, .bool false, .bool false, .bool false, .bool false, .bool false, .bool false, .bool false, .bool false, .bool false, .bool false, .bool false, .bool false, .bool false, .bool false, .bool false, .bool false, .bool false, .bool false, .bool false, .bool false, .bool false, .bool false, .bool false, .bool false, .bool false, .bool false, .bool false, .bool false, .bool false, .bool false, .bool false, .bool false, .bool false, .bool false, .bool false, .bool false, .bool false, .bool false, .bool false, .bool false, .bool false, .bool false, .bool false, .bool false, .bool false, .bool false, .bool false, .bool false, .bool false, .bool false, .bool false] 51);
  ∃ (I11 : List Value → World → Prop) (mu12 : List Value → World → Nat),
  I11 [.int .i64 0] w6 ∧
  ∀ (_ : Env) (n13 : Int) (w7 : World), I11 [.int .i64 n13] w7 →
  cond (decide (n13 < (((l1 : Nat) : Int))))
  (∃ (J14 : List Value → World → Prop),
  ((0 ≤ (n13 : Int) ∧ (n13 : Int) < ((l1 : Nat) : Int)) ∧
  nn a1 (fun (q15 : Addr) =>
  ∃ (n16 : Int), w7.cell? (Addr.add q15 (Int.toNat n13)) = some ((.int .i64 n16 : Value)) ∧
  cond (decide (n16 ≥ 0))
  ((0 ≤ (n13 : Int) ∧ (n13 : Int) < ((l1 : Nat) : Int)) ∧
  nn a1 (fun (q17 : Addr) =>
  ∃ (n18 : Int), w7.cell? (Addr.add q17 (Int.toNat n13)) = some ((.int .i64 n18 : Value)) ∧
  cond (decide (n18 < 64))
  ((0 ≤ (n13 : Int) ∧ (n13 : Int) < ((l1 : Nat) : Int)) ∧
  nn a1 (fun (q19 : Addr) =>
  ∃ (n20 : Int), w7.cell? (Addr.add q19 (Int.toNat n13)) = some ((.int .i64 n20 : Value)) ∧
  CallR Try.prog 26 [.pointer p7, .int .i64 n20] w7 (fun (r22 : Value) (w8 : World) =>
  ∃ (n21 : Int), r22 = .int .i64 n21 ∧
  ∃ (S23 : World → Prop), S23 (World.drew w8) ∧
  let w9 := World.drew w8;
  (0 ≤ (n13 : Int) ∧ (n13 : Int) < ((l1 : Nat) : Int)) ∧
  nn a1 (fun (q24 : Addr) =>
  ∃ (n25 : Int), (∀ wS : World, S23 wS → wS.cell? (Addr.add q24 (Int.toNat n13)) = some ((.int .i64 n25 : Value))) ∧
  (0 ≤ (n25 : Int) ∧ (n25 : Int) < ((64 : Nat) : Int)) ∧
  ∃ (b26 : Bool), (∀ wS : World, S23 wS → wS.cell? (Addr.add (Addr.mk w5.heap.size 0 none) (Int.toNat n25)) = some ((.bool b26 : Value))) ∧
  CallR Try.prog 25 [.int .i64 n21] w9 (fun (r28 : Value) (w10 : World) =>
  ∃ (n27 : Int), r28 = .int .i64 n27 ∧
  S23 w10 ∧
  cond (!((n27 == 0) == b26))
  (Q (.bool false) w10)
  ((0 ≤ (n13 : Int) ∧ (n13 : Int) < ((l1 : Nat) : Int)) ∧
  nn a1 (fun (q29 : Addr) =>
  ∃ (n30 : Int), w10.cell? (Addr.add q29 (Int.toNat n13)) = some ((.int .i64 n30 : Value)) ∧
  (0 ≤ (n30 : Int) ∧ (n30 : Int) < ((64 : Nat) : Int)) ∧
  stC (Addr.add (Addr.mk w5.heap.size 0 none) (Int.toNat n30)) (.bool false) w10 (fun (w11 : World) =>
  J14 [] w11))))))))
  (∃ (I31 : List Value → World → Prop) (mu32 : List Value → World → Nat),
  I31 [.int .i64 0] w7 ∧
  ∀ (_ : Env) (n33 : Int) (w12 : World), I31 [.int .i64 n33] w12 →
  cond (decide (n33 < 64))
  ((0 ≤ (n33 : Int) ∧ (n33 : Int) < ((64 : Nat) : Int)) ∧
  ∃ (b34 : Bool), w12.cell? (Addr.add (Addr.mk w5.heap.size 0 none) (Int.toNat n33)) = some ((.bool b34 : Value)) ∧
  cond b34
  (inI (n33 + 1) ∧
  I31 [.int .i64 (n33 + 1)] w12 ∧ mu32 [.int .i64 (n33 + 1)] w12 < mu32 [.int .i64 n33] w12)
  (CallR Try.prog 27 [.pointer p7, .string (ByteArray.mk #[102]), .int .i64 1] w12 (fun (r37 : Value) (w13 : World) =>
  ∃ (n35 : Int) (n36 : Int), r37 = .tuple #[.int .i64 n35, .int .i64 n36] ∧
  cond (n33 == 64)
  (CallR Try.prog 25 [.int .i64 n36] w13 (fun (r39 : Value) (w14 : World) =>
  ∃ (n38 : Int), r39 = .int .i64 n38 ∧
  Q (.bool (n38 == 31)) w14))
  (CallR Try.prog 25 [.int .i64 n36] w13 (fun (r41 : Value) (w15 : World) =>
  ∃ (n40 : Int), r41 = .int .i64 n40 ∧
  cond (n40 != 0)
  (Q (.bool false) w15)
  (cond (n35 != n33)
  (Q (.bool false) w15)
  ((0 ≤ (n33 : Int) ∧ (n33 : Int) < ((64 : Nat) : Int)) ∧
  stC (Addr.add (Addr.mk w5.heap.size 0 none) (Int.toNat n33)) (.bool true) w15 (fun (w16 : World) =>
  J14 [] w16))))))))
  (CallR Try.prog 27 [.pointer p7, .string (ByteArray.mk #[102]), .int .i64 1] w12 (fun (r44 : Value) (w17 : World) =>
  ∃ (n42 : Int) (n43 : Int), r44 = .tuple #[.int .i64 n42, .int .i64 n43] ∧
  cond (n33 == 64)
  (CallR Try.prog 25 [.int .i64 n43] w17 (fun (r46 : Value) (w18 : World) =>
  ∃ (n45 : Int), r46 = .int .i64 n45 ∧
  Q (.bool (n45 == 31)) w18))
  (CallR Try.prog 25 [.int .i64 n43] w17 (fun (r48 : Value) (w19 : World) =>
  ∃ (n47 : Int), r48 = .int .i64 n47 ∧
  cond (n47 != 0)
  (Q (.bool false) w19)
  (cond (n42 != n33)
  (Q (.bool false) w19)
  ((0 ≤ (n33 : Int) ∧ (n33 : Int) < ((64 : Nat) : Int)) ∧
  stC (Addr.add (Addr.mk w5.heap.size 0 none) (Int.toNat n33)) (.bool true) w19 (fun (w20 : World) =>
  J14 [] w20))))))))))
  (∃ (I49 : List Value → World → Prop) (mu50 : List Value → World → Nat),
  I49 [.int .i64 0] w7 ∧
  ∀ (_ : Env) (n51 : Int) (w21 : World), I49 [.int .i64 n51] w21 →
  cond (decide (n51 < 64))
  ((0 ≤ (n51 : Int) ∧ (n51 : Int) < ((64 : Nat) : Int)) ∧
  ∃ (b52 : Bool), w21.cell? (Addr.add (Addr.mk w5.heap.size 0 none) (Int.toNat n51)) = some ((.bool b52 : Value)) ∧
  cond b52
  (inI (n51 + 1) ∧
  I49 [.int .i64 (n51 + 1)] w21 ∧ mu50 [.int .i64 (n51 + 1)] w21 < mu50 [.int .i64 n51] w21)
  (CallR Try.prog 27 [.pointer p7, .string (ByteArray.mk #[102]), .int .i64 1] w21 (fun (r55 : Value) (w22 : World) =>
  ∃ (n53 : Int) (n54 : Int), r55 = .tuple #[.int .i64 n53, .int .i64 n54] ∧
  cond (n51 == 64)
  (CallR Try.prog 25 [.int .i64 n54] w22 (fun (r57 : Value) (w23 : World) =>
  ∃ (n56 : Int), r57 = .int .i64 n56 ∧
  Q (.bool (n56 == 31)) w23))
  (CallR Try.prog 25 [.int .i64 n54] w22 (fun (r59 : Value) (w24 : World) =>
  ∃ (n58 : Int), r59 = .int .i64 n58 ∧
  cond (n58 != 0)
  (Q (.bool false) w24)
  (cond (n53 != n51)
  (Q (.bool false) w24)
  ((0 ≤ (n51 : Int) ∧ (n51 : Int) < ((64 : Nat) : Int)) ∧
  stC (Addr.add (Addr.mk w5.heap.size 0 none) (Int.toNat n51)) (.bool true) w24 (fun (w25 : World) =>
  J14 [] w25))))))))
  (CallR Try.prog 27 [.pointer p7, .string (ByteArray.mk #[102]), .int .i64 1] w21 (fun (r62 : Value) (w26 : World) =>
  ∃ (n60 : Int) (n61 : Int), r62 = .tuple #[.int .i64 n60, .int .i64 n61] ∧
  cond (n51 == 64)
  (CallR Try.prog 25 [.int .i64 n61] w26 (fun (r64 : Value) (w27 : World) =>
  ∃ (n63 : Int), r64 = .int .i64 n63 ∧
  Q (.bool (n63 == 31)) w27))
  (CallR Try.prog 25 [.int .i64 n61] w26 (fun (r66 : Value) (w28 : World) =>
  ∃ (n65 : Int), r66 = .int .i64 n65 ∧
  cond (n65 != 0)
  (Q (.bool false) w28)
  (cond (n60 != n51)
  (Q (.bool false) w28)
  ((0 ≤ (n51 : Int) ∧ (n51 : Int) < ((64 : Nat) : Int)) ∧
  stC (Addr.add (Addr.mk w5.heap.size 0 none) (Int.toNat n51)) (.bool true) w28 (fun (w29 : World) =>
  J14 [] w29)))))))))) ∧
  (∀ (_ : Env) (w30 : World), J14 [] w30 →
  inI (n13 + 1) ∧
  I11 [.int .i64 (n13 + 1)] w30 ∧ mu12 [.int .i64 (n13 + 1)] w30 < mu12 [.int .i64 n13] w7))
  (Q (.bool true) w7))))))))
theorem C4 {a1 : Option Addr} {l1 : Nat} {c1 : Nat} {Q : Value → World → Prop} {w : World} (h : L4 a1 l1 c1 Q w) : CallR Try.prog 4 [.slice a1 l1 c1] w Q :=
  fun_calls (A := A4) mixed Try.func4 (c := (Try.f4.body).getD .skip) rfl (by kernel_rfl) (Eq.mp (by kernel_rfl) h)

end Go.Proofs.Ytbiofmgebbdflaa
