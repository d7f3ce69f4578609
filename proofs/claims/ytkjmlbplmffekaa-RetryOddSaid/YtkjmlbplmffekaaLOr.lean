/-
  What some functions of the program ask of the world, printed by a program out of the loaded program; each text is held against the code by evaluation. Conditions: none.
-/
import Derived.Test.YtkjmlbplmffekaaProg
import Derived.Test.YtkjmlbplmffekaaLm
import Derived.Test.YtkjmlbplmffekaaLX
import Derived.Test.YtkjmlbplmffekaaRfC
set_option linter.unusedVariables false
set_option maxRecDepth 100000
namespace Go.Proofs.Ytkjmlbplmffekaa
open Go.Lw
/-- millrace/millraceplain.CopyInts -/
def A24 : Ann := ⟨[], [], [], [], [], []⟩
def L24 (a1 : Option Addr) (l1 : Nat) (c1 : Nat) (Q : Value → World → Prop) (w : World) : Prop :=
  ∃ (a2 : Option Addr) (l2 : Nat) (c2 : Nat) (w1 : World), Sem.run Try.prog (Builtin.append_ #[56, 56] 56 #[.slice none 0 0, .slice a1 l1 c1]) w = .ok ((.slice a2 l2 c2 : Value)) w1 ∧
  Q (.slice a2 l2 c2) w1
theorem C24 {a1 : Option Addr} {l1 : Nat} {c1 : Nat} {Q : Value → World → Prop} {w : World} (h : L24 a1 l1 c1 Q w) : CallR Try.prog 24 [.slice a1 l1 c1] w Q :=
  fun_calls (A := A24) mixed Try.func24 (c := (Try.f24.body).getD .skip) rfl (by kernel_rfl) (Eq.mp (by kernel_rfl) h)

/-- millrace/millracelaw08.RetryOdd -/
def A5 : Ann := ⟨[(20, [(14, .one (.int .i64)), (15, .one (.int .i64))])], [(6, [(11, .one (.bool))]), (17, []), (18, [(12, .one (.int .i64)), (13, .one (.int .i64))]), (27, [(14, .one (.int .i64))])], [], [], [], [17]⟩
def L5 (a1 : Option Addr) (l1 : Nat) (c1 : Nat) (a2 : Option Addr) (l2 : Nat) (c2 : Nat) (n3 : Int) (n4 : Int) (Q : Value → World → Prop) (w : World) : Prop :=
  CallR Try.prog 22 [] w (fun (r6 : Value) (w1 : World) =>
  ∃ (b5 : Bool), r6 = .bool b5 ∧
  cond (!b5)
  (Q (.bool false) w1)
  ((40 : Int) ≠ 0 ∧
  inI ((Int.tmod n4 (40 : Int)) + 40) ∧
  (40 : Int) ≠ 0 ∧
  inI ((1 : Int) + (Int.tmod ((Int.tmod n4 (40 : Int)) + 40) (40 : Int))) ∧
  CallR Try.prog 24 [.slice a1 l1 c1] w1 (fun (r8 : Value) (w2 : World) =>
  ∃ (a7 : Option Addr) (l7 : Nat) (c7 : Nat), r8 = .slice a7 l7 c7 ∧
  let w3 := World.alloc w2 (Obj.cells #[.slice a7 l7 c7, .slice none 0 0, .int .i64 n3] 61);
  CallR Try.prog 23 [.iface 58 (.pointer (some (Addr.mk w2.heap.size 0 none))), .int .i64 ((1 : Int) + (Int.tmod ((Int.tmod n4 (40 : Int)) + 40) (40 : Int)))] w3 (fun (r11 : Value) (w4 : World) =>
  ∃ (a9 : Option Addr) (l9 : Nat) (c9 : Nat) (n10 : Int), r11 = .tuple #[.slice a9 l9 c9, .int .i64 n10] ∧
  ∃ (J12 : List Value → World → Prop),
  (CallR Try.prog 25 [.int .i64 n3] w4 (fun (r14 : Value) (w5 : World) =>
  ∃ (n13 : Int), r14 = .int .i64 n13 ∧
  cond (n13 == 22)
  (J12 [.bool true] w5)
  (CallR Try.prog 25 [.int .i64 n3] w5 (fun (r16 : Value) (w6 : World) =>
  ∃ (n15 : Int), r16 = .int .i64 n15 ∧
  J12 [.bool (n15 == 23)] w6)))) ∧
  (∀ (_ : Env) (b17 : Bool) (w7 : World), J12 [.bool b17] w7 →
  ∃ (J18 : List Value → World → Prop),
  (cond (decide ((((l1 : Nat) : Int)) > 0))
  ((0 ≤ (0 : Int) ∧ (0 : Int) < ((l1 : Nat) : Int)) ∧
  nn a1 (fun (q19 : Addr) =>
  ∃ (n20 : Int), w7.cell? (Addr.add q19 (Int.toNat 0)) = some ((.int .i64 n20 : Value)) ∧
  cond (decide (n20 > ((1 : Int) + (Int.tmod ((Int.tmod n4 (40 : Int)) + 40) (40 : Int)))))
  (CallR Try.prog 25 [.int .i64 n10] w7 (fun (r22 : Value) (w8 : World) =>
  ∃ (n21 : Int), r22 = .int .i64 n21 ∧
  cond (n21 != 82)
  (Q (.bool false) w8)
  (cond ((((l9 : Nat) : Int)) != 0)
  (Q (.bool false) w8)
  (J18 [] w8))))
  (cond (decide ((((l1 : Nat) : Int)) > 0))
  (CallR Try.prog 25 [.int .i64 n10] w7 (fun (r24 : Value) (w9 : World) =>
  ∃ (n23 : Int), r24 = .int .i64 n23 ∧
  cond (n23 != 0)
  (Q (.bool false) w9)
  ((0 ≤ (0 : Int) ∧ (0 : Int) < ((l1 : Nat) : Int)) ∧
  nn a1 (fun (q25 : Addr) =>
  ∃ (n26 : Int), w9.cell? (Addr.add q25 (Int.toNat 0)) = some ((.int .i64 n26 : Value)) ∧
  cond ((((l9 : Nat) : Int)) != (mx n26 0))
  (Q (.bool false) w9)
  (J18 [] w9)))))
  (cond b17
  (CallR Try.prog 25 [.int .i64 n10] w7 (fun (r28 : Value) (w10 : World) =>
  ∃ (n27 : Int), r28 = .int .i64 n27 ∧
  cond (n27 != 81)
  (Q (.bool false) w10)
  (J18 [] w10)))
  (cond (n10 != n3)
  (Q (.bool false) w7)
  (J18 [] w7))))))
  (cond (decide ((((l1 : Nat) : Int)) > 0))
  (CallR Try.prog 25 [.int .i64 n10] w7 (fun (r30 : Value) (w11 : World) =>
  ∃ (n29 : Int), r30 = .int .i64 n29 ∧
  cond (n29 != 0)
  (Q (.bool false) w11)
  ((0 ≤ (0 : Int) ∧ (0 : Int) < ((l1 : Nat) : Int)) ∧
  nn a1 (fun (q31 : Addr) =>
  ∃ (n32 : Int), w11.cell? (Addr.add q31 (Int.toNat 0)) = some ((.int .i64 n32 : Value)) ∧
  cond ((((l9 : Nat) : Int)) != (mx n32 0))
  (Q (.bool false) w11)
  (J18 [] w11)))))
  (cond b17
  (CallR Try.prog 25 [.int .i64 n10] w7 (fun (r34 : Value) (w12 : World) =>
  ∃ (n33 : Int), r34 = .int .i64 n33 ∧
  cond (n33 != 81)
  (Q (.bool false) w12)
  (J18 [] w12)))
  (cond (n10 != n3)
  (Q (.bool false) w7)
  (J18 [] w7))))) ∧
  (∀ (_ : Env) (w13 : World), J18 [] w13 →
  ∃ (J35 : List Value → World → Prop),
  (let w14 := World.drew w13;
  (CallR Try.prog 24 [.slice a2 l2 c2] w14 (fun (r37 : Value) (w15 : World) =>
  ∃ (a36 : Option Addr) (l36 : Nat) (c36 : Nat), r37 = .slice a36 l36 c36 ∧
  (let w16 := World.alloc w15 (Obj.cells #[.slice none 0 0, .slice a36 l36 c36, .int .i64 n3] 61);
  ∃ (a38 : Option Addr) (l38 : Nat) (c38 : Nat) (w17 : World), Sem.run Try.prog (Instr.makeSlice 36 (.int .i64 ((1 : Int) + (Int.tmod ((Int.tmod n4 (40 : Int)) + 40) (40 : Int)))) (.int .i64 ((1 : Int) + (Int.tmod ((Int.tmod n4 (40 : Int)) + 40) (40 : Int))))) w16 = .ok ((.slice a38 l38 c38 : Value)) w17 ∧
  CallR Try.prog 26 [.iface 58 (.pointer (some (Addr.mk w15.heap.size 0 none))), .slice a38 l38 c38] w17 (fun (r41 : Value) (w18 : World) =>
  ∃ (n39 : Int) (n40 : Int), r41 = .tuple #[.int .i64 n39, .int .i64 n40] ∧
  J35 [.int .i64 n39, .int .i64 n40] w18)) ∧
  (∃ (a42 : Option Addr) (l42 : Nat) (c42 : Nat) (w19 : World), Sem.run Try.prog (Instr.makeSlice 36 (.int .i64 ((1 : Int) + (Int.tmod ((Int.tmod n4 (40 : Int)) + 40) (40 : Int)))) (.int .i64 ((1 : Int) + (Int.tmod ((Int.tmod n4 (40 : Int)) + 40) (40 : Int))))) w15 = .ok ((.slice a42 l42 c42 : Value)) w19 ∧
  let w20 := World.alloc w19 (Obj.cells #[.slice none 0 0, .slice a36 l36 c36, .int .i64 n3] 61);
  CallR Try.prog 26 [.iface 58 (.pointer (some (Addr.mk w19.heap.size 0 none))), .slice a42 l42 c42] w20 (fun (r45 : Value) (w21 : World) =>
  ∃ (n43 : Int) (n44 : Int), r45 = .tuple #[.int .i64 n43, .int .i64 n44] ∧
  J35 [.int .i64 n43, .int .i64 n44] w21)))) ∧
  (∃ (a46 : Option Addr) (l46 : Nat) (c46 : Nat) (w22 : World), Sem.run Try.prog (Instr.makeSlice 36 (.int .i64 ((1 : Int) + (Int.tmod ((Int.tmod n4 (40 : Int)) + 40) (40 : Int)))) (.int .i64 ((1 : Int) + (Int.tmod ((Int.tmod n4 (40 : Int)) + 40) (40 : Int))))) w14 = .ok ((.slice a46 l46 c46 : Value)) w22 ∧
  CallR Try.prog 24 [.slice a2 l2 c2] w22 (fun (r48 : Value) (w23 : World) =>
  ∃ (a47 : Option Addr) (l47 : Nat) (c47 : Nat), r48 = .slice a47 l47 c47 ∧
  let w24 := World.alloc w23 (Obj.cells #[.slice none 0 0, .slice a47 l47 c47, .int .i64 n3] 61);
  CallR Try.prog 26 [.iface 58 (.pointer (some (Addr.mk w23.heap.size 0 none))), .slice a46 l46 c46] w24 (fun (r51 : Value) (w25 : World) =>
  ∃ (n49 : Int) (n50 : Int), r51 = .tuple #[.int .i64 n49, .int .i64 n50] ∧
  J35 [.int .i64 n49, .int .i64 n50] w25)))) ∧
  (∀ (_ : Env) (n52 : Int) (n53 : Int) (w26 : World), J35 [.int .i64 n52, .int .i64 n53] w26 →
  ∃ (J54 : List Value → World → Prop),
  (∃ (I55 : List Value → World → Prop) (mu56 : List Value → World → Nat),
  I55 [.int .i64 0, .int .i64 0] w26 ∧
  ∀ (_ : Env) (n57 : Int) (n58 : Int) (w27 : World), I55 [.int .i64 n57, .int .i64 n58] w27 →
  cond (decide (n58 < (((l2 : Nat) : Int))))
  (cond (decide (n58 < 4000))
  ((0 ≤ (n58 : Int) ∧ (n58 : Int) < ((l2 : Nat) : Int)) ∧
  nn a2 (fun (q59 : Addr) =>
  ∃ (n60 : Int), w27.cell? (Addr.add q59 (Int.toNat n58)) = some ((.int .i64 n60 : Value)) ∧
  cond (decide (n60 < 0))
  (cond (n52 == n57)
  (CallR Try.prog 25 [.int .i64 n53] w27 (fun (r62 : Value) (w28 : World) =>
  ∃ (n61 : Int), r62 = .int .i64 n61 ∧
  Q (.bool (n61 == 82)) w28))
  (Q (.bool false) w27))
  ((0 ≤ (n58 : Int) ∧ (n58 : Int) < ((l2 : Nat) : Int)) ∧
  nn a2 (fun (q63 : Addr) =>
  ∃ (n64 : Int), w27.cell? (Addr.add q63 (Int.toNat n58)) = some ((.int .i64 n64 : Value)) ∧
  inI (((1 : Int) + (Int.tmod ((Int.tmod n4 (40 : Int)) + 40) (40 : Int))) - n57) ∧
  cond (decide (n64 > (((1 : Int) + (Int.tmod ((Int.tmod n4 (40 : Int)) + 40) (40 : Int))) - n57)))
  (cond (n52 == n57)
  (CallR Try.prog 25 [.int .i64 n53] w27 (fun (r66 : Value) (w29 : World) =>
  ∃ (n65 : Int), r66 = .int .i64 n65 ∧
  Q (.bool (n65 == 82)) w29))
  (Q (.bool false) w27))
  ((0 ≤ (n58 : Int) ∧ (n58 : Int) < ((l2 : Nat) : Int)) ∧
  nn a2 (fun (q67 : Addr) =>
  ∃ (n68 : Int), w27.cell? (Addr.add q67 (Int.toNat n58)) = some ((.int .i64 n68 : Value)) ∧
  inI (n57 + n68) ∧
  cond ((n57 + n68) == ((1 : Int) + (Int.tmod ((Int.tmod n4 (40 : Int)) + 40) (40 : Int))))
  (cond (n52 == ((1 : Int) + (Int.tmod ((Int.tmod n4 (40 : Int)) + 40) (40 : Int))))
  (CallR Try.prog 25 [.int .i64 n53] w27 (fun (r70 : Value) (w30 : World) =>
  ∃ (n69 : Int), r70 = .int .i64 n69 ∧
  Q (.bool (n69 == 0)) w30))
  (Q (.bool false) w27))
  (inI (n58 + 1) ∧
  I55 [.int .i64 (n57 + n68), .int .i64 (n58 + 1)] w27 ∧ mu56 [.int .i64 (n57 + n68), .int .i64 (n58 + 1)] w27 < mu56 [.int .i64 n57, .int .i64 n58] w27)))))))
  (J54 [.int .i64 n57] w27))
  (J54 [.int .i64 n57] w27)) ∧
  (∀ (_ : Env) (n71 : Int) (w31 : World), J54 [.int .i64 n71] w31 →
  cond (decide ((((l2 : Nat) : Int)) > 4000))
  (Q (.bool true) w31)
  (cond b17
  (cond (n52 == n71)
  (CallR Try.prog 25 [.int .i64 n53] w31 (fun (r73 : Value) (w32 : World) =>
  ∃ (n72 : Int), r73 = .int .i64 n72 ∧
  Q (.bool (n72 == 81)) w32))
  (Q (.bool false) w31))
  (CallR Try.prog 25 [.int .i64 n3] w31 (fun (r75 : Value) (w33 : World) =>
  ∃ (n74 : Int), r75 = .int .i64 n74 ∧
  cond (n74 == 0)
  (cond (n52 == n71)
  (CallR Try.prog 25 [.int .i64 n53] w33 (fun (r77 : Value) (w34 : World) =>
  ∃ (n76 : Int), r77 = .int .i64 n76 ∧
  Q (.bool (n76 == 81)) w34))
  (Q (.bool false) w33))
  (cond (n52 == n71)
  (Q (.bool (n53 == n3)) w33)
  (Q (.bool false) w33)))))))))))))
theorem C5 {a1 : Option Addr} {l1 : Nat} {c1 : Nat} {a2 : Option Addr} {l2 : Nat} {c2 : Nat} {n3 : Int} {n4 : Int} {Q : Value → World → Prop} {w : World} (h : L5 a1 l1 c1 a2 l2 c2 n3 n4 Q w) : CallR Try.prog 5 [.slice a1 l1 c1, .slice a2 l2 c2, .int .i64 n3, .int .i64 n4] w Q :=
  fun_calls (A := A5) mixed Try.func5 (c := (Try.f5.body).getD .skip) rfl (by kernel_rfl) (Eq.mp (by kernel_rfl) h)

end Go.Proofs.Ytkjmlbplmffekaa
