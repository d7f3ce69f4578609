/-
  What some functions of the program ask of the world, printed by a program out of the loaded program; each text is held against the code by evaluation. Conditions: none.
-/
import Derived.Test.YtkjmlbplmffekaaProg
import Derived.Test.YtkjmlbplmffekaaLm
import Derived.Test.YtkjmlbplmffekaaLX
import Derived.Test.YtkjmlbplmffekaaRfC
set_option linter.unusedVariables false
set_option maxRecDepth 100000
namespace Go.Proofs.Ytkjmlbplmffekaa
open Go.Lw
/-- millrace/millracelaw06.KernPieces -/
def A4 : Ann := ⟨[(13, [(15, .one (.slice)), (16, .one (.int .i64))]), (21, [(19, .one (.int .i64)), (20, .one (.int .i64))])], [(18, []), (26, []), (27, [])], [], [], [], []⟩
def L4 (a1 : Option Addr) (l1 : Nat) (c1 : Nat) (a2 : Option Addr) (l2 : Nat) (c2 : Nat) (a3 : Option Addr) (l3 : Nat) (c3 : Nat) (n4 : Int) (Q : Value → World → Prop) (w : World) : Prop :=
  CallR Try.prog 7 [] w (fun (r6 : Value) (w1 : World) =>
  ∃ (b5 : Bool), r6 = .bool b5 ∧
  cond (!b5)
  (Q (.bool false) w1)
  (let w2 := World.alloc w1 (Obj.cells #[.string (ByteArray.mk #[102]), .slice a1 l1 c1] 52);
  CallR Try.prog 8 [.agg #[.slice (some (Addr.mk w1.heap.size 0 none)) 1 1, .slice none 0 0, .slice a3 l3 c3]] w2 (fun (r9 : Value) (w3 : World) =>
  ∃ (p7 : Option Addr) (n8 : Int), r9 = .tuple #[.pointer p7, .int .i64 n8] ∧
  CallR Try.prog 10 [.int .i64 n8] w3 (fun (r11 : Value) (w4 : World) =>
  ∃ (n10 : Int), r11 = .int .i64 n10 ∧
  cond (n10 != 0)
  (Q (.bool (Option.isNone p7)) w4)
  (cond (Option.isNone p7)
  (Q (.bool (Option.isNone p7)) w4)
  (CallR Try.prog 11 [.pointer p7, .string (ByteArray.mk #[102]), .int .i64 1] w4 (fun (r14 : Value) (w5 : World) =>
  ∃ (n12 : Int) (n13 : Int), r14 = .tuple #[.int .i64 n12, .int .i64 n13] ∧
  CallR Try.prog 11 [.pointer p7, .string (ByteArray.mk #[103]), .int .i64 10] w5 (fun (r17 : Value) (w6 : World) =>
  ∃ (n15 : Int) (n16 : Int), r17 = .tuple #[.int .i64 n15, .int .i64 n16] ∧
  CallR Try.prog 10 [.int .i64 n13] w6 (fun (r19 : Value) (w7 : World) =>
  ∃ (n18 : Int), r19 = .int .i64 n18 ∧
  CallR Try.prog 10 [.int .i64 n16] w7 (fun (r21 : Value) (w8 : World) =>
  ∃ (n20 : Int), r21 = .int .i64 n20 ∧
  inI (n18 + n20) ∧
  cond ((n18 + n20) != 0)
  (Q (.bool false) w8)
  ((16 : Int) ≠ 0 ∧
  inI ((Int.tmod n4 (16 : Int)) + 16) ∧
  (16 : Int) ≠ 0 ∧
  inI ((1 : Int) + (Int.tmod ((Int.tmod n4 (16 : Int)) + 16) (16 : Int))) ∧
  ∃ (I22 : List Value → World → Prop) (mu23 : List Value → World → Nat),
  I22 [.slice none 0 0, .int .i64 0] w8 ∧
  ∀ (_ : Env) (a24 : Option Addr) (l24 : Nat) (c24 : Nat) (n25 : Int) (w9 : World), I22 [.slice a24 l24 c24, .int .i64 n25] w9 →
  inI ((((l1 : Nat) : Int)) + (((l3 : Nat) : Int))) ∧
  cond (decide (n25 ≤ ((((l1 : Nat) : Int)) + (((l3 : Nat) : Int)))))
  (CallR Try.prog 13 [.pointer p7, .int .i64 n12, .int .i64 ((1 : Int) + (Int.tmod ((Int.tmod n4 (16 : Int)) + 16) (16 : Int)))] w9 (fun (r28 : Value) (w10 : World) =>
  ∃ (a26 : Option Addr) (l26 : Nat) (c26 : Nat) (n27 : Int), r28 = .tuple #[.slice a26 l26 c26, .int .i64 n27] ∧
  ∃ (J29 : List Value → World → Prop),
  (CallR Try.prog 10 [.int .i64 n27] w10 (fun (r31 : Value) (w11 : World) =>
  ∃ (n30 : Int), r31 = .int .i64 n30 ∧
  cond (n30 != 0)
  (CallR Try.prog 10 [.int .i64 n27] w11 (fun (r33 : Value) (w12 : World) =>
  ∃ (n32 : Int), r33 = .int .i64 n32 ∧
  cond (n32 != 22)
  (CallR Try.prog 10 [.int .i64 n27] w12 (fun (r35 : Value) (w13 : World) =>
  ∃ (n34 : Int), r35 = .int .i64 n34 ∧
  cond (n34 != 23)
  (Q (.bool false) w13)
  (cond (decide ((((l26 : Nat) : Int)) > ((1 : Int) + (Int.tmod ((Int.tmod n4 (16 : Int)) + 16) (16 : Int)))))
  (Q (.bool false) w13)
  (J29 [] w13))))
  (cond (decide ((((l26 : Nat) : Int)) > ((1 : Int) + (Int.tmod ((Int.tmod n4 (16 : Int)) + 16) (16 : Int)))))
  (Q (.bool false) w12)
  (J29 [] w12))))
  (cond (decide ((((l26 : Nat) : Int)) > ((1 : Int) + (Int.tmod ((Int.tmod n4 (16 : Int)) + 16) (16 : Int)))))
  (Q (.bool false) w11)
  (J29 [] w11)))) ∧
  (∀ (_ : Env) (w14 : World), J29 [] w14 →
  ∃ (a36 : Option Addr) (l36 : Nat) (c36 : Nat) (w15 : World), Sem.run Try.prog (Builtin.append_ #[36, 36] 36 #[.slice a24 l24 c24, .slice a26 l26 c26]) w14 = .ok ((.slice a36 l36 c36 : Value)) w15 ∧
  inI (n25 + 1) ∧
  I22 [.slice a36 l36 c36, .int .i64 (n25 + 1)] w15 ∧ mu23 [.slice a36 l36 c36, .int .i64 (n25 + 1)] w15 < mu23 [.slice a24 l24 c24, .int .i64 n25] w9)))
  (∃ (J37 : List Value → World → Prop),
  (∃ (I38 : List Value → World → Prop) (mu39 : List Value → World → Nat),
  I38 [.int .i64 0, .int .i64 0] w9 ∧
  ∀ (_ : Env) (n40 : Int) (n41 : Int) (w16 : World), I38 [.int .i64 n40, .int .i64 n41] w16 →
  inI ((((l2 : Nat) : Int)) + (((l3 : Nat) : Int))) ∧
  cond (decide (n41 ≤ ((((l2 : Nat) : Int)) + (((l3 : Nat) : Int)))))
  (cond (decide (n40 < (((l2 : Nat) : Int))))
  (cond (decide ((((l2 : Nat) : Int)) ≤ 1048576))
  ((0 ≤ (n40 : Int) ∧ (n40 : Int) ≤ ((l2 : Nat) : Int)) ∧
  CallR Try.prog 14 [.pointer p7, .int .i64 n15, .slice (adv a2 (Int.toNat n40) c2 1) (l2 - Int.toNat n40) (c2 - Int.toNat n40)] w16 (fun (r44 : Value) (w17 : World) =>
  ∃ (n42 : Int) (n43 : Int), r44 = .tuple #[.int .i64 n42, .int .i64 n43] ∧
  ∃ (J45 : List Value → World → Prop),
  (CallR Try.prog 10 [.int .i64 n43] w17 (fun (r47 : Value) (w18 : World) =>
  ∃ (n46 : Int), r47 = .int .i64 n46 ∧
  cond (n46 != 0)
  (CallR Try.prog 10 [.int .i64 n43] w18 (fun (r49 : Value) (w19 : World) =>
  ∃ (n48 : Int), r49 = .int .i64 n48 ∧
  cond (n48 != 22)
  (CallR Try.prog 10 [.int .i64 n43] w19 (fun (r51 : Value) (w20 : World) =>
  ∃ (n50 : Int), r51 = .int .i64 n50 ∧
  cond (n50 != 23)
  (Q (.bool false) w20)
  (cond (decide (n42 < 0))
  (Q (.bool false) w20)
  (inI ((((l2 : Nat) : Int)) - n40) ∧
  cond (decide (n42 > ((((l2 : Nat) : Int)) - n40)))
  (Q (.bool false) w20)
  (J45 [] w20)))))
  (cond (decide (n42 < 0))
  (Q (.bool false) w19)
  (inI ((((l2 : Nat) : Int)) - n40) ∧
  cond (decide (n42 > ((((l2 : Nat) : Int)) - n40)))
  (Q (.bool false) w19)
  (J45 [] w19)))))
  (cond (decide (n42 < 0))
  (Q (.bool false) w18)
  (inI ((((l2 : Nat) : Int)) - n40) ∧
  cond (decide (n42 > ((((l2 : Nat) : Int)) - n40)))
  (Q (.bool false) w18)
  (J45 [] w18))))) ∧
  (∀ (_ : Env) (w21 : World), J45 [] w21 →
  inI (n40 + n42) ∧
  inI (n41 + 1) ∧
  I38 [.int .i64 (n40 + n42), .int .i64 (n41 + 1)] w21 ∧ mu39 [.int .i64 (n40 + n42), .int .i64 (n41 + 1)] w21 < mu39 [.int .i64 n40, .int .i64 n41] w16)))
  (J37 [] w16))
  (J37 [] w16))
  (J37 [] w16)) ∧
  (∀ (_ : Env) (w22 : World), J37 [] w22 →
  cond (decide ((((l2 : Nat) : Int)) > 1048576))
  (CallR Try.prog 20 [.slice a24 l24 c24, .slice a1 l1 c1] w22 (fun (r53 : Value) (w23 : World) =>
  ∃ (b52 : Bool), r53 = .bool b52 ∧
  Q (.bool b52) w23))
  (CallR Try.prog 21 [.pointer p7] w22 (fun (r55 : Value) (w24 : World) =>
  ∃ (a54 : Option Addr) (l54 : Nat) (c54 : Nat), r55 = .slice a54 l54 c54 ∧
  CallR Try.prog 20 [.slice a24 l24 c24, .slice a1 l1 c1] w24 (fun (r57 : Value) (w25 : World) =>
  ∃ (b56 : Bool), r57 = .bool b56 ∧
  cond b56
  (cond ((((l54 : Nat) : Int)) == 2)
  ((0 ≤ (1 : Int) ∧ (1 : Int) < ((l54 : Nat) : Int)) ∧
  nn a54 (fun (q58 : Addr) =>
  ∃ (a59 : Option Addr) (l59 : Nat) (c59 : Nat), w25.cell? (Addr.add (Addr.add q58 (Int.toNat 1 * 2)) 1) = some ((.slice a59 l59 c59 : Value)) ∧
  CallR Try.prog 20 [.slice a59 l59 c59, .slice a2 l2 c2] w25 (fun (r61 : Value) (w26 : World) =>
  ∃ (b60 : Bool), r61 = .bool b60 ∧
  Q (.bool b60) w26)))
  (Q (.bool false) w25))
  (Q (.bool false) w25)))))))))))))))))
theorem C4 {a1 : Option Addr} {l1 : Nat} {c1 : Nat} {a2 : Option Addr} {l2 : Nat} {c2 : Nat} {a3 : Option Addr} {l3 : Nat} {c3 : Nat} {n4 : Int} {Q : Value → World → Prop} {w : World} (h : L4 a1 l1 c1 a2 l2 c2 a3 l3 c3 n4 Q w) : CallR Try.prog 4 [.slice a1 l1 c1, .slice a2 l2 c2, .slice a3 l3 c3, .int .i64 n4] w Q :=
  fun_calls (A := A4) mixed Try.func4 (c := (Try.f4.body).getD .skip) rfl (by kernel_rfl) (Eq.mp (by kernel_rfl) h)

end Go.Proofs.Ytkjmlbplmffekaa
