/-
  What some functions of the program ask of the world, printed by a program out of the loaded program; each text is held against the code by evaluation. Conditions: none.
-/
import Derived.Test.YtbiofmgebbdflaaProg
import Derived.Test.YtbiofmgebbdflaaLm
import Derived.Test.YtbiofmgebbdflaaLX
import Derived.Test.YtbiofmgebbdflaaRfC
set_option linter.unusedVariables false
set_option maxRecDepth 100000
namespace Go.Proofs.Ytbiofmgebbdflaa
open Go.Lw
/-- millrace/millracelaw06.KernPlace -/
def A7 : Ann := ⟨[(12, [(13, .one (.slice)), (14, .one (.int .i64))])], [], [], [], []⟩
def L7 (a1 : Option Addr) (l1 : Nat) (c1 : Nat) (a2 : Option Addr) (l2 : Nat) (c2 : Nat) (a3 : Option Addr) (l3 : Nat) (c3 : Nat) (Q : Value → World → Prop) (w : World) : Prop :=
  CallR Try.prog 38 [] w (fun (r5 : Value) (w1 : World) =>
  ∃ (b4 : Bool), r5 = .bool b4 ∧
  cond (!b4)
  (Q (.bool false) w1)
  (let w2 := World.alloc w1 (Obj.cells #[.string (ByteArray.mk #[102]), .slice a1 l1 c1] 48);
  CallR Try.prog 16 [.agg #[.slice (some (Addr.mk w1.heap.size 0 none)) 1 1, .slice none 0 0, .slice none 0 0]] w2 (fun (r8 : Value) (w3 : World) =>
  ∃ (p6 : Option Addr) (n7 : Int), r8 = .tuple #[.pointer p6, .int .i64 n7] ∧
  CallR Try.prog 39 [.int .i64 n7] w3 (fun (r10 : Value) (w4 : World) =>
  ∃ (n9 : Int), r10 = .int .i64 n9 ∧
  cond (n9 != 0)
  (cond (Option.isNone p6)
  (Q (.bool (decide ((((l1 : Nat) : Int)) > 1048576))) w4)
  (Q (.bool false) w4))
  (cond (Option.isNone p6)
  (cond (Option.isNone p6)
  (Q (.bool (decide ((((l1 : Nat) : Int)) > 1048576))) w4)
  (Q (.bool false) w4))
  (CallR Try.prog 30 [.pointer p6, .string (ByteArray.mk #[102]), .int .i64 1] w4 (fun (r13 : Value) (w5 : World) =>
  ∃ (n11 : Int) (n12 : Int), r13 = .tuple #[.int .i64 n11, .int .i64 n12] ∧
  CallR Try.prog 30 [.pointer p6, .string (ByteArray.mk #[102]), .int .i64 3] w5 (fun (r16 : Value) (w6 : World) =>
  ∃ (n14 : Int) (n15 : Int), r16 = .tuple #[.int .i64 n14, .int .i64 n15] ∧
  CallR Try.prog 39 [.int .i64 n12] w6 (fun (r18 : Value) (w7 : World) =>
  ∃ (n17 : Int), r18 = .int .i64 n17 ∧
  CallR Try.prog 39 [.int .i64 n15] w7 (fun (r20 : Value) (w8 : World) =>
  ∃ (n19 : Int), r20 = .int .i64 n19 ∧
  inI (n17 + n19) ∧
  CallR Try.prog 40 [.pointer p6, .int .i64 n11] w8 (fun (r22 : Value) (w9 : World) =>
  ∃ (n21 : Int), r22 = .int .i64 n21 ∧
  CallR Try.prog 39 [.int .i64 n21] w9 (fun (r24 : Value) (w10 : World) =>
  ∃ (n23 : Int), r24 = .int .i64 n23 ∧
  inI ((n17 + n19) + n23) ∧
  cond (((n17 + n19) + n23) != 0)
  (Q (.bool false) w10)
  (∃ (I25 : List Value → World → Prop) (mu26 : List Value → World → Nat),
  I25 [.slice none 0 0, .int .i64 0] w10 ∧
  ∀ (_ : Env) (a27 : Option Addr) (l27 : Nat) (c27 : Nat) (n28 : Int) (w11 : World), I25 [.slice a27 l27 c27, .int .i64 n28] w11 →
  cond (decide (n28 < (((l2 : Nat) : Int))))
  ((0 ≤ (n28 : Int) ∧ (n28 : Int) < ((l2 : Nat) : Int)) ∧
  nn a2 (fun (q29 : Addr) =>
  ∃ (n30 : Int), w11.cell? (Addr.add q29 (Int.toNat n28)) = some ((.int .i64 n30 : Value)) ∧
  (9 : Int) ≠ 0 ∧
  inI ((Int.tmod n30 (9 : Int)) + 9) ∧
  (9 : Int) ≠ 0 ∧
  inI ((1 : Int) + (Int.tmod ((Int.tmod n30 (9 : Int)) + 9) (9 : Int))) ∧
  CallR Try.prog 19 [.pointer p6, .int .i64 n11, .int .i64 ((1 : Int) + (Int.tmod ((Int.tmod n30 (9 : Int)) + 9) (9 : Int)))] w11 (fun (r33 : Value) (w12 : World) =>
  ∃ (a31 : Option Addr) (l31 : Nat) (c31 : Nat) (n32 : Int), r33 = .tuple #[.slice a31 l31 c31, .int .i64 n32] ∧
  CallR Try.prog 39 [.int .i64 n32] w12 (fun (r35 : Value) (w13 : World) =>
  ∃ (n34 : Int), r35 = .int .i64 n34 ∧
  cond (n34 != 0)
  (Q (.bool false) w13)
  (∃ (a36 : Option Addr) (l36 : Nat) (c36 : Nat) (w14 : World), Sem.run Try.prog (Builtin.append_ #[36, 36] 36 #[.slice a27 l27 c27, .slice a31 l31 c31]) w13 = .ok ((.slice a36 l36 c36 : Value)) w14 ∧
  inI (n28 + 1) ∧
  I25 [.slice a36 l36 c36, .int .i64 (n28 + 1)] w14 ∧ mu26 [.slice a36 l36 c36, .int .i64 (n28 + 1)] w14 < mu26 [.slice a27 l27 c27, .int .i64 n28] w11)))))
  (cond (decide ((((l27 : Nat) : Int)) > (((l1 : Nat) : Int))))
  (Q (.bool false) w11)
  ((0 ≤ (((l27 : Nat) : Int) : Int) ∧ (((l27 : Nat) : Int) : Int) ≤ ((c1 : Nat) : Int)) ∧
  CallR Try.prog 22 [.slice a27 l27 c27, .slice a1 (Int.toNat (((l27 : Nat) : Int))) c1] w11 (fun (r38 : Value) (w15 : World) =>
  ∃ (b37 : Bool), r38 = .bool b37 ∧
  cond (!b37)
  (Q (.bool false) w15)
  (cond (decide ((((l2 : Nat) : Int)) > (((l1 : Nat) : Int))))
  (cond (decide ((((l27 : Nat) : Int)) < (((l1 : Nat) : Int))))
  (Q (.bool false) w15)
  (CallR Try.prog 20 [.pointer p6, .int .i64 n14, .slice a3 l3 c3] w15 (fun (r41 : Value) (w16 : World) =>
  ∃ (n39 : Int) (n40 : Int), r41 = .tuple #[.int .i64 n39, .int .i64 n40] ∧
  cond ((((l3 : Nat) : Int)) == 0)
  (Q (.bool (n39 == 0)) w16)
  (cond (decide ((((l3 : Nat) : Int)) > 1048576))
  (Q (.bool (n39 == 0)) w16)
  (CallR Try.prog 41 [.pointer p6, .int .i64 n11, .int .i64 0, .int .i64 0] w16 (fun (r44 : Value) (w17 : World) =>
  ∃ (n42 : Int) (n43 : Int), r44 = .tuple #[.int .i64 n42, .int .i64 n43] ∧
  CallR Try.prog 19 [.pointer p6, .int .i64 n11, .int .i64 (((l3 : Nat) : Int))] w17 (fun (r47 : Value) (w18 : World) =>
  ∃ (a45 : Option Addr) (l45 : Nat) (c45 : Nat) (n46 : Int), r47 = .tuple #[.slice a45 l45 c45, .int .i64 n46] ∧
  CallR Try.prog 39 [.int .i64 n40] w18 (fun (r49 : Value) (w19 : World) =>
  ∃ (n48 : Int), r49 = .int .i64 n48 ∧
  CallR Try.prog 39 [.int .i64 n43] w19 (fun (r51 : Value) (w20 : World) =>
  ∃ (n50 : Int), r51 = .int .i64 n50 ∧
  inI (n48 + n50) ∧
  CallR Try.prog 39 [.int .i64 n46] w20 (fun (r53 : Value) (w21 : World) =>
  ∃ (n52 : Int), r53 = .int .i64 n52 ∧
  inI ((n48 + n50) + n52) ∧
  cond (((n48 + n50) + n52) == 0)
  (cond (n39 == (((l3 : Nat) : Int)))
  (cond (n42 == 0)
  (CallR Try.prog 22 [.slice a45 l45 c45, .slice a3 l3 c3] w21 (fun (r55 : Value) (w22 : World) =>
  ∃ (b54 : Bool), r55 = .bool b54 ∧
  Q (.bool b54) w22))
  (Q (.bool false) w21))
  (Q (.bool false) w21))
  (Q (.bool false) w21)))))))))))
  (CallR Try.prog 20 [.pointer p6, .int .i64 n14, .slice a3 l3 c3] w15 (fun (r58 : Value) (w23 : World) =>
  ∃ (n56 : Int) (n57 : Int), r58 = .tuple #[.int .i64 n56, .int .i64 n57] ∧
  cond ((((l3 : Nat) : Int)) == 0)
  (Q (.bool (n56 == 0)) w23)
  (cond (decide ((((l3 : Nat) : Int)) > 1048576))
  (Q (.bool (n56 == 0)) w23)
  (CallR Try.prog 41 [.pointer p6, .int .i64 n11, .int .i64 0, .int .i64 0] w23 (fun (r61 : Value) (w24 : World) =>
  ∃ (n59 : Int) (n60 : Int), r61 = .tuple #[.int .i64 n59, .int .i64 n60] ∧
  CallR Try.prog 19 [.pointer p6, .int .i64 n11, .int .i64 (((l3 : Nat) : Int))] w24 (fun (r64 : Value) (w25 : World) =>
  ∃ (a62 : Option Addr) (l62 : Nat) (c62 : Nat) (n63 : Int), r64 = .tuple #[.slice a62 l62 c62, .int .i64 n63] ∧
  CallR Try.prog 39 [.int .i64 n57] w25 (fun (r66 : Value) (w26 : World) =>
  ∃ (n65 : Int), r66 = .int .i64 n65 ∧
  CallR Try.prog 39 [.int .i64 n60] w26 (fun (r68 : Value) (w27 : World) =>
  ∃ (n67 : Int), r68 = .int .i64 n67 ∧
  inI (n65 + n67) ∧
  CallR Try.prog 39 [.int .i64 n63] w27 (fun (r70 : Value) (w28 : World) =>
  ∃ (n69 : Int), r70 = .int .i64 n69 ∧
  inI ((n65 + n67) + n69) ∧
  cond (((n65 + n67) + n69) == 0)
  (cond (n56 == (((l3 : Nat) : Int)))
  (cond (n59 == 0)
  (CallR Try.prog 22 [.slice a62 l62 c62, .slice a3 l3 c3] w28 (fun (r72 : Value) (w29 : World) =>
  ∃ (b71 : Bool), r72 = .bool b71 ∧
  Q (.bool b71) w29))
  (Q (.bool false) w28))
  (Q (.bool false) w28))
  (Q (.bool false) w28)))))))))))))))))))))))))))
theorem C7 {a1 : Option Addr} {l1 : Nat} {c1 : Nat} {a2 : Option Addr} {l2 : Nat} {c2 : Nat} {a3 : Option Addr} {l3 : Nat} {c3 : Nat} {Q : Value → World → Prop} {w : World} (h : L7 a1 l1 c1 a2 l2 c2 a3 l3 c3 Q w) : CallR Try.prog 7 [.slice a1 l1 c1, .slice a2 l2 c2, .slice a3 l3 c3] w Q :=
  fun_calls (A := A7) mixed Try.func7 (c := (Try.f7.body).getD .skip) rfl (by kernel_rfl) (Eq.mp (by kernel_rfl) h)

end Go.Proofs.Ytbiofmgebbdflaa
