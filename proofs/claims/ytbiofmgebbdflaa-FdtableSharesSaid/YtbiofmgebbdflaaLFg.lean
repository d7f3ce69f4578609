/-
  What some functions of the program ask of the world, printed by a program out of the loaded program; each text is held against the code by evaluation. Conditions: none.
-/
import Derived.Test.YtbiofmgebbdflaaProg
import Derived.Test.YtbiofmgebbdflaaLm
import Derived.Test.YtbiofmgebbdflaaLX
import Derived.Test.YtbiofmgebbdflaaRfC
set_option linter.unusedVariables false
set_option maxRecDepth 100000
namespace Go.Proofs.Ytbiofmgebbdflaa
open Go.Lw
/-- millrace/millracelaw07.FdtableShares -/
def A8 : Ann := ⟨[(15, [(14, .one (.slice)), (15, .one (.int .i64))])], [], [], [], []⟩
def L8 (a1 : Option Addr) (l1 : Nat) (c1 : Nat) (a2 : Option Addr) (l2 : Nat) (c2 : Nat) (Q : Value → World → Prop) (w : World) : Prop :=
  CallR Try.prog 23 [] w (fun (r4 : Value) (w1 : World) =>
  ∃ (b3 : Bool), r4 = .bool b3 ∧
  cond (!b3)
  (Q (.bool false) w1)
  (let w2 := World.alloc w1 (Obj.cells #[.string (ByteArray.mk #[102]), .slice a1 l1 c1] 48);
  CallR Try.prog 16 [.agg #[.slice (some (Addr.mk w1.heap.size 0 none)) 1 1, .slice none 0 0, .slice none 0 0]] w2 (fun (r7 : Value) (w3 : World) =>
  ∃ (p5 : Option Addr) (n6 : Int), r7 = .tuple #[.pointer p5, .int .i64 n6] ∧
  CallR Try.prog 24 [.pointer p5] w3 (fun (r9 : Value) (w4 : World) =>
  ∃ (p8 : Option Addr), r9 = .pointer p8 ∧
  CallR Try.prog 25 [.int .i64 n6] w4 (fun (r11 : Value) (w5 : World) =>
  ∃ (n10 : Int), r11 = .int .i64 n10 ∧
  cond (n10 != 0)
  (Q (.bool (decide ((((l1 : Nat) : Int)) > 1048576))) w5)
  (cond (Option.isNone p8)
  (Q (.bool (decide ((((l1 : Nat) : Int)) > 1048576))) w5)
  (CallR Try.prog 27 [.pointer p8, .string (ByteArray.mk #[102]), .int .i64 1] w5 (fun (r14 : Value) (w6 : World) =>
  ∃ (n12 : Int) (n13 : Int), r14 = .tuple #[.int .i64 n12, .int .i64 n13] ∧
  CallR Try.prog 42 [.pointer p8, .int .i64 n12] w6 (fun (r17 : Value) (w7 : World) =>
  ∃ (n15 : Int) (n16 : Int), r17 = .tuple #[.int .i64 n15, .int .i64 n16] ∧
  CallR Try.prog 43 [.pointer p8, .int .i64 n12, .int .i64 60] w7 (fun (r19 : Value) (w8 : World) =>
  ∃ (n18 : Int), r19 = .int .i64 n18 ∧
  CallR Try.prog 44 [.pointer p8] w8 (fun (r21 : Value) (w9 : World) =>
  ∃ (p20 : Option Addr), r21 = .pointer p20 ∧
  CallR Try.prog 25 [.int .i64 n18] w9 (fun (r23 : Value) (w10 : World) =>
  ∃ (n22 : Int), r23 = .int .i64 n22 ∧
  cond (n22 != 0)
  (Q (.bool false) w10)
  (cond (Option.isNone p20)
  (Q (.bool false) w10)
  (∃ (I24 : List Value → World → Prop) (mu25 : List Value → World → Nat),
  I24 [.slice none 0 0, .int .i64 0] w10 ∧
  ∀ (_ : Env) (a26 : Option Addr) (l26 : Nat) (c26 : Nat) (n27 : Int) (w11 : World), I24 [.slice a26 l26 c26, .int .i64 n27] w11 →
  cond (decide (n27 < (((l2 : Nat) : Int))))
  ((0 ≤ (n27 : Int) ∧ (n27 : Int) < ((l2 : Nat) : Int)) ∧
  nn a2 (fun (q28 : Addr) =>
  ∃ (n29 : Int), w11.cell? (Addr.add q28 (Int.toNat n27)) = some ((.int .i64 n29 : Value)) ∧
  (7 : Int) ≠ 0 ∧
  inI ((Int.tmod n29 (7 : Int)) + 7) ∧
  (7 : Int) ≠ 0 ∧
  inI ((1 : Int) + (Int.tmod ((Int.tmod n29 (7 : Int)) + 7) (7 : Int))) ∧
  (4 : Int) ≠ 0 ∧
  cond ((Int.tmod n27 (4 : Int)) == 0)
  (CallR Try.prog 45 [.pointer p8, .int .i64 n12, .int .i64 ((1 : Int) + (Int.tmod ((Int.tmod n29 (7 : Int)) + 7) (7 : Int)))] w11 (fun (r32 : Value) (w12 : World) =>
  ∃ (a30 : Option Addr) (l30 : Nat) (c30 : Nat) (n31 : Int), r32 = .tuple #[.slice a30 l30 c30, .int .i64 n31] ∧
  ∃ (a33 : Option Addr) (l33 : Nat) (c33 : Nat) (w13 : World), Sem.run Try.prog (Builtin.append_ #[36, 36] 36 #[.slice a26 l26 c26, .slice a30 l30 c30]) w12 = .ok ((.slice a33 l33 c33 : Value)) w13 ∧
  inI (n27 + 1) ∧
  I24 [.slice a33 l33 c33, .int .i64 (n27 + 1)] w13 ∧ mu25 [.slice a33 l33 c33, .int .i64 (n27 + 1)] w13 < mu25 [.slice a26 l26 c26, .int .i64 n27] w11))
  (cond ((Int.tmod n27 (4 : Int)) == 1)
  (CallR Try.prog 45 [.pointer p8, .int .i64 n15, .int .i64 ((1 : Int) + (Int.tmod ((Int.tmod n29 (7 : Int)) + 7) (7 : Int)))] w11 (fun (r36 : Value) (w14 : World) =>
  ∃ (a34 : Option Addr) (l34 : Nat) (c34 : Nat) (n35 : Int), r36 = .tuple #[.slice a34 l34 c34, .int .i64 n35] ∧
  ∃ (a37 : Option Addr) (l37 : Nat) (c37 : Nat) (w15 : World), Sem.run Try.prog (Builtin.append_ #[36, 36] 36 #[.slice a26 l26 c26, .slice a34 l34 c34]) w14 = .ok ((.slice a37 l37 c37 : Value)) w15 ∧
  inI (n27 + 1) ∧
  I24 [.slice a37 l37 c37, .int .i64 (n27 + 1)] w15 ∧ mu25 [.slice a37 l37 c37, .int .i64 (n27 + 1)] w15 < mu25 [.slice a26 l26 c26, .int .i64 n27] w11))
  (cond ((Int.tmod n27 (4 : Int)) == 2)
  (CallR Try.prog 45 [.pointer p20, .int .i64 60, .int .i64 ((1 : Int) + (Int.tmod ((Int.tmod n29 (7 : Int)) + 7) (7 : Int)))] w11 (fun (r40 : Value) (w16 : World) =>
  ∃ (a38 : Option Addr) (l38 : Nat) (c38 : Nat) (n39 : Int), r40 = .tuple #[.slice a38 l38 c38, .int .i64 n39] ∧
  ∃ (a41 : Option Addr) (l41 : Nat) (c41 : Nat) (w17 : World), Sem.run Try.prog (Builtin.append_ #[36, 36] 36 #[.slice a26 l26 c26, .slice a38 l38 c38]) w16 = .ok ((.slice a41 l41 c41 : Value)) w17 ∧
  inI (n27 + 1) ∧
  I24 [.slice a41 l41 c41, .int .i64 (n27 + 1)] w17 ∧ mu25 [.slice a41 l41 c41, .int .i64 (n27 + 1)] w17 < mu25 [.slice a26 l26 c26, .int .i64 n27] w11))
  (cond ((Int.tmod n27 (4 : Int)) == 3)
  (CallR Try.prog 45 [.pointer p20, .int .i64 n15, .int .i64 ((1 : Int) + (Int.tmod ((Int.tmod n29 (7 : Int)) + 7) (7 : Int)))] w11 (fun (r44 : Value) (w18 : World) =>
  ∃ (a42 : Option Addr) (l42 : Nat) (c42 : Nat) (n43 : Int), r44 = .tuple #[.slice a42 l42 c42, .int .i64 n43] ∧
  ∃ (a45 : Option Addr) (l45 : Nat) (c45 : Nat) (w19 : World), Sem.run Try.prog (Builtin.append_ #[36, 36] 36 #[.slice a26 l26 c26, .slice a42 l42 c42]) w18 = .ok ((.slice a45 l45 c45 : Value)) w19 ∧
  inI (n27 + 1) ∧
  I24 [.slice a45 l45 c45, .int .i64 (n27 + 1)] w19 ∧ mu25 [.slice a45 l45 c45, .int .i64 (n27 + 1)] w19 < mu25 [.slice a26 l26 c26, .int .i64 n27] w11))
  (∃ (a46 : Option Addr) (l46 : Nat) (c46 : Nat) (w20 : World), Sem.run Try.prog (Builtin.append_ #[36, 36] 36 #[.slice a26 l26 c26, .slice none 0 0]) w11 = .ok ((.slice a46 l46 c46 : Value)) w20 ∧
  inI (n27 + 1) ∧
  I24 [.slice a46 l46 c46, .int .i64 (n27 + 1)] w20 ∧ mu25 [.slice a46 l46 c46, .int .i64 (n27 + 1)] w20 < mu25 [.slice a26 l26 c26, .int .i64 n27] w11))))))
  (cond (decide ((((l26 : Nat) : Int)) ≤ (((l1 : Nat) : Int))))
  ((0 ≤ (((l26 : Nat) : Int) : Int) ∧ (((l26 : Nat) : Int) : Int) ≤ ((c1 : Nat) : Int)) ∧
  CallR Try.prog 22 [.slice a26 l26 c26, .slice a1 (Int.toNat (((l26 : Nat) : Int))) c1] w11 (fun (r48 : Value) (w21 : World) =>
  ∃ (b47 : Bool), r48 = .bool b47 ∧
  cond b47
  (cond (decide ((((l2 : Nat) : Int)) ≤ (((l1 : Nat) : Int))))
  (Q (.bool true) w21)
  (Q (.bool ((((l26 : Nat) : Int)) == (((l1 : Nat) : Int)))) w21))
  (Q (.bool false) w21)))
  (Q (.bool false) w11))))))))))))))))
theorem C8 {a1 : Option Addr} {l1 : Nat} {c1 : Nat} {a2 : Option Addr} {l2 : Nat} {c2 : Nat} {Q : Value → World → Prop} {w : World} (h : L8 a1 l1 c1 a2 l2 c2 Q w) : CallR Try.prog 8 [.slice a1 l1 c1, .slice a2 l2 c2] w Q :=
  fun_calls (A := A8) mixed Try.func8 (c := (Try.f8.body).getD .skip) rfl (by kernel_rfl) (Eq.mp (by kernel_rfl) h)

end Go.Proofs.Ytbiofmgebbdflaa
