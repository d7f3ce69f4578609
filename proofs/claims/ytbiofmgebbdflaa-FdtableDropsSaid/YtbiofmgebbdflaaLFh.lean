/-
  What some functions of the program ask of the world, printed by a program out of the loaded program; each text is held against the code by evaluation. Conditions: none.
-/
import Derived.Test.YtbiofmgebbdflaaProg
import Derived.Test.YtbiofmgebbdflaaLm
import Derived.Test.YtbiofmgebbdflaaLX
import Derived.Test.YtbiofmgebbdflaaRfC
set_option linter.unusedVariables false
set_option maxRecDepth 100000
namespace Go.Proofs.Ytbiofmgebbdflaa
open Go.Lw
/-- millrace/millracelaw07.FdtableDrops -/
def A10 : Ann := ⟨[(15, [(18, .one (.slice)), (19, .one (.int .i64))]), (21, [(21, .one (.int .i64))]), (26, [(22, .one (.int .i64))])], [], [], [], []⟩
def L10 (n1 : Int) (a2 : Option Addr) (l2 : Nat) (c2 : Nat) (Q : Value → World → Prop) (w : World) : Prop :=
  CallR Try.prog 23 [] w (fun (r4 : Value) (w1 : World) =>
  ∃ (b3 : Bool), r4 = .bool b3 ∧
  cond (!b3)
  (Q (.bool false) w1)
  (CallR Try.prog 16 [.agg #[.slice none 0 0, .slice none 0 0, .slice none 0 0]] w1 (fun (r7 : Value) (w2 : World) =>
  ∃ (p5 : Option Addr) (n6 : Int), r7 = .tuple #[.pointer p5, .int .i64 n6] ∧
  CallR Try.prog 24 [.pointer p5] w2 (fun (r9 : Value) (w3 : World) =>
  ∃ (p8 : Option Addr), r9 = .pointer p8 ∧
  CallR Try.prog 24 [.pointer p5] w3 (fun (r11 : Value) (w4 : World) =>
  ∃ (p10 : Option Addr), r11 = .pointer p10 ∧
  CallR Try.prog 25 [.int .i64 n6] w4 (fun (r13 : Value) (w5 : World) =>
  ∃ (n12 : Int), r13 = .int .i64 n12 ∧
  cond (n12 != 0)
  (Q (.bool false) w5)
  (cond (Option.isNone p8)
  (Q (.bool false) w5)
  (cond (Option.isNone p10)
  (Q (.bool false) w5)
  (CallR Try.prog 51 [.pointer p8] w5 (fun (r17 : Value) (w6 : World) =>
  ∃ (n14 : Int) (n15 : Int) (n16 : Int), r17 = .tuple #[.int .i64 n14, .int .i64 n15, .int .i64 n16] ∧
  CallR Try.prog 52 [.pointer p8, .int .i64 n14] w6 (fun (r20 : Value) (w7 : World) =>
  ∃ (n18 : Int) (n19 : Int), r20 = .tuple #[.int .i64 n18, .int .i64 n19] ∧
  CallR Try.prog 53 [.pointer p10, .int .i64 n18] w7 (fun (r23 : Value) (w8 : World) =>
  ∃ (n21 : Int) (n22 : Int), r23 = .tuple #[.int .i64 n21, .int .i64 n22] ∧
  CallR Try.prog 52 [.pointer p8, .int .i64 n15] w8 (fun (r26 : Value) (w9 : World) =>
  ∃ (n24 : Int) (n25 : Int), r26 = .tuple #[.int .i64 n24, .int .i64 n25] ∧
  CallR Try.prog 25 [.int .i64 n16] w9 (fun (r28 : Value) (w10 : World) =>
  ∃ (n27 : Int), r28 = .int .i64 n27 ∧
  CallR Try.prog 25 [.int .i64 n19] w10 (fun (r30 : Value) (w11 : World) =>
  ∃ (n29 : Int), r30 = .int .i64 n29 ∧
  inI (n27 + n29) ∧
  CallR Try.prog 25 [.int .i64 n22] w11 (fun (r32 : Value) (w12 : World) =>
  ∃ (n31 : Int), r32 = .int .i64 n31 ∧
  inI ((n27 + n29) + n31) ∧
  CallR Try.prog 25 [.int .i64 n25] w12 (fun (r34 : Value) (w13 : World) =>
  ∃ (n33 : Int), r34 = .int .i64 n33 ∧
  inI (((n27 + n29) + n31) + n33) ∧
  cond ((((n27 + n29) + n31) + n33) != 0)
  (Q (.bool false) w13)
  (let w14 := World.alloc w13 (Obj.cells #[.pointer p8] 49);
  ∃ (I35 : List Value → World → Prop) (mu36 : List Value → World → Nat),
  I35 [.slice (some (Addr.mk w13.heap.size 0 none)) 1 1, .int .i64 0] w14 ∧
  ∀ (_ : Env) (a37 : Option Addr) (l37 : Nat) (c37 : Nat) (n38 : Int) (w15 : World), I35 [.slice a37 l37 c37, .int .i64 n38] w15 →
  (5 : Int) ≠ 0 ∧
  inI ((Int.tmod n1 (5 : Int)) + 5) ∧
  (5 : Int) ≠ 0 ∧
  cond (decide (n38 < (Int.tmod ((Int.tmod n1 (5 : Int)) + 5) (5 : Int))))
  (inI ((((l37 : Nat) : Int)) - 1) ∧
  (0 ≤ ((((l37 : Nat) : Int)) - 1 : Int) ∧ ((((l37 : Nat) : Int)) - 1 : Int) < ((l37 : Nat) : Int)) ∧
  nn a37 (fun (q39 : Addr) =>
  ∃ (p40 : Option Addr), w15.cell? (Addr.add q39 (Int.toNat ((((l37 : Nat) : Int)) - 1))) = some ((.pointer p40 : Value)) ∧
  CallR Try.prog 44 [.pointer p40] w15 (fun (r42 : Value) (w16 : World) =>
  ∃ (p41 : Option Addr), r42 = .pointer p41 ∧
  cond (Option.isNone p41)
  (Q (.bool false) w16)
  (∃ (I43 : List Value → World → Prop) (mu44 : List Value → World → Nat),
  I43 [.int .i64 0] w16 ∧
  ∀ (_ : Env) (n45 : Int) (w17 : World), I43 [.int .i64 n45] w17 →
  cond (decide (n45 < (((l2 : Nat) : Int))))
  ((0 ≤ (n45 : Int) ∧ (n45 : Int) < ((l2 : Nat) : Int)) ∧
  nn a2 (fun (q46 : Addr) =>
  ∃ (n47 : Int), w17.cell? (Addr.add q46 (Int.toNat n45)) = some ((.int .i64 n47 : Value)) ∧
  CallR Try.prog 43 [.pointer p41, .int .i64 n15, .int .i64 n47] w17 (fun (r49 : Value) (w18 : World) =>
  ∃ (n48 : Int), r49 = .int .i64 n48 ∧
  inI (n45 + 1) ∧
  I43 [.int .i64 (n45 + 1)] w18 ∧ mu44 [.int .i64 (n45 + 1)] w18 < mu44 [.int .i64 n45] w17)))
  (let w19 := World.alloc w17 (Obj.cells #[.pointer p41] 49);
  ∃ (a50 : Option Addr) (l50 : Nat) (c50 : Nat) (w20 : World), Sem.run Try.prog (Builtin.append_ #[88, 88] 88 #[.slice a37 l37 c37, .slice (some (Addr.mk w17.heap.size 0 none)) 1 1]) w19 = .ok ((.slice a50 l50 c50 : Value)) w20 ∧
  inI (n38 + 1) ∧
  I35 [.slice a50 l50 c50, .int .i64 (n38 + 1)] w20 ∧ mu36 [.slice a50 l50 c50, .int .i64 (n38 + 1)] w20 < mu36 [.slice a37 l37 c37, .int .i64 n38] w15)))))
  (∃ (I51 : List Value → World → Prop) (mu52 : List Value → World → Nat),
  I51 [.int .i64 0] w15 ∧
  ∀ (_ : Env) (n53 : Int) (w21 : World), I51 [.int .i64 n53] w21 →
  cond (decide (n53 < (((l37 : Nat) : Int))))
  (CallR Try.prog 50 [.pointer p5, .int .i64 n24] w21 (fun (r55 : Value) (w22 : World) =>
  ∃ (n54 : Int), r55 = .int .i64 n54 ∧
  cond (n54 == 0)
  (Q (.bool false) w22)
  (CallR Try.prog 45 [.pointer p10, .int .i64 n21, .int .i64 1] w22 (fun (r58 : Value) (w23 : World) =>
  ∃ (a56 : Option Addr) (l56 : Nat) (c56 : Nat) (n57 : Int), r58 = .tuple #[.slice a56 l56 c56, .int .i64 n57] ∧
  CallR Try.prog 25 [.int .i64 n57] w23 (fun (r60 : Value) (w24 : World) =>
  ∃ (n59 : Int), r60 = .int .i64 n59 ∧
  cond (n59 != 52)
  (Q (.bool false) w24)
  ((0 ≤ (n53 : Int) ∧ (n53 : Int) < ((l37 : Nat) : Int)) ∧
  nn a37 (fun (q61 : Addr) =>
  ∃ (p62 : Option Addr), w24.cell? (Addr.add q61 (Int.toNat n53)) = some ((.pointer p62 : Value)) ∧
  CallR Try.prog 54 [.pointer p62] w24 (fun (r63 : Value) (w25 : World) =>
  r63 = .tuple #[] ∧
  (0 ≤ (n53 : Int) ∧ (n53 : Int) < ((l37 : Nat) : Int)) ∧
  nn a37 (fun (q64 : Addr) =>
  ∃ (p65 : Option Addr), w25.cell? (Addr.add q64 (Int.toNat n53)) = some ((.pointer p65 : Value)) ∧
  CallR Try.prog 55 [.pointer p65] w25 (fun (r67 : Value) (w26 : World) =>
  ∃ (a66 : Option Addr) (l66 : Nat) (c66 : Nat), r67 = .slice a66 l66 c66 ∧
  cond ((((l66 : Nat) : Int)) != 0)
  (Q (.bool false) w26)
  (inI (n53 + 1) ∧
  I51 [.int .i64 (n53 + 1)] w26 ∧ mu52 [.int .i64 (n53 + 1)] w26 < mu52 [.int .i64 n53] w21)))))))))))
  (CallR Try.prog 45 [.pointer p10, .int .i64 n21, .int .i64 1] w21 (fun (r70 : Value) (w27 : World) =>
  ∃ (a68 : Option Addr) (l68 : Nat) (c68 : Nat) (n69 : Int), r70 = .tuple #[.slice a68 l68 c68, .int .i64 n69] ∧
  CallR Try.prog 50 [.pointer p5, .int .i64 n24] w27 (fun (r72 : Value) (w28 : World) =>
  ∃ (n71 : Int), r72 = .int .i64 n71 ∧
  cond (n71 == 0)
  (CallR Try.prog 25 [.int .i64 n69] w28 (fun (r74 : Value) (w29 : World) =>
  ∃ (n73 : Int), r74 = .int .i64 n73 ∧
  cond (n73 == 0)
  (Q (.bool ((((l68 : Nat) : Int)) == 0)) w29)
  (Q (.bool false) w29)))
  (Q (.bool false) w28)))))))))))))))))))))))
theorem C10 {n1 : Int} {a2 : Option Addr} {l2 : Nat} {c2 : Nat} {Q : Value → World → Prop} {w : World} (h : L10 n1 a2 l2 c2 Q w) : CallR Try.prog 10 [.int .i64 n1, .slice a2 l2 c2] w Q :=
  fun_calls (A := A10) mixed Try.func10 (c := (Try.f10.body).getD .skip) rfl (by kernel_rfl) (Eq.mp (by kernel_rfl) h)

end Go.Proofs.Ytbiofmgebbdflaa
