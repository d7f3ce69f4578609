/-
  What some functions of the program ask of the world, printed by a program out of the loaded program; each text is held against the code by evaluation. Conditions: none.
-/
import Derived.Test.YtkjmlbplmffekaaGreatProg
import Derived.Test.YtkjmlbplmffekaaGreatLm
import Derived.Test.YtkjmlbplmffekaaGreatLX
import Derived.Test.YtkjmlbplmffekaaGreatRfC
set_option linter.unusedVariables false
set_option maxRecDepth 100000
namespace Go.Proofs.YtkjmlbplmffekaaGreat
open Go.Lw
/-- millrace/millracelaw06.nothing -/
def A34 : Ann := ⟨[], [], [], [], [], []⟩
def L34 (p1 : Option Addr) (Q : Value → World → Prop) (w : World) : Prop :=
  CallR Tryz.prog 19 [.pointer p1, .string (ByteArray.mk #[97]), .int .i64 1] w (fun (r4 : Value) (w1 : World) =>
  ∃ (n2 : Int) (n3 : Int), r4 = .tuple #[.int .i64 n2, .int .i64 n3] ∧
  CallR Tryz.prog 26 [.pointer p1] w1 (fun (r8 : Value) (w2 : World) =>
  ∃ (n5 : Int) (n6 : Int) (n7 : Int), r8 = .tuple #[.int .i64 n5, .int .i64 n6, .int .i64 n7] ∧
  CallR Tryz.prog 20 [.pointer p1, .int .i64 1, .int .i64 1] w2 (fun (r11 : Value) (w3 : World) =>
  ∃ (a9 : Option Addr) (l9 : Nat) (c9 : Nat) (n10 : Int), r11 = .tuple #[.slice a9 l9 c9, .int .i64 n10] ∧
  CallR Tryz.prog 22 [.pointer p1, .int .i64 1, .slice none 0 0] w3 (fun (r14 : Value) (w4 : World) =>
  ∃ (n12 : Int) (n13 : Int), r14 = .tuple #[.int .i64 n12, .int .i64 n13] ∧
  CallR Tryz.prog 23 [.pointer p1, .int .i64 1, .int .i64 0, .int .i64 0] w4 (fun (r17 : Value) (w5 : World) =>
  ∃ (n15 : Int) (n16 : Int), r17 = .tuple #[.int .i64 n15, .int .i64 n16] ∧
  CallR Tryz.prog 114 [.pointer p1] w5 (fun (r20 : Value) (w6 : World) =>
  ∃ (n18 : Int) (n19 : Int), r20 = .tuple #[.int .i64 n18, .int .i64 n19] ∧
  CallR Tryz.prog 117 [.pointer p1, .string (ByteArray.mk #[97])] w6 (fun (r23 : Value) (w7 : World) =>
  ∃ (a21 : Option Addr) (l21 : Nat) (c21 : Nat) (b22 : Bool), r23 = .tuple #[.slice a21 l21 c21, .bool b22] ∧
  CallR Tryz.prog 16 [.int .i64 n3] w7 (fun (r25 : Value) (w8 : World) =>
  ∃ (n24 : Int), r25 = .int .i64 n24 ∧
  cond (n24 == 2)
  (CallR Tryz.prog 16 [.int .i64 n7] w8 (fun (r27 : Value) (w9 : World) =>
  ∃ (n26 : Int), r27 = .int .i64 n26 ∧
  cond (n26 == 2)
  (CallR Tryz.prog 16 [.int .i64 n10] w9 (fun (r29 : Value) (w10 : World) =>
  ∃ (n28 : Int), r29 = .int .i64 n28 ∧
  cond (n28 == 2)
  (CallR Tryz.prog 16 [.int .i64 n13] w10 (fun (r31 : Value) (w11 : World) =>
  ∃ (n30 : Int), r31 = .int .i64 n30 ∧
  cond (n30 == 2)
  (CallR Tryz.prog 16 [.int .i64 n16] w11 (fun (r33 : Value) (w12 : World) =>
  ∃ (n32 : Int), r33 = .int .i64 n32 ∧
  cond (n32 == 2)
  (CallR Tryz.prog 111 [.pointer p1, .int .i64 1] w12 (fun (r35 : Value) (w13 : World) =>
  ∃ (n34 : Int), r35 = .int .i64 n34 ∧
  CallR Tryz.prog 16 [.int .i64 n34] w13 (fun (r37 : Value) (w14 : World) =>
  ∃ (n36 : Int), r37 = .int .i64 n36 ∧
  cond (n36 == 2)
  (CallR Tryz.prog 38 [.pointer p1, .int .i64 1] w14 (fun (r39 : Value) (w15 : World) =>
  ∃ (n38 : Int), r39 = .int .i64 n38 ∧
  CallR Tryz.prog 16 [.int .i64 n38] w15 (fun (r41 : Value) (w16 : World) =>
  ∃ (n40 : Int), r41 = .int .i64 n40 ∧
  cond (n40 == 2)
  (CallR Tryz.prog 119 [.pointer p1, .int .i64 1] w16 (fun (r43 : Value) (w17 : World) =>
  ∃ (b42 : Bool), r43 = .bool b42 ∧
  cond (!b42)
  (CallR Tryz.prog 121 [.pointer p1, .int .i64 1, .int .i64 1] w17 (fun (r45 : Value) (w18 : World) =>
  ∃ (b44 : Bool), r45 = .bool b44 ∧
  cond (!b44)
  (CallR Tryz.prog 37 [.pointer p1, .int .i64 1] w18 (fun (r47 : Value) (w19 : World) =>
  ∃ (n46 : Int), r47 = .int .i64 n46 ∧
  cond (n46 == 0)
  (inI (n18 + n19) ∧
  cond ((n18 + n19) == 0)
  (CallR Tryz.prog 27 [.pointer p1] w19 (fun (r49 : Value) (w20 : World) =>
  ∃ (a48 : Option Addr) (l48 : Nat) (c48 : Nat), r49 = .slice a48 l48 c48 ∧
  CallR Tryz.prog 25 [.pointer p1] w20 (fun (r51 : Value) (w21 : World) =>
  ∃ (a50 : Option Addr) (l50 : Nat) (c50 : Nat), r51 = .slice a50 l50 c50 ∧
  inI ((((l48 : Nat) : Int)) + (((l50 : Nat) : Int))) ∧
  CallR Tryz.prog 123 [.pointer p1, .int .i64 1] w21 (fun (r53 : Value) (w22 : World) =>
  ∃ (a52 : Option Addr) (l52 : Nat) (c52 : Nat), r53 = .slice a52 l52 c52 ∧
  inI (((((l48 : Nat) : Int)) + (((l50 : Nat) : Int))) + (((l52 : Nat) : Int))) ∧
  cond ((((((l48 : Nat) : Int)) + (((l50 : Nat) : Int))) + (((l52 : Nat) : Int))) == 0)
  (Q (.bool (!b22)) w22)
  (Q (.bool false) w22)))))
  (Q (.bool false) w19))
  (Q (.bool false) w19)))
  (Q (.bool false) w18)))
  (Q (.bool false) w17)))
  (Q (.bool false) w16))))
  (Q (.bool false) w14))))
  (Q (.bool false) w12)))
  (Q (.bool false) w11)))
  (Q (.bool false) w10)))
  (Q (.bool false) w9)))
  (Q (.bool false) w8)))))))))
theorem C34 {p1 : Option Addr} {Q : Value → World → Prop} {w : World} (h : L34 p1 Q w) : CallR Tryz.prog 34 [.pointer p1] w Q :=
  fun_calls (A := A34) mixed Tryz.func34 (c := (Tryz.f34.body).getD .skip) rfl (by kernel_rfl) (Eq.mp (by kernel_rfl) h)

/-- millrace/millracelaw06.KernOwn -/
def A6 : Ann := ⟨[(12, [(8, .one (.int .i64))]), (17, [(9, .one (.int .i64))]), (20, [(10, .one (.int .i64))]), (24, [(11, .one (.int .i64))]), (29, [(13, .one (.int .i64))]), (34, [(15, .one (.int .i64))]), (40, [(16, .one (.int .i64))])], [], [], [], [(37, [0, 2, 1, 3, 4, 5, 6, 8, 9, 7], 10, [11, 12])], []⟩
def L6 (a1 : Option Addr) (l1 : Nat) (c1 : Nat) (a2 : Option Addr) (l2 : Nat) (c2 : Nat) (a3 : Option Addr) (l3 : Nat) (c3 : Nat) (Q : Value → World → Prop) (w : World) : Prop :=
  let w1 := World.alloc w (Obj.cells #[.slice a1 l1 c1, .slice a2 l2 c2, .slice a3 l3 c3] 26);
  CallR Tryz.prog 12 [] w1 (fun (r5 : Value) (w2 : World) =>
  ∃ (b4 : Bool), r5 = .bool b4 ∧
  cond (!b4)
  (Q (.bool false) w2)
  (CallR Tryz.prog 34 [.pointer none] w2 (fun (r7 : Value) (w3 : World) =>
  ∃ (b6 : Bool), r7 = .bool b6 ∧
  cond (!b6)
  (Q (.bool false) w3)
  (let w4 := World.alloc w3 (Obj.cells #[.bool false, .map none, .map none, .map none, .int .i64 0, .pointer none, .int .i64 0, .int .i64 0] 73);
  CallR Tryz.prog 34 [.pointer (some (Addr.mk w3.heap.size 0 none))] w4 (fun (r9 : Value) (w5 : World) =>
  ∃ (b8 : Bool), r9 = .bool b8 ∧
  cond (!b8)
  (Q (.bool false) w5)
  (∃ (a10 : Option Addr) (l10 : Nat) (c10 : Nat) (a11 : Option Addr) (l11 : Nat) (c11 : Nat) (a12 : Option Addr) (l12 : Nat) (c12 : Nat), w5.cell? (Addr.mk w.heap.size 0 none) = some ((.slice a10 l10 c10 : Value)) ∧ w5.cell? (Addr.mk w.heap.size 1 none) = some ((.slice a11 l11 c11 : Value)) ∧ w5.cell? (Addr.mk w.heap.size 2 none) = some ((.slice a12 l12 c12 : Value)) ∧ 
  CallR Tryz.prog 18 [.agg #[.slice a10 l10 c10, .slice a11 l11 c11, .slice a12 l12 c12]] w5 (fun (r16 : Value) (w6 : World) =>
  ∃ (a13 : Option Addr) (l13 : Nat) (c13 : Nat) (a14 : Option Addr) (l14 : Nat) (c14 : Nat) (a15 : Option Addr) (l15 : Nat) (c15 : Nat), r16 = .agg #[.slice a13 l13 c13, .slice a14 l14 c14, .slice a15 l15 c15] ∧
  let w7 := World.alloc w6 (Obj.cells #[.slice none 0 0, .slice none 0 0, .slice none 0 0] 42);
  stC (Addr.mk w6.heap.size 0 none) (.slice a13 l13 c13) w7 (fun (w8 : World) =>
  stC (Addr.mk w6.heap.size 1 none) (.slice a14 l14 c14) w8 (fun (w9 : World) =>
  stC (Addr.mk w6.heap.size 2 none) (.slice a15 l15 c15) w9 (fun (w10 : World) =>
  ∃ (a17 : Option Addr) (l17 : Nat) (c17 : Nat) (a18 : Option Addr) (l18 : Nat) (c18 : Nat) (a19 : Option Addr) (l19 : Nat) (c19 : Nat), w10.cell? (Addr.mk w6.heap.size 0 none) = some ((.slice a17 l17 c17 : Value)) ∧ w10.cell? (Addr.mk w6.heap.size 1 none) = some ((.slice a18 l18 c18 : Value)) ∧ w10.cell? (Addr.mk w6.heap.size 2 none) = some ((.slice a19 l19 c19 : Value)) ∧ 
  CallR Tryz.prog 17 [.agg #[.slice a17 l17 c17, .slice a18 l18 c18, .slice a19 l19 c19]] w10 (fun (r22 : Value) (w11 : World) =>
  ∃ (p20 : Option Addr) (n21 : Int), r22 = .tuple #[.pointer p20, .int .i64 n21] ∧
  CallR Tryz.prog 16 [.int .i64 n21] w11 (fun (r24 : Value) (w12 : World) =>
  ∃ (n23 : Int), r24 = .int .i64 n23 ∧
  cond (n23 != 0)
  (Q (.bool (Option.isNone p20)) w12)
  (cond (Option.isNone p20)
  (Q (.bool (Option.isNone p20)) w12)
  (CallR Tryz.prog 25 [.pointer p20] w12 (fun (r26 : Value) (w13 : World) =>
  ∃ (a25 : Option Addr) (l25 : Nat) (c25 : Nat), r26 = .slice a25 l25 c25 ∧
  CallR Tryz.prog 35 [.slice a25 l25 c25] w13 (fun (r28 : Value) (w14 : World) =>
  ∃ (a27 : Option Addr) (l27 : Nat) (c27 : Nat), r28 = .slice a27 l27 c27 ∧
  ∃ (I29 : List Value → World → Prop) (mu30 : List Value → World → Nat),
  I29 [.int .i64 0] w14 ∧
  ∀ (_ : Env) (n31 : Int) (w15 : World), I29 [.int .i64 n31] w15 →
  ∃ (a32 : Option Addr) (l32 : Nat) (c32 : Nat), w15.cell? (Addr.mk w6.heap.size 0 none) = some ((.slice a32 l32 c32 : Value)) ∧
  cond (decide (n31 < (((l32 : Nat) : Int))))
  (∃ (a33 : Option Addr) (l33 : Nat) (c33 : Nat), w15.cell? (Addr.mk w6.heap.size 0 none) = some ((.slice a33 l33 c33 : Value)) ∧
  (0 ≤ (n31 : Int) ∧ (n31 : Int) < ((l33 : Nat) : Int)) ∧
  nn a33 (fun (q34 : Addr) =>
  ∃ (a35 : Option Addr) (l35 : Nat) (c35 : Nat), w15.cell? (Addr.add (Addr.add q34 (Int.toNat n31 * 2)) 1) = some ((.slice a35 l35 c35 : Value)) ∧
  CallR Tryz.prog 36 [.slice a35 l35 c35] w15 (fun (r36 : Value) (w16 : World) =>
  r36 = .tuple #[] ∧
  ∃ (a37 : Option Addr) (l37 : Nat) (c37 : Nat), w16.cell? (Addr.mk w6.heap.size 0 none) = some ((.slice a37 l37 c37 : Value)) ∧
  (0 ≤ (n31 : Int) ∧ (n31 : Int) < ((l37 : Nat) : Int)) ∧
  nn a37 (fun (q38 : Addr) =>
  stC (Addr.add q38 (Int.toNat n31 * 2)) (.string (ByteArray.mk #[103, 111, 110, 101])) w16 (fun (w17 : World) =>
  inI (n31 + 1) ∧
  I29 [.int .i64 (n31 + 1)] w17 ∧ mu30 [.int .i64 (n31 + 1)] w17 < mu30 [.int .i64 n31] w15)))))
  (∃ (I39 : List Value → World → Prop) (mu40 : List Value → World → Nat),
  I39 [.int .i64 0] w15 ∧
  ∀ (_ : Env) (n41 : Int) (w18 : World), I39 [.int .i64 n41] w18 →
  ∃ (a42 : Option Addr) (l42 : Nat) (c42 : Nat), w18.cell? (Addr.mk w6.heap.size 1 none) = some ((.slice a42 l42 c42 : Value)) ∧
  cond (decide (n41 < (((l42 : Nat) : Int))))
  (∃ (I43 : List Value → World → Prop) (mu44 : List Value → World → Nat),
  I43 [.int .i64 0] w18 ∧
  ∀ (_ : Env) (n45 : Int) (w19 : World), I43 [.int .i64 n45] w19 →
  ∃ (a46 : Option Addr) (l46 : Nat) (c46 : Nat), w19.cell? (Addr.mk w6.heap.size 1 none) = some ((.slice a46 l46 c46 : Value)) ∧
  (0 ≤ (n41 : Int) ∧ (n41 : Int) < ((l46 : Nat) : Int)) ∧
  nn a46 (fun (q47 : Addr) =>
  ∃ (a48 : Option Addr) (l48 : Nat) (c48 : Nat), w19.cell? (Addr.add (Addr.add q47 (Int.toNat n41 * 2)) 1) = some ((.slice a48 l48 c48 : Value)) ∧
  cond (decide (n45 < (((l48 : Nat) : Int))))
  (∃ (a49 : Option Addr) (l49 : Nat) (c49 : Nat), w19.cell? (Addr.mk w6.heap.size 1 none) = some ((.slice a49 l49 c49 : Value)) ∧
  (0 ≤ (n41 : Int) ∧ (n41 : Int) < ((l49 : Nat) : Int)) ∧
  nn a49 (fun (q50 : Addr) =>
  ∃ (a51 : Option Addr) (l51 : Nat) (c51 : Nat), w19.cell? (Addr.add (Addr.add q50 (Int.toNat n41 * 2)) 1) = some ((.slice a51 l51 c51 : Value)) ∧
  (0 ≤ (n45 : Int) ∧ (n45 : Int) < ((l51 : Nat) : Int)) ∧
  nn a51 (fun (q52 : Addr) =>
  ∃ (a53 : Option Addr) (l53 : Nat) (c53 : Nat), w19.cell? (Addr.add q52 (Int.toNat n45)) = some ((.slice a53 l53 c53 : Value)) ∧
  CallR Tryz.prog 36 [.slice a53 l53 c53] w19 (fun (r54 : Value) (w20 : World) =>
  r54 = .tuple #[] ∧
  inI (n45 + 1) ∧
  I43 [.int .i64 (n45 + 1)] w20 ∧ mu44 [.int .i64 (n45 + 1)] w20 < mu44 [.int .i64 n45] w19))))
  (inI (n41 + 1) ∧
  I39 [.int .i64 (n41 + 1)] w19 ∧ mu40 [.int .i64 (n41 + 1)] w19 < mu40 [.int .i64 n41] w18)))
  (∃ (I55 : List Value → World → Prop) (mu56 : List Value → World → Nat),
  I55 [.int .i64 0] w18 ∧
  ∀ (_ : Env) (n57 : Int) (w21 : World), I55 [.int .i64 n57] w21 →
  ∃ (a58 : Option Addr) (l58 : Nat) (c58 : Nat), w21.cell? (Addr.mk w6.heap.size 2 none) = some ((.slice a58 l58 c58 : Value)) ∧
  cond (decide (n57 < (((l58 : Nat) : Int))))
  (∃ (a59 : Option Addr) (l59 : Nat) (c59 : Nat), w21.cell? (Addr.mk w6.heap.size 2 none) = some ((.slice a59 l59 c59 : Value)) ∧
  (0 ≤ (n57 : Int) ∧ (n57 : Int) < ((l59 : Nat) : Int)) ∧
  nn a59 (fun (q60 : Addr) =>
  stC (Addr.add q60 (Int.toNat n57 * 2)) (.int .i64 3) w21 (fun (w22 : World) =>
  stC (Addr.add (Addr.add q60 (Int.toNat n57 * 2)) 1) (.int .i64 0) w22 (fun (w23 : World) =>
  inI (n57 + 1) ∧
  I55 [.int .i64 (n57 + 1)] w23 ∧ mu56 [.int .i64 (n57 + 1)] w23 < mu56 [.int .i64 n57] w21))))
  (CallR Tryz.prog 25 [.pointer p20] w21 (fun (r62 : Value) (w24 : World) =>
  ∃ (a61 : Option Addr) (l61 : Nat) (c61 : Nat), r62 = .slice a61 l61 c61 ∧
  ∃ (I63 : List Value → World → Prop) (mu64 : List Value → World → Nat),
  I63 [.int .i64 0] w24 ∧
  ∀ (_ : Env) (n65 : Int) (w25 : World), I63 [.int .i64 n65] w25 →
  cond (decide (n65 < (((l61 : Nat) : Int))))
  ((0 ≤ (n65 : Int) ∧ (n65 : Int) < ((l61 : Nat) : Int)) ∧
  nn a61 (fun (q66 : Addr) =>
  ∃ (a67 : Option Addr) (l67 : Nat) (c67 : Nat), w25.cell? (Addr.add (Addr.add q66 (Int.toNat n65 * 2)) 1) = some ((.slice a67 l67 c67 : Value)) ∧
  CallR Tryz.prog 36 [.slice a67 l67 c67] w25 (fun (r68 : Value) (w26 : World) =>
  r68 = .tuple #[] ∧
  inI (n65 + 1) ∧
  I63 [.int .i64 (n65 + 1)] w26 ∧ mu64 [.int .i64 (n65 + 1)] w26 < mu64 [.int .i64 n65] w25)))
  (CallR Tryz.prog 27 [.pointer p20] w25 (fun (r70 : Value) (w27 : World) =>
  ∃ (a69 : Option Addr) (l69 : Nat) (c69 : Nat), r70 = .slice a69 l69 c69 ∧
  ∃ (I71 : List Value → World → Prop) (mu72 : List Value → World → Nat),
  I71 [.int .i64 0] w27 ∧
  ∀ (_ : Env) (n73 : Int) (w28 : World), I71 [.int .i64 n73] w28 →
  cond (decide (n73 < (((l69 : Nat) : Int))))
  ((0 ≤ (n73 : Int) ∧ (n73 : Int) < ((l69 : Nat) : Int)) ∧
  nn a69 (fun (q74 : Addr) =>
  stC (Addr.add q74 (Int.toNat n73 * 2)) (.int .i64 2) w28 (fun (w29 : World) =>
  stC (Addr.add (Addr.add q74 (Int.toNat n73 * 2)) 1) (.int .i64 0) w29 (fun (w30 : World) =>
  inI (n73 + 1) ∧
  I71 [.int .i64 (n73 + 1)] w30 ∧ mu72 [.int .i64 (n73 + 1)] w30 < mu72 [.int .i64 n73] w28))))
  (∃ (S75 : World → Prop), S75 (World.drew w28) ∧
  let w31 := World.drew w28;
  CallR Tryz.prog 25 [.pointer p20] w31 (fun (r77 : Value) (w32 : World) =>
  ∃ (a76 : Option Addr) (l76 : Nat) (c76 : Nat), r77 = .slice a76 l76 c76 ∧
  S75 w32 ∧
  CallR Tryz.prog 24 [.slice a76 l76 c76, .slice a27 l27 c27] w32 (fun (r79 : Value) (w33 : World) =>
  ∃ (b78 : Bool), r79 = .bool b78 ∧
  S75 w33 ∧
  cond (!b78)
  (Q (.bool false) w33)
  (∃ (a80 : Option Addr) (l80 : Nat) (c80 : Nat), (∀ wS : World, S75 wS → wS.cell? (Addr.mk w.heap.size 2 none) = some ((.slice a80 l80 c80 : Value))) ∧
  CallR Tryz.prog 27 [.pointer p20] w33 (fun (r82 : Value) (w34 : World) =>
  ∃ (a81 : Option Addr) (l81 : Nat) (c81 : Nat), r82 = .slice a81 l81 c81 ∧
  S75 w34 ∧
  CallR Tryz.prog 28 [.slice a81 l81 c81, .slice a80 l80 c80] w34 (fun (r84 : Value) (w35 : World) =>
  ∃ (b83 : Bool), r84 = .bool b83 ∧
  cond (!b83)
  (Q (.bool false) w35)
  (∃ (I85 : List Value → World → Prop) (mu86 : List Value → World → Nat),
  I85 [.int .i64 0] w35 ∧
  ∀ (_ : Env) (n87 : Int) (w36 : World), I85 [.int .i64 n87] w36 →
  ∃ (a88 : Option Addr) (l88 : Nat) (c88 : Nat), w36.cell? (Addr.mk w.heap.size 1 none) = some ((.slice a88 l88 c88 : Value)) ∧
  cond (decide (n87 < (((l88 : Nat) : Int))))
  (∃ (a89 : Option Addr) (l89 : Nat) (c89 : Nat), w36.cell? (Addr.mk w.heap.size 1 none) = some ((.slice a89 l89 c89 : Value)) ∧
  (0 ≤ (n87 : Int) ∧ (n87 : Int) < ((l89 : Nat) : Int)) ∧
  nn a89 (fun (q90 : Addr) =>
  ∃ (s91 : ByteArray), w36.cell? (Addr.add q90 (Int.toNat n87 * 2)) = some ((.string s91 : Value)) ∧
  CallR Tryz.prog 19 [.pointer p20, .string s91, .int .i64 1] w36 (fun (r94 : Value) (w37 : World) =>
  ∃ (n92 : Int) (n93 : Int), r94 = .tuple #[.int .i64 n92, .int .i64 n93] ∧
  CallR Tryz.prog 16 [.int .i64 n93] w37 (fun (r96 : Value) (w38 : World) =>
  ∃ (n95 : Int), r96 = .int .i64 n95 ∧
  cond (n95 != 0)
  (Q (.bool false) w38)
  (CallR Tryz.prog 37 [.pointer p20, .int .i64 n92] w38 (fun (r98 : Value) (w39 : World) =>
  ∃ (n97 : Int), r98 = .int .i64 n97 ∧
  cond (n97 != 2)
  (Q (.bool false) w39)
  (∃ (a99 : Option Addr) (l99 : Nat) (c99 : Nat), w39.cell? (Addr.mk w.heap.size 2 none) = some ((.slice a99 l99 c99 : Value)) ∧
  cond ((((l99 : Nat) : Int)) == 0)
  (∃ (a100 : Option Addr) (l100 : Nat) (c100 : Nat), w39.cell? (Addr.mk w.heap.size 1 none) = some ((.slice a100 l100 c100 : Value)) ∧
  (0 ≤ (n87 : Int) ∧ (n87 : Int) < ((l100 : Nat) : Int)) ∧
  nn a100 (fun (q101 : Addr) =>
  ∃ (a102 : Option Addr) (l102 : Nat) (c102 : Nat), w39.cell? (Addr.add (Addr.add q101 (Int.toNat n87 * 2)) 1) = some ((.slice a102 l102 c102 : Value)) ∧
  cond (decide ((((l102 : Nat) : Int)) > 0))
  (CallR Tryz.prog 20 [.pointer p20, .int .i64 n92, .int .i64 1048576] w39 (fun (r105 : Value) (w40 : World) =>
  ∃ (a103 : Option Addr) (l103 : Nat) (c103 : Nat) (n104 : Int), r105 = .tuple #[.slice a103 l103 c103, .int .i64 n104] ∧
  CallR Tryz.prog 16 [.int .i64 n104] w40 (fun (r107 : Value) (w41 : World) =>
  ∃ (n106 : Int), r107 = .int .i64 n106 ∧
  cond (n106 != 0)
  (Q (.bool false) w41)
  (∃ (a108 : Option Addr) (l108 : Nat) (c108 : Nat), w41.cell? (Addr.mk w.heap.size 1 none) = some ((.slice a108 l108 c108 : Value)) ∧
  (0 ≤ (n87 : Int) ∧ (n87 : Int) < ((l108 : Nat) : Int)) ∧
  nn a108 (fun (q109 : Addr) =>
  ∃ (a110 : Option Addr) (l110 : Nat) (c110 : Nat), w41.cell? (Addr.add (Addr.add q109 (Int.toNat n87 * 2)) 1) = some ((.slice a110 l110 c110 : Value)) ∧
  (0 ≤ (0 : Int) ∧ (0 : Int) < ((l110 : Nat) : Int)) ∧
  nn a110 (fun (q111 : Addr) =>
  ∃ (a112 : Option Addr) (l112 : Nat) (c112 : Nat), w41.cell? (Addr.add q111 (Int.toNat 0)) = some ((.slice a112 l112 c112 : Value)) ∧
  CallR Tryz.prog 21 [.slice a103 l103 c103, .slice a112 l112 c112] w41 (fun (r114 : Value) (w42 : World) =>
  ∃ (b113 : Bool), r114 = .bool b113 ∧
  cond (!b113)
  (Q (.bool false) w42)
  (CallR Tryz.prog 38 [.pointer p20, .int .i64 n92] w42 (fun (r116 : Value) (w43 : World) =>
  ∃ (n115 : Int), r116 = .int .i64 n115 ∧
  inI (n87 + 1) ∧
  I85 [.int .i64 (n87 + 1)] w43 ∧ mu86 [.int .i64 (n87 + 1)] w43 < mu86 [.int .i64 n87] w36)))))))))
  (CallR Tryz.prog 38 [.pointer p20, .int .i64 n92] w39 (fun (r118 : Value) (w44 : World) =>
  ∃ (n117 : Int), r118 = .int .i64 n117 ∧
  inI (n87 + 1) ∧
  I85 [.int .i64 (n87 + 1)] w44 ∧ mu86 [.int .i64 (n87 + 1)] w44 < mu86 [.int .i64 n87] w36))))
  (CallR Tryz.prog 38 [.pointer p20, .int .i64 n92] w39 (fun (r120 : Value) (w45 : World) =>
  ∃ (n119 : Int), r120 = .int .i64 n119 ∧
  inI (n87 + 1) ∧
  I85 [.int .i64 (n87 + 1)] w45 ∧ mu86 [.int .i64 (n87 + 1)] w45 < mu86 [.int .i64 n87] w36)))))))))
  (Q (.bool true) w36))))))))))))))))))))))))))))))
theorem C6 {a1 : Option Addr} {l1 : Nat} {c1 : Nat} {a2 : Option Addr} {l2 : Nat} {c2 : Nat} {a3 : Option Addr} {l3 : Nat} {c3 : Nat} {Q : Value → World → Prop} {w : World} (h : L6 a1 l1 c1 a2 l2 c2 a3 l3 c3 Q w) : CallR Tryz.prog 6 [.agg #[.slice a1 l1 c1, .slice a2 l2 c2, .slice a3 l3 c3]] w Q :=
  fun_calls (A := A6) mixed Tryz.func6 (c := (Tryz.f6.body).getD .skip) rfl (by kernel_rfl) (Eq.mp (by kernel_rfl) h)

end Go.Proofs.YtkjmlbplmffekaaGreat
