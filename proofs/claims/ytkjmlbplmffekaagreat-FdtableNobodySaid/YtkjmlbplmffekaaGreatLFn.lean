/-
  What some functions of the program ask of the world, printed by a program out of the loaded program; each text is held against the code by evaluation. Conditions: none.
-/
import Derived.Test.YtkjmlbplmffekaaGreatProg
import Derived.Test.YtkjmlbplmffekaaGreatLm
import Derived.Test.YtkjmlbplmffekaaGreatLX
import Derived.Test.YtkjmlbplmffekaaGreatRfC
set_option linter.unusedVariables false
set_option maxRecDepth 100000
namespace Go.Proofs.YtkjmlbplmffekaaGreat
open Go.Lw
/-- millrace/millracelaw07.nothing -/
def A40 : Ann := ⟨[], [], [], [], [], []⟩
def L40 (p1 : Option Addr) (Q : Value → World → Prop) (w : World) : Prop :=
  CallR Tryz.prog 43 [.pointer p1, .string (ByteArray.mk #[97]), .int .i64 1] w (fun (r4 : Value) (w1 : World) =>
  ∃ (n2 : Int) (n3 : Int), r4 = .tuple #[.int .i64 n2, .int .i64 n3] ∧
  CallR Tryz.prog 44 [.pointer p1] w1 (fun (r8 : Value) (w2 : World) =>
  ∃ (n5 : Int) (n6 : Int) (n7 : Int), r8 = .tuple #[.int .i64 n5, .int .i64 n6, .int .i64 n7] ∧
  CallR Tryz.prog 48 [.pointer p1, .int .i64 1] w2 (fun (r11 : Value) (w3 : World) =>
  ∃ (n9 : Int) (n10 : Int), r11 = .tuple #[.int .i64 n9, .int .i64 n10] ∧
  CallR Tryz.prog 45 [.pointer p1, .int .i64 0] w3 (fun (r14 : Value) (w4 : World) =>
  ∃ (n12 : Int) (n13 : Int), r14 = .tuple #[.int .i64 n12, .int .i64 n13] ∧
  CallR Tryz.prog 126 [.pointer p1, .int .i64 0] w4 (fun (r17 : Value) (w5 : World) =>
  ∃ (b15 : Bool) (n16 : Int), r17 = .tuple #[.bool b15, .int .i64 n16] ∧
  CallR Tryz.prog 127 [.pointer p1, .int .i64 0] w5 (fun (r20 : Value) (w6 : World) =>
  ∃ (n18 : Int) (n19 : Int), r20 = .tuple #[.int .i64 n18, .int .i64 n19] ∧
  CallR Tryz.prog 128 [.pointer p1, .int .i64 0, .int .i64 1] w6 (fun (r23 : Value) (w7 : World) =>
  ∃ (a21 : Option Addr) (l21 : Nat) (c21 : Nat) (n22 : Int), r23 = .tuple #[.slice a21 l21 c21, .int .i64 n22] ∧
  CallR Tryz.prog 129 [.pointer p1, .int .i64 0, .slice none 0 0] w7 (fun (r26 : Value) (w8 : World) =>
  ∃ (n24 : Int) (n25 : Int), r26 = .tuple #[.int .i64 n24, .int .i64 n25] ∧
  CallR Tryz.prog 130 [.pointer p1, .int .i64 0, .int .i64 0, .int .i64 0] w8 (fun (r29 : Value) (w9 : World) =>
  ∃ (n27 : Int) (n28 : Int), r29 = .tuple #[.int .i64 n27, .int .i64 n28] ∧
  CallR Tryz.prog 131 [.pointer p1] w9 (fun (r30 : Value) (w10 : World) =>
  r30 = .tuple #[] ∧
  CallR Tryz.prog 42 [.int .i64 n3] w10 (fun (r32 : Value) (w11 : World) =>
  ∃ (n31 : Int), r32 = .int .i64 n31 ∧
  cond (n31 == 2)
  (CallR Tryz.prog 42 [.int .i64 n7] w11 (fun (r34 : Value) (w12 : World) =>
  ∃ (n33 : Int), r34 = .int .i64 n33 ∧
  cond (n33 == 2)
  (CallR Tryz.prog 42 [.int .i64 n10] w12 (fun (r36 : Value) (w13 : World) =>
  ∃ (n35 : Int), r36 = .int .i64 n35 ∧
  cond (n35 == 2)
  (CallR Tryz.prog 42 [.int .i64 n13] w13 (fun (r38 : Value) (w14 : World) =>
  ∃ (n37 : Int), r38 = .int .i64 n37 ∧
  cond (n37 == 2)
  (CallR Tryz.prog 42 [.int .i64 n16] w14 (fun (r40 : Value) (w15 : World) =>
  ∃ (n39 : Int), r40 = .int .i64 n39 ∧
  cond (n39 == 2)
  (CallR Tryz.prog 42 [.int .i64 n19] w15 (fun (r42 : Value) (w16 : World) =>
  ∃ (n41 : Int), r42 = .int .i64 n41 ∧
  cond (n41 == 2)
  (CallR Tryz.prog 42 [.int .i64 n22] w16 (fun (r44 : Value) (w17 : World) =>
  ∃ (n43 : Int), r44 = .int .i64 n43 ∧
  cond (n43 == 2)
  (CallR Tryz.prog 42 [.int .i64 n25] w17 (fun (r46 : Value) (w18 : World) =>
  ∃ (n45 : Int), r46 = .int .i64 n45 ∧
  cond (n45 == 2)
  (CallR Tryz.prog 42 [.int .i64 n28] w18 (fun (r48 : Value) (w19 : World) =>
  ∃ (n47 : Int), r48 = .int .i64 n47 ∧
  cond (n47 == 2)
  (CallR Tryz.prog 49 [.pointer p1, .int .i64 0] w19 (fun (r50 : Value) (w20 : World) =>
  ∃ (n49 : Int), r50 = .int .i64 n49 ∧
  CallR Tryz.prog 42 [.int .i64 n49] w20 (fun (r52 : Value) (w21 : World) =>
  ∃ (n51 : Int), r52 = .int .i64 n51 ∧
  cond (n51 == 2)
  (CallR Tryz.prog 50 [.pointer p1, .int .i64 0, .int .i64 1] w21 (fun (r54 : Value) (w22 : World) =>
  ∃ (n53 : Int), r54 = .int .i64 n53 ∧
  CallR Tryz.prog 42 [.int .i64 n53] w22 (fun (r56 : Value) (w23 : World) =>
  ∃ (n55 : Int), r56 = .int .i64 n55 ∧
  cond (n55 == 2)
  (CallR Tryz.prog 125 [.pointer p1, .int .i64 0, .bool true] w23 (fun (r58 : Value) (w24 : World) =>
  ∃ (n57 : Int), r58 = .int .i64 n57 ∧
  CallR Tryz.prog 42 [.int .i64 n57] w24 (fun (r60 : Value) (w25 : World) =>
  ∃ (n59 : Int), r60 = .int .i64 n59 ∧
  cond (n59 == 2)
  (CallR Tryz.prog 47 [.pointer p1] w25 (fun (r62 : Value) (w26 : World) =>
  ∃ (a61 : Option Addr) (l61 : Nat) (c61 : Nat), r62 = .slice a61 l61 c61 ∧
  Q (.bool ((((l61 : Nat) : Int)) == 0)) w26))
  (Q (.bool false) w25))))
  (Q (.bool false) w23))))
  (Q (.bool false) w21))))
  (Q (.bool false) w19)))
  (Q (.bool false) w18)))
  (Q (.bool false) w17)))
  (Q (.bool false) w16)))
  (Q (.bool false) w15)))
  (Q (.bool false) w14)))
  (Q (.bool false) w13)))
  (Q (.bool false) w12)))
  (Q (.bool false) w11))))))))))))
theorem C40 {p1 : Option Addr} {Q : Value → World → Prop} {w : World} (h : L40 p1 Q w) : CallR Tryz.prog 40 [.pointer p1] w Q :=
  fun_calls (A := A40) mixed Tryz.func40 (c := (Tryz.f40.body).getD .skip) rfl (by kernel_rfl) (Eq.mp (by kernel_rfl) h)

/-- millrace/millraceplain.CopyInts -/
def A46 : Ann := ⟨[], [], [], [], [], []⟩
def L46 (a1 : Option Addr) (l1 : Nat) (c1 : Nat) (Q : Value → World → Prop) (w : World) : Prop :=
  ∃ (a2 : Option Addr) (l2 : Nat) (c2 : Nat) (w1 : World), Sem.run Tryz.prog (Builtin.append_ #[98, 98] 98 #[.slice none 0 0, .slice a1 l1 c1]) w = .ok ((.slice a2 l2 c2 : Value)) w1 ∧
  Q (.slice a2 l2 c2) w1
theorem C46 {a1 : Option Addr} {l1 : Nat} {c1 : Nat} {Q : Value → World → Prop} {w : World} (h : L46 a1 l1 c1 Q w) : CallR Tryz.prog 46 [.slice a1 l1 c1] w Q :=
  fun_calls (A := A46) mixed Tryz.func46 (c := (Tryz.f46.body).getD .skip) rfl (by kernel_rfl) (Eq.mp (by kernel_rfl) h)

/-- millrace/millracelaw07.FdtableNobody -/
def A7 : Ann := ⟨[(13, [(11, .one (.int .i64))]), (37, [(15, .one (.int .i64))])], [(35, [(13, .one (.int .i64))])], [], [(17, [0, 1, 2, 3, 4, 5, 6, 7, 8, 9, 10, 11])], [], []⟩
def L7 (a1 : Option Addr) (l1 : Nat) (c1 : Nat) (a2 : Option Addr) (l2 : Nat) (c2 : Nat) (a3 : Option Addr) (l3 : Nat) (c3 : Nat) (a4 : Option Addr) (l4 : Nat) (c4 : Nat) (n5 : Int) (s6 : ByteArray) (n7 : Int) (n8 : Int) (n9 : Int) (b10 : Bool) (a11 : Option Addr) (l11 : Nat) (c11 : Nat) (Q : Value → World → Prop) (w : World) : Prop :=
  let w1 := World.alloc w (Obj.cells #[.slice a1 l1 c1, .slice a2 l2 c2, .slice a3 l3 c3] 26);
  let w2 := World.alloc w1 (Obj.cells #[.int .i64 n5, .string s6, .int .i64 n7, .int .i64 n8, .int .i64 n9, .bool b10, .slice a11 l11 c11] 88);
  CallR Tryz.prog 39 [] w2 (fun (r13 : Value) (w3 : World) =>
  ∃ (b12 : Bool), r13 = .bool b12 ∧
  cond (!b12)
  (Q (.bool false) w3)
  (CallR Tryz.prog 40 [.pointer none] w3 (fun (r15 : Value) (w4 : World) =>
  ∃ (b14 : Bool), r15 = .bool b14 ∧
  cond (!b14)
  (Q (.bool false) w4)
  (let w5 := World.alloc w4 (Obj.cells #[.pointer none, .int .i64 0, .bool false, .int .i64 0, .bool false, .int .i64 0, .bool false, .int .i64 0, .bool false, .int .i64 0, .bool false, .int .i64 0, .bool false, .int .i64 0, .bool false, .int .i64 0, .bool false, .int .i64 0, .bool false, .int .i64 0, .bool false, .int .i64 0, .bool false, .int .i64 0, .bool false, .int .i64 0, .bool false, .int .i64 0, .bool false, .int .i64 0, .bool false, .int .i64 0, .bool false, .int .i64 0, .bool false, .int .i64 0, .bool false, .int .i64 0, .bool false, .int .i64 0, .bool false, .int .i64 0, .bool false, .int .i64 0, .bool false, .int .i64 0, .bool false, .int .i64 0, .bool false, .int .i64 0, .bool false, .int .i64 0, .bool false, .int .i64 0, .bool false, .int .i64 0, .bool false, .int .i64 0, .bool false, .int .i64 0, .bool false, .int .i64 0, .bool false, .int .i64 0, .bool false, .int .i64 0, .bool false, .int .i64 0, .bool false, .int .i64 0, .bool false, .int .i64 0, .bool false, .int .i64 0, .bool false, .int .i64 0, .bool false, .int .i64 0, .bool false, .int .i64 0, .bool false, .int .i64 0, .bool false, .int .i64 0, .bool false, .int .i64 0, .bool false, .int .i64 0, .bool false, .int .i64 0, .bool false, .int .i64 0, .bool false, .int .i64 0, .bool false, .int .i64 0, .bool false, .int .i64 0, .bool false, .int .i64 0, .bool false, .int .i64 0, .bool false, .int .i64 0, .bool false, .int .i64 0, .bool false, .int .i64 0, .bool false, .int .i64 0, .bool false, .int .i64 0, .bool false, .int .i64 0, .bool false, .int .i64 0, .bool false, .int .i64 0, .bool false, .int .i64 0, .bool false, .int .i64 0, .bool false, .int .i64 0, .bool false, .int .i64 0, .bool false, .int .i64 0, .bool false] 95);
  CallR Tryz.prog 40 [.pointer (some (Addr.mk w4.heap.size 0 none))] w5 (fun (r17 : Value) (w6 : World) =>
  ∃ (b16 : Bool), r17 = .bool b16 ∧
  cond (!b16)
  (Q (.bool false) w6)
  (CallR Tryz.prog 41 [.pointer none] w6 (fun (r19 : Value) (w7 : World) =>
  ∃ (p18 : Option Addr), r19 = .pointer p18 ∧
  CallR Tryz.prog 40 [.pointer p18] w7 (fun (r21 : Value) (w8 : World) =>
  ∃ (b20 : Bool), r21 = .bool b20 ∧
  cond (!b20)
  (Q (.bool false) w8)
  (∃ (a22 : Option Addr) (l22 : Nat) (c22 : Nat) (a23 : Option Addr) (l23 : Nat) (c23 : Nat) (a24 : Option Addr) (l24 : Nat) (c24 : Nat), w8.cell? (Addr.mk w.heap.size 0 none) = some ((.slice a22 l22 c22 : Value)) ∧ w8.cell? (Addr.mk w.heap.size 1 none) = some ((.slice a23 l23 c23 : Value)) ∧ w8.cell? (Addr.mk w.heap.size 2 none) = some ((.slice a24 l24 c24 : Value)) ∧ 
  CallR Tryz.prog 18 [.agg #[.slice a22 l22 c22, .slice a23 l23 c23, .slice a24 l24 c24]] w8 (fun (r28 : Value) (w9 : World) =>
  ∃ (a25 : Option Addr) (l25 : Nat) (c25 : Nat) (a26 : Option Addr) (l26 : Nat) (c26 : Nat) (a27 : Option Addr) (l27 : Nat) (c27 : Nat), r28 = .agg #[.slice a25 l25 c25, .slice a26 l26 c26, .slice a27 l27 c27] ∧
  CallR Tryz.prog 17 [.agg #[.slice a25 l25 c25, .slice a26 l26 c26, .slice a27 l27 c27]] w9 (fun (r31 : Value) (w10 : World) =>
  ∃ (p29 : Option Addr) (n30 : Int), r31 = .tuple #[.pointer p29, .int .i64 n30] ∧
  CallR Tryz.prog 42 [.int .i64 n30] w10 (fun (r33 : Value) (w11 : World) =>
  ∃ (n32 : Int), r33 = .int .i64 n32 ∧
  cond (n32 != 0)
  (Q (.bool (Option.isNone p29)) w11)
  (cond (Option.isNone p29)
  (Q (.bool (Option.isNone p29)) w11)
  (CallR Tryz.prog 41 [.pointer p29] w11 (fun (r35 : Value) (w12 : World) =>
  ∃ (p34 : Option Addr), r35 = .pointer p34 ∧
  cond (Option.isNone p34)
  (Q (.bool false) w12)
  (∃ (I36 : List Value → World → Prop) (mu37 : List Value → World → Nat),
  I36 [.int .i64 0] w12 ∧
  ∀ (_ : Env) (n38 : Int) (w13 : World), I36 [.int .i64 n38] w13 →
  cond (decide (n38 < (((l4 : Nat) : Int))))
  ((0 ≤ (n38 : Int) ∧ (n38 : Int) < ((l4 : Nat) : Int)) ∧
  nn a4 (fun (q39 : Addr) =>
  ∃ (n40 : Int), w13.cell? (Addr.add q39 (Int.toNat n38 * 7)) = some ((.int .i64 n40 : Value)) ∧
  cond (n40 == 0)
  (let w14 := World.drew w13;
  (0 ≤ (n38 : Int) ∧ (n38 : Int) < ((l4 : Nat) : Int)) ∧
  nn a4 (fun (q41 : Addr) =>
  ∃ (s42 : ByteArray), w14.cell? (Addr.add (Addr.add q41 (Int.toNat n38 * 7)) 1) = some ((.string s42 : Value)) ∧
  (0 ≤ (n38 : Int) ∧ (n38 : Int) < ((l4 : Nat) : Int)) ∧
  nn a4 (fun (q43 : Addr) =>
  ∃ (n44 : Int), w14.cell? (Addr.add (Addr.add q43 (Int.toNat n38 * 7)) 2) = some ((.int .i64 n44 : Value)) ∧
  CallR Tryz.prog 43 [.pointer p34, .string s42, .int .i64 n44] w14 (fun (r47 : Value) (w15 : World) =>
  ∃ (n45 : Int) (n46 : Int), r47 = .tuple #[.int .i64 n45, .int .i64 n46] ∧
  inI (n38 + 1) ∧
  I36 [.int .i64 (n38 + 1)] w15 ∧ mu37 [.int .i64 (n38 + 1)] w15 < mu37 [.int .i64 n38] w13))))
  (cond (n40 == 1)
  (CallR Tryz.prog 44 [.pointer p34] w13 (fun (r51 : Value) (w16 : World) =>
  ∃ (n48 : Int) (n49 : Int) (n50 : Int), r51 = .tuple #[.int .i64 n48, .int .i64 n49, .int .i64 n50] ∧
  inI (n38 + 1) ∧
  I36 [.int .i64 (n38 + 1)] w16 ∧ mu37 [.int .i64 (n38 + 1)] w16 < mu37 [.int .i64 n38] w13))
  (cond (n40 == 4)
  ((0 ≤ (n38 : Int) ∧ (n38 : Int) < ((l4 : Nat) : Int)) ∧
  nn a4 (fun (q52 : Addr) =>
  ∃ (n53 : Int), w13.cell? (Addr.add (Addr.add q52 (Int.toNat n38 * 7)) 2) = some ((.int .i64 n53 : Value)) ∧
  CallR Tryz.prog 45 [.pointer p34, .int .i64 n53] w13 (fun (r56 : Value) (w17 : World) =>
  ∃ (n54 : Int) (n55 : Int), r56 = .tuple #[.int .i64 n54, .int .i64 n55] ∧
  inI (n38 + 1) ∧
  I36 [.int .i64 (n38 + 1)] w17 ∧ mu37 [.int .i64 (n38 + 1)] w17 < mu37 [.int .i64 n38] w13)))
  (inI (n38 + 1) ∧
  I36 [.int .i64 (n38 + 1)] w13 ∧ mu37 [.int .i64 (n38 + 1)] w13 < mu37 [.int .i64 n38] w13)))))
  (CallR Tryz.prog 47 [.pointer p34] w13 (fun (r58 : Value) (w18 : World) =>
  ∃ (a57 : Option Addr) (l57 : Nat) (c57 : Nat), r58 = .slice a57 l57 c57 ∧
  CallR Tryz.prog 46 [.slice a57 l57 c57] w18 (fun (r60 : Value) (w19 : World) =>
  ∃ (a59 : Option Addr) (l59 : Nat) (c59 : Nat), r60 = .slice a59 l59 c59 ∧
  ∃ (J61 : List Value → World → Prop),
  (∃ (n62 : Int), w19.cell? (Addr.mk w1.heap.size 0 none) = some ((.int .i64 n62 : Value)) ∧
  cond (n62 == 0)
  (∃ (s63 : ByteArray), w19.cell? (Addr.mk w1.heap.size 1 none) = some ((.string s63 : Value)) ∧
  ∃ (n64 : Int), w19.cell? (Addr.mk w1.heap.size 2 none) = some ((.int .i64 n64 : Value)) ∧
  CallR Tryz.prog 43 [.pointer p34, .string s63, .int .i64 n64] w19 (fun (r67 : Value) (w20 : World) =>
  ∃ (n65 : Int) (n66 : Int), r67 = .tuple #[.int .i64 n65, .int .i64 n66] ∧
  J61 [.int .i64 n66] w20))
  (cond (n62 == 2)
  (∃ (n68 : Int), w19.cell? (Addr.mk w1.heap.size 2 none) = some ((.int .i64 n68 : Value)) ∧
  CallR Tryz.prog 48 [.pointer p34, .int .i64 n68] w19 (fun (r71 : Value) (w21 : World) =>
  ∃ (n69 : Int) (n70 : Int), r71 = .tuple #[.int .i64 n69, .int .i64 n70] ∧
  J61 [.int .i64 n70] w21))
  (cond (n62 == 3)
  (∃ (n72 : Int), w19.cell? (Addr.mk w1.heap.size 2 none) = some ((.int .i64 n72 : Value)) ∧
  CallR Tryz.prog 49 [.pointer p34, .int .i64 n72] w19 (fun (r74 : Value) (w22 : World) =>
  ∃ (n73 : Int), r74 = .int .i64 n73 ∧
  J61 [.int .i64 n73] w22))
  (cond (n62 == 4)
  (∃ (n75 : Int), w19.cell? (Addr.mk w1.heap.size 2 none) = some ((.int .i64 n75 : Value)) ∧
  CallR Tryz.prog 45 [.pointer p34, .int .i64 n75] w19 (fun (r78 : Value) (w23 : World) =>
  ∃ (n76 : Int) (n77 : Int), r78 = .tuple #[.int .i64 n76, .int .i64 n77] ∧
  J61 [.int .i64 n77] w23))
  (cond (n62 == 5)
  (∃ (n79 : Int), w19.cell? (Addr.mk w1.heap.size 2 none) = some ((.int .i64 n79 : Value)) ∧
  ∃ (n80 : Int), w19.cell? (Addr.mk w1.heap.size 3 none) = some ((.int .i64 n80 : Value)) ∧
  CallR Tryz.prog 50 [.pointer p34, .int .i64 n79, .int .i64 n80] w19 (fun (r82 : Value) (w24 : World) =>
  ∃ (n81 : Int), r82 = .int .i64 n81 ∧
  J61 [.int .i64 n81] w24))
  (J61 [.int .i64 0] w19)))))) ∧
  (∀ (_ : Env) (n83 : Int) (w25 : World), J61 [.int .i64 n83] w25 →
  CallR Tryz.prog 47 [.pointer p34] w25 (fun (r85 : Value) (w26 : World) =>
  ∃ (a84 : Option Addr) (l84 : Nat) (c84 : Nat), r85 = .slice a84 l84 c84 ∧
  ∃ (I86 : List Value → World → Prop) (mu87 : List Value → World → Nat),
  I86 [.int .i64 0] w26 ∧
  ∀ (_ : Env) (n88 : Int) (w27 : World), I86 [.int .i64 n88] w27 →
  cond (decide (n88 < (((l84 : Nat) : Int))))
  ((0 ≤ (n88 : Int) ∧ (n88 : Int) < ((l84 : Nat) : Int)) ∧
  nn a84 (fun (q89 : Addr) =>
  stC (Addr.add q89 (Int.toNat n88)) (.int .i64 77) w27 (fun (w28 : World) =>
  inI (n88 + 1) ∧
  I86 [.int .i64 (n88 + 1)] w28 ∧ mu87 [.int .i64 (n88 + 1)] w28 < mu87 [.int .i64 n88] w27)))
  (CallR Tryz.prog 47 [.pointer p34] w27 (fun (r91 : Value) (w29 : World) =>
  ∃ (a90 : Option Addr) (l90 : Nat) (c90 : Nat), r91 = .slice a90 l90 c90 ∧
  CallR Tryz.prog 42 [.int .i64 n83] w29 (fun (r93 : Value) (w30 : World) =>
  ∃ (n92 : Int), r93 = .int .i64 n92 ∧
  cond (n92 != 0)
  (CallR Tryz.prog 51 [.slice a90 l90 c90, .slice a59 l59 c59] w30 (fun (r95 : Value) (w31 : World) =>
  ∃ (b94 : Bool), r95 = .bool b94 ∧
  Q (.bool b94) w31))
  (cond ((((l90 : Nat) : Int)) == 0)
  (Q (.bool true) w30)
  ((0 ≤ (0 : Int) ∧ (0 : Int) < ((l90 : Nat) : Int)) ∧
  nn a90 (fun (q96 : Addr) =>
  ∃ (n97 : Int), w30.cell? (Addr.add q96 (Int.toNat 0)) = some ((.int .i64 n97 : Value)) ∧
  Q (.bool (decide (n97 < 64))) w30)))))))))))))))))))))))))))
theorem C7 {a1 : Option Addr} {l1 : Nat} {c1 : Nat} {a2 : Option Addr} {l2 : Nat} {c2 : Nat} {a3 : Option Addr} {l3 : Nat} {c3 : Nat} {a4 : Option Addr} {l4 : Nat} {c4 : Nat} {n5 : Int} {s6 : ByteArray} {n7 : Int} {n8 : Int} {n9 : Int} {b10 : Bool} {a11 : Option Addr} {l11 : Nat} {c11 : Nat} {Q : Value → World → Prop} {w : World} (h : L7 a1 l1 c1 a2 l2 c2 a3 l3 c3 a4 l4 c4 n5 s6 n7 n8 n9 b10 a11 l11 c11 Q w) : CallR Tryz.prog 7 [.agg #[.slice a1 l1 c1, .slice a2 l2 c2, .slice a3 l3 c3], .slice a4 l4 c4, .agg #[.int .i64 n5, .string s6, .int .i64 n7, .int .i64 n8, .int .i64 n9, .bool b10, .slice a11 l11 c11]] w Q :=
  fun_calls (A := A7) mixed Tryz.func7 (c := (Tryz.f7.body).getD .skip) rfl (by kernel_rfl) (Eq.mp (by kernel_rfl) h)

end Go.Proofs.YtkjmlbplmffekaaGreat
