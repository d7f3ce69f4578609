/-
  What some functions of the program ask of the world, printed by a program out of the loaded program; each text is held against the code by evaluation. Conditions: none.
-/
import Derived.Test.YtkjmlbplmffekaaProg
import Derived.Test.YtkjmlbplmffekaaLm
import Derived.Test.YtkjmlbplmffekaaLX
import Derived.Test.YtkjmlbplmffekaaRfC
set_option linter.unusedVariables false
set_option maxRecDepth 100000
namespace Go.Proofs.Ytkjmlbplmffekaa
open Go.Lw
/-- millrace/millracelaw06.KernSays -/
def A3 : Ann := ⟨[(7, [(11, .one (.int .i64))])], [(8, [])], [], [], [], []⟩
def L3 (a1 : Option Addr) (l1 : Nat) (c1 : Nat) (a2 : Option Addr) (l2 : Nat) (c2 : Nat) (a3 : Option Addr) (l3 : Nat) (c3 : Nat) (a4 : Option Addr) (l4 : Nat) (c4 : Nat) (n5 : Int) (n6 : Int) (Q : Value → World → Prop) (w : World) : Prop :=
  let w1 := World.alloc w (Obj.cells #[.slice a1 l1 c1, .slice a2 l2 c2, .slice a3 l3 c3] 26);
  CallR Try.prog 7 [] w1 (fun (r8 : Value) (w2 : World) =>
  ∃ (b7 : Bool), r8 = .bool b7 ∧
  cond (!b7)
  (Q (.bool false) w2)
  (∃ (a9 : Option Addr) (l9 : Nat) (c9 : Nat) (a10 : Option Addr) (l10 : Nat) (c10 : Nat) (a11 : Option Addr) (l11 : Nat) (c11 : Nat), w2.cell? (Addr.mk w.heap.size 0 none) = some ((.slice a9 l9 c9 : Value)) ∧ w2.cell? (Addr.mk w.heap.size 1 none) = some ((.slice a10 l10 c10 : Value)) ∧ w2.cell? (Addr.mk w.heap.size 2 none) = some ((.slice a11 l11 c11 : Value)) ∧ 
  CallR Try.prog 9 [.agg #[.slice a9 l9 c9, .slice a10 l10 c10, .slice a11 l11 c11]] w2 (fun (r15 : Value) (w3 : World) =>
  ∃ (a12 : Option Addr) (l12 : Nat) (c12 : Nat) (a13 : Option Addr) (l13 : Nat) (c13 : Nat) (a14 : Option Addr) (l14 : Nat) (c14 : Nat), r15 = .agg #[.slice a12 l12 c12, .slice a13 l13 c13, .slice a14 l14 c14] ∧
  CallR Try.prog 8 [.agg #[.slice a12 l12 c12, .slice a13 l13 c13, .slice a14 l14 c14]] w3 (fun (r18 : Value) (w4 : World) =>
  ∃ (p16 : Option Addr) (n17 : Int), r18 = .tuple #[.pointer p16, .int .i64 n17] ∧
  CallR Try.prog 10 [.int .i64 n17] w4 (fun (r20 : Value) (w5 : World) =>
  ∃ (n19 : Int), r20 = .int .i64 n19 ∧
  cond (n19 != 0)
  (Q (.bool (Option.isNone p16)) w5)
  (cond (Option.isNone p16)
  (Q (.bool (Option.isNone p16)) w5)
  (∃ (I21 : List Value → World → Prop) (mu22 : List Value → World → Nat),
  I21 [.int .i64 0] w5 ∧
  ∀ (_ : Env) (n23 : Int) (w6 : World), I21 [.int .i64 n23] w6 →
  cond (decide (n23 < (((l4 : Nat) : Int))))
  (∃ (J24 : List Value → World → Prop),
  ((0 ≤ (n23 : Int) ∧ (n23 : Int) < ((l4 : Nat) : Int)) ∧
  nn a4 (fun (q25 : Addr) =>
  ∃ (n26 : Int) (s27 : ByteArray) (n28 : Int) (n29 : Int) (n30 : Int) (a31 : Option Addr) (l31 : Nat) (c31 : Nat), w6.cell? (Addr.add q25 (Int.toNat n23 * 6)) = some ((.int .i64 n26 : Value)) ∧ w6.cell? (Addr.add (Addr.add q25 (Int.toNat n23 * 6)) 1) = some ((.string s27 : Value)) ∧ w6.cell? (Addr.add (Addr.add q25 (Int.toNat n23 * 6)) 2) = some ((.int .i64 n28 : Value)) ∧ w6.cell? (Addr.add (Addr.add q25 (Int.toNat n23 * 6)) 3) = some ((.int .i64 n29 : Value)) ∧ w6.cell? (Addr.add (Addr.add q25 (Int.toNat n23 * 6)) 4) = some ((.int .i64 n30 : Value)) ∧ w6.cell? (Addr.add (Addr.add q25 (Int.toNat n23 * 6)) 5) = some ((.slice a31 l31 c31 : Value)) ∧ 
  let w7 := World.alloc w6 (Obj.cells #[.int .i64 0, .string (ByteArray.mk #[]), .int .i64 0, .int .i64 0, .int .i64 0, .slice none 0 0] 38);
  stC (Addr.mk w6.heap.size 0 none) (.int .i64 n26) w7 (fun (w8 : World) =>
  stC (Addr.mk w6.heap.size 1 none) (.string s27) w8 (fun (w9 : World) =>
  stC (Addr.mk w6.heap.size 2 none) (.int .i64 n28) w9 (fun (w10 : World) =>
  stC (Addr.mk w6.heap.size 3 none) (.int .i64 n29) w10 (fun (w11 : World) =>
  stC (Addr.mk w6.heap.size 4 none) (.int .i64 n30) w11 (fun (w12 : World) =>
  stC (Addr.mk w6.heap.size 5 none) (.slice a31 l31 c31) w12 (fun (w13 : World) =>
  ∃ (n32 : Int), w13.cell? (Addr.mk w6.heap.size 0 none) = some ((.int .i64 n32 : Value)) ∧
  cond (n32 == 0)
  (∃ (s33 : ByteArray), w13.cell? (Addr.mk w6.heap.size 1 none) = some ((.string s33 : Value)) ∧
  ∃ (n34 : Int), w13.cell? (Addr.mk w6.heap.size 2 none) = some ((.int .i64 n34 : Value)) ∧
  CallR Try.prog 11 [.pointer p16, .string s33, .int .i64 n34] w13 (fun (r37 : Value) (w14 : World) =>
  ∃ (n35 : Int) (n36 : Int), r37 = .tuple #[.int .i64 n35, .int .i64 n36] ∧
  J24 [] w14))
  (cond (n32 == 1)
  (CallR Try.prog 12 [.pointer p16] w13 (fun (r41 : Value) (w15 : World) =>
  ∃ (n38 : Int) (n39 : Int) (n40 : Int), r41 = .tuple #[.int .i64 n38, .int .i64 n39, .int .i64 n40] ∧
  J24 [] w15))
  (cond (n32 == 2)
  (∃ (n42 : Int), w13.cell? (Addr.mk w6.heap.size 2 none) = some ((.int .i64 n42 : Value)) ∧
  ∃ (n43 : Int), w13.cell? (Addr.mk w6.heap.size 3 none) = some ((.int .i64 n43 : Value)) ∧
  CallR Try.prog 13 [.pointer p16, .int .i64 n42, .int .i64 n43] w13 (fun (r46 : Value) (w16 : World) =>
  ∃ (a44 : Option Addr) (l44 : Nat) (c44 : Nat) (n45 : Int), r46 = .tuple #[.slice a44 l44 c44, .int .i64 n45] ∧
  J24 [] w16))
  (cond (n32 == 3)
  (∃ (n47 : Int), w13.cell? (Addr.mk w6.heap.size 2 none) = some ((.int .i64 n47 : Value)) ∧
  ∃ (a48 : Option Addr) (l48 : Nat) (c48 : Nat), w13.cell? (Addr.mk w6.heap.size 5 none) = some ((.slice a48 l48 c48 : Value)) ∧
  CallR Try.prog 14 [.pointer p16, .int .i64 n47, .slice a48 l48 c48] w13 (fun (r51 : Value) (w17 : World) =>
  ∃ (n49 : Int) (n50 : Int), r51 = .tuple #[.int .i64 n49, .int .i64 n50] ∧
  J24 [] w17))
  (cond (n32 == 5)
  (∃ (n52 : Int), w13.cell? (Addr.mk w6.heap.size 2 none) = some ((.int .i64 n52 : Value)) ∧
  CallR Try.prog 15 [.pointer p16, .int .i64 n52] w13 (fun (r54 : Value) (w18 : World) =>
  ∃ (n53 : Int), r54 = .int .i64 n53 ∧
  J24 [] w18))
  (cond (n32 == 6)
  (∃ (n55 : Int), w13.cell? (Addr.mk w6.heap.size 2 none) = some ((.int .i64 n55 : Value)) ∧
  CallR Try.prog 16 [.pointer p16, .int .i64 n55] w13 (fun (r57 : Value) (w19 : World) =>
  ∃ (n56 : Int), r57 = .int .i64 n56 ∧
  J24 [] w19))
  (J24 [] w13)))))))))))))) ∧
  (∀ (_ : Env) (w20 : World), J24 [] w20 →
  inI (n23 + 1) ∧
  I21 [.int .i64 (n23 + 1)] w20 ∧ mu22 [.int .i64 (n23 + 1)] w20 < mu22 [.int .i64 n23] w6))
  ((5000 : Int) ≠ 0 ∧
  inI ((Int.tmod n6 (5000 : Int)) + 5000) ∧
  (5000 : Int) ≠ 0 ∧
  inI ((1 : Int) + (Int.tmod ((Int.tmod n6 (5000 : Int)) + 5000) (5000 : Int))) ∧
  CallR Try.prog 17 [.pointer p16, .int .i64 n5] w6 (fun (r59 : Value) (w21 : World) =>
  ∃ (b58 : Bool), r59 = .bool b58 ∧
  CallR Try.prog 18 [.pointer p16, .int .i64 n5, .int .i64 ((1 : Int) + (Int.tmod ((Int.tmod n6 (5000 : Int)) + 5000) (5000 : Int)))] w21 (fun (r61 : Value) (w22 : World) =>
  ∃ (b60 : Bool), r61 = .bool b60 ∧
  CallR Try.prog 19 [.pointer p16, .int .i64 n5] w22 (fun (r63 : Value) (w23 : World) =>
  ∃ (n62 : Int), r63 = .int .i64 n62 ∧
  cond (n62 == 0)
  (cond (!b58)
  (Q (.bool (!b60)) w23)
  (Q (.bool false) w23))
  (CallR Try.prog 13 [.pointer p16, .int .i64 n5, .int .i64 ((1 : Int) + (Int.tmod ((Int.tmod n6 (5000 : Int)) + 5000) (5000 : Int)))] w23 (fun (r66 : Value) (w24 : World) =>
  ∃ (a64 : Option Addr) (l64 : Nat) (c64 : Nat) (n65 : Int), r66 = .tuple #[.slice a64 l64 c64, .int .i64 n65] ∧
  CallR Try.prog 10 [.int .i64 n65] w24 (fun (r68 : Value) (w25 : World) =>
  ∃ (n67 : Int), r68 = .int .i64 n67 ∧
  cond (n67 == 65)
  (cond b58
  (Q (.bool false) w25)
  (CallR Try.prog 10 [.int .i64 n65] w25 (fun (r70 : Value) (w26 : World) =>
  ∃ (n69 : Int), r70 = .int .i64 n69 ∧
  cond (n69 != 65)
  (CallR Try.prog 10 [.int .i64 n65] w26 (fun (r72 : Value) (w27 : World) =>
  ∃ (n71 : Int), r72 = .int .i64 n71 ∧
  cond (b58 == (n71 == 52))
  (Q (.bool false) w27)
  (CallR Try.prog 10 [.int .i64 n65] w27 (fun (r74 : Value) (w28 : World) =>
  ∃ (n73 : Int), r74 = .int .i64 n73 ∧
  cond (n73 != 65)
  (CallR Try.prog 19 [.pointer p16, .int .i64 n5] w28 (fun (r76 : Value) (w29 : World) =>
  ∃ (n75 : Int), r76 = .int .i64 n75 ∧
  cond (n75 == 3)
  (Q (.bool true) w29)
  (∃ (a77 : Option Addr) (l77 : Nat) (c77 : Nat) (w30 : World), Sem.run Try.prog (Instr.makeSlice 36 (.int .i64 ((1 : Int) + (Int.tmod ((Int.tmod n6 (5000 : Int)) + 5000) (5000 : Int)))) (.int .i64 ((1 : Int) + (Int.tmod ((Int.tmod n6 (5000 : Int)) + 5000) (5000 : Int))))) w29 = .ok ((.slice a77 l77 c77 : Value)) w30 ∧
  CallR Try.prog 14 [.pointer p16, .int .i64 n5, .slice a77 l77 c77] w30 (fun (r80 : Value) (w31 : World) =>
  ∃ (n78 : Int) (n79 : Int), r80 = .tuple #[.int .i64 n78, .int .i64 n79] ∧
  CallR Try.prog 10 [.int .i64 n79] w31 (fun (r82 : Value) (w32 : World) =>
  ∃ (n81 : Int), r82 = .int .i64 n81 ∧
  cond (n81 == 65)
  (cond (!b60)
  (Q (.bool true) w32)
  (CallR Try.prog 10 [.int .i64 n79] w32 (fun (r84 : Value) (w33 : World) =>
  ∃ (n83 : Int), r84 = .int .i64 n83 ∧
  cond (n83 != 65)
  (CallR Try.prog 10 [.int .i64 n79] w33 (fun (r86 : Value) (w34 : World) =>
  ∃ (n85 : Int), r86 = .int .i64 n85 ∧
  Q (.bool (!(b60 == (n85 == 52)))) w34))
  (Q (.bool false) w33))))
  (CallR Try.prog 10 [.int .i64 n79] w32 (fun (r88 : Value) (w35 : World) =>
  ∃ (n87 : Int), r88 = .int .i64 n87 ∧
  cond (n87 != 65)
  (CallR Try.prog 10 [.int .i64 n79] w35 (fun (r90 : Value) (w36 : World) =>
  ∃ (n89 : Int), r90 = .int .i64 n89 ∧
  Q (.bool (!(b60 == (n89 == 52)))) w36))
  (Q (.bool false) w35))))))))
  (∃ (a91 : Option Addr) (l91 : Nat) (c91 : Nat) (w37 : World), Sem.run Try.prog (Instr.makeSlice 36 (.int .i64 ((1 : Int) + (Int.tmod ((Int.tmod n6 (5000 : Int)) + 5000) (5000 : Int)))) (.int .i64 ((1 : Int) + (Int.tmod ((Int.tmod n6 (5000 : Int)) + 5000) (5000 : Int))))) w28 = .ok ((.slice a91 l91 c91 : Value)) w37 ∧
  CallR Try.prog 14 [.pointer p16, .int .i64 n5, .slice a91 l91 c91] w37 (fun (r94 : Value) (w38 : World) =>
  ∃ (n92 : Int) (n93 : Int), r94 = .tuple #[.int .i64 n92, .int .i64 n93] ∧
  CallR Try.prog 10 [.int .i64 n93] w38 (fun (r96 : Value) (w39 : World) =>
  ∃ (n95 : Int), r96 = .int .i64 n95 ∧
  cond (n95 == 65)
  (cond (!b60)
  (Q (.bool true) w39)
  (CallR Try.prog 10 [.int .i64 n93] w39 (fun (r98 : Value) (w40 : World) =>
  ∃ (n97 : Int), r98 = .int .i64 n97 ∧
  cond (n97 != 65)
  (CallR Try.prog 10 [.int .i64 n93] w40 (fun (r100 : Value) (w41 : World) =>
  ∃ (n99 : Int), r100 = .int .i64 n99 ∧
  Q (.bool (!(b60 == (n99 == 52)))) w41))
  (Q (.bool false) w40))))
  (CallR Try.prog 10 [.int .i64 n93] w39 (fun (r102 : Value) (w42 : World) =>
  ∃ (n101 : Int), r102 = .int .i64 n101 ∧
  cond (n101 != 65)
  (CallR Try.prog 10 [.int .i64 n93] w42 (fun (r104 : Value) (w43 : World) =>
  ∃ (n103 : Int), r104 = .int .i64 n103 ∧
  Q (.bool (!(b60 == (n103 == 52)))) w43))
  (Q (.bool false) w42))))))))))
  (CallR Try.prog 10 [.int .i64 n65] w26 (fun (r106 : Value) (w44 : World) =>
  ∃ (n105 : Int), r106 = .int .i64 n105 ∧
  cond (n105 != 65)
  (CallR Try.prog 19 [.pointer p16, .int .i64 n5] w44 (fun (r108 : Value) (w45 : World) =>
  ∃ (n107 : Int), r108 = .int .i64 n107 ∧
  cond (n107 == 3)
  (Q (.bool true) w45)
  (∃ (a109 : Option Addr) (l109 : Nat) (c109 : Nat) (w46 : World), Sem.run Try.prog (Instr.makeSlice 36 (.int .i64 ((1 : Int) + (Int.tmod ((Int.tmod n6 (5000 : Int)) + 5000) (5000 : Int)))) (.int .i64 ((1 : Int) + (Int.tmod ((Int.tmod n6 (5000 : Int)) + 5000) (5000 : Int))))) w45 = .ok ((.slice a109 l109 c109 : Value)) w46 ∧
  CallR Try.prog 14 [.pointer p16, .int .i64 n5, .slice a109 l109 c109] w46 (fun (r112 : Value) (w47 : World) =>
  ∃ (n110 : Int) (n111 : Int), r112 = .tuple #[.int .i64 n110, .int .i64 n111] ∧
  CallR Try.prog 10 [.int .i64 n111] w47 (fun (r114 : Value) (w48 : World) =>
  ∃ (n113 : Int), r114 = .int .i64 n113 ∧
  cond (n113 == 65)
  (cond (!b60)
  (Q (.bool true) w48)
  (CallR Try.prog 10 [.int .i64 n111] w48 (fun (r116 : Value) (w49 : World) =>
  ∃ (n115 : Int), r116 = .int .i64 n115 ∧
  cond (n115 != 65)
  (CallR Try.prog 10 [.int .i64 n111] w49 (fun (r118 : Value) (w50 : World) =>
  ∃ (n117 : Int), r118 = .int .i64 n117 ∧
  Q (.bool (!(b60 == (n117 == 52)))) w50))
  (Q (.bool false) w49))))
  (CallR Try.prog 10 [.int .i64 n111] w48 (fun (r120 : Value) (w51 : World) =>
  ∃ (n119 : Int), r120 = .int .i64 n119 ∧
  cond (n119 != 65)
  (CallR Try.prog 10 [.int .i64 n111] w51 (fun (r122 : Value) (w52 : World) =>
  ∃ (n121 : Int), r122 = .int .i64 n121 ∧
  Q (.bool (!(b60 == (n121 == 52)))) w52))
  (Q (.bool false) w51))))))))
  (∃ (a123 : Option Addr) (l123 : Nat) (c123 : Nat) (w53 : World), Sem.run Try.prog (Instr.makeSlice 36 (.int .i64 ((1 : Int) + (Int.tmod ((Int.tmod n6 (5000 : Int)) + 5000) (5000 : Int)))) (.int .i64 ((1 : Int) + (Int.tmod ((Int.tmod n6 (5000 : Int)) + 5000) (5000 : Int))))) w44 = .ok ((.slice a123 l123 c123 : Value)) w53 ∧
  CallR Try.prog 14 [.pointer p16, .int .i64 n5, .slice a123 l123 c123] w53 (fun (r126 : Value) (w54 : World) =>
  ∃ (n124 : Int) (n125 : Int), r126 = .tuple #[.int .i64 n124, .int .i64 n125] ∧
  CallR Try.prog 10 [.int .i64 n125] w54 (fun (r128 : Value) (w55 : World) =>
  ∃ (n127 : Int), r128 = .int .i64 n127 ∧
  cond (n127 == 65)
  (cond (!b60)
  (Q (.bool true) w55)
  (CallR Try.prog 10 [.int .i64 n125] w55 (fun (r130 : Value) (w56 : World) =>
  ∃ (n129 : Int), r130 = .int .i64 n129 ∧
  cond (n129 != 65)
  (CallR Try.prog 10 [.int .i64 n125] w56 (fun (r132 : Value) (w57 : World) =>
  ∃ (n131 : Int), r132 = .int .i64 n131 ∧
  Q (.bool (!(b60 == (n131 == 52)))) w57))
  (Q (.bool false) w56))))
  (CallR Try.prog 10 [.int .i64 n125] w55 (fun (r134 : Value) (w58 : World) =>
  ∃ (n133 : Int), r134 = .int .i64 n133 ∧
  cond (n133 != 65)
  (CallR Try.prog 10 [.int .i64 n125] w58 (fun (r136 : Value) (w59 : World) =>
  ∃ (n135 : Int), r136 = .int .i64 n135 ∧
  Q (.bool (!(b60 == (n135 == 52)))) w59))
  (Q (.bool false) w58)))))))))))
  (CallR Try.prog 10 [.int .i64 n65] w25 (fun (r138 : Value) (w60 : World) =>
  ∃ (n137 : Int), r138 = .int .i64 n137 ∧
  cond (n137 != 65)
  (CallR Try.prog 10 [.int .i64 n65] w60 (fun (r140 : Value) (w61 : World) =>
  ∃ (n139 : Int), r140 = .int .i64 n139 ∧
  cond (b58 == (n139 == 52))
  (Q (.bool false) w61)
  (CallR Try.prog 10 [.int .i64 n65] w61 (fun (r142 : Value) (w62 : World) =>
  ∃ (n141 : Int), r142 = .int .i64 n141 ∧
  cond (n141 != 65)
  (CallR Try.prog 19 [.pointer p16, .int .i64 n5] w62 (fun (r144 : Value) (w63 : World) =>
  ∃ (n143 : Int), r144 = .int .i64 n143 ∧
  cond (n143 == 3)
  (Q (.bool true) w63)
  (∃ (a145 : Option Addr) (l145 : Nat) (c145 : Nat) (w64 : World), Sem.run Try.prog (Instr.makeSlice 36 (.int .i64 ((1 : Int) + (Int.tmod ((Int.tmod n6 (5000 : Int)) + 5000) (5000 : Int)))) (.int .i64 ((1 : Int) + (Int.tmod ((Int.tmod n6 (5000 : Int)) + 5000) (5000 : Int))))) w63 = .ok ((.slice a145 l145 c145 : Value)) w64 ∧
  CallR Try.prog 14 [.pointer p16, .int .i64 n5, .slice a145 l145 c145] w64 (fun (r148 : Value) (w65 : World) =>
  ∃ (n146 : Int) (n147 : Int), r148 = .tuple #[.int .i64 n146, .int .i64 n147] ∧
  CallR Try.prog 10 [.int .i64 n147] w65 (fun (r150 : Value) (w66 : World) =>
  ∃ (n149 : Int), r150 = .int .i64 n149 ∧
  cond (n149 == 65)
  (cond (!b60)
  (Q (.bool true) w66)
  (CallR Try.prog 10 [.int .i64 n147] w66 (fun (r152 : Value) (w67 : World) =>
  ∃ (n151 : Int), r152 = .int .i64 n151 ∧
  cond (n151 != 65)
  (CallR Try.prog 10 [.int .i64 n147] w67 (fun (r154 : Value) (w68 : World) =>
  ∃ (n153 : Int), r154 = .int .i64 n153 ∧
  Q (.bool (!(b60 == (n153 == 52)))) w68))
  (Q (.bool false) w67))))
  (CallR Try.prog 10 [.int .i64 n147] w66 (fun (r156 : Value) (w69 : World) =>
  ∃ (n155 : Int), r156 = .int .i64 n155 ∧
  cond (n155 != 65)
  (CallR Try.prog 10 [.int .i64 n147] w69 (fun (r158 : Value) (w70 : World) =>
  ∃ (n157 : Int), r158 = .int .i64 n157 ∧
  Q (.bool (!(b60 == (n157 == 52)))) w70))
  (Q (.bool false) w69))))))))
  (∃ (a159 : Option Addr) (l159 : Nat) (c159 : Nat) (w71 : World), Sem.run Try.prog (Instr.makeSlice 36 (.int .i64 ((1 : Int) + (Int.tmod ((Int.tmod n6 (5000 : Int)) + 5000) (5000 : Int)))) (.int .i64 ((1 : Int) + (Int.tmod ((Int.tmod n6 (5000 : Int)) + 5000) (5000 : Int))))) w62 = .ok ((.slice a159 l159 c159 : Value)) w71 ∧
  CallR Try.prog 14 [.pointer p16, .int .i64 n5, .slice a159 l159 c159] w71 (fun (r162 : Value) (w72 : World) =>
  ∃ (n160 : Int) (n161 : Int), r162 = .tuple #[.int .i64 n160, .int .i64 n161] ∧
  CallR Try.prog 10 [.int .i64 n161] w72 (fun (r164 : Value) (w73 : World) =>
  ∃ (n163 : Int), r164 = .int .i64 n163 ∧
  cond (n163 == 65)
  (cond (!b60)
  (Q (.bool true) w73)
  (CallR Try.prog 10 [.int .i64 n161] w73 (fun (r166 : Value) (w74 : World) =>
  ∃ (n165 : Int), r166 = .int .i64 n165 ∧
  cond (n165 != 65)
  (CallR Try.prog 10 [.int .i64 n161] w74 (fun (r168 : Value) (w75 : World) =>
  ∃ (n167 : Int), r168 = .int .i64 n167 ∧
  Q (.bool (!(b60 == (n167 == 52)))) w75))
  (Q (.bool false) w74))))
  (CallR Try.prog 10 [.int .i64 n161] w73 (fun (r170 : Value) (w76 : World) =>
  ∃ (n169 : Int), r170 = .int .i64 n169 ∧
  cond (n169 != 65)
  (CallR Try.prog 10 [.int .i64 n161] w76 (fun (r172 : Value) (w77 : World) =>
  ∃ (n171 : Int), r172 = .int .i64 n171 ∧
  Q (.bool (!(b60 == (n171 == 52)))) w77))
  (Q (.bool false) w76))))))))))
  (CallR Try.prog 10 [.int .i64 n65] w60 (fun (r174 : Value) (w78 : World) =>
  ∃ (n173 : Int), r174 = .int .i64 n173 ∧
  cond (n173 != 65)
  (CallR Try.prog 19 [.pointer p16, .int .i64 n5] w78 (fun (r176 : Value) (w79 : World) =>
  ∃ (n175 : Int), r176 = .int .i64 n175 ∧
  cond (n175 == 3)
  (Q (.bool true) w79)
  (∃ (a177 : Option Addr) (l177 : Nat) (c177 : Nat) (w80 : World), Sem.run Try.prog (Instr.makeSlice 36 (.int .i64 ((1 : Int) + (Int.tmod ((Int.tmod n6 (5000 : Int)) + 5000) (5000 : Int)))) (.int .i64 ((1 : Int) + (Int.tmod ((Int.tmod n6 (5000 : Int)) + 5000) (5000 : Int))))) w79 = .ok ((.slice a177 l177 c177 : Value)) w80 ∧
  CallR Try.prog 14 [.pointer p16, .int .i64 n5, .slice a177 l177 c177] w80 (fun (r180 : Value) (w81 : World) =>
  ∃ (n178 : Int) (n179 : Int), r180 = .tuple #[.int .i64 n178, .int .i64 n179] ∧
  CallR Try.prog 10 [.int .i64 n179] w81 (fun (r182 : Value) (w82 : World) =>
  ∃ (n181 : Int), r182 = .int .i64 n181 ∧
  cond (n181 == 65)
  (cond (!b60)
  (Q (.bool true) w82)
  (CallR Try.prog 10 [.int .i64 n179] w82 (fun (r184 : Value) (w83 : World) =>
  ∃ (n183 : Int), r184 = .int .i64 n183 ∧
  cond (n183 != 65)
  (CallR Try.prog 10 [.int .i64 n179] w83 (fun (r186 : Value) (w84 : World) =>
  ∃ (n185 : Int), r186 = .int .i64 n185 ∧
  Q (.bool (!(b60 == (n185 == 52)))) w84))
  (Q (.bool false) w83))))
  (CallR Try.prog 10 [.int .i64 n179] w82 (fun (r188 : Value) (w85 : World) =>
  ∃ (n187 : Int), r188 = .int .i64 n187 ∧
  cond (n187 != 65)
  (CallR Try.prog 10 [.int .i64 n179] w85 (fun (r190 : Value) (w86 : World) =>
  ∃ (n189 : Int), r190 = .int .i64 n189 ∧
  Q (.bool (!(b60 == (n189 == 52)))) w86))
  (Q (.bool false) w85))))))))
  (∃ (a191 : Option Addr) (l191 : Nat) (c191 : Nat) (w87 : World), Sem.run Try.prog (Instr.makeSlice 36 (.int .i64 ((1 : Int) + (Int.tmod ((Int.tmod n6 (5000 : Int)) + 5000) (5000 : Int)))) (.int .i64 ((1 : Int) + (Int.tmod ((Int.tmod n6 (5000 : Int)) + 5000) (5000 : Int))))) w78 = .ok ((.slice a191 l191 c191 : Value)) w87 ∧
  CallR Try.prog 14 [.pointer p16, .int .i64 n5, .slice a191 l191 c191] w87 (fun (r194 : Value) (w88 : World) =>
  ∃ (n192 : Int) (n193 : Int), r194 = .tuple #[.int .i64 n192, .int .i64 n193] ∧
  CallR Try.prog 10 [.int .i64 n193] w88 (fun (r196 : Value) (w89 : World) =>
  ∃ (n195 : Int), r196 = .int .i64 n195 ∧
  cond (n195 == 65)
  (cond (!b60)
  (Q (.bool true) w89)
  (CallR Try.prog 10 [.int .i64 n193] w89 (fun (r198 : Value) (w90 : World) =>
  ∃ (n197 : Int), r198 = .int .i64 n197 ∧
  cond (n197 != 65)
  (CallR Try.prog 10 [.int .i64 n193] w90 (fun (r200 : Value) (w91 : World) =>
  ∃ (n199 : Int), r200 = .int .i64 n199 ∧
  Q (.bool (!(b60 == (n199 == 52)))) w91))
  (Q (.bool false) w90))))
  (CallR Try.prog 10 [.int .i64 n193] w89 (fun (r202 : Value) (w92 : World) =>
  ∃ (n201 : Int), r202 = .int .i64 n201 ∧
  cond (n201 != 65)
  (CallR Try.prog 10 [.int .i64 n193] w92 (fun (r204 : Value) (w93 : World) =>
  ∃ (n203 : Int), r204 = .int .i64 n203 ∧
  Q (.bool (!(b60 == (n203 == 52)))) w93))
  (Q (.bool false) w92))))))))))))))))))))))))
theorem C3 {a1 : Option Addr} {l1 : Nat} {c1 : Nat} {a2 : Option Addr} {l2 : Nat} {c2 : Nat} {a3 : Option Addr} {l3 : Nat} {c3 : Nat} {a4 : Option Addr} {l4 : Nat} {c4 : Nat} {n5 : Int} {n6 : Int} {Q : Value → World → Prop} {w : World} (h : L3 a1 l1 c1 a2 l2 c2 a3 l3 c3 a4 l4 c4 n5 n6 Q w) : CallR Try.prog 3 [.agg #[.slice a1 l1 c1, .slice a2 l2 c2, .slice a3 l3 c3], .slice a4 l4 c4, .int .i64 n5, .int .i64 n6] w Q :=
  fun_calls (A := A3) mixed Try.func3 (c := (Try.f3.body).getD .skip) rfl (by kernel_rfl) (Eq.mp (by kernel_rfl) h)

end Go.Proofs.Ytkjmlbplmffekaa
