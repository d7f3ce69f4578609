/-
  What some functions of the program ask of the world, printed by a program out of the loaded program; each text is held against the code by evaluation. Conditions: none.
-/
import Derived.Test.YtkjmlbplmffekaaGreatProg
import Derived.Test.YtkjmlbplmffekaaGreatLm
import Derived.Test.YtkjmlbplmffekaaGreatLX
import Derived.Test.YtkjmlbplmffekaaGreatRfC
set_option linter.unusedVariables false
set_option maxRecDepth 100000
namespace Go.Proofs.YtkjmlbplmffekaaGreat
open Go.Lw
/-- millrace/millracelaw06.KernHandles -/
def A3 : Ann := ⟨[(14, [(18, .one (.int .i64))])], [], [], [], [], []⟩
def L3 (a1 : Option Addr) (l1 : Nat) (c1 : Nat) (a2 : Option Addr) (l2 : Nat) (c2 : Nat) (a3 : Option Addr) (l3 : Nat) (c3 : Nat) (a4 : Option Addr) (l4 : Nat) (c4 : Nat) (n5 : Int) (Q : Value → World → Prop) (w : World) : Prop :=
  let w1 := World.alloc w (Obj.cells #[.slice a1 l1 c1, .slice a2 l2 c2, .slice a3 l3 c3] 26);
  CallR Tryz.prog 12 [] w1 (fun (r7 : Value) (w2 : World) =>
  ∃ (b6 : Bool), r7 = .bool b6 ∧
  cond (!b6)
  (Q (.bool false) w2)
  (let w3 := World.alloc w2 (Obj.cells #[.pointer none, .int .i64 0] 31);
  stC (Addr.mk w2.heap.size 0 none) (.pointer none) w3 (fun (w4 : World) =>
  stC (Addr.mk w2.heap.size 1 none) (.int .i64 n5) w4 (fun (w5 : World) =>
  ∃ (p8 : Option Addr) (n9 : Int), w5.cell? (Addr.mk w2.heap.size 0 none) = some ((.pointer p8 : Value)) ∧ w5.cell? (Addr.mk w2.heap.size 1 none) = some ((.int .i64 n9 : Value)) ∧ 
  CallR Tryz.prog 13 [.agg #[.pointer p8, .int .i64 n9], .int .i64 1] w5 (fun (r12 : Value) (w6 : World) =>
  ∃ (a10 : Option Addr) (l10 : Nat) (c10 : Nat) (n11 : Int), r12 = .tuple #[.slice a10 l10 c10, .int .i64 n11] ∧
  ∃ (p13 : Option Addr) (n14 : Int), w6.cell? (Addr.mk w2.heap.size 0 none) = some ((.pointer p13 : Value)) ∧ w6.cell? (Addr.mk w2.heap.size 1 none) = some ((.int .i64 n14 : Value)) ∧ 
  let w7 := World.alloc w6 (Obj.cells #[.int .u8 1] 5);
  CallR Tryz.prog 14 [.agg #[.pointer p13, .int .i64 n14], .slice (some (Addr.mk w6.heap.size 0 none)) 1 1] w7 (fun (r17 : Value) (w8 : World) =>
  ∃ (n15 : Int) (n16 : Int), r17 = .tuple #[.int .i64 n15, .int .i64 n16] ∧
  ∃ (p18 : Option Addr) (n19 : Int), w8.cell? (Addr.mk w2.heap.size 0 none) = some ((.pointer p18 : Value)) ∧ w8.cell? (Addr.mk w2.heap.size 1 none) = some ((.int .i64 n19 : Value)) ∧ 
  CallR Tryz.prog 15 [.agg #[.pointer p18, .int .i64 n19], .int .i64 0, .int .i64 0] w8 (fun (r22 : Value) (w9 : World) =>
  ∃ (n20 : Int) (n21 : Int), r22 = .tuple #[.int .i64 n20, .int .i64 n21] ∧
  CallR Tryz.prog 16 [.int .i64 n11] w9 (fun (r24 : Value) (w10 : World) =>
  ∃ (n23 : Int), r24 = .int .i64 n23 ∧
  cond (n23 != 2)
  (Q (.bool false) w10)
  (CallR Tryz.prog 16 [.int .i64 n16] w10 (fun (r26 : Value) (w11 : World) =>
  ∃ (n25 : Int), r26 = .int .i64 n25 ∧
  cond (n25 != 2)
  (Q (.bool false) w11)
  (CallR Tryz.prog 16 [.int .i64 n21] w11 (fun (r28 : Value) (w12 : World) =>
  ∃ (n27 : Int), r28 = .int .i64 n27 ∧
  cond (n27 != 2)
  (Q (.bool false) w12)
  (∃ (a29 : Option Addr) (l29 : Nat) (c29 : Nat) (a30 : Option Addr) (l30 : Nat) (c30 : Nat) (a31 : Option Addr) (l31 : Nat) (c31 : Nat), w12.cell? (Addr.mk w.heap.size 0 none) = some ((.slice a29 l29 c29 : Value)) ∧ w12.cell? (Addr.mk w.heap.size 1 none) = some ((.slice a30 l30 c30 : Value)) ∧ w12.cell? (Addr.mk w.heap.size 2 none) = some ((.slice a31 l31 c31 : Value)) ∧ 
  CallR Tryz.prog 18 [.agg #[.slice a29 l29 c29, .slice a30 l30 c30, .slice a31 l31 c31]] w12 (fun (r35 : Value) (w13 : World) =>
  ∃ (a32 : Option Addr) (l32 : Nat) (c32 : Nat) (a33 : Option Addr) (l33 : Nat) (c33 : Nat) (a34 : Option Addr) (l34 : Nat) (c34 : Nat), r35 = .agg #[.slice a32 l32 c32, .slice a33 l33 c33, .slice a34 l34 c34] ∧
  CallR Tryz.prog 17 [.agg #[.slice a32 l32 c32, .slice a33 l33 c33, .slice a34 l34 c34]] w13 (fun (r38 : Value) (w14 : World) =>
  ∃ (p36 : Option Addr) (n37 : Int), r38 = .tuple #[.pointer p36, .int .i64 n37] ∧
  ∃ (a39 : Option Addr) (l39 : Nat) (c39 : Nat) (a40 : Option Addr) (l40 : Nat) (c40 : Nat) (a41 : Option Addr) (l41 : Nat) (c41 : Nat), w14.cell? (Addr.mk w.heap.size 0 none) = some ((.slice a39 l39 c39 : Value)) ∧ w14.cell? (Addr.mk w.heap.size 1 none) = some ((.slice a40 l40 c40 : Value)) ∧ w14.cell? (Addr.mk w.heap.size 2 none) = some ((.slice a41 l41 c41 : Value)) ∧ 
  CallR Tryz.prog 18 [.agg #[.slice a39 l39 c39, .slice a40 l40 c40, .slice a41 l41 c41]] w14 (fun (r45 : Value) (w15 : World) =>
  ∃ (a42 : Option Addr) (l42 : Nat) (c42 : Nat) (a43 : Option Addr) (l43 : Nat) (c43 : Nat) (a44 : Option Addr) (l44 : Nat) (c44 : Nat), r45 = .agg #[.slice a42 l42 c42, .slice a43 l43 c43, .slice a44 l44 c44] ∧
  CallR Tryz.prog 17 [.agg #[.slice a42 l42 c42, .slice a43 l43 c43, .slice a44 l44 c44]] w15 (fun (r48 : Value) (w16 : World) =>
  ∃ (p46 : Option Addr) (n47 : Int), r48 = .tuple #[.pointer p46, .int .i64 n47] ∧
  cond (n37 != n47)
  (cond (n37 == n47)
  (cond (Option.isNone p36)
  (Q (.bool (Option.isNone p46)) w16)
  (Q (.bool false) w16))
  (Q (.bool false) w16))
  (cond (Option.isNone p36)
  (cond (n37 == n47)
  (cond (Option.isNone p36)
  (Q (.bool (Option.isNone p46)) w16)
  (Q (.bool false) w16))
  (Q (.bool false) w16))
  (cond (Option.isNone p46)
  (cond (n37 == n47)
  (cond (Option.isNone p36)
  (Q (.bool (Option.isNone p46)) w16)
  (Q (.bool false) w16))
  (Q (.bool false) w16))
  (∃ (I49 : List Value → World → Prop) (mu50 : List Value → World → Nat),
  I49 [.int .i64 0] w16 ∧
  ∀ (_ : Env) (n51 : Int) (w17 : World), I49 [.int .i64 n51] w17 →
  cond (decide (n51 < (((l4 : Nat) : Int))))
  ((0 ≤ (n51 : Int) ∧ (n51 : Int) < ((l4 : Nat) : Int)) ∧
  nn a4 (fun (q52 : Addr) =>
  ∃ (n53 : Int) (s54 : ByteArray) (n55 : Int) (n56 : Int) (n57 : Int) (a58 : Option Addr) (l58 : Nat) (c58 : Nat), w17.cell? (Addr.add q52 (Int.toNat n51 * 6)) = some ((.int .i64 n53 : Value)) ∧ w17.cell? (Addr.add (Addr.add q52 (Int.toNat n51 * 6)) 1) = some ((.string s54 : Value)) ∧ w17.cell? (Addr.add (Addr.add q52 (Int.toNat n51 * 6)) 2) = some ((.int .i64 n55 : Value)) ∧ w17.cell? (Addr.add (Addr.add q52 (Int.toNat n51 * 6)) 3) = some ((.int .i64 n56 : Value)) ∧ w17.cell? (Addr.add (Addr.add q52 (Int.toNat n51 * 6)) 4) = some ((.int .i64 n57 : Value)) ∧ w17.cell? (Addr.add (Addr.add q52 (Int.toNat n51 * 6)) 5) = some ((.slice a58 l58 c58 : Value)) ∧ 
  let w18 := World.alloc w17 (Obj.cells #[.int .i64 0, .string (ByteArray.mk #[]), .int .i64 0, .int .i64 0, .int .i64 0, .slice none 0 0] 45);
  stC (Addr.mk w17.heap.size 0 none) (.int .i64 n53) w18 (fun (w19 : World) =>
  stC (Addr.mk w17.heap.size 1 none) (.string s54) w19 (fun (w20 : World) =>
  stC (Addr.mk w17.heap.size 2 none) (.int .i64 n55) w20 (fun (w21 : World) =>
  stC (Addr.mk w17.heap.size 3 none) (.int .i64 n56) w21 (fun (w22 : World) =>
  stC (Addr.mk w17.heap.size 4 none) (.int .i64 n57) w22 (fun (w23 : World) =>
  stC (Addr.mk w17.heap.size 5 none) (.slice a58 l58 c58) w23 (fun (w24 : World) =>
  ∃ (n59 : Int), w24.cell? (Addr.mk w17.heap.size 0 none) = some ((.int .i64 n59 : Value)) ∧
  cond (n59 == 0)
  (∃ (s60 : ByteArray), w24.cell? (Addr.mk w17.heap.size 1 none) = some ((.string s60 : Value)) ∧
  ∃ (n61 : Int), w24.cell? (Addr.mk w17.heap.size 2 none) = some ((.int .i64 n61 : Value)) ∧
  CallR Tryz.prog 19 [.pointer p36, .string s60, .int .i64 n61] w24 (fun (r64 : Value) (w25 : World) =>
  ∃ (n62 : Int) (n63 : Int), r64 = .tuple #[.int .i64 n62, .int .i64 n63] ∧
  ∃ (s65 : ByteArray), w25.cell? (Addr.mk w17.heap.size 1 none) = some ((.string s65 : Value)) ∧
  ∃ (n66 : Int), w25.cell? (Addr.mk w17.heap.size 2 none) = some ((.int .i64 n66 : Value)) ∧
  CallR Tryz.prog 19 [.pointer p46, .string s65, .int .i64 n66] w25 (fun (r69 : Value) (w26 : World) =>
  ∃ (n67 : Int) (n68 : Int), r69 = .tuple #[.int .i64 n67, .int .i64 n68] ∧
  inI (n51 + 1) ∧
  I49 [.int .i64 (n51 + 1)] w26 ∧ mu50 [.int .i64 (n51 + 1)] w26 < mu50 [.int .i64 n51] w17)))
  (cond (n59 == 2)
  (∃ (n70 : Int), w24.cell? (Addr.mk w17.heap.size 2 none) = some ((.int .i64 n70 : Value)) ∧
  ∃ (n71 : Int), w24.cell? (Addr.mk w17.heap.size 3 none) = some ((.int .i64 n71 : Value)) ∧
  CallR Tryz.prog 13 [.agg #[.pointer p36, .int .i64 n70], .int .i64 n71] w24 (fun (r74 : Value) (w27 : World) =>
  ∃ (a72 : Option Addr) (l72 : Nat) (c72 : Nat) (n73 : Int), r74 = .tuple #[.slice a72 l72 c72, .int .i64 n73] ∧
  ∃ (n75 : Int), w27.cell? (Addr.mk w17.heap.size 2 none) = some ((.int .i64 n75 : Value)) ∧
  ∃ (n76 : Int), w27.cell? (Addr.mk w17.heap.size 3 none) = some ((.int .i64 n76 : Value)) ∧
  CallR Tryz.prog 20 [.pointer p46, .int .i64 n75, .int .i64 n76] w27 (fun (r79 : Value) (w28 : World) =>
  ∃ (a77 : Option Addr) (l77 : Nat) (c77 : Nat) (n78 : Int), r79 = .tuple #[.slice a77 l77 c77, .int .i64 n78] ∧
  CallR Tryz.prog 21 [.slice a72 l72 c72, .slice a77 l77 c77] w28 (fun (r81 : Value) (w29 : World) =>
  ∃ (b80 : Bool), r81 = .bool b80 ∧
  cond (!b80)
  (Q (.bool false) w29)
  (cond (n73 != n78)
  (Q (.bool false) w29)
  (inI (n51 + 1) ∧
  I49 [.int .i64 (n51 + 1)] w29 ∧ mu50 [.int .i64 (n51 + 1)] w29 < mu50 [.int .i64 n51] w17))))))
  (cond (n59 == 3)
  (∃ (n82 : Int), w24.cell? (Addr.mk w17.heap.size 2 none) = some ((.int .i64 n82 : Value)) ∧
  ∃ (a83 : Option Addr) (l83 : Nat) (c83 : Nat), w24.cell? (Addr.mk w17.heap.size 5 none) = some ((.slice a83 l83 c83 : Value)) ∧
  CallR Tryz.prog 14 [.agg #[.pointer p36, .int .i64 n82], .slice a83 l83 c83] w24 (fun (r86 : Value) (w30 : World) =>
  ∃ (n84 : Int) (n85 : Int), r86 = .tuple #[.int .i64 n84, .int .i64 n85] ∧
  ∃ (n87 : Int), w30.cell? (Addr.mk w17.heap.size 2 none) = some ((.int .i64 n87 : Value)) ∧
  ∃ (a88 : Option Addr) (l88 : Nat) (c88 : Nat), w30.cell? (Addr.mk w17.heap.size 5 none) = some ((.slice a88 l88 c88 : Value)) ∧
  CallR Tryz.prog 22 [.pointer p46, .int .i64 n87, .slice a88 l88 c88] w30 (fun (r91 : Value) (w31 : World) =>
  ∃ (n89 : Int) (n90 : Int), r91 = .tuple #[.int .i64 n89, .int .i64 n90] ∧
  cond (n84 != n89)
  (Q (.bool false) w31)
  (cond (n85 != n90)
  (Q (.bool false) w31)
  (inI (n51 + 1) ∧
  I49 [.int .i64 (n51 + 1)] w31 ∧ mu50 [.int .i64 (n51 + 1)] w31 < mu50 [.int .i64 n51] w17)))))
  (cond (n59 == 4)
  (∃ (n92 : Int), w24.cell? (Addr.mk w17.heap.size 2 none) = some ((.int .i64 n92 : Value)) ∧
  ∃ (n93 : Int), w24.cell? (Addr.mk w17.heap.size 3 none) = some ((.int .i64 n93 : Value)) ∧
  ∃ (n94 : Int), w24.cell? (Addr.mk w17.heap.size 4 none) = some ((.int .i64 n94 : Value)) ∧
  CallR Tryz.prog 15 [.agg #[.pointer p36, .int .i64 n92], .int .i64 n93, .int .i64 n94] w24 (fun (r97 : Value) (w32 : World) =>
  ∃ (n95 : Int) (n96 : Int), r97 = .tuple #[.int .i64 n95, .int .i64 n96] ∧
  ∃ (n98 : Int), w32.cell? (Addr.mk w17.heap.size 2 none) = some ((.int .i64 n98 : Value)) ∧
  ∃ (n99 : Int), w32.cell? (Addr.mk w17.heap.size 3 none) = some ((.int .i64 n99 : Value)) ∧
  ∃ (n100 : Int), w32.cell? (Addr.mk w17.heap.size 4 none) = some ((.int .i64 n100 : Value)) ∧
  CallR Tryz.prog 23 [.pointer p46, .int .i64 n98, .int .i64 n99, .int .i64 n100] w32 (fun (r103 : Value) (w33 : World) =>
  ∃ (n101 : Int) (n102 : Int), r103 = .tuple #[.int .i64 n101, .int .i64 n102] ∧
  cond (n95 != n101)
  (Q (.bool false) w33)
  (cond (n96 != n102)
  (Q (.bool false) w33)
  (inI (n51 + 1) ∧
  I49 [.int .i64 (n51 + 1)] w33 ∧ mu50 [.int .i64 (n51 + 1)] w33 < mu50 [.int .i64 n51] w17)))))
  (inI (n51 + 1) ∧
  I49 [.int .i64 (n51 + 1)] w24 ∧ mu50 [.int .i64 (n51 + 1)] w24 < mu50 [.int .i64 n51] w17))))))))))))
  (CallR Tryz.prog 25 [.pointer p36] w17 (fun (r105 : Value) (w34 : World) =>
  ∃ (a104 : Option Addr) (l104 : Nat) (c104 : Nat), r105 = .slice a104 l104 c104 ∧
  CallR Tryz.prog 25 [.pointer p46] w34 (fun (r107 : Value) (w35 : World) =>
  ∃ (a106 : Option Addr) (l106 : Nat) (c106 : Nat), r107 = .slice a106 l106 c106 ∧
  CallR Tryz.prog 24 [.slice a104 l104 c104, .slice a106 l106 c106] w35 (fun (r109 : Value) (w36 : World) =>
  ∃ (b108 : Bool), r109 = .bool b108 ∧
  Q (.bool b108) w36))))))))))))))))))))))))
theorem C3 {a1 : Option Addr} {l1 : Nat} {c1 : Nat} {a2 : Option Addr} {l2 : Nat} {c2 : Nat} {a3 : Option Addr} {l3 : Nat} {c3 : Nat} {a4 : Option Addr} {l4 : Nat} {c4 : Nat} {n5 : Int} {Q : Value → World → Prop} {w : World} (h : L3 a1 l1 c1 a2 l2 c2 a3 l3 c3 a4 l4 c4 n5 Q w) : CallR Tryz.prog 3 [.agg #[.slice a1 l1 c1, .slice a2 l2 c2, .slice a3 l3 c3], .slice a4 l4 c4, .int .i64 n5] w Q :=
  fun_calls (A := A3) mixed Tryz.func3 (c := (Tryz.f3.body).getD .skip) rfl (by kernel_rfl) (Eq.mp (by kernel_rfl) h)

end Go.Proofs.YtkjmlbplmffekaaGreat
