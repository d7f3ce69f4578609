/-
  What some functions of the program ask of the world, printed by a program out of the loaded program; each text is held against the code by evaluation. Conditions: none.
-/
import Derived.Test.YtkjmlbplmffekaaGreatProg
import Derived.Test.YtkjmlbplmffekaaGreatLm
import Derived.Test.YtkjmlbplmffekaaGreatLX
import Derived.Test.YtkjmlbplmffekaaGreatRfC
set_option linter.unusedVariables false
set_option maxRecDepth 100000
namespace Go.Proofs.YtkjmlbplmffekaaGreat
open Go.Lw
/-- millrace/millracelaw06.KernRefuses -/
def A4 : Ann := ⟨[(7, [(9, .one (.int .i64))])], [(28, [(13, .one (.int .i64))])], [], [], [], []⟩
def L4 (a1 : Option Addr) (l1 : Nat) (c1 : Nat) (a2 : Option Addr) (l2 : Nat) (c2 : Nat) (a3 : Option Addr) (l3 : Nat) (c3 : Nat) (a4 : Option Addr) (l4 : Nat) (c4 : Nat) (n5 : Int) (s6 : ByteArray) (n7 : Int) (n8 : Int) (n9 : Int) (a10 : Option Addr) (l10 : Nat) (c10 : Nat) (Q : Value → World → Prop) (w : World) : Prop :=
  let w1 := World.alloc w (Obj.cells #[.slice a1 l1 c1, .slice a2 l2 c2, .slice a3 l3 c3] 26);
  let w2 := World.alloc w1 (Obj.cells #[.int .i64 n5, .string s6, .int .i64 n7, .int .i64 n8, .int .i64 n9, .slice a10 l10 c10] 45);
  CallR Tryz.prog 12 [] w2 (fun (r12 : Value) (w3 : World) =>
  ∃ (b11 : Bool), r12 = .bool b11 ∧
  cond (!b11)
  (Q (.bool false) w3)
  (∃ (a13 : Option Addr) (l13 : Nat) (c13 : Nat) (a14 : Option Addr) (l14 : Nat) (c14 : Nat) (a15 : Option Addr) (l15 : Nat) (c15 : Nat), w3.cell? (Addr.mk w.heap.size 0 none) = some ((.slice a13 l13 c13 : Value)) ∧ w3.cell? (Addr.mk w.heap.size 1 none) = some ((.slice a14 l14 c14 : Value)) ∧ w3.cell? (Addr.mk w.heap.size 2 none) = some ((.slice a15 l15 c15 : Value)) ∧ 
  CallR Tryz.prog 18 [.agg #[.slice a13 l13 c13, .slice a14 l14 c14, .slice a15 l15 c15]] w3 (fun (r19 : Value) (w4 : World) =>
  ∃ (a16 : Option Addr) (l16 : Nat) (c16 : Nat) (a17 : Option Addr) (l17 : Nat) (c17 : Nat) (a18 : Option Addr) (l18 : Nat) (c18 : Nat), r19 = .agg #[.slice a16 l16 c16, .slice a17 l17 c17, .slice a18 l18 c18] ∧
  CallR Tryz.prog 17 [.agg #[.slice a16 l16 c16, .slice a17 l17 c17, .slice a18 l18 c18]] w4 (fun (r22 : Value) (w5 : World) =>
  ∃ (p20 : Option Addr) (n21 : Int), r22 = .tuple #[.pointer p20, .int .i64 n21] ∧
  CallR Tryz.prog 16 [.int .i64 n21] w5 (fun (r24 : Value) (w6 : World) =>
  ∃ (n23 : Int), r24 = .int .i64 n23 ∧
  cond (n23 != 0)
  (Q (.bool (Option.isNone p20)) w6)
  (cond (Option.isNone p20)
  (Q (.bool (Option.isNone p20)) w6)
  (∃ (I25 : List Value → World → Prop) (mu26 : List Value → World → Nat),
  I25 [.int .i64 0] w6 ∧
  ∀ (_ : Env) (n27 : Int) (w7 : World), I25 [.int .i64 n27] w7 →
  cond (decide (n27 < (((l4 : Nat) : Int))))
  ((0 ≤ (n27 : Int) ∧ (n27 : Int) < ((l4 : Nat) : Int)) ∧
  nn a4 (fun (q28 : Addr) =>
  ∃ (n29 : Int) (s30 : ByteArray) (n31 : Int) (n32 : Int) (n33 : Int) (a34 : Option Addr) (l34 : Nat) (c34 : Nat), w7.cell? (Addr.add q28 (Int.toNat n27 * 6)) = some ((.int .i64 n29 : Value)) ∧ w7.cell? (Addr.add (Addr.add q28 (Int.toNat n27 * 6)) 1) = some ((.string s30 : Value)) ∧ w7.cell? (Addr.add (Addr.add q28 (Int.toNat n27 * 6)) 2) = some ((.int .i64 n31 : Value)) ∧ w7.cell? (Addr.add (Addr.add q28 (Int.toNat n27 * 6)) 3) = some ((.int .i64 n32 : Value)) ∧ w7.cell? (Addr.add (Addr.add q28 (Int.toNat n27 * 6)) 4) = some ((.int .i64 n33 : Value)) ∧ w7.cell? (Addr.add (Addr.add q28 (Int.toNat n27 * 6)) 5) = some ((.slice a34 l34 c34 : Value)) ∧ 
  let w8 := World.alloc w7 (Obj.cells #[.int .i64 0, .string (ByteArray.mk #[]), .int .i64 0, .int .i64 0, .int .i64 0, .slice none 0 0] 45);
  stC (Addr.mk w7.heap.size 0 none) (.int .i64 n29) w8 (fun (w9 : World) =>
  stC (Addr.mk w7.heap.size 1 none) (.string s30) w9 (fun (w10 : World) =>
  stC (Addr.mk w7.heap.size 2 none) (.int .i64 n31) w10 (fun (w11 : World) =>
  stC (Addr.mk w7.heap.size 3 none) (.int .i64 n32) w11 (fun (w12 : World) =>
  stC (Addr.mk w7.heap.size 4 none) (.int .i64 n33) w12 (fun (w13 : World) =>
  stC (Addr.mk w7.heap.size 5 none) (.slice a34 l34 c34) w13 (fun (w14 : World) =>
  ∃ (n35 : Int), w14.cell? (Addr.mk w7.heap.size 0 none) = some ((.int .i64 n35 : Value)) ∧
  cond (n35 == 0)
  (∃ (s36 : ByteArray), w14.cell? (Addr.mk w7.heap.size 1 none) = some ((.string s36 : Value)) ∧
  ∃ (n37 : Int), w14.cell? (Addr.mk w7.heap.size 2 none) = some ((.int .i64 n37 : Value)) ∧
  CallR Tryz.prog 19 [.pointer p20, .string s36, .int .i64 n37] w14 (fun (r40 : Value) (w15 : World) =>
  ∃ (n38 : Int) (n39 : Int), r40 = .tuple #[.int .i64 n38, .int .i64 n39] ∧
  inI (n27 + 1) ∧
  I25 [.int .i64 (n27 + 1)] w15 ∧ mu26 [.int .i64 (n27 + 1)] w15 < mu26 [.int .i64 n27] w7))
  (cond (n35 == 1)
  (CallR Tryz.prog 26 [.pointer p20] w14 (fun (r44 : Value) (w16 : World) =>
  ∃ (n41 : Int) (n42 : Int) (n43 : Int), r44 = .tuple #[.int .i64 n41, .int .i64 n42, .int .i64 n43] ∧
  inI (n27 + 1) ∧
  I25 [.int .i64 (n27 + 1)] w16 ∧ mu26 [.int .i64 (n27 + 1)] w16 < mu26 [.int .i64 n27] w7))
  (cond (n35 == 3)
  (∃ (n45 : Int), w14.cell? (Addr.mk w7.heap.size 2 none) = some ((.int .i64 n45 : Value)) ∧
  ∃ (a46 : Option Addr) (l46 : Nat) (c46 : Nat), w14.cell? (Addr.mk w7.heap.size 5 none) = some ((.slice a46 l46 c46 : Value)) ∧
  CallR Tryz.prog 22 [.pointer p20, .int .i64 n45, .slice a46 l46 c46] w14 (fun (r49 : Value) (w17 : World) =>
  ∃ (n47 : Int) (n48 : Int), r49 = .tuple #[.int .i64 n47, .int .i64 n48] ∧
  inI (n27 + 1) ∧
  I25 [.int .i64 (n27 + 1)] w17 ∧ mu26 [.int .i64 (n27 + 1)] w17 < mu26 [.int .i64 n27] w7))
  (inI (n27 + 1) ∧
  I25 [.int .i64 (n27 + 1)] w14 ∧ mu26 [.int .i64 (n27 + 1)] w14 < mu26 [.int .i64 n27] w7)))))))))))
  (CallR Tryz.prog 25 [.pointer p20] w7 (fun (r51 : Value) (w18 : World) =>
  ∃ (a50 : Option Addr) (l50 : Nat) (c50 : Nat), r51 = .slice a50 l50 c50 ∧
  CallR Tryz.prog 27 [.pointer p20] w18 (fun (r53 : Value) (w19 : World) =>
  ∃ (a52 : Option Addr) (l52 : Nat) (c52 : Nat), r53 = .slice a52 l52 c52 ∧
  ∃ (J54 : List Value → World → Prop),
  (∃ (n55 : Int), w19.cell? (Addr.mk w1.heap.size 0 none) = some ((.int .i64 n55 : Value)) ∧
  cond (n55 == 0)
  (∃ (s56 : ByteArray), w19.cell? (Addr.mk w1.heap.size 1 none) = some ((.string s56 : Value)) ∧
  ∃ (n57 : Int), w19.cell? (Addr.mk w1.heap.size 2 none) = some ((.int .i64 n57 : Value)) ∧
  CallR Tryz.prog 19 [.pointer p20, .string s56, .int .i64 n57] w19 (fun (r60 : Value) (w20 : World) =>
  ∃ (n58 : Int) (n59 : Int), r60 = .tuple #[.int .i64 n58, .int .i64 n59] ∧
  J54 [.int .i64 n59] w20))
  (cond (n55 == 2)
  (∃ (n61 : Int), w19.cell? (Addr.mk w1.heap.size 2 none) = some ((.int .i64 n61 : Value)) ∧
  ∃ (n62 : Int), w19.cell? (Addr.mk w1.heap.size 3 none) = some ((.int .i64 n62 : Value)) ∧
  CallR Tryz.prog 20 [.pointer p20, .int .i64 n61, .int .i64 n62] w19 (fun (r65 : Value) (w21 : World) =>
  ∃ (a63 : Option Addr) (l63 : Nat) (c63 : Nat) (n64 : Int), r65 = .tuple #[.slice a63 l63 c63, .int .i64 n64] ∧
  J54 [.int .i64 n64] w21))
  (cond (n55 == 3)
  (∃ (n66 : Int), w19.cell? (Addr.mk w1.heap.size 2 none) = some ((.int .i64 n66 : Value)) ∧
  ∃ (a67 : Option Addr) (l67 : Nat) (c67 : Nat), w19.cell? (Addr.mk w1.heap.size 5 none) = some ((.slice a67 l67 c67 : Value)) ∧
  CallR Tryz.prog 22 [.pointer p20, .int .i64 n66, .slice a67 l67 c67] w19 (fun (r70 : Value) (w22 : World) =>
  ∃ (n68 : Int) (n69 : Int), r70 = .tuple #[.int .i64 n68, .int .i64 n69] ∧
  J54 [.int .i64 n69] w22))
  (cond (n55 == 4)
  (∃ (n71 : Int), w19.cell? (Addr.mk w1.heap.size 2 none) = some ((.int .i64 n71 : Value)) ∧
  ∃ (n72 : Int), w19.cell? (Addr.mk w1.heap.size 3 none) = some ((.int .i64 n72 : Value)) ∧
  ∃ (n73 : Int), w19.cell? (Addr.mk w1.heap.size 4 none) = some ((.int .i64 n73 : Value)) ∧
  CallR Tryz.prog 23 [.pointer p20, .int .i64 n71, .int .i64 n72, .int .i64 n73] w19 (fun (r76 : Value) (w23 : World) =>
  ∃ (n74 : Int) (n75 : Int), r76 = .tuple #[.int .i64 n74, .int .i64 n75] ∧
  J54 [.int .i64 n75] w23))
  (J54 [.int .i64 0] w19))))) ∧
  (∀ (_ : Env) (n77 : Int) (w24 : World), J54 [.int .i64 n77] w24 →
  CallR Tryz.prog 16 [.int .i64 n77] w24 (fun (r79 : Value) (w25 : World) =>
  ∃ (n78 : Int), r79 = .int .i64 n78 ∧
  cond (n78 == 0)
  (Q (.bool true) w25)
  (CallR Tryz.prog 27 [.pointer p20] w25 (fun (r81 : Value) (w26 : World) =>
  ∃ (a80 : Option Addr) (l80 : Nat) (c80 : Nat), r81 = .slice a80 l80 c80 ∧
  CallR Tryz.prog 16 [.int .i64 n77] w26 (fun (r83 : Value) (w27 : World) =>
  ∃ (n82 : Int), r83 = .int .i64 n82 ∧
  cond (n82 == 22)
  (inI ((((l52 : Nat) : Int)) - 1) ∧
  cond ((((l80 : Nat) : Int)) == ((((l52 : Nat) : Int)) - 1))
  (CallR Tryz.prog 25 [.pointer p20] w27 (fun (r85 : Value) (w28 : World) =>
  ∃ (a84 : Option Addr) (l84 : Nat) (c84 : Nat), r85 = .slice a84 l84 c84 ∧
  CallR Tryz.prog 24 [.slice a84 l84 c84, .slice a50 l50 c50] w28 (fun (r87 : Value) (w29 : World) =>
  ∃ (b86 : Bool), r87 = .bool b86 ∧
  Q (.bool b86) w29)))
  (Q (.bool false) w27))
  (CallR Tryz.prog 16 [.int .i64 n77] w27 (fun (r89 : Value) (w30 : World) =>
  ∃ (n88 : Int), r89 = .int .i64 n88 ∧
  cond (n88 == 23)
  (inI ((((l52 : Nat) : Int)) - 1) ∧
  cond ((((l80 : Nat) : Int)) == ((((l52 : Nat) : Int)) - 1))
  (CallR Tryz.prog 25 [.pointer p20] w30 (fun (r91 : Value) (w31 : World) =>
  ∃ (a90 : Option Addr) (l90 : Nat) (c90 : Nat), r91 = .slice a90 l90 c90 ∧
  CallR Tryz.prog 24 [.slice a90 l90 c90, .slice a50 l50 c50] w31 (fun (r93 : Value) (w32 : World) =>
  ∃ (b92 : Bool), r93 = .bool b92 ∧
  Q (.bool b92) w32)))
  (Q (.bool false) w30))
  (CallR Tryz.prog 28 [.slice a80 l80 c80, .slice a52 l52 c52] w30 (fun (r95 : Value) (w33 : World) =>
  ∃ (b94 : Bool), r95 = .bool b94 ∧
  cond b94
  (CallR Tryz.prog 25 [.pointer p20] w33 (fun (r97 : Value) (w34 : World) =>
  ∃ (a96 : Option Addr) (l96 : Nat) (c96 : Nat), r97 = .slice a96 l96 c96 ∧
  CallR Tryz.prog 24 [.slice a96 l96 c96, .slice a50 l50 c50] w34 (fun (r99 : Value) (w35 : World) =>
  ∃ (b98 : Bool), r99 = .bool b98 ∧
  Q (.bool b98) w35)))
  (Q (.bool false) w33))))))))))))))))))))
theorem C4 {a1 : Option Addr} {l1 : Nat} {c1 : Nat} {a2 : Option Addr} {l2 : Nat} {c2 : Nat} {a3 : Option Addr} {l3 : Nat} {c3 : Nat} {a4 : Option Addr} {l4 : Nat} {c4 : Nat} {n5 : Int} {s6 : ByteArray} {n7 : Int} {n8 : Int} {n9 : Int} {a10 : Option Addr} {l10 : Nat} {c10 : Nat} {Q : Value → World → Prop} {w : World} (h : L4 a1 l1 c1 a2 l2 c2 a3 l3 c3 a4 l4 c4 n5 s6 n7 n8 n9 a10 l10 c10 Q w) : CallR Tryz.prog 4 [.agg #[.slice a1 l1 c1, .slice a2 l2 c2, .slice a3 l3 c3], .slice a4 l4 c4, .agg #[.int .i64 n5, .string s6, .int .i64 n7, .int .i64 n8, .int .i64 n9, .slice a10 l10 c10]] w Q :=
  fun_calls (A := A4) mixed Tryz.func4 (c := (Tryz.f4.body).getD .skip) rfl (by kernel_rfl) (Eq.mp (by kernel_rfl) h)

end Go.Proofs.YtkjmlbplmffekaaGreat
