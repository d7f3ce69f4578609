/-
  What some functions of the program ask of the world, printed by a program out of the loaded program; each text is held against the code by evaluation. Conditions: none.
-/
import Derived.Test.YtkjmlbplmffekaaGreatProg
import Derived.Test.YtkjmlbplmffekaaGreatLm
import Derived.Test.YtkjmlbplmffekaaGreatLX
import Derived.Test.YtkjmlbplmffekaaGreatRfC
set_option linter.unusedVariables false
set_option maxRecDepth 100000
namespace Go.Proofs.YtkjmlbplmffekaaGreat
open Go.Lw
/-- millrace/millracelaw09.num -/
def A70 : Ann := ⟨[], [], [], [], [], []⟩
def L70 (n1 : Int) (Q : Value → World → Prop) (w : World) : Prop :=
  Q (.int .i64 n1) w
theorem C70 {n1 : Int} {Q : Value → World → Prop} {w : World} (h : L70 n1 Q w) : CallR Tryz.prog 70 [.int .i64 n1] w Q :=
  fun_calls (A := A70) mixed Tryz.func70 (c := (Tryz.f70.body).getD .skip) rfl (by kernel_rfl) (Eq.mp (by kernel_rfl) h)

/-- millrace/millracelaw09.alive -/
def A68 : Ann := ⟨[], [], [], [], [], []⟩
def L68 (Q : Value → World → Prop) (w : World) : Prop :=
  CallR Tryz.prog 69 [.string (ByteArray.mk #[114, 98, 43])] w (fun (r11 : Value) (w1 : World) =>
  ∃ (b1 : Bool) (b2 : Bool) (b3 : Bool) (b4 : Bool) (b5 : Bool) (b6 : Bool) (b7 : Bool) (b8 : Bool) (n9 : Int) (n10 : Int), r11 = .tuple #[.agg #[.bool b1, .bool b2, .bool b3, .bool b4, .bool b5, .bool b6, .bool b7, .bool b8], .int .i64 n9, .int .i64 n10] ∧
  let w2 := World.alloc w1 (Obj.cells #[.bool false, .bool false, .bool false, .bool false, .bool false, .bool false, .bool false, .bool false] 126);
  stC (Addr.mk w1.heap.size 0 none) (.bool b1) w2 (fun (w3 : World) =>
  stC (Addr.mk w1.heap.size 1 none) (.bool b2) w3 (fun (w4 : World) =>
  stC (Addr.mk w1.heap.size 2 none) (.bool b3) w4 (fun (w5 : World) =>
  stC (Addr.mk w1.heap.size 3 none) (.bool b4) w5 (fun (w6 : World) =>
  stC (Addr.mk w1.heap.size 4 none) (.bool b5) w6 (fun (w7 : World) =>
  stC (Addr.mk w1.heap.size 5 none) (.bool b6) w7 (fun (w8 : World) =>
  stC (Addr.mk w1.heap.size 6 none) (.bool b7) w8 (fun (w9 : World) =>
  stC (Addr.mk w1.heap.size 7 none) (.bool b8) w9 (fun (w10 : World) =>
  ∃ (b12 : Bool) (b13 : Bool) (b14 : Bool) (b15 : Bool) (b16 : Bool) (b17 : Bool) (b18 : Bool) (b19 : Bool), w10.cell? (Addr.mk w1.heap.size 0 none) = some ((.bool b12 : Value)) ∧ w10.cell? (Addr.mk w1.heap.size 1 none) = some ((.bool b13 : Value)) ∧ w10.cell? (Addr.mk w1.heap.size 2 none) = some ((.bool b14 : Value)) ∧ w10.cell? (Addr.mk w1.heap.size 3 none) = some ((.bool b15 : Value)) ∧ w10.cell? (Addr.mk w1.heap.size 4 none) = some ((.bool b16 : Value)) ∧ w10.cell? (Addr.mk w1.heap.size 5 none) = some ((.bool b17 : Value)) ∧ w10.cell? (Addr.mk w1.heap.size 6 none) = some ((.bool b18 : Value)) ∧ w10.cell? (Addr.mk w1.heap.size 7 none) = some ((.bool b19 : Value)) ∧ 
  CallR Tryz.prog 156 [.agg #[.bool b12, .bool b13, .bool b14, .bool b15, .bool b16, .bool b17, .bool b18, .bool b19]] w10 (fun (r22 : Value) (w11 : World) =>
  ∃ (s20 : ByteArray) (n21 : Int), r22 = .tuple #[.string s20, .int .i64 n21] ∧
  CallR Tryz.prog 69 [.string (ByteArray.mk #[114, 120])] w11 (fun (r33 : Value) (w12 : World) =>
  ∃ (b23 : Bool) (b24 : Bool) (b25 : Bool) (b26 : Bool) (b27 : Bool) (b28 : Bool) (b29 : Bool) (b30 : Bool) (n31 : Int) (n32 : Int), r33 = .tuple #[.agg #[.bool b23, .bool b24, .bool b25, .bool b26, .bool b27, .bool b28, .bool b29, .bool b30], .int .i64 n31, .int .i64 n32] ∧
  let w13 := World.alloc w12 (Obj.cells #[.bool false, .bool false, .bool false, .bool false, .bool false, .bool false, .bool false, .bool false] 126);
  stC (Addr.mk w12.heap.size 0 none) (.bool b23) w13 (fun (w14 : World) =>
  stC (Addr.mk w12.heap.size 1 none) (.bool b24) w14 (fun (w15 : World) =>
  stC (Addr.mk w12.heap.size 2 none) (.bool b25) w15 (fun (w16 : World) =>
  stC (Addr.mk w12.heap.size 3 none) (.bool b26) w16 (fun (w17 : World) =>
  stC (Addr.mk w12.heap.size 4 none) (.bool b27) w17 (fun (w18 : World) =>
  stC (Addr.mk w12.heap.size 5 none) (.bool b28) w18 (fun (w19 : World) =>
  stC (Addr.mk w12.heap.size 6 none) (.bool b29) w19 (fun (w20 : World) =>
  stC (Addr.mk w12.heap.size 7 none) (.bool b30) w20 (fun (w21 : World) =>
  CallR Tryz.prog 70 [.int .i64 n9] w21 (fun (r35 : Value) (w22 : World) =>
  ∃ (n34 : Int), r35 = .int .i64 n34 ∧
  CallR Tryz.prog 70 [.int .i64 n21] w22 (fun (r37 : Value) (w23 : World) =>
  ∃ (n36 : Int), r37 = .int .i64 n36 ∧
  inI (n34 + n36) ∧
  cond ((n34 + n36) == 0)
  (cond (n10 == 3)
  (∃ (b38 : Bool), w23.cell? (Addr.mk w1.heap.size 0 none) = some ((.bool b38 : Value)) ∧
  cond b38
  (∃ (b39 : Bool), w23.cell? (Addr.mk w1.heap.size 1 none) = some ((.bool b39 : Value)) ∧
  cond b39
  (∃ (b40 : Bool), w23.cell? (Addr.mk w1.heap.size 6 none) = some ((.bool b40 : Value)) ∧
  cond b40
  (cond (ByteArray.toList s20 == ByteArray.toList (ByteArray.mk #[114, 43, 98]))
  (CallR Tryz.prog 70 [.int .i64 n31] w23 (fun (r42 : Value) (w24 : World) =>
  ∃ (n41 : Int), r42 = .int .i64 n41 ∧
  cond (n41 == 91)
  (Q (.bool (n32 == 1)) w24)
  (Q (.bool false) w24)))
  (Q (.bool false) w23))
  (Q (.bool false) w23))
  (Q (.bool false) w23))
  (Q (.bool false) w23))
  (Q (.bool false) w23))
  (Q (.bool false) w23))))))))))))))))))))))
theorem C68 {Q : Value → World → Prop} {w : World} (h : L68 Q w) : CallR Tryz.prog 68 [] w Q :=
  fun_calls (A := A68) mixed Tryz.func68 (c := (Tryz.f68.body).getD .skip) rfl (by kernel_rfl) (Eq.mp (by kernel_rfl) h)

/-- millrace/openmode.Flags -/
def A71 : Ann := ⟨[(6, [(5, .one (.int .i64)), (26, .one (.int .i64))])], [], [], [], [], []⟩
def L71 (b1 : Bool) (b2 : Bool) (b3 : Bool) (b4 : Bool) (b5 : Bool) (b6 : Bool) (b7 : Bool) (b8 : Bool) (Q : Value → World → Prop) (w : World) : Prop :=
  let w1 := World.alloc w (Obj.cells #[.bool b1, .bool b2, .bool b3, .bool b4, .bool b5, .bool b6, .bool b7, .bool b8] 126);
  ∃ (b9 : Bool) (b10 : Bool) (b11 : Bool) (b12 : Bool) (b13 : Bool) (b14 : Bool) (b15 : Bool) (b16 : Bool), w1.cell? (Addr.mk w.heap.size 0 none) = some ((.bool b9 : Value)) ∧ w1.cell? (Addr.mk w.heap.size 1 none) = some ((.bool b10 : Value)) ∧ w1.cell? (Addr.mk w.heap.size 2 none) = some ((.bool b11 : Value)) ∧ w1.cell? (Addr.mk w.heap.size 3 none) = some ((.bool b12 : Value)) ∧ w1.cell? (Addr.mk w.heap.size 4 none) = some ((.bool b13 : Value)) ∧ w1.cell? (Addr.mk w.heap.size 5 none) = some ((.bool b14 : Value)) ∧ w1.cell? (Addr.mk w.heap.size 6 none) = some ((.bool b15 : Value)) ∧ w1.cell? (Addr.mk w.heap.size 7 none) = some ((.bool b16 : Value)) ∧ 
  CallR Tryz.prog 160 [.agg #[.bool b9, .bool b10, .bool b11, .bool b12, .bool b13, .bool b14, .bool b15, .bool b16]] w1 (fun (r18 : Value) (w2 : World) =>
  ∃ (n17 : Int), r18 = .int .i64 n17 ∧
  cond (n17 != 0)
  (Q (.tuple #[.int .i64 0, .int .i64 n17]) w2)
  (∃ (b19 : Bool), w2.cell? (Addr.mk w.heap.size 0 none) = some ((.bool b19 : Value)) ∧
  ∃ (b20 : Bool), w2.cell? (Addr.mk w.heap.size 1 none) = some ((.bool b20 : Value)) ∧
  ∃ (b21 : Bool), w2.cell? (Addr.mk w.heap.size 2 none) = some ((.bool b21 : Value)) ∧
  ∃ (b22 : Bool), w2.cell? (Addr.mk w.heap.size 3 none) = some ((.bool b22 : Value)) ∧
  ∃ (b23 : Bool), w2.cell? (Addr.mk w.heap.size 4 none) = some ((.bool b23 : Value)) ∧
  ∃ (b24 : Bool), w2.cell? (Addr.mk w.heap.size 5 none) = some ((.bool b24 : Value)) ∧
  ∃ (I25 : List Value → World → Prop) (mu26 : List Value → World → Nat),
  I25 [.int .i64 0, .int .i64 0] w2 ∧
  ∀ (_ : Env) (n27 : Int) (n28 : Int) (w3 : World), I25 [.int .i64 n27, .int .i64 n28] w3 →
  cond (decide (n28 < 6))
  ((0 ≤ (n28 : Int) ∧ (n28 : Int) < ((6 : Nat) : Int)) ∧
  ∃ (b29 : Bool), (#[.bool b19, .bool b20, .bool b21, .bool b22, .bool b23, .bool b24] : Array Value)[Int.toNat n28]? = some (.bool b29) ∧
  cond b29
  (0 ≤ (n28 : Int) ∧
  inI (n28 + 1) ∧
  I25 [.int .i64 (IntKind.wrap .i64 ↑(BitVec.ofInt (IntKind.bits .i64) n27 ||| BitVec.ofInt (IntKind.bits .i64) (IntKind.wrap .i64 ((1 : Int) * 2 ^ (min (Int.toNat n28) (IntKind.bits .i64))))).toNat), .int .i64 (n28 + 1)] w3 ∧ mu26 [.int .i64 (IntKind.wrap .i64 ↑(BitVec.ofInt (IntKind.bits .i64) n27 ||| BitVec.ofInt (IntKind.bits .i64) (IntKind.wrap .i64 ((1 : Int) * 2 ^ (min (Int.toNat n28) (IntKind.bits .i64))))).toNat), .int .i64 (n28 + 1)] w3 < mu26 [.int .i64 n27, .int .i64 n28] w3)
  (inI (n28 + 1) ∧
  I25 [.int .i64 n27, .int .i64 (n28 + 1)] w3 ∧ mu26 [.int .i64 n27, .int .i64 (n28 + 1)] w3 < mu26 [.int .i64 n27, .int .i64 n28] w3))
  (Q (.tuple #[.int .i64 n27, .int .i64 0]) w3)))
theorem C71 {b1 : Bool} {b2 : Bool} {b3 : Bool} {b4 : Bool} {b5 : Bool} {b6 : Bool} {b7 : Bool} {b8 : Bool} {Q : Value → World → Prop} {w : World} (h : L71 b1 b2 b3 b4 b5 b6 b7 b8 Q w) : CallR Tryz.prog 71 [.agg #[.bool b1, .bool b2, .bool b3, .bool b4, .bool b5, .bool b6, .bool b7, .bool b8]] w Q :=
  fun_calls (A := A71) mixed Tryz.func71 (c := (Tryz.f71.body).getD .skip) rfl (by kernel_rfl) (Eq.mp (by kernel_rfl) h)

/-- millrace/millracelaw09.OpenmodeOpens -/
def A10 : Ann := ⟨[], [(10, []), (20, []), (23, [(17, .one (.int .i64))])], [(26, [0, 1, 2, 3, 4, 5, 6, 7, 8, 9, 10, 11, 12, 13, 16, 17, 14, 15, 18, 19, 20, 21, 22, 23, 24, 25, 26, 33, 34, 27, 28, 29, 30, 31, 32, 35, 36, 37])], [], [], []⟩
def L10 (s1 : ByteArray) (b2 : Bool) (a3 : Option Addr) (l3 : Nat) (c3 : Nat) (Q : Value → World → Prop) (w : World) : Prop :=
  CallR Tryz.prog 68 [] w (fun (r5 : Value) (w1 : World) =>
  ∃ (b4 : Bool), r5 = .bool b4 ∧
  cond (!b4)
  (Q (.bool false) w1)
  (CallR Tryz.prog 69 [.string s1] w1 (fun (r16 : Value) (w2 : World) =>
  ∃ (b6 : Bool) (b7 : Bool) (b8 : Bool) (b9 : Bool) (b10 : Bool) (b11 : Bool) (b12 : Bool) (b13 : Bool) (n14 : Int) (n15 : Int), r16 = .tuple #[.agg #[.bool b6, .bool b7, .bool b8, .bool b9, .bool b10, .bool b11, .bool b12, .bool b13], .int .i64 n14, .int .i64 n15] ∧
  let w3 := World.alloc w2 (Obj.cells #[.bool false, .bool false, .bool false, .bool false, .bool false, .bool false, .bool false, .bool false] 126);
  stC (Addr.mk w2.heap.size 0 none) (.bool b6) w3 (fun (w4 : World) =>
  stC (Addr.mk w2.heap.size 1 none) (.bool b7) w4 (fun (w5 : World) =>
  stC (Addr.mk w2.heap.size 2 none) (.bool b8) w5 (fun (w6 : World) =>
  stC (Addr.mk w2.heap.size 3 none) (.bool b9) w6 (fun (w7 : World) =>
  stC (Addr.mk w2.heap.size 4 none) (.bool b10) w7 (fun (w8 : World) =>
  stC (Addr.mk w2.heap.size 5 none) (.bool b11) w8 (fun (w9 : World) =>
  stC (Addr.mk w2.heap.size 6 none) (.bool b12) w9 (fun (w10 : World) =>
  stC (Addr.mk w2.heap.size 7 none) (.bool b13) w10 (fun (w11 : World) =>
  CallR Tryz.prog 70 [.int .i64 n14] w11 (fun (r18 : Value) (w12 : World) =>
  ∃ (n17 : Int), r18 = .int .i64 n17 ∧
  cond (n17 != 0)
  (Q (.bool true) w12)
  (cond (decide ((((l3 : Nat) : Int)) > 1000))
  (Q (.bool true) w12)
  (∃ (b19 : Bool) (b20 : Bool) (b21 : Bool) (b22 : Bool) (b23 : Bool) (b24 : Bool) (b25 : Bool) (b26 : Bool), w12.cell? (Addr.mk w2.heap.size 0 none) = some ((.bool b19 : Value)) ∧ w12.cell? (Addr.mk w2.heap.size 1 none) = some ((.bool b20 : Value)) ∧ w12.cell? (Addr.mk w2.heap.size 2 none) = some ((.bool b21 : Value)) ∧ w12.cell? (Addr.mk w2.heap.size 3 none) = some ((.bool b22 : Value)) ∧ w12.cell? (Addr.mk w2.heap.size 4 none) = some ((.bool b23 : Value)) ∧ w12.cell? (Addr.mk w2.heap.size 5 none) = some ((.bool b24 : Value)) ∧ w12.cell? (Addr.mk w2.heap.size 6 none) = some ((.bool b25 : Value)) ∧ w12.cell? (Addr.mk w2.heap.size 7 none) = some ((.bool b26 : Value)) ∧ 
  CallR Tryz.prog 71 [.agg #[.bool b19, .bool b20, .bool b21, .bool b22, .bool b23, .bool b24, .bool b25, .bool b26]] w12 (fun (r29 : Value) (w13 : World) =>
  ∃ (n27 : Int) (n28 : Int), r29 = .tuple #[.int .i64 n27, .int .i64 n28] ∧
  let w14 := World.alloc w13 (Obj.cells #[.slice none 0 0, .slice none 0 0, .slice none 0 0] 42);
  ∃ (J30 : List Value → World → Prop),
  (cond b2
  (let w15 := World.alloc w14 (Obj.cells #[.string (ByteArray.mk #[102]), .slice a3 l3 c3] 77);
  stC (Addr.mk w13.heap.size 0 none) (.slice (some (Addr.mk w14.heap.size 0 none)) 1 1) w15 (fun (w16 : World) =>
  J30 [] w16))
  (J30 [] w14)) ∧
  (∀ (_ : Env) (w17 : World), J30 [] w17 →
  ∃ (a31 : Option Addr) (l31 : Nat) (c31 : Nat) (a32 : Option Addr) (l32 : Nat) (c32 : Nat) (a33 : Option Addr) (l33 : Nat) (c33 : Nat), w17.cell? (Addr.mk w13.heap.size 0 none) = some ((.slice a31 l31 c31 : Value)) ∧ w17.cell? (Addr.mk w13.heap.size 1 none) = some ((.slice a32 l32 c32 : Value)) ∧ w17.cell? (Addr.mk w13.heap.size 2 none) = some ((.slice a33 l33 c33 : Value)) ∧ 
  CallR Tryz.prog 17 [.agg #[.slice a31 l31 c31, .slice a32 l32 c32, .slice a33 l33 c33]] w17 (fun (r36 : Value) (w18 : World) =>
  ∃ (p34 : Option Addr) (n35 : Int), r36 = .tuple #[.pointer p34, .int .i64 n35] ∧
  CallR Tryz.prog 70 [.int .i64 n28] w18 (fun (r38 : Value) (w19 : World) =>
  ∃ (n37 : Int), r38 = .int .i64 n37 ∧
  CallR Tryz.prog 70 [.int .i64 n35] w19 (fun (r40 : Value) (w20 : World) =>
  ∃ (n39 : Int), r40 = .int .i64 n39 ∧
  inI (n37 + n39) ∧
  cond ((n37 + n39) != 0)
  (Q (.bool false) w20)
  (cond (Option.isNone p34)
  (Q (.bool false) w20)
  (CallR Tryz.prog 19 [.pointer p34, .string (ByteArray.mk #[102]), .int .i64 n27] w20 (fun (r43 : Value) (w21 : World) =>
  ∃ (n41 : Int) (n42 : Int), r43 = .tuple #[.int .i64 n41, .int .i64 n42] ∧
  ∃ (J44 : List Value → World → Prop),
  (cond b2
  (∃ (b45 : Bool), w21.cell? (Addr.mk w2.heap.size 5 none) = some ((.bool b45 : Value)) ∧
  cond b45
  (CallR Tryz.prog 70 [.int .i64 n42] w21 (fun (r47 : Value) (w22 : World) =>
  ∃ (n46 : Int), r47 = .int .i64 n46 ∧
  Q (.bool (n46 == 63)) w22))
  (cond (!b2)
  (∃ (b48 : Bool), w21.cell? (Addr.mk w2.heap.size 3 none) = some ((.bool b48 : Value)) ∧
  cond (!b48)
  (CallR Tryz.prog 70 [.int .i64 n42] w21 (fun (r50 : Value) (w23 : World) =>
  ∃ (n49 : Int), r50 = .int .i64 n49 ∧
  Q (.bool (n49 == 62)) w23))
  (CallR Tryz.prog 70 [.int .i64 n42] w21 (fun (r52 : Value) (w24 : World) =>
  ∃ (n51 : Int), r52 = .int .i64 n51 ∧
  cond (n51 != 0)
  (Q (.bool false) w24)
  (J44 [] w24))))
  (CallR Tryz.prog 70 [.int .i64 n42] w21 (fun (r54 : Value) (w25 : World) =>
  ∃ (n53 : Int), r54 = .int .i64 n53 ∧
  cond (n53 != 0)
  (Q (.bool false) w25)
  (J44 [] w25)))))
  (cond (!b2)
  (∃ (b55 : Bool), w21.cell? (Addr.mk w2.heap.size 3 none) = some ((.bool b55 : Value)) ∧
  cond (!b55)
  (CallR Tryz.prog 70 [.int .i64 n42] w21 (fun (r57 : Value) (w26 : World) =>
  ∃ (n56 : Int), r57 = .int .i64 n56 ∧
  Q (.bool (n56 == 62)) w26))
  (CallR Tryz.prog 70 [.int .i64 n42] w21 (fun (r59 : Value) (w27 : World) =>
  ∃ (n58 : Int), r59 = .int .i64 n58 ∧
  cond (n58 != 0)
  (Q (.bool false) w27)
  (J44 [] w27))))
  (CallR Tryz.prog 70 [.int .i64 n42] w21 (fun (r61 : Value) (w28 : World) =>
  ∃ (n60 : Int), r61 = .int .i64 n60 ∧
  cond (n60 != 0)
  (Q (.bool false) w28)
  (J44 [] w28))))) ∧
  (∀ (_ : Env) (w29 : World), J44 [] w29 →
  ∃ (J62 : List Value → World → Prop),
  (cond (!b2)
  (J62 [.int .i64 0] w29)
  (∃ (b63 : Bool), w29.cell? (Addr.mk w2.heap.size 4 none) = some ((.bool b63 : Value)) ∧
  cond b63
  (J62 [.int .i64 0] w29)
  (J62 [.int .i64 (((l3 : Nat) : Int))] w29))) ∧
  (∀ (_ : Env) (n64 : Int) (w30 : World), J62 [.int .i64 n64] w30 →
  CallR Tryz.prog 25 [.pointer p34] w30 (fun (r66 : Value) (w31 : World) =>
  ∃ (a65 : Option Addr) (l65 : Nat) (c65 : Nat), r66 = .slice a65 l65 c65 ∧
  CallR Tryz.prog 20 [.pointer p34, .int .i64 n41, .int .i64 5] w31 (fun (r69 : Value) (w32 : World) =>
  ∃ (a67 : Option Addr) (l67 : Nat) (c67 : Nat) (n68 : Int), r69 = .tuple #[.slice a67 l67 c67, .int .i64 n68] ∧
  let w33 := World.alloc w32 (Obj.cells #[.int .u8 1] 5);
  CallR Tryz.prog 22 [.pointer p34, .int .i64 n41, .slice (some (Addr.mk w32.heap.size 0 none)) 1 1] w33 (fun (r72 : Value) (w34 : World) =>
  ∃ (n70 : Int) (n71 : Int), r72 = .tuple #[.int .i64 n70, .int .i64 n71] ∧
  ∃ (S73 : World → Prop), S73 (World.drew w34) ∧
  let w35 := World.drew w34;
  cond ((((l65 : Nat) : Int)) == 1)
  ((0 ≤ (0 : Int) ∧ (0 : Int) < ((l65 : Nat) : Int)) ∧
  nn a65 (fun (q74 : Addr) =>
  ∃ (a75 : Option Addr) (l75 : Nat) (c75 : Nat), (∀ wS : World, S73 wS → wS.cell? (Addr.add (Addr.add q74 (Int.toNat 0 * 2)) 1) = some ((.slice a75 l75 c75 : Value))) ∧
  cond ((((l75 : Nat) : Int)) == n64)
  (∃ (b76 : Bool), (∀ wS : World, S73 wS → wS.cell? (Addr.mk w2.heap.size 0 none) = some ((.bool b76 : Value))) ∧
  CallR Tryz.prog 70 [.int .i64 n68] w35 (fun (r78 : Value) (w36 : World) =>
  ∃ (n77 : Int), r78 = .int .i64 n77 ∧
  S73 w36 ∧
  cond ((n77 == 0) == b76)
  (cond (decide ((((l67 : Nat) : Int)) ≤ 5))
  (∃ (b79 : Bool), (∀ wS : World, S73 wS → wS.cell? (Addr.mk w2.heap.size 1 none) = some ((.bool b79 : Value))) ∧
  CallR Tryz.prog 70 [.int .i64 n71] w36 (fun (r81 : Value) (w37 : World) =>
  ∃ (n80 : Int), r81 = .int .i64 n80 ∧
  S73 w37 ∧
  cond (n80 == 0)
  (Q (.bool ((n70 == 1) == b79)) w37)
  (Q (.bool (false == b79)) w37)))
  (Q (.bool false) w36))
  (Q (.bool false) w36)))
  (Q (.bool false) w35)))
  (Q (.bool false) w35))))))))))))))))))))))))))))
theorem C10 {s1 : ByteArray} {b2 : Bool} {a3 : Option Addr} {l3 : Nat} {c3 : Nat} {Q : Value → World → Prop} {w : World} (h : L10 s1 b2 a3 l3 c3 Q w) : CallR Tryz.prog 10 [.string s1, .bool b2, .slice a3 l3 c3] w Q :=
  fun_calls (A := A10) mixed Tryz.func10 (c := (Tryz.f10.body).getD .skip) rfl (by kernel_rfl) (Eq.mp (by kernel_rfl) h)

end Go.Proofs.YtkjmlbplmffekaaGreat
