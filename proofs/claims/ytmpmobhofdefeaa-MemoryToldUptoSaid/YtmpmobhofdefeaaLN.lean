/-
  What some functions of the program ask of the world, printed by a program out of the loaded program; each text is held against the code by evaluation. Conditions: none.
-/
import Derived.Test.YtmpmobhofdefeaaProg
import Derived.Test.YtmpmobhofdefeaaLm
import Derived.Test.YtmpmobhofdefeaaLM
set_option linter.unusedVariables false
set_option maxRecDepth 100000
namespace Go.Proofs.Ytmpmobhofdefeaa
open Go.Lw
/-- millrace/millracelaw10.num -/
def A40 : Ann := ⟨[], [], [], [], []⟩
def L40 (n1 : Int) (Q : Value → World → Prop) (w : World) : Prop :=
  Q (.int .i64 n1) w
theorem C40 {n1 : Int} {Q : Value → World → Prop} {w : World} (h : L40 n1 Q w) : CallR Try.prog 40 [.int .i64 n1] w Q :=
  fun_calls (A := A40) mixed Try.func40 (c := (Try.f40.body).getD .skip) rfl (by kernel_rfl) (Eq.mp (by kernel_rfl) h)

/-- millrace/millracelaw10.alive -/
def A38 : Ann := ⟨[], [], [], [], []⟩
def L38 (Q : Value → World → Prop) (w : World) : Prop :=
  CallR Try.prog 42 [.int .i64 3, .slice none 0 0] w (fun (r3 : Value) (w1 : World) =>
  ∃ (p1 : Option Addr) (n2 : Int), r3 = .tuple #[.pointer p1, .int .i64 n2] ∧
  let w2 := World.alloc w1 (Obj.cells #[.int .u8 97, .int .u8 98] 5);
  ∃ (a4 : Option Addr) (l4 : Nat) (c4 : Nat) (w3 : World), Sem.run Try.prog (convert 26 26 (.slice (some (Addr.mk w1.heap.size 0 none)) 2 2)) w2 = .ok ((.slice a4 l4 c4 : Value)) w3 ∧
  let w4 := World.alloc w3 (Obj.cells #[.slice a4 l4 c4, .int .i64 0] 64);
  let w5 := World.alloc w4 (Obj.cells #[.int .i64 1, .int .i64 ((-1))] 3);
  CallR Try.prog 39 [.slice (some (Addr.mk w3.heap.size 0 none)) 1 1, .slice (some (Addr.mk w4.heap.size 0 none)) 2 2] w5 (fun (r7 : Value) (w6 : World) =>
  ∃ (p5 : Option Addr) (n6 : Int), r7 = .tuple #[.pointer p5, .int .i64 n6] ∧
  CallR Try.prog 40 [.int .i64 n2] w6 (fun (r9 : Value) (w7 : World) =>
  ∃ (n8 : Int), r9 = .int .i64 n8 ∧
  CallR Try.prog 40 [.int .i64 n6] w7 (fun (r11 : Value) (w8 : World) =>
  ∃ (n10 : Int), r11 = .int .i64 n10 ∧
  inI (n8 + n10) ∧
  cond ((n8 + n10) != 0)
  (Q (.bool false) w8)
  (cond (Option.isNone p1)
  (Q (.bool false) w8)
  (cond (Option.isNone p5)
  (Q (.bool false) w8)
  (let w9 := World.alloc w8 (Obj.cells #[.int .u8 97, .int .u8 98, .int .u8 99, .int .u8 100] 5);
  ∃ (a12 : Option Addr) (l12 : Nat) (c12 : Nat) (w10 : World), Sem.run Try.prog (convert 26 26 (.slice (some (Addr.mk w8.heap.size 0 none)) 4 4)) w9 = .ok ((.slice a12 l12 c12 : Value)) w10 ∧
  CallR Try.prog 43 [.pointer p1, .slice a12 l12 c12] w10 (fun (r15 : Value) (w11 : World) =>
  ∃ (n13 : Int) (n14 : Int), r15 = .tuple #[.int .i64 n13, .int .i64 n14] ∧
  let w12 := World.alloc w11 (Obj.cells #[.int .u8 101] 5);
  ∃ (a16 : Option Addr) (l16 : Nat) (c16 : Nat) (w13 : World), Sem.run Try.prog (convert 26 26 (.slice (some (Addr.mk w11.heap.size 0 none)) 1 1)) w12 = .ok ((.slice a16 l16 c16 : Value)) w13 ∧
  CallR Try.prog 43 [.pointer p1, .slice a16 l16 c16] w13 (fun (r19 : Value) (w14 : World) =>
  ∃ (n17 : Int) (n18 : Int), r19 = .tuple #[.int .i64 n17, .int .i64 n18] ∧
  CallR Try.prog 65 [.pointer p1, .int .i64 1, .int .i64 0] w14 (fun (r22 : Value) (w15 : World) =>
  ∃ (n20 : Int) (n21 : Int), r22 = .tuple #[.int .i64 n20, .int .i64 n21] ∧
  CallR Try.prog 62 [.pointer p1, .int .i64 9] w15 (fun (r25 : Value) (w16 : World) =>
  ∃ (a23 : Option Addr) (l23 : Nat) (c23 : Nat) (n24 : Int), r25 = .tuple #[.slice a23 l23 c23, .int .i64 n24] ∧
  CallR Try.prog 41 [.pointer p5, .int .i64 1] w16 (fun (r28 : Value) (w17 : World) =>
  ∃ (a26 : Option Addr) (l26 : Nat) (c26 : Nat) (n27 : Int), r28 = .tuple #[.slice a26 l26 c26, .int .i64 n27] ∧
  let w18 := World.alloc w17 (Obj.cells #[.int .u8 120, .int .u8 121, .int .u8 122] 5);
  ∃ (a29 : Option Addr) (l29 : Nat) (c29 : Nat) (w19 : World), Sem.run Try.prog (convert 26 26 (.slice (some (Addr.mk w17.heap.size 0 none)) 3 3)) w18 = .ok ((.slice a29 l29 c29 : Value)) w19 ∧
  CallR Try.prog 77 [.pointer p5, .slice a29 l29 c29] w19 (fun (r32 : Value) (w20 : World) =>
  ∃ (n30 : Int) (n31 : Int), r32 = .tuple #[.int .i64 n30, .int .i64 n31] ∧
  let w21 := World.alloc w20 (Obj.cells #[.int .u8 122] 5);
  ∃ (a33 : Option Addr) (l33 : Nat) (c33 : Nat) (w22 : World), Sem.run Try.prog (convert 26 26 (.slice (some (Addr.mk w20.heap.size 0 none)) 1 1)) w21 = .ok ((.slice a33 l33 c33 : Value)) w22 ∧
  CallR Try.prog 77 [.pointer p5, .slice a33 l33 c33] w22 (fun (r36 : Value) (w23 : World) =>
  ∃ (n34 : Int) (n35 : Int), r36 = .tuple #[.int .i64 n34, .int .i64 n35] ∧
  CallR Try.prog 40 [.int .i64 n14] w23 (fun (r38 : Value) (w24 : World) =>
  ∃ (n37 : Int), r38 = .int .i64 n37 ∧
  CallR Try.prog 40 [.int .i64 n21] w24 (fun (r40 : Value) (w25 : World) =>
  ∃ (n39 : Int), r40 = .int .i64 n39 ∧
  inI (n37 + n39) ∧
  CallR Try.prog 40 [.int .i64 n24] w25 (fun (r42 : Value) (w26 : World) =>
  ∃ (n41 : Int), r42 = .int .i64 n41 ∧
  inI ((n37 + n39) + n41) ∧
  CallR Try.prog 40 [.int .i64 n27] w26 (fun (r44 : Value) (w27 : World) =>
  ∃ (n43 : Int), r44 = .int .i64 n43 ∧
  inI (((n37 + n39) + n41) + n43) ∧
  CallR Try.prog 40 [.int .i64 n31] w27 (fun (r46 : Value) (w28 : World) =>
  ∃ (n45 : Int), r46 = .int .i64 n45 ∧
  inI ((((n37 + n39) + n41) + n43) + n45) ∧
  cond (((((n37 + n39) + n41) + n43) + n45) == 0)
  (cond (n13 == 3)
  (CallR Try.prog 40 [.int .i64 n18] w28 (fun (r48 : Value) (w29 : World) =>
  ∃ (n47 : Int), r48 = .int .i64 n47 ∧
  cond (n47 == 31)
  (cond (n20 == 1)
  (∃ (s49 : ByteArray) (w30 : World), Sem.run Try.prog (convert 26 9 (.slice a23 l23 c23)) w29 = .ok ((.string s49 : Value)) w30 ∧
  cond (ByteArray.toList s49 == ByteArray.toList (ByteArray.mk #[98, 99]))
  (∃ (s50 : ByteArray) (w31 : World), Sem.run Try.prog (convert 26 9 (.slice a26 l26 c26)) w30 = .ok ((.string s50 : Value)) w31 ∧
  cond (ByteArray.toList s50 == ByteArray.toList (ByteArray.mk #[97]))
  (cond (n30 == 1)
  (CallR Try.prog 40 [.int .i64 n35] w31 (fun (r52 : Value) (w32 : World) =>
  ∃ (n51 : Int), r52 = .int .i64 n51 ∧
  Q (.bool (n51 == 101)) w32))
  (Q (.bool false) w31))
  (Q (.bool false) w31))
  (Q (.bool false) w30))
  (Q (.bool false) w29))
  (Q (.bool false) w29)))
  (Q (.bool false) w28))
  (Q (.bool false) w28))))))))))))))))))))
theorem C38 {Q : Value → World → Prop} {w : World} (h : L38 Q w) : CallR Try.prog 38 [] w Q :=
  fun_calls (A := A38) mixed Try.func38 (c := (Try.f38.body).getD .skip) rfl (by kernel_rfl) (Eq.mp (by kernel_rfl) h)

/-- millrace/millracelaw10.answers -/
def A50 : Ann := ⟨[(3, [(3, .one (.slice)), (4, .one (.int .i64))])], [], [], [(5, [0, 1, 2, 3, 4, 5, 6, 7, 8, 9, 10, 11, 12, 13, 14])], []⟩
def L50 (a1 : Option Addr) (l1 : Nat) (c1 : Nat) (Q : Value → World → Prop) (w : World) : Prop :=
  ∃ (I2 : List Value → World → Prop) (mu3 : List Value → World → Nat),
  I2 [.slice none 0 0, .int .i64 0] w ∧
  ∀ (_ : Env) (a4 : Option Addr) (l4 : Nat) (c4 : Nat) (n5 : Int) (w1 : World), I2 [.slice a4 l4 c4, .int .i64 n5] w1 →
  cond (decide (n5 < (((l1 : Nat) : Int))))
  (let w2 := World.drew w1;
  (0 ≤ (n5 : Int) ∧ (n5 : Int) < ((l1 : Nat) : Int)) ∧
  nn a1 (fun (q6 : Addr) =>
  ∃ (a7 : Option Addr) (l7 : Nat) (c7 : Nat), w2.cell? (Addr.add q6 (Int.toNat n5 * 2)) = some ((.slice a7 l7 c7 : Value)) ∧
  (0 ≤ (n5 : Int) ∧ (n5 : Int) < ((l1 : Nat) : Int)) ∧
  nn a1 (fun (q8 : Addr) =>
  ∃ (n9 : Int), w2.cell? (Addr.add (Addr.add q8 (Int.toNat n5 * 2)) 1) = some ((.int .i64 n9 : Value)) ∧
  let w3 := World.alloc w2 (Obj.cells #[.slice a7 l7 c7, .int .i64 n9] 64);
  ∃ (a10 : Option Addr) (l10 : Nat) (c10 : Nat) (w4 : World), Sem.run Try.prog (Builtin.append_ #[62, 62] 62 #[.slice a4 l4 c4, .slice (some (Addr.mk w2.heap.size 0 none)) 1 1]) w3 = .ok ((.slice a10 l10 c10 : Value)) w4 ∧
  inI (n5 + 1) ∧
  I2 [.slice a10 l10 c10, .int .i64 (n5 + 1)] w4 ∧ mu3 [.slice a10 l10 c10, .int .i64 (n5 + 1)] w4 < mu3 [.slice a4 l4 c4, .int .i64 n5] w1)))
  (Q (.slice a4 l4 c4) w1)
theorem C50 {a1 : Option Addr} {l1 : Nat} {c1 : Nat} {Q : Value → World → Prop} {w : World} (h : L50 a1 l1 c1 Q w) : CallR Try.prog 50 [.slice a1 l1 c1] w Q :=
  fun_calls (A := A50) mixed Try.func50 (c := (Try.f50.body).getD .skip) rfl (by kernel_rfl) (Eq.mp (by kernel_rfl) h)

/-- millrace/millracelaw10.nothing -/
def A68 : Ann := ⟨[], [], [], [], []⟩
def L68 (p1 : Option Addr) (p2 : Option Addr) (p3 : Option Addr) (p4 : Option Addr) (Q : Value → World → Prop) (w : World) : Prop :=
  CallR Try.prog 62 [.pointer p1, .int .i64 1] w (fun (r7 : Value) (w1 : World) =>
  ∃ (a5 : Option Addr) (l5 : Nat) (c5 : Nat) (n6 : Int), r7 = .tuple #[.slice a5 l5 c5, .int .i64 n6] ∧
  CallR Try.prog 43 [.pointer p1, .slice none 0 0] w1 (fun (r10 : Value) (w2 : World) =>
  ∃ (n8 : Int) (n9 : Int), r10 = .tuple #[.int .i64 n8, .int .i64 n9] ∧
  CallR Try.prog 65 [.pointer p1, .int .i64 0, .int .i64 0] w2 (fun (r13 : Value) (w3 : World) =>
  ∃ (n11 : Int) (n12 : Int), r13 = .tuple #[.int .i64 n11, .int .i64 n12] ∧
  CallR Try.prog 63 [.pointer p2, .int .i64 1] w3 (fun (r16 : Value) (w4 : World) =>
  ∃ (a14 : Option Addr) (l14 : Nat) (c14 : Nat) (n15 : Int), r16 = .tuple #[.slice a14 l14 c14, .int .i64 n15] ∧
  CallR Try.prog 64 [.pointer p2, .slice none 0 0] w4 (fun (r19 : Value) (w5 : World) =>
  ∃ (n17 : Int) (n18 : Int), r19 = .tuple #[.int .i64 n17, .int .i64 n18] ∧
  CallR Try.prog 66 [.pointer p2, .int .i64 0, .int .i64 0] w5 (fun (r22 : Value) (w6 : World) =>
  ∃ (n20 : Int) (n21 : Int), r22 = .tuple #[.int .i64 n20, .int .i64 n21] ∧
  CallR Try.prog 69 [.pointer p3, .int .i64 1] w6 (fun (r25 : Value) (w7 : World) =>
  ∃ (a23 : Option Addr) (l23 : Nat) (c23 : Nat) (n24 : Int), r25 = .tuple #[.slice a23 l23 c23, .int .i64 n24] ∧
  CallR Try.prog 70 [.pointer p3, .slice none 0 0] w7 (fun (r28 : Value) (w8 : World) =>
  ∃ (n26 : Int) (n27 : Int), r28 = .tuple #[.int .i64 n26, .int .i64 n27] ∧
  CallR Try.prog 91 [.pointer p3, .int .i64 0, .int .i64 0] w8 (fun (r31 : Value) (w9 : World) =>
  ∃ (n29 : Int) (n30 : Int), r31 = .tuple #[.int .i64 n29, .int .i64 n30] ∧
  CallR Try.prog 41 [.pointer p4, .int .i64 1] w9 (fun (r34 : Value) (w10 : World) =>
  ∃ (a32 : Option Addr) (l32 : Nat) (c32 : Nat) (n33 : Int), r34 = .tuple #[.slice a32 l32 c32, .int .i64 n33] ∧
  CallR Try.prog 77 [.pointer p4, .slice none 0 0] w10 (fun (r37 : Value) (w11 : World) =>
  ∃ (n35 : Int) (n36 : Int), r37 = .tuple #[.int .i64 n35, .int .i64 n36] ∧
  CallR Try.prog 92 [.pointer p4, .int .i64 0, .int .i64 0] w11 (fun (r40 : Value) (w12 : World) =>
  ∃ (n38 : Int) (n39 : Int), r40 = .tuple #[.int .i64 n38, .int .i64 n39] ∧
  CallR Try.prog 40 [.int .i64 n6] w12 (fun (r42 : Value) (w13 : World) =>
  ∃ (n41 : Int), r42 = .int .i64 n41 ∧
  cond (n41 == 2)
  (CallR Try.prog 40 [.int .i64 n9] w13 (fun (r44 : Value) (w14 : World) =>
  ∃ (n43 : Int), r44 = .int .i64 n43 ∧
  cond (n43 == 2)
  (CallR Try.prog 40 [.int .i64 n12] w14 (fun (r46 : Value) (w15 : World) =>
  ∃ (n45 : Int), r46 = .int .i64 n45 ∧
  cond (n45 == 2)
  (CallR Try.prog 40 [.int .i64 n15] w15 (fun (r48 : Value) (w16 : World) =>
  ∃ (n47 : Int), r48 = .int .i64 n47 ∧
  cond (n47 == 2)
  (CallR Try.prog 40 [.int .i64 n18] w16 (fun (r50 : Value) (w17 : World) =>
  ∃ (n49 : Int), r50 = .int .i64 n49 ∧
  cond (n49 == 2)
  (CallR Try.prog 40 [.int .i64 n21] w17 (fun (r52 : Value) (w18 : World) =>
  ∃ (n51 : Int), r52 = .int .i64 n51 ∧
  cond (n51 == 2)
  (CallR Try.prog 40 [.int .i64 n24] w18 (fun (r54 : Value) (w19 : World) =>
  ∃ (n53 : Int), r54 = .int .i64 n53 ∧
  cond (n53 == 2)
  (CallR Try.prog 40 [.int .i64 n27] w19 (fun (r56 : Value) (w20 : World) =>
  ∃ (n55 : Int), r56 = .int .i64 n55 ∧
  cond (n55 == 2)
  (CallR Try.prog 40 [.int .i64 n30] w20 (fun (r58 : Value) (w21 : World) =>
  ∃ (n57 : Int), r58 = .int .i64 n57 ∧
  cond (n57 == 2)
  (CallR Try.prog 40 [.int .i64 n33] w21 (fun (r60 : Value) (w22 : World) =>
  ∃ (n59 : Int), r60 = .int .i64 n59 ∧
  cond (n59 == 2)
  (CallR Try.prog 40 [.int .i64 n36] w22 (fun (r62 : Value) (w23 : World) =>
  ∃ (n61 : Int), r62 = .int .i64 n61 ∧
  cond (n61 == 2)
  (CallR Try.prog 40 [.int .i64 n39] w23 (fun (r64 : Value) (w24 : World) =>
  ∃ (n63 : Int), r64 = .int .i64 n63 ∧
  cond (n63 == 2)
  (CallR Try.prog 44 [.pointer p1] w24 (fun (r66 : Value) (w25 : World) =>
  ∃ (a65 : Option Addr) (l65 : Nat) (c65 : Nat), r66 = .slice a65 l65 c65 ∧
  CallR Try.prog 67 [.pointer p2] w25 (fun (r68 : Value) (w26 : World) =>
  ∃ (a67 : Option Addr) (l67 : Nat) (c67 : Nat), r68 = .slice a67 l67 c67 ∧
  inI ((((l65 : Nat) : Int)) + (((l67 : Nat) : Int))) ∧
  CallR Try.prog 93 [.pointer p4] w26 (fun (r70 : Value) (w27 : World) =>
  ∃ (a69 : Option Addr) (l69 : Nat) (c69 : Nat), r70 = .slice a69 l69 c69 ∧
  inI (((((l65 : Nat) : Int)) + (((l67 : Nat) : Int))) + (((l69 : Nat) : Int))) ∧
  Q (.bool ((((((l65 : Nat) : Int)) + (((l67 : Nat) : Int))) + (((l69 : Nat) : Int))) == 0)) w27))))
  (Q (.bool false) w24)))
  (Q (.bool false) w23)))
  (Q (.bool false) w22)))
  (Q (.bool false) w21)))
  (Q (.bool false) w20)))
  (Q (.bool false) w19)))
  (Q (.bool false) w18)))
  (Q (.bool false) w17)))
  (Q (.bool false) w16)))
  (Q (.bool false) w15)))
  (Q (.bool false) w14)))
  (Q (.bool false) w13))))))))))))))
theorem C68 {p1 : Option Addr} {p2 : Option Addr} {p3 : Option Addr} {p4 : Option Addr} {Q : Value → World → Prop} {w : World} (h : L68 p1 p2 p3 p4 Q w) : CallR Try.prog 68 [.pointer p1, .pointer p2, .pointer p3, .pointer p4] w Q :=
  fun_calls (A := A68) mixed Try.func68 (c := (Try.f68.body).getD .skip) rfl (by kernel_rfl) (Eq.mp (by kernel_rfl) h)

/-- millrace/millracelaw10.MemoryTold -/
def A8 : Ann := ⟨[(6, [(5, .one (.slice)), (6, .one (.slice)), (7, .one (.int .i64))]), (16, [(10, .one (.slice)), (11, .one (.int .i64))])], [], [], [], []⟩
def L8 (a1 : Option Addr) (l1 : Nat) (c1 : Nat) (n2 : Int) (Q : Value → World → Prop) (w : World) : Prop :=
  CallR Try.prog 38 [] w (fun (r4 : Value) (w1 : World) =>
  ∃ (b3 : Bool), r4 = .bool b3 ∧
  cond (!b3)
  (Q (.bool false) w1)
  (∃ (I5 : List Value → World → Prop) (mu6 : List Value → World → Nat),
  I5 [.slice none 0 0, .slice none 0 0, .int .i64 0] w1 ∧
  ∀ (_ : Env) (a7 : Option Addr) (l7 : Nat) (c7 : Nat) (a8 : Option Addr) (l8 : Nat) (c8 : Nat) (n9 : Int) (w2 : World), I5 [.slice a7 l7 c7, .slice a8 l8 c8, .int .i64 n9] w2 →
  cond (decide (n9 < (((l1 : Nat) : Int))))
  ((0 ≤ (n9 : Int) ∧ (n9 : Int) < ((l1 : Nat) : Int)) ∧
  nn a1 (fun (q10 : Addr) =>
  ∃ (a11 : Option Addr) (l11 : Nat) (c11 : Nat), w2.cell? (Addr.add q10 (Int.toNat n9)) = some ((.slice a11 l11 c11 : Value)) ∧
  let w3 := World.alloc w2 (Obj.cells #[.slice a11 l11 c11, .int .i64 0] 64);
  ∃ (a12 : Option Addr) (l12 : Nat) (c12 : Nat) (w4 : World), Sem.run Try.prog (Builtin.append_ #[62, 62] 62 #[.slice a7 l7 c7, .slice (some (Addr.mk w2.heap.size 0 none)) 1 1]) w3 = .ok ((.slice a12 l12 c12 : Value)) w4 ∧
  (0 ≤ (n9 : Int) ∧ (n9 : Int) < ((l1 : Nat) : Int)) ∧
  nn a1 (fun (q13 : Addr) =>
  ∃ (a14 : Option Addr) (l14 : Nat) (c14 : Nat), w4.cell? (Addr.add q13 (Int.toNat n9)) = some ((.slice a14 l14 c14 : Value)) ∧
  ∃ (a15 : Option Addr) (l15 : Nat) (c15 : Nat) (w5 : World), Sem.run Try.prog (Builtin.append_ #[26, 26] 26 #[.slice a8 l8 c8, .slice a14 l14 c14]) w4 = .ok ((.slice a15 l15 c15 : Value)) w5 ∧
  inI (n9 + 1) ∧
  I5 [.slice a12 l12 c12, .slice a15 l15 c15, .int .i64 (n9 + 1)] w5 ∧ mu6 [.slice a12 l12 c12, .slice a15 l15 c15, .int .i64 (n9 + 1)] w5 < mu6 [.slice a7 l7 c7, .slice a8 l8 c8, .int .i64 n9] w2)))
  (CallR Try.prog 39 [.slice a7 l7 c7, .slice none 0 0] w2 (fun (r18 : Value) (w6 : World) =>
  ∃ (p16 : Option Addr) (n17 : Int), r18 = .tuple #[.pointer p16, .int .i64 n17] ∧
  CallR Try.prog 40 [.int .i64 n17] w6 (fun (r20 : Value) (w7 : World) =>
  ∃ (n19 : Int), r20 = .int .i64 n19 ∧
  cond (n19 != 0)
  (Q (.bool (Option.isNone p16)) w7)
  (cond (Option.isNone p16)
  (Q (.bool (Option.isNone p16)) w7)
  ((50 : Int) ≠ 0 ∧
  inI ((Int.tmod n2 (50 : Int)) + 50) ∧
  (50 : Int) ≠ 0 ∧
  inI ((1 : Int) + (Int.tmod ((Int.tmod n2 (50 : Int)) + 50) (50 : Int))) ∧
  ∃ (I21 : List Value → World → Prop) (mu22 : List Value → World → Nat),
  I21 [.slice none 0 0, .int .i64 0] w7 ∧
  ∀ (_ : Env) (a23 : Option Addr) (l23 : Nat) (c23 : Nat) (n24 : Int) (w8 : World), I21 [.slice a23 l23 c23, .int .i64 n24] w8 →
  inI ((((l8 : Nat) : Int)) + (((l1 : Nat) : Int))) ∧
  cond (decide (n24 ≤ ((((l8 : Nat) : Int)) + (((l1 : Nat) : Int)))))
  (CallR Try.prog 41 [.pointer p16, .int .i64 ((1 : Int) + (Int.tmod ((Int.tmod n2 (50 : Int)) + 50) (50 : Int)))] w8 (fun (r27 : Value) (w9 : World) =>
  ∃ (a25 : Option Addr) (l25 : Nat) (c25 : Nat) (n26 : Int), r27 = .tuple #[.slice a25 l25 c25, .int .i64 n26] ∧
  CallR Try.prog 40 [.int .i64 n26] w9 (fun (r29 : Value) (w10 : World) =>
  ∃ (n28 : Int), r29 = .int .i64 n28 ∧
  cond (n28 != 0)
  (Q (.bool false) w10)
  (cond (decide ((((l25 : Nat) : Int)) > ((1 : Int) + (Int.tmod ((Int.tmod n2 (50 : Int)) + 50) (50 : Int)))))
  (Q (.bool false) w10)
  (∃ (a30 : Option Addr) (l30 : Nat) (c30 : Nat) (w11 : World), Sem.run Try.prog (Builtin.append_ #[26, 26] 26 #[.slice a23 l23 c23, .slice a25 l25 c25]) w10 = .ok ((.slice a30 l30 c30 : Value)) w11 ∧
  inI (n24 + 1) ∧
  I21 [.slice a30 l30 c30, .int .i64 (n24 + 1)] w11 ∧ mu22 [.slice a30 l30 c30, .int .i64 (n24 + 1)] w11 < mu22 [.slice a23 l23 c23, .int .i64 n24] w8)))))
  (CallR Try.prog 21 [.slice a23 l23 c23, .slice a8 l8 c8] w8 (fun (r32 : Value) (w12 : World) =>
  ∃ (b31 : Bool), r32 = .bool b31 ∧
  Q (.bool b31) w12)))))))))
theorem C8 {a1 : Option Addr} {l1 : Nat} {c1 : Nat} {n2 : Int} {Q : Value → World → Prop} {w : World} (h : L8 a1 l1 c1 n2 Q w) : CallR Try.prog 8 [.slice a1 l1 c1, .int .i64 n2] w Q :=
  fun_calls (A := A8) mixed Try.func8 (c := (Try.f8.body).getD .skip) rfl (by kernel_rfl) (Eq.mp (by kernel_rfl) h)

/-- millrace/millracelaw10.MemoryRoom -/
def A9 : Ann := ⟨[(8, [(7, .one (.slice)), (8, .one (.int .i64))])], [], [], [], []⟩
def L9 (n1 : Int) (a2 : Option Addr) (l2 : Nat) (c2 : Nat) (Q : Value → World → Prop) (w : World) : Prop :=
  CallR Try.prog 38 [] w (fun (r4 : Value) (w1 : World) =>
  ∃ (b3 : Bool), r4 = .bool b3 ∧
  cond (!b3)
  (Q (.bool false) w1)
  (CallR Try.prog 42 [.int .i64 n1, .slice none 0 0] w1 (fun (r7 : Value) (w2 : World) =>
  ∃ (p5 : Option Addr) (n6 : Int), r7 = .tuple #[.pointer p5, .int .i64 n6] ∧
  CallR Try.prog 40 [.int .i64 n6] w2 (fun (r9 : Value) (w3 : World) =>
  ∃ (n8 : Int), r9 = .int .i64 n8 ∧
  cond (n8 != 0)
  (cond (Option.isNone p5)
  (cond (decide (n1 < 0))
  (Q (.bool true) w3)
  (Q (.bool (decide (n1 > 1048576))) w3))
  (Q (.bool false) w3))
  (cond (Option.isNone p5)
  (cond (Option.isNone p5)
  (cond (decide (n1 < 0))
  (Q (.bool true) w3)
  (Q (.bool (decide (n1 > 1048576))) w3))
  (Q (.bool false) w3))
  (∃ (I10 : List Value → World → Prop) (mu11 : List Value → World → Nat),
  I10 [.slice none 0 0, .int .i64 0] w3 ∧
  ∀ (_ : Env) (a12 : Option Addr) (l12 : Nat) (c12 : Nat) (n13 : Int) (w4 : World), I10 [.slice a12 l12 c12, .int .i64 n13] w4 →
  cond (decide (n13 < (((l2 : Nat) : Int))))
  ((0 ≤ (n13 : Int) ∧ (n13 : Int) < ((l2 : Nat) : Int)) ∧
  nn a2 (fun (q14 : Addr) =>
  ∃ (a15 : Option Addr) (l15 : Nat) (c15 : Nat), w4.cell? (Addr.add q14 (Int.toNat n13)) = some ((.slice a15 l15 c15 : Value)) ∧
  CallR Try.prog 43 [.pointer p5, .slice a15 l15 c15] w4 (fun (r18 : Value) (w5 : World) =>
  ∃ (n16 : Int) (n17 : Int), r18 = .tuple #[.int .i64 n16, .int .i64 n17] ∧
  inI (n1 - (((l12 : Nat) : Int))) ∧
  (0 ≤ (n13 : Int) ∧ (n13 : Int) < ((l2 : Nat) : Int)) ∧
  nn a2 (fun (q19 : Addr) =>
  ∃ (a20 : Option Addr) (l20 : Nat) (c20 : Nat), w5.cell? (Addr.add q19 (Int.toNat n13)) = some ((.slice a20 l20 c20 : Value)) ∧
  cond (decide ((((l20 : Nat) : Int)) > 1048576))
  (CallR Try.prog 40 [.int .i64 n17] w5 (fun (r22 : Value) (w6 : World) =>
  ∃ (n21 : Int), r22 = .int .i64 n21 ∧
  cond (n21 != 5)
  (Q (.bool false) w6)
  (cond (n16 != 0)
  (Q (.bool false) w6)
  (inI (n13 + 1) ∧
  I10 [.slice a12 l12 c12, .int .i64 (n13 + 1)] w6 ∧ mu11 [.slice a12 l12 c12, .int .i64 (n13 + 1)] w6 < mu11 [.slice a12 l12 c12, .int .i64 n13] w4))))
  ((0 ≤ (n13 : Int) ∧ (n13 : Int) < ((l2 : Nat) : Int)) ∧
  nn a2 (fun (q23 : Addr) =>
  ∃ (a24 : Option Addr) (l24 : Nat) (c24 : Nat), w5.cell? (Addr.add q23 (Int.toNat n13)) = some ((.slice a24 l24 c24 : Value)) ∧
  cond (decide ((((l24 : Nat) : Int)) > 0))
  (cond ((n1 - (((l12 : Nat) : Int))) == 0)
  (CallR Try.prog 40 [.int .i64 n17] w5 (fun (r26 : Value) (w7 : World) =>
  ∃ (n25 : Int), r26 = .int .i64 n25 ∧
  cond (n25 != 31)
  (Q (.bool false) w7)
  (cond (n16 != 0)
  (Q (.bool false) w7)
  (inI (n13 + 1) ∧
  I10 [.slice a12 l12 c12, .int .i64 (n13 + 1)] w7 ∧ mu11 [.slice a12 l12 c12, .int .i64 (n13 + 1)] w7 < mu11 [.slice a12 l12 c12, .int .i64 n13] w4))))
  (CallR Try.prog 40 [.int .i64 n17] w5 (fun (r28 : Value) (w8 : World) =>
  ∃ (n27 : Int), r28 = .int .i64 n27 ∧
  cond (n27 != 0)
  (Q (.bool false) w8)
  ((0 ≤ (n13 : Int) ∧ (n13 : Int) < ((l2 : Nat) : Int)) ∧
  nn a2 (fun (q29 : Addr) =>
  ∃ (a30 : Option Addr) (l30 : Nat) (c30 : Nat), w8.cell? (Addr.add q29 (Int.toNat n13)) = some ((.slice a30 l30 c30 : Value)) ∧
  cond (n16 != (mn (n1 - (((l12 : Nat) : Int))) (((l30 : Nat) : Int))))
  (Q (.bool false) w8)
  ((0 ≤ (n13 : Int) ∧ (n13 : Int) < ((l2 : Nat) : Int)) ∧
  nn a2 (fun (q31 : Addr) =>
  ∃ (a32 : Option Addr) (l32 : Nat) (c32 : Nat), w8.cell? (Addr.add q31 (Int.toNat n13)) = some ((.slice a32 l32 c32 : Value)) ∧
  (0 ≤ (n16 : Int) ∧ (n16 : Int) ≤ ((c32 : Nat) : Int)) ∧
  ∃ (a33 : Option Addr) (l33 : Nat) (c33 : Nat) (w9 : World), Sem.run Try.prog (Builtin.append_ #[26, 26] 26 #[.slice a12 l12 c12, .slice a32 (Int.toNat n16) c32]) w8 = .ok ((.slice a33 l33 c33 : Value)) w9 ∧
  inI (n13 + 1) ∧
  I10 [.slice a33 l33 c33, .int .i64 (n13 + 1)] w9 ∧ mu11 [.slice a33 l33 c33, .int .i64 (n13 + 1)] w9 < mu11 [.slice a12 l12 c12, .int .i64 n13] w4)))))))
  (CallR Try.prog 40 [.int .i64 n17] w5 (fun (r35 : Value) (w10 : World) =>
  ∃ (n34 : Int), r35 = .int .i64 n34 ∧
  cond (n34 != 0)
  (Q (.bool false) w10)
  ((0 ≤ (n13 : Int) ∧ (n13 : Int) < ((l2 : Nat) : Int)) ∧
  nn a2 (fun (q36 : Addr) =>
  ∃ (a37 : Option Addr) (l37 : Nat) (c37 : Nat), w10.cell? (Addr.add q36 (Int.toNat n13)) = some ((.slice a37 l37 c37 : Value)) ∧
  cond (n16 != (mn (n1 - (((l12 : Nat) : Int))) (((l37 : Nat) : Int))))
  (Q (.bool false) w10)
  ((0 ≤ (n13 : Int) ∧ (n13 : Int) < ((l2 : Nat) : Int)) ∧
  nn a2 (fun (q38 : Addr) =>
  ∃ (a39 : Option Addr) (l39 : Nat) (c39 : Nat), w10.cell? (Addr.add q38 (Int.toNat n13)) = some ((.slice a39 l39 c39 : Value)) ∧
  (0 ≤ (n16 : Int) ∧ (n16 : Int) ≤ ((c39 : Nat) : Int)) ∧
  ∃ (a40 : Option Addr) (l40 : Nat) (c40 : Nat) (w11 : World), Sem.run Try.prog (Builtin.append_ #[26, 26] 26 #[.slice a12 l12 c12, .slice a39 (Int.toNat n16) c39]) w10 = .ok ((.slice a40 l40 c40 : Value)) w11 ∧
  inI (n13 + 1) ∧
  I10 [.slice a40 l40 c40, .int .i64 (n13 + 1)] w11 ∧ mu11 [.slice a40 l40 c40, .int .i64 (n13 + 1)] w11 < mu11 [.slice a12 l12 c12, .int .i64 n13] w4))))))))))))
  (CallR Try.prog 44 [.pointer p5] w4 (fun (r42 : Value) (w12 : World) =>
  ∃ (a41 : Option Addr) (l41 : Nat) (c41 : Nat), r42 = .slice a41 l41 c41 ∧
  CallR Try.prog 21 [.slice a41 l41 c41, .slice a12 l12 c12] w12 (fun (r44 : Value) (w13 : World) =>
  ∃ (b43 : Bool), r44 = .bool b43 ∧
  Q (.bool b43) w13)))))))))
theorem C9 {n1 : Int} {a2 : Option Addr} {l2 : Nat} {c2 : Nat} {Q : Value → World → Prop} {w : World} (h : L9 n1 a2 l2 c2 Q w) : CallR Try.prog 9 [.int .i64 n1, .slice a2 l2 c2] w Q :=
  fun_calls (A := A9) mixed Try.func9 (c := (Try.f9.body).getD .skip) rfl (by kernel_rfl) (Eq.mp (by kernel_rfl) h)

/-- millrace/millracelaw10.MemoryMakes -/
def A10 : Ann := ⟨[], [], [], [], [(7, [0, 1, 3, 4, 2], 5, [6, 7, 8, 9, 10])]⟩
def L10 (n1 : Int) (n2 : Int) (a3 : Option Addr) (l3 : Nat) (c3 : Nat) (a4 : Option Addr) (l4 : Nat) (c4 : Nat) (a5 : Option Addr) (l5 : Nat) (c5 : Nat) (a6 : Option Addr) (l6 : Nat) (c6 : Nat) (a7 : Option Addr) (l7 : Nat) (c7 : Nat) (n8 : Int) (b9 : Bool) (Q : Value → World → Prop) (w : World) : Prop :=
  let w1 := World.alloc w (Obj.cells #[.int .i64 n1, .int .i64 n2, .slice a3 l3 c3, .slice a4 l4 c4, .slice a5 l5 c5, .slice a6 l6 c6, .slice a7 l7 c7, .int .i64 n8, .bool b9] 78);
  ∃ (n10 : Int), w1.cell? (Addr.mk w.heap.size 1 none) = some ((.int .i64 n10 : Value)) ∧
  ∃ (a11 : Option Addr) (l11 : Nat) (c11 : Nat), w1.cell? (Addr.mk w.heap.size 2 none) = some ((.slice a11 l11 c11 : Value)) ∧
  CallR Try.prog 42 [.int .i64 n10, .slice a11 l11 c11] w1 (fun (r14 : Value) (w2 : World) =>
  ∃ (p12 : Option Addr) (n13 : Int), r14 = .tuple #[.pointer p12, .int .i64 n13] ∧
  ∃ (n15 : Int), w2.cell? (Addr.mk w.heap.size 1 none) = some ((.int .i64 n15 : Value)) ∧
  ∃ (a16 : Option Addr) (l16 : Nat) (c16 : Nat), w2.cell? (Addr.mk w.heap.size 2 none) = some ((.slice a16 l16 c16 : Value)) ∧
  CallR Try.prog 45 [.int .i64 n15, .slice a16 l16 c16] w2 (fun (r19 : Value) (w3 : World) =>
  ∃ (p17 : Option Addr) (n18 : Int), r19 = .tuple #[.pointer p17, .int .i64 n18] ∧
  ∃ (a20 : Option Addr) (l20 : Nat) (c20 : Nat), w3.cell? (Addr.mk w.heap.size 2 none) = some ((.slice a20 l20 c20 : Value)) ∧
  CallR Try.prog 46 [.slice a20 l20 c20] w3 (fun (r23 : Value) (w4 : World) =>
  ∃ (p21 : Option Addr) (n22 : Int), r23 = .tuple #[.pointer p21, .int .i64 n22] ∧
  ∃ (a24 : Option Addr) (l24 : Nat) (c24 : Nat), w4.cell? (Addr.mk w.heap.size 2 none) = some ((.slice a24 l24 c24 : Value)) ∧
  CallR Try.prog 47 [.slice a24 l24 c24] w4 (fun (r27 : Value) (w5 : World) =>
  ∃ (p25 : Option Addr) (n26 : Int), r27 = .tuple #[.pointer p25, .int .i64 n26] ∧
  ∃ (a28 : Option Addr) (l28 : Nat) (c28 : Nat), w5.cell? (Addr.mk w.heap.size 2 none) = some ((.slice a28 l28 c28 : Value)) ∧
  CallR Try.prog 48 [.slice a28 l28 c28] w5 (fun (r31 : Value) (w6 : World) =>
  ∃ (p29 : Option Addr) (n30 : Int), r31 = .tuple #[.pointer p29, .int .i64 n30] ∧
  ∃ (a32 : Option Addr) (l32 : Nat) (c32 : Nat), w6.cell? (Addr.mk w.heap.size 2 none) = some ((.slice a32 l32 c32 : Value)) ∧
  CallR Try.prog 49 [.slice a32 l32 c32] w6 (fun (r35 : Value) (w7 : World) =>
  ∃ (p33 : Option Addr) (n34 : Int), r35 = .tuple #[.pointer p33, .int .i64 n34] ∧
  ∃ (S36 : World → Prop), S36 (World.drew w7) ∧
  let w8 := World.drew w7;
  ∃ (a37 : Option Addr) (l37 : Nat) (c37 : Nat), (∀ wS : World, S36 wS → wS.cell? (Addr.mk w.heap.size 3 none) = some ((.slice a37 l37 c37 : Value))) ∧
  ∃ (a38 : Option Addr) (l38 : Nat) (c38 : Nat), (∀ wS : World, S36 wS → wS.cell? (Addr.mk w.heap.size 4 none) = some ((.slice a38 l38 c38 : Value))) ∧
  CallR Try.prog 50 [.slice a37 l37 c37] w8 (fun (r40 : Value) (w9 : World) =>
  ∃ (a39 : Option Addr) (l39 : Nat) (c39 : Nat), r40 = .slice a39 l39 c39 ∧
  S36 w9 ∧
  CallR Try.prog 39 [.slice a39 l39 c39, .slice a38 l38 c38] w9 (fun (r43 : Value) (w10 : World) =>
  ∃ (p41 : Option Addr) (n42 : Int), r43 = .tuple #[.pointer p41, .int .i64 n42] ∧
  ∃ (a44 : Option Addr) (l44 : Nat) (c44 : Nat), w10.cell? (Addr.mk w.heap.size 3 none) = some ((.slice a44 l44 c44 : Value)) ∧
  ∃ (a45 : Option Addr) (l45 : Nat) (c45 : Nat), w10.cell? (Addr.mk w.heap.size 4 none) = some ((.slice a45 l45 c45 : Value)) ∧
  CallR Try.prog 51 [.slice a44 l44 c44, .slice a45 l45 c45] w10 (fun (r48 : Value) (w11 : World) =>
  ∃ (p46 : Option Addr) (n47 : Int), r48 = .tuple #[.pointer p46, .int .i64 n47] ∧
  CallR Try.prog 40 [.int .i64 n13] w11 (fun (r50 : Value) (w12 : World) =>
  ∃ (n49 : Int), r50 = .int .i64 n49 ∧
  cond (n49 == n18)
  (CallR Try.prog 40 [.int .i64 n22] w12 (fun (r52 : Value) (w13 : World) =>
  ∃ (n51 : Int), r52 = .int .i64 n51 ∧
  cond (n51 == n26)
  (CallR Try.prog 40 [.int .i64 n30] w13 (fun (r54 : Value) (w14 : World) =>
  ∃ (n53 : Int), r54 = .int .i64 n53 ∧
  cond (n53 == n34)
  (CallR Try.prog 40 [.int .i64 n42] w14 (fun (r56 : Value) (w15 : World) =>
  ∃ (n55 : Int), r56 = .int .i64 n55 ∧
  cond (n55 == n47)
  (CallR Try.prog 38 [] w15 (fun (r58 : Value) (w16 : World) =>
  ∃ (b57 : Bool), r58 = .bool b57 ∧
  Q (.bool b57) w16))
  (Q (.bool false) w15)))
  (Q (.bool false) w14)))
  (Q (.bool false) w13)))
  (Q (.bool false) w12)))))))))))
theorem C10 {n1 : Int} {n2 : Int} {a3 : Option Addr} {l3 : Nat} {c3 : Nat} {a4 : Option Addr} {l4 : Nat} {c4 : Nat} {a5 : Option Addr} {l5 : Nat} {c5 : Nat} {a6 : Option Addr} {l6 : Nat} {c6 : Nat} {a7 : Option Addr} {l7 : Nat} {c7 : Nat} {n8 : Int} {b9 : Bool} {Q : Value → World → Prop} {w : World} (h : L10 n1 n2 a3 l3 c3 a4 l4 c4 a5 l5 c5 a6 l6 c6 a7 l7 c7 n8 b9 Q w) : CallR Try.prog 10 [.agg #[.int .i64 n1, .int .i64 n2, .slice a3 l3 c3, .slice a4 l4 c4, .slice a5 l5 c5, .slice a6 l6 c6, .slice a7 l7 c7, .int .i64 n8, .bool b9]] w Q :=
  fun_calls (A := A10) mixed Try.func10 (c := (Try.f10.body).getD .skip) rfl (by kernel_rfl) (Eq.mp (by kernel_rfl) h)

/-- millrace/millracelaw10.MemoryAlike -/
def A14 : Ann := ⟨[(8, [(9, .one (.int .i64))])], [], [], [(22, [0, 1, 2, 3, 4, 5, 6, 7, 8, 9, 10, 11, 12, 13, 14, 15, 16]), (23, [0, 1, 2, 3, 4, 5, 6, 7, 8, 9, 10, 11, 12, 13, 14, 15, 16])], []⟩
def L14 (a1 : Option Addr) (l1 : Nat) (c1 : Nat) (a2 : Option Addr) (l2 : Nat) (c2 : Nat) (Q : Value → World → Prop) (w : World) : Prop :=
  CallR Try.prog 38 [] w (fun (r4 : Value) (w1 : World) =>
  ∃ (b3 : Bool), r4 = .bool b3 ∧
  cond (!b3)
  (Q (.bool false) w1)
  (CallR Try.prog 42 [.int .i64 1048576, .slice a1 l1 c1] w1 (fun (r7 : Value) (w2 : World) =>
  ∃ (p5 : Option Addr) (n6 : Int), r7 = .tuple #[.pointer p5, .int .i64 n6] ∧
  CallR Try.prog 46 [.slice a1 l1 c1] w2 (fun (r10 : Value) (w3 : World) =>
  ∃ (p8 : Option Addr) (n9 : Int), r10 = .tuple #[.pointer p8, .int .i64 n9] ∧
  cond (n6 != n9)
  (Q (.bool false) w3)
  (cond (!((Option.isNone p5) == (Option.isNone p8)))
  (Q (.bool false) w3)
  (∃ (I11 : List Value → World → Prop) (mu12 : List Value → World → Nat),
  I11 [.int .i64 0] w3 ∧
  ∀ (_ : Env) (n13 : Int) (w4 : World), I11 [.int .i64 n13] w4 →
  cond (!(Option.isNone p5))
  (cond (decide (n13 < (((l2 : Nat) : Int))))
  ((0 ≤ (n13 : Int) ∧ (n13 : Int) < ((l2 : Nat) : Int)) ∧
  nn a2 (fun (q14 : Addr) =>
  ∃ (n15 : Int), w4.cell? (Addr.add q14 (Int.toNat n13 * 4)) = some ((.int .i64 n15 : Value)) ∧
  cond (n15 == 0)
  ((0 ≤ (n13 : Int) ∧ (n13 : Int) < ((l2 : Nat) : Int)) ∧
  nn a2 (fun (q16 : Addr) =>
  ∃ (n17 : Int), w4.cell? (Addr.add (Addr.add q16 (Int.toNat n13 * 4)) 1) = some ((.int .i64 n17 : Value)) ∧
  CallR Try.prog 62 [.pointer p5, .int .i64 n17] w4 (fun (r20 : Value) (w5 : World) =>
  ∃ (a18 : Option Addr) (l18 : Nat) (c18 : Nat) (n19 : Int), r20 = .tuple #[.slice a18 l18 c18, .int .i64 n19] ∧
  (0 ≤ (n13 : Int) ∧ (n13 : Int) < ((l2 : Nat) : Int)) ∧
  nn a2 (fun (q21 : Addr) =>
  ∃ (n22 : Int), w5.cell? (Addr.add (Addr.add q21 (Int.toNat n13 * 4)) 1) = some ((.int .i64 n22 : Value)) ∧
  CallR Try.prog 63 [.pointer p8, .int .i64 n22] w5 (fun (r25 : Value) (w6 : World) =>
  ∃ (a23 : Option Addr) (l23 : Nat) (c23 : Nat) (n24 : Int), r25 = .tuple #[.slice a23 l23 c23, .int .i64 n24] ∧
  CallR Try.prog 21 [.slice a18 l18 c18, .slice a23 l23 c23] w6 (fun (r27 : Value) (w7 : World) =>
  ∃ (b26 : Bool), r27 = .bool b26 ∧
  cond (!b26)
  (Q (.bool false) w7)
  (cond (n19 != n24)
  (Q (.bool false) w7)
  (inI (n13 + 1) ∧
  I11 [.int .i64 (n13 + 1)] w7 ∧ mu12 [.int .i64 (n13 + 1)] w7 < mu12 [.int .i64 n13] w4))))))))
  (cond (n15 == 1)
  ((0 ≤ (n13 : Int) ∧ (n13 : Int) < ((l2 : Nat) : Int)) ∧
  nn a2 (fun (q28 : Addr) =>
  ∃ (a29 : Option Addr) (l29 : Nat) (c29 : Nat), w4.cell? (Addr.add (Addr.add q28 (Int.toNat n13 * 4)) 3) = some ((.slice a29 l29 c29 : Value)) ∧
  CallR Try.prog 43 [.pointer p5, .slice a29 l29 c29] w4 (fun (r32 : Value) (w8 : World) =>
  ∃ (n30 : Int) (n31 : Int), r32 = .tuple #[.int .i64 n30, .int .i64 n31] ∧
  (0 ≤ (n13 : Int) ∧ (n13 : Int) < ((l2 : Nat) : Int)) ∧
  nn a2 (fun (q33 : Addr) =>
  ∃ (a34 : Option Addr) (l34 : Nat) (c34 : Nat), w8.cell? (Addr.add (Addr.add q33 (Int.toNat n13 * 4)) 3) = some ((.slice a34 l34 c34 : Value)) ∧
  CallR Try.prog 64 [.pointer p8, .slice a34 l34 c34] w8 (fun (r37 : Value) (w9 : World) =>
  ∃ (n35 : Int) (n36 : Int), r37 = .tuple #[.int .i64 n35, .int .i64 n36] ∧
  cond (n30 != n35)
  (Q (.bool false) w9)
  (cond (n31 != n36)
  (Q (.bool false) w9)
  (inI (n13 + 1) ∧
  I11 [.int .i64 (n13 + 1)] w9 ∧ mu12 [.int .i64 (n13 + 1)] w9 < mu12 [.int .i64 n13] w4)))))))
  (cond (n15 == 2)
  (let w10 := World.drew w4;
  (0 ≤ (n13 : Int) ∧ (n13 : Int) < ((l2 : Nat) : Int)) ∧
  nn a2 (fun (q38 : Addr) =>
  ∃ (n39 : Int), w10.cell? (Addr.add (Addr.add q38 (Int.toNat n13 * 4)) 1) = some ((.int .i64 n39 : Value)) ∧
  (0 ≤ (n13 : Int) ∧ (n13 : Int) < ((l2 : Nat) : Int)) ∧
  nn a2 (fun (q40 : Addr) =>
  ∃ (n41 : Int), w10.cell? (Addr.add (Addr.add q40 (Int.toNat n13 * 4)) 2) = some ((.int .i64 n41 : Value)) ∧
  CallR Try.prog 65 [.pointer p5, .int .i64 n39, .int .i64 n41] w10 (fun (r44 : Value) (w11 : World) =>
  ∃ (n42 : Int) (n43 : Int), r44 = .tuple #[.int .i64 n42, .int .i64 n43] ∧
  let w12 := World.drew w11;
  (0 ≤ (n13 : Int) ∧ (n13 : Int) < ((l2 : Nat) : Int)) ∧
  nn a2 (fun (q45 : Addr) =>
  ∃ (n46 : Int), w12.cell? (Addr.add (Addr.add q45 (Int.toNat n13 * 4)) 1) = some ((.int .i64 n46 : Value)) ∧
  (0 ≤ (n13 : Int) ∧ (n13 : Int) < ((l2 : Nat) : Int)) ∧
  nn a2 (fun (q47 : Addr) =>
  ∃ (n48 : Int), w12.cell? (Addr.add (Addr.add q47 (Int.toNat n13 * 4)) 2) = some ((.int .i64 n48 : Value)) ∧
  CallR Try.prog 66 [.pointer p8, .int .i64 n46, .int .i64 n48] w12 (fun (r51 : Value) (w13 : World) =>
  ∃ (n49 : Int) (n50 : Int), r51 = .tuple #[.int .i64 n49, .int .i64 n50] ∧
  cond (n42 != n49)
  (Q (.bool false) w13)
  (cond (n43 != n50)
  (Q (.bool false) w13)
  (inI (n13 + 1) ∧
  I11 [.int .i64 (n13 + 1)] w13 ∧ mu12 [.int .i64 (n13 + 1)] w13 < mu12 [.int .i64 n13] w4)))))))))
  (inI (n13 + 1) ∧
  I11 [.int .i64 (n13 + 1)] w4 ∧ mu12 [.int .i64 (n13 + 1)] w4 < mu12 [.int .i64 n13] w4)))))
  (cond (Option.isNone p5)
  (Q (.bool true) w4)
  (CallR Try.prog 44 [.pointer p5] w4 (fun (r53 : Value) (w14 : World) =>
  ∃ (a52 : Option Addr) (l52 : Nat) (c52 : Nat), r53 = .slice a52 l52 c52 ∧
  CallR Try.prog 67 [.pointer p8] w14 (fun (r55 : Value) (w15 : World) =>
  ∃ (a54 : Option Addr) (l54 : Nat) (c54 : Nat), r55 = .slice a54 l54 c54 ∧
  CallR Try.prog 21 [.slice a52 l52 c52, .slice a54 l54 c54] w15 (fun (r57 : Value) (w16 : World) =>
  ∃ (b56 : Bool), r57 = .bool b56 ∧
  Q (.bool b56) w16))))))
  (cond (Option.isNone p5)
  (Q (.bool true) w4)
  (CallR Try.prog 44 [.pointer p5] w4 (fun (r59 : Value) (w17 : World) =>
  ∃ (a58 : Option Addr) (l58 : Nat) (c58 : Nat), r59 = .slice a58 l58 c58 ∧
  CallR Try.prog 67 [.pointer p8] w17 (fun (r61 : Value) (w18 : World) =>
  ∃ (a60 : Option Addr) (l60 : Nat) (c60 : Nat), r61 = .slice a60 l60 c60 ∧
  CallR Try.prog 21 [.slice a58 l58 c58, .slice a60 l60 c60] w18 (fun (r63 : Value) (w19 : World) =>
  ∃ (b62 : Bool), r63 = .bool b62 ∧
  Q (.bool b62) w19)))))))))))
theorem C14 {a1 : Option Addr} {l1 : Nat} {c1 : Nat} {a2 : Option Addr} {l2 : Nat} {c2 : Nat} {Q : Value → World → Prop} {w : World} (h : L14 a1 l1 c1 a2 l2 c2 Q w) : CallR Try.prog 14 [.slice a1 l1 c1, .slice a2 l2 c2] w Q :=
  fun_calls (A := A14) mixed Try.func14 (c := (Try.f14.body).getD .skip) rfl (by kernel_rfl) (Eq.mp (by kernel_rfl) h)

/-- millrace/millracelaw10.MemoryOwn -/
def A15 : Ann := ⟨[], [], [], [], []⟩
def L15 (a1 : Option Addr) (l1 : Nat) (c1 : Nat) (Q : Value → World → Prop) (w : World) : Prop :=
  CallR Try.prog 38 [] w (fun (r3 : Value) (w1 : World) =>
  ∃ (b2 : Bool), r3 = .bool b2 ∧
  cond (!b2)
  (Q (.bool false) w1)
  (CallR Try.prog 68 [.pointer none, .pointer none, .pointer none, .pointer none] w1 (fun (r5 : Value) (w2 : World) =>
  ∃ (b4 : Bool), r5 = .bool b4 ∧
  cond (!b4)
  (Q (.bool false) w2)
  (let w3 := World.alloc w2 (Obj.cells #[.bool false, .slice none 0 0, .int .i64 0, .int .i64 0] 116);
  let w4 := World.alloc w3 (Obj.cells #[.bool false, .slice none 0 0, .int .i64 0, .int .i64 0] 117);
  let w5 := World.alloc w4 (Obj.cells #[.bool false, .slice none 0 0, .int .i64 0, .int .i64 0] 118);
  let w6 := World.alloc w5 (Obj.cells #[.bool false, .slice none 0 0, .slice none 0 0, .slice none 0 0] 120);
  CallR Try.prog 68 [.pointer (some (Addr.mk w2.heap.size 0 none)), .pointer (some (Addr.mk w3.heap.size 0 none)), .pointer (some (Addr.mk w4.heap.size 0 none)), .pointer (some (Addr.mk w5.heap.size 0 none))] w6 (fun (r7 : Value) (w7 : World) =>
  ∃ (b6 : Bool), r7 = .bool b6 ∧
  cond (!b6)
  (Q (.bool false) w7)
  (CallR Try.prog 30 [.slice a1 l1 c1] w7 (fun (r9 : Value) (w8 : World) =>
  ∃ (a8 : Option Addr) (l8 : Nat) (c8 : Nat), r9 = .slice a8 l8 c8 ∧
  CallR Try.prog 46 [.slice a8 l8 c8] w8 (fun (r12 : Value) (w9 : World) =>
  ∃ (p10 : Option Addr) (n11 : Int), r12 = .tuple #[.pointer p10, .int .i64 n11] ∧
  CallR Try.prog 40 [.int .i64 n11] w9 (fun (r14 : Value) (w10 : World) =>
  ∃ (n13 : Int), r14 = .int .i64 n13 ∧
  cond (n13 != 0)
  (Q (.bool (Option.isNone p10)) w10)
  (cond (Option.isNone p10)
  (Q (.bool (Option.isNone p10)) w10)
  (CallR Try.prog 48 [.slice a8 l8 c8] w10 (fun (r17 : Value) (w11 : World) =>
  ∃ (p15 : Option Addr) (n16 : Int), r17 = .tuple #[.pointer p15, .int .i64 n16] ∧
  CallR Try.prog 32 [.slice a8 l8 c8] w11 (fun (r18 : Value) (w12 : World) =>
  r18 = .tuple #[] ∧
  CallR Try.prog 67 [.pointer p10] w12 (fun (r20 : Value) (w13 : World) =>
  ∃ (a19 : Option Addr) (l19 : Nat) (c19 : Nat), r20 = .slice a19 l19 c19 ∧
  CallR Try.prog 32 [.slice a19 l19 c19] w13 (fun (r21 : Value) (w14 : World) =>
  r21 = .tuple #[] ∧
  CallR Try.prog 40 [.int .i64 n16] w14 (fun (r23 : Value) (w15 : World) =>
  ∃ (n22 : Int), r23 = .int .i64 n22 ∧
  cond (n22 != 0)
  (Q (.bool false) w15)
  (cond (Option.isNone p15)
  (Q (.bool false) w15)
  (CallR Try.prog 69 [.pointer p15, .int .i64 (((l1 : Nat) : Int))] w15 (fun (r26 : Value) (w16 : World) =>
  ∃ (a24 : Option Addr) (l24 : Nat) (c24 : Nat) (n25 : Int), r26 = .tuple #[.slice a24 l24 c24, .int .i64 n25] ∧
  let w17 := World.alloc w16 (Obj.cells #[.int .u8 1] 5);
  CallR Try.prog 70 [.pointer p15, .slice (some (Addr.mk w16.heap.size 0 none)) 1 1] w17 (fun (r29 : Value) (w18 : World) =>
  ∃ (n27 : Int) (n28 : Int), r29 = .tuple #[.int .i64 n27, .int .i64 n28] ∧
  CallR Try.prog 40 [.int .i64 n25] w18 (fun (r31 : Value) (w19 : World) =>
  ∃ (n30 : Int), r31 = .int .i64 n30 ∧
  cond (n30 == 0)
  (CallR Try.prog 21 [.slice a24 l24 c24, .slice a1 l1 c1] w19 (fun (r33 : Value) (w20 : World) =>
  ∃ (b32 : Bool), r33 = .bool b32 ∧
  cond b32
  (CallR Try.prog 40 [.int .i64 n28] w20 (fun (r35 : Value) (w21 : World) =>
  ∃ (n34 : Int), r35 = .int .i64 n34 ∧
  cond (n34 == 65)
  (CallR Try.prog 67 [.pointer p10] w21 (fun (r37 : Value) (w22 : World) =>
  ∃ (a36 : Option Addr) (l36 : Nat) (c36 : Nat), r37 = .slice a36 l36 c36 ∧
  CallR Try.prog 21 [.slice a36 l36 c36, .slice a1 l1 c1] w22 (fun (r39 : Value) (w23 : World) =>
  ∃ (b38 : Bool), r39 = .bool b38 ∧
  Q (.bool b38) w23)))
  (Q (.bool false) w21)))
  (Q (.bool false) w20)))
  (Q (.bool false) w19))))))))))))))))))))))
theorem C15 {a1 : Option Addr} {l1 : Nat} {c1 : Nat} {Q : Value → World → Prop} {w : World} (h : L15 a1 l1 c1 Q w) : CallR Try.prog 15 [.slice a1 l1 c1] w Q :=
  fun_calls (A := A15) mixed Try.func15 (c := (Try.f15.body).getD .skip) rfl (by kernel_rfl) (Eq.mp (by kernel_rfl) h)

end Go.Proofs.Ytmpmobhofdefeaa
