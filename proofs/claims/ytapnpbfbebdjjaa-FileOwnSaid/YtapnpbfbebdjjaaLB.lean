/-
  What some functions of the program ask of the world, printed by a program out of the loaded program; each text is held against the code by evaluation. Conditions: none.
-/
import Derived.Test.YtapnpbfbebdjjaaProg
import Derived.Test.YtapnpbfbebdjjaaLm
import Derived.Test.YtapnpbfbebdjjaaLA
set_option linter.unusedVariables false
set_option maxRecDepth 100000
namespace Go.Proofs.Ytapnpbfbebdjjaa
open Go.Lw
/-- millrace/millracelaw03.num -/
def A16 : Ann := ⟨[], [], [], []⟩
def L16 (n1 : Int) (Q : Value → World → Prop) (w : World) : Prop :=
  Q (.int .i64 n1) w
theorem C16 {n1 : Int} {Q : Value → World → Prop} {w : World} (h : L16 n1 Q w) : CallR Try.prog 16 [.int .i64 n1] w Q :=
  fun_calls (A := A16) mixed Try.func16 (c := (Try.f16.body).getD .skip) rfl (by kernel_rfl) (Eq.mp (by kernel_rfl) h)

/-- millrace/millracelaw03.alive -/
def A14 : Ann := ⟨[], [], [], []⟩
def L14 (Q : Value → World → Prop) (w : World) : Prop :=
  let w1 := World.alloc w (Obj.cells #[.int .u8 1, .int .u8 2, .int .u8 3] 5);
  CallR Try.prog 15 [.slice (some (Addr.mk w.heap.size 0 none)) 3 3] w1 (fun (r3 : Value) (w2 : World) =>
  ∃ (p1 : Option Addr) (n2 : Int), r3 = .tuple #[.pointer p1, .int .i64 n2] ∧
  CallR Try.prog 16 [.int .i64 n2] w2 (fun (r5 : Value) (w3 : World) =>
  ∃ (n4 : Int), r5 = .int .i64 n4 ∧
  cond (n4 != 0)
  (Q (.bool false) w3)
  (cond (Option.isNone p1)
  (Q (.bool false) w3)
  (let w4 := World.alloc w3 (Obj.cells #[.int .u8 9] 5);
  CallR Try.prog 17 [.pointer p1, .int .i64 5, .slice (some (Addr.mk w3.heap.size 0 none)) 1 1] w4 (fun (r7 : Value) (w5 : World) =>
  ∃ (n6 : Int), r7 = .int .i64 n6 ∧
  CallR Try.prog 19 [.pointer p1, .int .i64 2, .int .i64 10] w5 (fun (r10 : Value) (w6 : World) =>
  ∃ (a8 : Option Addr) (l8 : Nat) (c8 : Nat) (n9 : Int), r10 = .tuple #[.slice a8 l8 c8, .int .i64 n9] ∧
  CallR Try.prog 16 [.int .i64 n6] w6 (fun (r12 : Value) (w7 : World) =>
  ∃ (n11 : Int), r12 = .int .i64 n11 ∧
  CallR Try.prog 16 [.int .i64 n9] w7 (fun (r14 : Value) (w8 : World) =>
  ∃ (n13 : Int), r14 = .int .i64 n13 ∧
  inI (n11 + n13) ∧
  cond ((n11 + n13) == 0)
  (let w9 := World.alloc w8 (Obj.cells #[.int .u8 3, .int .u8 0, .int .u8 0, .int .u8 9] 5);
  CallR Try.prog 20 [.slice a8 l8 c8, .slice (some (Addr.mk w8.heap.size 0 none)) 4 4] w9 (fun (r16 : Value) (w10 : World) =>
  ∃ (b15 : Bool), r16 = .bool b15 ∧
  cond b15
  (CallR Try.prog 18 [.pointer p1] w10 (fun (r18 : Value) (w11 : World) =>
  ∃ (n17 : Int), r18 = .int .i64 n17 ∧
  Q (.bool (n17 == 6)) w11))
  (Q (.bool false) w10)))
  (Q (.bool false) w8)))))))))
theorem C14 {Q : Value → World → Prop} {w : World} (h : L14 Q w) : CallR Try.prog 14 [] w Q :=
  fun_calls (A := A14) mixed Try.func14 (c := (Try.f14.body).getD .skip) rfl (by kernel_rfl) (Eq.mp (by kernel_rfl) h)

/-- millrace/millracelaw03.FileLast -/
def A3 : Ann := ⟨[(11, [(9, .one (.int .u8)), (10, .one (.int .i64)), (11, .one (.int .i64))])], [(9, [(9, .one (.int .u8))])], [], []⟩
def L3 (a1 : Option Addr) (l1 : Nat) (c1 : Nat) (a2 : Option Addr) (l2 : Nat) (c2 : Nat) (n3 : Int) (Q : Value → World → Prop) (w : World) : Prop :=
  CallR Try.prog 14 [] w (fun (r5 : Value) (w1 : World) =>
  ∃ (b4 : Bool), r5 = .bool b4 ∧
  cond (!b4)
  (Q (.bool false) w1)
  (CallR Try.prog 15 [.slice a1 l1 c1] w1 (fun (r8 : Value) (w2 : World) =>
  ∃ (p6 : Option Addr) (n7 : Int), r8 = .tuple #[.pointer p6, .int .i64 n7] ∧
  CallR Try.prog 16 [.int .i64 n7] w2 (fun (r10 : Value) (w3 : World) =>
  ∃ (n9 : Int), r10 = .int .i64 n9 ∧
  cond (n9 != 0)
  (Q (.bool (Option.isNone p6)) w3)
  (cond (Option.isNone p6)
  (Q (.bool (Option.isNone p6)) w3)
  (∃ (J11 : List Value → World → Prop),
  (cond (decide (n3 ≥ 0))
  (cond (decide (n3 < (((l1 : Nat) : Int))))
  ((0 ≤ (n3 : Int) ∧ (n3 : Int) < ((l1 : Nat) : Int)) ∧
  nn a1 (fun (q12 : Addr) =>
  ∃ (n13 : Int), w3.cell? (Addr.add q12 (Int.toNat n3)) = some ((.int .u8 n13 : Value)) ∧
  J11 [.int .u8 n13] w3))
  (J11 [.int .u8 0] w3))
  (J11 [.int .u8 0] w3)) ∧
  (∀ (_ : Env) (n14 : Int) (w4 : World), J11 [.int .u8 n14] w4 →
  ∃ (I15 : List Value → World → Prop) (mu16 : List Value → World → Nat),
  I15 [.int .u8 n14, .int .i64 (((l1 : Nat) : Int)), .int .i64 0] w4 ∧
  ∀ (_ : Env) (n17 : Int) (n18 : Int) (n19 : Int) (w5 : World), I15 [.int .u8 n17, .int .i64 n18, .int .i64 n19] w5 →
  cond (decide (n19 < (((l2 : Nat) : Int))))
  ((0 ≤ (n19 : Int) ∧ (n19 : Int) < ((l2 : Nat) : Int)) ∧
  nn a2 (fun (q20 : Addr) =>
  ∃ (n21 : Int) (n22 : Int) (n23 : Int) (a24 : Option Addr) (l24 : Nat) (c24 : Nat), w5.cell? (Addr.add q20 (Int.toNat n19 * 4)) = some ((.int .i64 n21 : Value)) ∧ w5.cell? (Addr.add (Addr.add q20 (Int.toNat n19 * 4)) 1) = some ((.int .i64 n22 : Value)) ∧ w5.cell? (Addr.add (Addr.add q20 (Int.toNat n19 * 4)) 2) = some ((.int .i64 n23 : Value)) ∧ w5.cell? (Addr.add (Addr.add q20 (Int.toNat n19 * 4)) 3) = some ((.slice a24 l24 c24 : Value)) ∧ 
  let w6 := World.alloc w5 (Obj.cells #[.int .i64 0, .int .i64 0, .int .i64 0, .slice none 0 0] 31);
  stC (Addr.mk w5.heap.size 0 none) (.int .i64 n21) w6 (fun (w7 : World) =>
  stC (Addr.mk w5.heap.size 1 none) (.int .i64 n22) w7 (fun (w8 : World) =>
  stC (Addr.mk w5.heap.size 2 none) (.int .i64 n23) w8 (fun (w9 : World) =>
  stC (Addr.mk w5.heap.size 3 none) (.slice a24 l24 c24) w9 (fun (w10 : World) =>
  ∃ (n25 : Int), w10.cell? (Addr.mk w5.heap.size 1 none) = some ((.int .i64 n25 : Value)) ∧
  ∃ (a26 : Option Addr) (l26 : Nat) (c26 : Nat), w10.cell? (Addr.mk w5.heap.size 3 none) = some ((.slice a26 l26 c26 : Value)) ∧
  CallR Try.prog 17 [.pointer p6, .int .i64 n25, .slice a26 l26 c26] w10 (fun (r28 : Value) (w11 : World) =>
  ∃ (n27 : Int), r28 = .int .i64 n27 ∧
  CallR Try.prog 16 [.int .i64 n27] w11 (fun (r30 : Value) (w12 : World) =>
  ∃ (n29 : Int), r30 = .int .i64 n29 ∧
  cond (n29 != 0)
  (inI (n19 + 1) ∧
  I15 [.int .u8 n17, .int .i64 n18, .int .i64 (n19 + 1)] w12 ∧ mu16 [.int .u8 n17, .int .i64 n18, .int .i64 (n19 + 1)] w12 < mu16 [.int .u8 n17, .int .i64 n18, .int .i64 n19] w5)
  (∃ (a31 : Option Addr) (l31 : Nat) (c31 : Nat), w12.cell? (Addr.mk w5.heap.size 3 none) = some ((.slice a31 l31 c31 : Value)) ∧
  cond ((((l31 : Nat) : Int)) == 0)
  (inI (n19 + 1) ∧
  I15 [.int .u8 n17, .int .i64 n18, .int .i64 (n19 + 1)] w12 ∧ mu16 [.int .u8 n17, .int .i64 n18, .int .i64 (n19 + 1)] w12 < mu16 [.int .u8 n17, .int .i64 n18, .int .i64 n19] w5)
  (∃ (n32 : Int), w12.cell? (Addr.mk w5.heap.size 1 none) = some ((.int .i64 n32 : Value)) ∧
  ∃ (a33 : Option Addr) (l33 : Nat) (c33 : Nat), w12.cell? (Addr.mk w5.heap.size 3 none) = some ((.slice a33 l33 c33 : Value)) ∧
  inI (n32 + (((l33 : Nat) : Int))) ∧
  ∃ (n34 : Int), w12.cell? (Addr.mk w5.heap.size 1 none) = some ((.int .i64 n34 : Value)) ∧
  cond (decide (n3 ≥ n34))
  (∃ (n35 : Int), w12.cell? (Addr.mk w5.heap.size 1 none) = some ((.int .i64 n35 : Value)) ∧
  ∃ (a36 : Option Addr) (l36 : Nat) (c36 : Nat), w12.cell? (Addr.mk w5.heap.size 3 none) = some ((.slice a36 l36 c36 : Value)) ∧
  inI (n35 + (((l36 : Nat) : Int))) ∧
  cond (decide (n3 < (n35 + (((l36 : Nat) : Int)))))
  (∃ (a37 : Option Addr) (l37 : Nat) (c37 : Nat), w12.cell? (Addr.mk w5.heap.size 3 none) = some ((.slice a37 l37 c37 : Value)) ∧
  ∃ (n38 : Int), w12.cell? (Addr.mk w5.heap.size 1 none) = some ((.int .i64 n38 : Value)) ∧
  inI (n3 - n38) ∧
  (0 ≤ (n3 - n38 : Int) ∧ (n3 - n38 : Int) < ((l37 : Nat) : Int)) ∧
  nn a37 (fun (q39 : Addr) =>
  ∃ (n40 : Int), w12.cell? (Addr.add q39 (Int.toNat (n3 - n38))) = some ((.int .u8 n40 : Value)) ∧
  inI (n19 + 1) ∧
  I15 [.int .u8 n40, .int .i64 (mx n18 (n32 + (((l33 : Nat) : Int)))), .int .i64 (n19 + 1)] w12 ∧ mu16 [.int .u8 n40, .int .i64 (mx n18 (n32 + (((l33 : Nat) : Int)))), .int .i64 (n19 + 1)] w12 < mu16 [.int .u8 n17, .int .i64 n18, .int .i64 n19] w5))
  (inI (n19 + 1) ∧
  I15 [.int .u8 n17, .int .i64 (mx n18 (n32 + (((l33 : Nat) : Int)))), .int .i64 (n19 + 1)] w12 ∧ mu16 [.int .u8 n17, .int .i64 (mx n18 (n32 + (((l33 : Nat) : Int)))), .int .i64 (n19 + 1)] w12 < mu16 [.int .u8 n17, .int .i64 n18, .int .i64 n19] w5))
  (inI (n19 + 1) ∧
  I15 [.int .u8 n17, .int .i64 (mx n18 (n32 + (((l33 : Nat) : Int)))), .int .i64 (n19 + 1)] w12 ∧ mu16 [.int .u8 n17, .int .i64 (mx n18 (n32 + (((l33 : Nat) : Int)))), .int .i64 (n19 + 1)] w12 < mu16 [.int .u8 n17, .int .i64 n18, .int .i64 n19] w5)))))))))))
  (CallR Try.prog 18 [.pointer p6] w5 (fun (r42 : Value) (w13 : World) =>
  ∃ (n41 : Int), r42 = .int .i64 n41 ∧
  cond (n41 != n18)
  (Q (.bool false) w13)
  (CallR Try.prog 19 [.pointer p6, .int .i64 n3, .int .i64 1] w13 (fun (r45 : Value) (w14 : World) =>
  ∃ (a43 : Option Addr) (l43 : Nat) (c43 : Nat) (n44 : Int), r45 = .tuple #[.slice a43 l43 c43, .int .i64 n44] ∧
  cond (decide (n3 < 0))
  (CallR Try.prog 16 [.int .i64 n44] w14 (fun (r47 : Value) (w15 : World) =>
  ∃ (n46 : Int), r47 = .int .i64 n46 ∧
  Q (.bool (n46 == 4)) w15))
  (cond (decide (n3 > 1048576))
  (CallR Try.prog 16 [.int .i64 n44] w14 (fun (r49 : Value) (w16 : World) =>
  ∃ (n48 : Int), r49 = .int .i64 n48 ∧
  Q (.bool (n48 == 4)) w16))
  (cond (decide (n3 ≥ n18))
  (CallR Try.prog 16 [.int .i64 n44] w14 (fun (r51 : Value) (w17 : World) =>
  ∃ (n50 : Int), r51 = .int .i64 n50 ∧
  cond (n50 == 0)
  (Q (.bool ((((l43 : Nat) : Int)) == 0)) w17)
  (Q (.bool false) w17)))
  (CallR Try.prog 16 [.int .i64 n44] w14 (fun (r53 : Value) (w18 : World) =>
  ∃ (n52 : Int), r53 = .int .i64 n52 ∧
  cond (n52 == 0)
  (cond ((((l43 : Nat) : Int)) == 1)
  ((0 ≤ (0 : Int) ∧ (0 : Int) < ((l43 : Nat) : Int)) ∧
  nn a43 (fun (q54 : Addr) =>
  ∃ (n55 : Int), w18.cell? (Addr.add q54 (Int.toNat 0)) = some ((.int .u8 n55 : Value)) ∧
  Q (.bool (n55 == n17)) w18))
  (Q (.bool false) w18))
  (Q (.bool false) w18))))))))))))))))
theorem C3 {a1 : Option Addr} {l1 : Nat} {c1 : Nat} {a2 : Option Addr} {l2 : Nat} {c2 : Nat} {n3 : Int} {Q : Value → World → Prop} {w : World} (h : L3 a1 l1 c1 a2 l2 c2 n3 Q w) : CallR Try.prog 3 [.slice a1 l1 c1, .slice a2 l2 c2, .int .i64 n3] w Q :=
  fun_calls (A := A3) mixed Try.func3 (c := (Try.f3.body).getD .skip) rfl (by kernel_rfl) (Eq.mp (by kernel_rfl) h)

/-- millrace/millracelaw03.FilePieces -/
def A4 : Ann := ⟨[(9, [(7, .one (.slice)), (8, .one (.int .i64))])], [], [], []⟩
def L4 (a1 : Option Addr) (l1 : Nat) (c1 : Nat) (n2 : Int) (Q : Value → World → Prop) (w : World) : Prop :=
  CallR Try.prog 14 [] w (fun (r4 : Value) (w1 : World) =>
  ∃ (b3 : Bool), r4 = .bool b3 ∧
  cond (!b3)
  (Q (.bool false) w1)
  (CallR Try.prog 15 [.slice a1 l1 c1] w1 (fun (r7 : Value) (w2 : World) =>
  ∃ (p5 : Option Addr) (n6 : Int), r7 = .tuple #[.pointer p5, .int .i64 n6] ∧
  CallR Try.prog 16 [.int .i64 n6] w2 (fun (r9 : Value) (w3 : World) =>
  ∃ (n8 : Int), r9 = .int .i64 n8 ∧
  cond (n8 != 0)
  (cond (Option.isNone p5)
  (Q (.bool (decide ((((l1 : Nat) : Int)) > 1048576))) w3)
  (Q (.bool false) w3))
  (cond (Option.isNone p5)
  (cond (Option.isNone p5)
  (Q (.bool (decide ((((l1 : Nat) : Int)) > 1048576))) w3)
  (Q (.bool false) w3))
  ((5000 : Int) ≠ 0 ∧
  inI ((Int.tmod n2 (5000 : Int)) + 5000) ∧
  (5000 : Int) ≠ 0 ∧
  inI ((1 : Int) + (Int.tmod ((Int.tmod n2 (5000 : Int)) + 5000) (5000 : Int))) ∧
  ∃ (I10 : List Value → World → Prop) (mu11 : List Value → World → Nat),
  I10 [.slice none 0 0, .int .i64 0] w3 ∧
  ∀ (_ : Env) (a12 : Option Addr) (l12 : Nat) (c12 : Nat) (n13 : Int) (w4 : World), I10 [.slice a12 l12 c12, .int .i64 n13] w4 →
  cond (decide (n13 ≤ (((l1 : Nat) : Int))))
  (CallR Try.prog 19 [.pointer p5, .int .i64 n13, .int .i64 ((1 : Int) + (Int.tmod ((Int.tmod n2 (5000 : Int)) + 5000) (5000 : Int)))] w4 (fun (r16 : Value) (w5 : World) =>
  ∃ (a14 : Option Addr) (l14 : Nat) (c14 : Nat) (n15 : Int), r16 = .tuple #[.slice a14 l14 c14, .int .i64 n15] ∧
  CallR Try.prog 16 [.int .i64 n15] w5 (fun (r18 : Value) (w6 : World) =>
  ∃ (n17 : Int), r18 = .int .i64 n17 ∧
  cond (n17 != 0)
  (Q (.bool false) w6)
  (inI ((((l1 : Nat) : Int)) - n13) ∧
  cond ((((l14 : Nat) : Int)) != (mn ((1 : Int) + (Int.tmod ((Int.tmod n2 (5000 : Int)) + 5000) (5000 : Int))) ((((l1 : Nat) : Int)) - n13)))
  (Q (.bool false) w6)
  (∃ (a19 : Option Addr) (l19 : Nat) (c19 : Nat) (w7 : World), Sem.run Try.prog (Builtin.append_ #[22, 22] 22 #[.slice a12 l12 c12, .slice a14 l14 c14]) w6 = .ok ((.slice a19 l19 c19 : Value)) w7 ∧
  inI (n13 + ((1 : Int) + (Int.tmod ((Int.tmod n2 (5000 : Int)) + 5000) (5000 : Int)))) ∧
  I10 [.slice a19 l19 c19, .int .i64 (n13 + ((1 : Int) + (Int.tmod ((Int.tmod n2 (5000 : Int)) + 5000) (5000 : Int))))] w7 ∧ mu11 [.slice a19 l19 c19, .int .i64 (n13 + ((1 : Int) + (Int.tmod ((Int.tmod n2 (5000 : Int)) + 5000) (5000 : Int))))] w7 < mu11 [.slice a12 l12 c12, .int .i64 n13] w4)))))
  (CallR Try.prog 20 [.slice a12 l12 c12, .slice a1 l1 c1] w4 (fun (r21 : Value) (w8 : World) =>
  ∃ (b20 : Bool), r21 = .bool b20 ∧
  cond b20
  (CallR Try.prog 18 [.pointer p5] w8 (fun (r23 : Value) (w9 : World) =>
  ∃ (n22 : Int), r23 = .int .i64 n22 ∧
  Q (.bool (n22 == (((l1 : Nat) : Int)))) w9))
  (Q (.bool false) w8)))))))))
theorem C4 {a1 : Option Addr} {l1 : Nat} {c1 : Nat} {n2 : Int} {Q : Value → World → Prop} {w : World} (h : L4 a1 l1 c1 n2 Q w) : CallR Try.prog 4 [.slice a1 l1 c1, .int .i64 n2] w Q :=
  fun_calls (A := A4) mixed Try.func4 (c := (Try.f4.body).getD .skip) rfl (by kernel_rfl) (Eq.mp (by kernel_rfl) h)

end Go.Proofs.Ytapnpbfbebdjjaa
