/-
  What some functions of the program ask of the world, printed by a program out of the loaded program; each text is held against the code by evaluation. Conditions: none.
-/
import Derived.Test.YthddogeenimjcaaProg
import Derived.Test.YthddogeenimjcaaLm
import Derived.Test.YthddogeenimjcaaLX
set_option linter.unusedVariables false
set_option maxRecDepth 100000
namespace Go.Proofs.Ythddogeenimjcaa
open Go.Lw
/-- slices.Clone[[]byte,byte] -/
def A34 : Ann := ⟨[], [], [], [], [], []⟩
def L34 (a1 : Option Addr) (l1 : Nat) (c1 : Nat) (Q : Value → World → Prop) (w : World) : Prop :=
  cond (Option.isNone a1)
  (Q (.slice none 0 0) w)
  (let w1 := World.alloc w (Obj.cells #[] 5);
  ∃ (a2 : Option Addr) (l2 : Nat) (c2 : Nat) (w2 : World), Sem.run Try.prog (Builtin.append_ #[22, 22] 22 #[.slice (some (Addr.mk w.heap.size 0 none)) 0 0, .slice a1 l1 c1]) w1 = .ok ((.slice a2 l2 c2 : Value)) w2 ∧
  Q (.slice a2 l2 c2) w2)
theorem C34 {a1 : Option Addr} {l1 : Nat} {c1 : Nat} {Q : Value → World → Prop} {w : World} (h : L34 a1 l1 c1 Q w) : CallR Try.prog 34 [.slice a1 l1 c1] w Q :=
  fun_calls (A := A34) mixed Try.func34 (c := (Try.f34.body).getD .skip) rfl (by kernel_rfl) (Eq.mp (by kernel_rfl) h)

/-- slices.Reverse[[]byte,byte] -/
def A26 : Ann := ⟨[(1, [(2, .one (.int .i64)), (3, .one (.int .i64))])], [], [], [(3, [0, 1, 2, 3, 4, 5, 6, 7, 8, 9, 10, 11, 12, 13, 14, 15])], [], []⟩
def L26 (a1 : Option Addr) (l1 : Nat) (c1 : Nat) (Q : Value → World → Prop) (w : World) : Prop :=
  inI ((((l1 : Nat) : Int)) - 1) ∧
  ∃ (I2 : List Value → World → Prop) (mu3 : List Value → World → Nat),
  I2 [.int .i64 0, .int .i64 ((((l1 : Nat) : Int)) - 1)] w ∧
  ∀ (_ : Env) (n4 : Int) (n5 : Int) (w1 : World), I2 [.int .i64 n4, .int .i64 n5] w1 →
  cond (decide (n4 < n5))
  (let w2 := World.drew w1;
  (0 ≤ (n5 : Int) ∧ (n5 : Int) < ((l1 : Nat) : Int)) ∧
  nn a1 (fun (q6 : Addr) =>
  ∃ (n7 : Int), w2.cell? (Addr.add q6 (Int.toNat n5)) = some ((.int .u8 n7 : Value)) ∧
  (0 ≤ (n4 : Int) ∧ (n4 : Int) < ((l1 : Nat) : Int)) ∧
  nn a1 (fun (q8 : Addr) =>
  ∃ (n9 : Int), w2.cell? (Addr.add q8 (Int.toNat n4)) = some ((.int .u8 n9 : Value)) ∧
  (0 ≤ (n4 : Int) ∧ (n4 : Int) < ((l1 : Nat) : Int)) ∧
  nn a1 (fun (q10 : Addr) =>
  stC (Addr.add q10 (Int.toNat n4)) (.int .u8 n7) w2 (fun (w3 : World) =>
  (0 ≤ (n5 : Int) ∧ (n5 : Int) < ((l1 : Nat) : Int)) ∧
  nn a1 (fun (q11 : Addr) =>
  stC (Addr.add q11 (Int.toNat n5)) (.int .u8 n9) w3 (fun (w4 : World) =>
  inI (n4 + 1) ∧
  inI (n5 - 1) ∧
  I2 [.int .i64 (n4 + 1), .int .i64 (n5 - 1)] w4 ∧ mu3 [.int .i64 (n4 + 1), .int .i64 (n5 - 1)] w4 < mu3 [.int .i64 n4, .int .i64 n5] w1)))))))
  (Q (.tuple #[]) w1)
theorem C26 {a1 : Option Addr} {l1 : Nat} {c1 : Nat} {Q : Value → World → Prop} {w : World} (h : L26 a1 l1 c1 Q w) : CallR Try.prog 26 [.slice a1 l1 c1] w Q :=
  fun_calls (A := A26) mixed Try.func26 (c := (Try.f26.body).getD .skip) rfl (by kernel_rfl) (Eq.mp (by kernel_rfl) h)

/-- millrace/stream.buffer -/
def A29 : Ann := ⟨[], [], [], [], [], []⟩
def L29 (n1 : Int) (n2 : Int) (Q : Value → World → Prop) (w : World) : Prop :=
  cond (decide (n1 < 1))
  (Q (.int .i64 1) w)
  (cond (decide (n1 > 3))
  (Q (.int .i64 1) w)
  (cond (decide (n2 < 1))
  (Q (.int .i64 4) w)
  (cond (decide (n2 > 65536))
  (Q (.int .i64 4) w)
  (Q (.int .i64 0) w))))
theorem C29 {n1 : Int} {n2 : Int} {Q : Value → World → Prop} {w : World} (h : L29 n1 n2 Q w) : CallR Try.prog 29 [.int .i64 n1, .int .i64 n2] w Q :=
  fun_calls (A := A29) mixed Try.func29 (c := (Try.f29.body).getD .skip) rfl (by kernel_rfl) (Eq.mp (by kernel_rfl) h)

/-- millrace/stream.Check -/
def A33 : Ann := ⟨[], [], [], [], [], []⟩
def L33 (b1 : Bool) (b2 : Bool) (n3 : Int) (n4 : Int) (a5 : Option Addr) (l5 : Nat) (c5 : Nat) (a6 : Option Addr) (l6 : Nat) (c6 : Nat) (a7 : Option Addr) (l7 : Nat) (c7 : Nat) (n8 : Int) (b9 : Bool) (b10 : Bool) (b11 : Bool) (Q : Value → World → Prop) (w : World) : Prop :=
  let w1 := World.alloc w (Obj.cells #[.bool b1, .bool b2, .int .i64 n3, .int .i64 n4, .slice a5 l5 c5, .slice a6 l6 c6, .slice a7 l7 c7, .int .i64 n8, .bool b9, .bool b10, .bool b11] 25);
  ∃ (a12 : Option Addr) (l12 : Nat) (c12 : Nat), w1.cell? (Addr.mk w.heap.size 5 none) = some ((.slice a12 l12 c12 : Value)) ∧
  ∃ (a13 : Option Addr) (l13 : Nat) (c13 : Nat), w1.cell? (Addr.mk w.heap.size 6 none) = some ((.slice a13 l13 c13 : Value)) ∧
  inI ((((l12 : Nat) : Int)) + (((l13 : Nat) : Int))) ∧
  ∃ (n14 : Int), w1.cell? (Addr.mk w.heap.size 2 none) = some ((.int .i64 n14 : Value)) ∧
  ∃ (n15 : Int), w1.cell? (Addr.mk w.heap.size 3 none) = some ((.int .i64 n15 : Value)) ∧
  CallR Try.prog 29 [.int .i64 n14, .int .i64 n15] w1 (fun (r17 : Value) (w2 : World) =>
  ∃ (n16 : Int), r17 = .int .i64 n16 ∧
  cond (n16 == 0)
  (∃ (a18 : Option Addr) (l18 : Nat) (c18 : Nat), w2.cell? (Addr.mk w.heap.size 4 none) = some ((.slice a18 l18 c18 : Value)) ∧
  ∃ (n19 : Int), w2.cell? (Addr.mk w.heap.size 3 none) = some ((.int .i64 n19 : Value)) ∧
  cond (decide ((((l18 : Nat) : Int)) ≤ n19))
  (∃ (n20 : Int), w2.cell? (Addr.mk w.heap.size 2 none) = some ((.int .i64 n20 : Value)) ∧
  cond (n20 != 1)
  (∃ (a21 : Option Addr) (l21 : Nat) (c21 : Nat), w2.cell? (Addr.mk w.heap.size 5 none) = some ((.slice a21 l21 c21 : Value)) ∧
  cond (decide ((((l21 : Nat) : Int)) ≤ 65536))
  (∃ (a22 : Option Addr) (l22 : Nat) (c22 : Nat), w2.cell? (Addr.mk w.heap.size 6 none) = some ((.slice a22 l22 c22 : Value)) ∧
  cond (decide ((((l22 : Nat) : Int)) ≤ 8))
  (∃ (b23 : Bool), w2.cell? (Addr.mk w.heap.size 10 none) = some ((.bool b23 : Value)) ∧
  cond (!b23)
  (∃ (n24 : Int), w2.cell? (Addr.mk w.heap.size 7 none) = some ((.int .i64 n24 : Value)) ∧
  cond (n24 == 0)
  (∃ (a25 : Option Addr) (l25 : Nat) (c25 : Nat), w2.cell? (Addr.mk w.heap.size 4 none) = some ((.slice a25 l25 c25 : Value)) ∧
  inI ((((l25 : Nat) : Int)) + ((((l12 : Nat) : Int)) + (((l13 : Nat) : Int)))) ∧
  cond (!(((((l25 : Nat) : Int)) + ((((l12 : Nat) : Int)) + (((l13 : Nat) : Int)))) == 0))
  (Q (.int .i64 51) w2)
  (Q (.int .i64 0) w2))
  (cond (n24 == 1)
  (∃ (b26 : Bool), w2.cell? (Addr.mk w.heap.size 0 none) = some ((.bool b26 : Value)) ∧
  cond b26
  (∃ (a27 : Option Addr) (l27 : Nat) (c27 : Nat), w2.cell? (Addr.mk w.heap.size 4 none) = some ((.slice a27 l27 c27 : Value)) ∧
  cond (!((((l27 : Nat) : Int)) == 0))
  (Q (.int .i64 51) w2)
  (Q (.int .i64 0) w2))
  (Q (.int .i64 51) w2))
  (cond (n24 == 2)
  (∃ (b28 : Bool), w2.cell? (Addr.mk w.heap.size 1 none) = some ((.bool b28 : Value)) ∧
  cond b28
  (cond (!(((((l12 : Nat) : Int)) + (((l13 : Nat) : Int))) == 0))
  (Q (.int .i64 51) w2)
  (Q (.int .i64 0) w2))
  (Q (.int .i64 51) w2))
  (Q (.int .i64 51) w2))))
  (∃ (n29 : Int), w2.cell? (Addr.mk w.heap.size 7 none) = some ((.int .i64 n29 : Value)) ∧
  ∃ (n30 : Int), w2.cell? (Addr.mk w.heap.size 7 none) = some ((.int .i64 n30 : Value)) ∧
  cond (n30 == 0)
  (cond (n29 == 0)
  (∃ (a31 : Option Addr) (l31 : Nat) (c31 : Nat), w2.cell? (Addr.mk w.heap.size 4 none) = some ((.slice a31 l31 c31 : Value)) ∧
  inI ((((l31 : Nat) : Int)) + ((((l12 : Nat) : Int)) + (((l13 : Nat) : Int)))) ∧
  cond (!(((((l31 : Nat) : Int)) + ((((l12 : Nat) : Int)) + (((l13 : Nat) : Int)))) == 0))
  (Q (.int .i64 51) w2)
  (Q (.int .i64 0) w2))
  (Q (.int .i64 51) w2))
  (cond (n30 == 1)
  (cond (n29 == 0)
  (∃ (b32 : Bool), w2.cell? (Addr.mk w.heap.size 0 none) = some ((.bool b32 : Value)) ∧
  cond b32
  (∃ (a33 : Option Addr) (l33 : Nat) (c33 : Nat), w2.cell? (Addr.mk w.heap.size 4 none) = some ((.slice a33 l33 c33 : Value)) ∧
  cond (!((((l33 : Nat) : Int)) == 0))
  (Q (.int .i64 51) w2)
  (Q (.int .i64 0) w2))
  (Q (.int .i64 51) w2))
  (Q (.int .i64 51) w2))
  (cond (n30 == 2)
  (cond (n29 == 0)
  (∃ (b34 : Bool), w2.cell? (Addr.mk w.heap.size 1 none) = some ((.bool b34 : Value)) ∧
  cond b34
  (cond (!(((((l12 : Nat) : Int)) + (((l13 : Nat) : Int))) == 0))
  (Q (.int .i64 51) w2)
  (Q (.int .i64 0) w2))
  (Q (.int .i64 51) w2))
  (Q (.int .i64 51) w2))
  (Q (.int .i64 51) w2)))))
  (∃ (n35 : Int), w2.cell? (Addr.mk w.heap.size 7 none) = some ((.int .i64 n35 : Value)) ∧
  cond (n35 == 0)
  (Q (.int .i64 51) w2)
  (cond (n35 == 1)
  (Q (.int .i64 51) w2)
  (cond (n35 == 2)
  (Q (.int .i64 51) w2)
  (Q (.int .i64 51) w2)))))
  (∃ (n36 : Int), w2.cell? (Addr.mk w.heap.size 7 none) = some ((.int .i64 n36 : Value)) ∧
  cond (n36 == 0)
  (Q (.int .i64 51) w2)
  (cond (n36 == 1)
  (Q (.int .i64 51) w2)
  (cond (n36 == 2)
  (Q (.int .i64 51) w2)
  (Q (.int .i64 51) w2)))))
  (∃ (a37 : Option Addr) (l37 : Nat) (c37 : Nat), w2.cell? (Addr.mk w.heap.size 4 none) = some ((.slice a37 l37 c37 : Value)) ∧
  cond ((((l37 : Nat) : Int)) == 0)
  (∃ (a38 : Option Addr) (l38 : Nat) (c38 : Nat), w2.cell? (Addr.mk w.heap.size 5 none) = some ((.slice a38 l38 c38 : Value)) ∧
  cond (decide ((((l38 : Nat) : Int)) ≤ 65536))
  (∃ (a39 : Option Addr) (l39 : Nat) (c39 : Nat), w2.cell? (Addr.mk w.heap.size 6 none) = some ((.slice a39 l39 c39 : Value)) ∧
  cond (decide ((((l39 : Nat) : Int)) ≤ 8))
  (∃ (b40 : Bool), w2.cell? (Addr.mk w.heap.size 10 none) = some ((.bool b40 : Value)) ∧
  cond (!b40)
  (∃ (n41 : Int), w2.cell? (Addr.mk w.heap.size 7 none) = some ((.int .i64 n41 : Value)) ∧
  cond (n41 == 0)
  (∃ (a42 : Option Addr) (l42 : Nat) (c42 : Nat), w2.cell? (Addr.mk w.heap.size 4 none) = some ((.slice a42 l42 c42 : Value)) ∧
  inI ((((l42 : Nat) : Int)) + ((((l12 : Nat) : Int)) + (((l13 : Nat) : Int)))) ∧
  cond (!(((((l42 : Nat) : Int)) + ((((l12 : Nat) : Int)) + (((l13 : Nat) : Int)))) == 0))
  (Q (.int .i64 51) w2)
  (Q (.int .i64 0) w2))
  (cond (n41 == 1)
  (∃ (b43 : Bool), w2.cell? (Addr.mk w.heap.size 0 none) = some ((.bool b43 : Value)) ∧
  cond b43
  (∃ (a44 : Option Addr) (l44 : Nat) (c44 : Nat), w2.cell? (Addr.mk w.heap.size 4 none) = some ((.slice a44 l44 c44 : Value)) ∧
  cond (!((((l44 : Nat) : Int)) == 0))
  (Q (.int .i64 51) w2)
  (Q (.int .i64 0) w2))
  (Q (.int .i64 51) w2))
  (cond (n41 == 2)
  (∃ (b45 : Bool), w2.cell? (Addr.mk w.heap.size 1 none) = some ((.bool b45 : Value)) ∧
  cond b45
  (cond (!(((((l12 : Nat) : Int)) + (((l13 : Nat) : Int))) == 0))
  (Q (.int .i64 51) w2)
  (Q (.int .i64 0) w2))
  (Q (.int .i64 51) w2))
  (Q (.int .i64 51) w2))))
  (∃ (n46 : Int), w2.cell? (Addr.mk w.heap.size 7 none) = some ((.int .i64 n46 : Value)) ∧
  ∃ (n47 : Int), w2.cell? (Addr.mk w.heap.size 7 none) = some ((.int .i64 n47 : Value)) ∧
  cond (n47 == 0)
  (cond (n46 == 0)
  (∃ (a48 : Option Addr) (l48 : Nat) (c48 : Nat), w2.cell? (Addr.mk w.heap.size 4 none) = some ((.slice a48 l48 c48 : Value)) ∧
  inI ((((l48 : Nat) : Int)) + ((((l12 : Nat) : Int)) + (((l13 : Nat) : Int)))) ∧
  cond (!(((((l48 : Nat) : Int)) + ((((l12 : Nat) : Int)) + (((l13 : Nat) : Int)))) == 0))
  (Q (.int .i64 51) w2)
  (Q (.int .i64 0) w2))
  (Q (.int .i64 51) w2))
  (cond (n47 == 1)
  (cond (n46 == 0)
  (∃ (b49 : Bool), w2.cell? (Addr.mk w.heap.size 0 none) = some ((.bool b49 : Value)) ∧
  cond b49
  (∃ (a50 : Option Addr) (l50 : Nat) (c50 : Nat), w2.cell? (Addr.mk w.heap.size 4 none) = some ((.slice a50 l50 c50 : Value)) ∧
  cond (!((((l50 : Nat) : Int)) == 0))
  (Q (.int .i64 51) w2)
  (Q (.int .i64 0) w2))
  (Q (.int .i64 51) w2))
  (Q (.int .i64 51) w2))
  (cond (n47 == 2)
  (cond (n46 == 0)
  (∃ (b51 : Bool), w2.cell? (Addr.mk w.heap.size 1 none) = some ((.bool b51 : Value)) ∧
  cond b51
  (cond (!(((((l12 : Nat) : Int)) + (((l13 : Nat) : Int))) == 0))
  (Q (.int .i64 51) w2)
  (Q (.int .i64 0) w2))
  (Q (.int .i64 51) w2))
  (Q (.int .i64 51) w2))
  (Q (.int .i64 51) w2)))))
  (∃ (n52 : Int), w2.cell? (Addr.mk w.heap.size 7 none) = some ((.int .i64 n52 : Value)) ∧
  cond (n52 == 0)
  (Q (.int .i64 51) w2)
  (cond (n52 == 1)
  (Q (.int .i64 51) w2)
  (cond (n52 == 2)
  (Q (.int .i64 51) w2)
  (Q (.int .i64 51) w2)))))
  (∃ (n53 : Int), w2.cell? (Addr.mk w.heap.size 7 none) = some ((.int .i64 n53 : Value)) ∧
  cond (n53 == 0)
  (Q (.int .i64 51) w2)
  (cond (n53 == 1)
  (Q (.int .i64 51) w2)
  (cond (n53 == 2)
  (Q (.int .i64 51) w2)
  (Q (.int .i64 51) w2)))))
  (∃ (n54 : Int), w2.cell? (Addr.mk w.heap.size 7 none) = some ((.int .i64 n54 : Value)) ∧
  cond (n54 == 0)
  (Q (.int .i64 51) w2)
  (cond (n54 == 1)
  (Q (.int .i64 51) w2)
  (cond (n54 == 2)
  (Q (.int .i64 51) w2)
  (Q (.int .i64 51) w2))))))
  (∃ (n55 : Int), w2.cell? (Addr.mk w.heap.size 7 none) = some ((.int .i64 n55 : Value)) ∧
  cond (n55 == 0)
  (Q (.int .i64 51) w2)
  (cond (n55 == 1)
  (Q (.int .i64 51) w2)
  (cond (n55 == 2)
  (Q (.int .i64 51) w2)
  (Q (.int .i64 51) w2)))))
  (∃ (n56 : Int), w2.cell? (Addr.mk w.heap.size 7 none) = some ((.int .i64 n56 : Value)) ∧
  cond (n56 == 0)
  (Q (.int .i64 51) w2)
  (cond (n56 == 1)
  (Q (.int .i64 51) w2)
  (cond (n56 == 2)
  (Q (.int .i64 51) w2)
  (Q (.int .i64 51) w2)))))
theorem C33 {b1 : Bool} {b2 : Bool} {n3 : Int} {n4 : Int} {a5 : Option Addr} {l5 : Nat} {c5 : Nat} {a6 : Option Addr} {l6 : Nat} {c6 : Nat} {a7 : Option Addr} {l7 : Nat} {c7 : Nat} {n8 : Int} {b9 : Bool} {b10 : Bool} {b11 : Bool} {Q : Value → World → Prop} {w : World} (h : L33 b1 b2 n3 n4 a5 l5 c5 a6 l6 c6 a7 l7 c7 n8 b9 b10 b11 Q w) : CallR Try.prog 33 [.agg #[.bool b1, .bool b2, .int .i64 n3, .int .i64 n4, .slice a5 l5 c5, .slice a6 l6 c6, .slice a7 l7 c7, .int .i64 n8, .bool b9, .bool b10, .bool b11]] w Q :=
  fun_calls (A := A33) mixed Try.func33 (c := (Try.f33.body).getD .skip) rfl (by kernel_rfl) (Eq.mp (by kernel_rfl) h)

/-- millrace/stream.New -/
def A20 : Ann := ⟨[], [], [], [], [], []⟩
def L20 (b1 : Bool) (b2 : Bool) (b3 : Bool) (b4 : Bool) (b5 : Bool) (b6 : Bool) (b7 : Bool) (b8 : Bool) (n9 : Int) (n10 : Int) (Q : Value → World → Prop) (w : World) : Prop :=
  let w1 := World.alloc w (Obj.cells #[.bool b1, .bool b2, .bool b3, .bool b4, .bool b5, .bool b6, .bool b7, .bool b8] 48);
  let w2 := World.alloc w1 (Obj.cells #[.bool false, .bool false, .int .i64 0, .int .i64 0, .slice none 0 0, .slice none 0 0, .slice none 0 0, .int .i64 0, .bool false, .bool false, .bool false] 25);
  ∃ (b11 : Bool) (b12 : Bool) (b13 : Bool) (b14 : Bool) (b15 : Bool) (b16 : Bool) (b17 : Bool) (b18 : Bool), w2.cell? (Addr.mk w.heap.size 0 none) = some ((.bool b11 : Value)) ∧ w2.cell? (Addr.mk w.heap.size 1 none) = some ((.bool b12 : Value)) ∧ w2.cell? (Addr.mk w.heap.size 2 none) = some ((.bool b13 : Value)) ∧ w2.cell? (Addr.mk w.heap.size 3 none) = some ((.bool b14 : Value)) ∧ w2.cell? (Addr.mk w.heap.size 4 none) = some ((.bool b15 : Value)) ∧ w2.cell? (Addr.mk w.heap.size 5 none) = some ((.bool b16 : Value)) ∧ w2.cell? (Addr.mk w.heap.size 6 none) = some ((.bool b17 : Value)) ∧ w2.cell? (Addr.mk w.heap.size 7 none) = some ((.bool b18 : Value)) ∧ 
  CallR Try.prog 28 [.agg #[.bool b11, .bool b12, .bool b13, .bool b14, .bool b15, .bool b16, .bool b17, .bool b18]] w2 (fun (r20 : Value) (w3 : World) =>
  ∃ (n19 : Int), r20 = .int .i64 n19 ∧
  cond (n19 != 0)
  (stC (Addr.mk w1.heap.size 0 none) (.bool false) w3 (fun (w4 : World) =>
  stC (Addr.mk w1.heap.size 1 none) (.bool false) w4 (fun (w5 : World) =>
  stC (Addr.mk w1.heap.size 2 none) (.int .i64 0) w5 (fun (w6 : World) =>
  stC (Addr.mk w1.heap.size 3 none) (.int .i64 0) w6 (fun (w7 : World) =>
  stC (Addr.mk w1.heap.size 4 none) (.slice none 0 0) w7 (fun (w8 : World) =>
  stC (Addr.mk w1.heap.size 5 none) (.slice none 0 0) w8 (fun (w9 : World) =>
  stC (Addr.mk w1.heap.size 6 none) (.slice none 0 0) w9 (fun (w10 : World) =>
  stC (Addr.mk w1.heap.size 7 none) (.int .i64 0) w10 (fun (w11 : World) =>
  stC (Addr.mk w1.heap.size 8 none) (.bool false) w11 (fun (w12 : World) =>
  stC (Addr.mk w1.heap.size 9 none) (.bool false) w12 (fun (w13 : World) =>
  stC (Addr.mk w1.heap.size 10 none) (.bool false) w13 (fun (w14 : World) =>
  ∃ (b21 : Bool) (b22 : Bool) (n23 : Int) (n24 : Int) (a25 : Option Addr) (l25 : Nat) (c25 : Nat) (a26 : Option Addr) (l26 : Nat) (c26 : Nat) (a27 : Option Addr) (l27 : Nat) (c27 : Nat) (n28 : Int) (b29 : Bool) (b30 : Bool) (b31 : Bool), w14.cell? (Addr.mk w1.heap.size 0 none) = some ((.bool b21 : Value)) ∧ w14.cell? (Addr.mk w1.heap.size 1 none) = some ((.bool b22 : Value)) ∧ w14.cell? (Addr.mk w1.heap.size 2 none) = some ((.int .i64 n23 : Value)) ∧ w14.cell? (Addr.mk w1.heap.size 3 none) = some ((.int .i64 n24 : Value)) ∧ w14.cell? (Addr.mk w1.heap.size 4 none) = some ((.slice a25 l25 c25 : Value)) ∧ w14.cell? (Addr.mk w1.heap.size 5 none) = some ((.slice a26 l26 c26 : Value)) ∧ w14.cell? (Addr.mk w1.heap.size 6 none) = some ((.slice a27 l27 c27 : Value)) ∧ w14.cell? (Addr.mk w1.heap.size 7 none) = some ((.int .i64 n28 : Value)) ∧ w14.cell? (Addr.mk w1.heap.size 8 none) = some ((.bool b29 : Value)) ∧ w14.cell? (Addr.mk w1.heap.size 9 none) = some ((.bool b30 : Value)) ∧ w14.cell? (Addr.mk w1.heap.size 10 none) = some ((.bool b31 : Value)) ∧ 
  Q (.tuple #[.agg #[.bool b21, .bool b22, .int .i64 n23, .int .i64 n24, .slice a25 l25 c25, .slice a26 l26 c26, .slice a27 l27 c27, .int .i64 n28, .bool b29, .bool b30, .bool b31], .int .i64 n19]) w14))))))))))))
  (CallR Try.prog 29 [.int .i64 n9, .int .i64 n10] w3 (fun (r33 : Value) (w15 : World) =>
  ∃ (n32 : Int), r33 = .int .i64 n32 ∧
  cond (n32 != 0)
  (stC (Addr.mk w1.heap.size 0 none) (.bool false) w15 (fun (w16 : World) =>
  stC (Addr.mk w1.heap.size 1 none) (.bool false) w16 (fun (w17 : World) =>
  stC (Addr.mk w1.heap.size 2 none) (.int .i64 0) w17 (fun (w18 : World) =>
  stC (Addr.mk w1.heap.size 3 none) (.int .i64 0) w18 (fun (w19 : World) =>
  stC (Addr.mk w1.heap.size 4 none) (.slice none 0 0) w19 (fun (w20 : World) =>
  stC (Addr.mk w1.heap.size 5 none) (.slice none 0 0) w20 (fun (w21 : World) =>
  stC (Addr.mk w1.heap.size 6 none) (.slice none 0 0) w21 (fun (w22 : World) =>
  stC (Addr.mk w1.heap.size 7 none) (.int .i64 0) w22 (fun (w23 : World) =>
  stC (Addr.mk w1.heap.size 8 none) (.bool false) w23 (fun (w24 : World) =>
  stC (Addr.mk w1.heap.size 9 none) (.bool false) w24 (fun (w25 : World) =>
  stC (Addr.mk w1.heap.size 10 none) (.bool false) w25 (fun (w26 : World) =>
  ∃ (b34 : Bool) (b35 : Bool) (n36 : Int) (n37 : Int) (a38 : Option Addr) (l38 : Nat) (c38 : Nat) (a39 : Option Addr) (l39 : Nat) (c39 : Nat) (a40 : Option Addr) (l40 : Nat) (c40 : Nat) (n41 : Int) (b42 : Bool) (b43 : Bool) (b44 : Bool), w26.cell? (Addr.mk w1.heap.size 0 none) = some ((.bool b34 : Value)) ∧ w26.cell? (Addr.mk w1.heap.size 1 none) = some ((.bool b35 : Value)) ∧ w26.cell? (Addr.mk w1.heap.size 2 none) = some ((.int .i64 n36 : Value)) ∧ w26.cell? (Addr.mk w1.heap.size 3 none) = some ((.int .i64 n37 : Value)) ∧ w26.cell? (Addr.mk w1.heap.size 4 none) = some ((.slice a38 l38 c38 : Value)) ∧ w26.cell? (Addr.mk w1.heap.size 5 none) = some ((.slice a39 l39 c39 : Value)) ∧ w26.cell? (Addr.mk w1.heap.size 6 none) = some ((.slice a40 l40 c40 : Value)) ∧ w26.cell? (Addr.mk w1.heap.size 7 none) = some ((.int .i64 n41 : Value)) ∧ w26.cell? (Addr.mk w1.heap.size 8 none) = some ((.bool b42 : Value)) ∧ w26.cell? (Addr.mk w1.heap.size 9 none) = some ((.bool b43 : Value)) ∧ w26.cell? (Addr.mk w1.heap.size 10 none) = some ((.bool b44 : Value)) ∧ 
  Q (.tuple #[.agg #[.bool b34, .bool b35, .int .i64 n36, .int .i64 n37, .slice a38 l38 c38, .slice a39 l39 c39, .slice a40 l40 c40, .int .i64 n41, .bool b42, .bool b43, .bool b44], .int .i64 n32]) w26))))))))))))
  (∃ (b45 : Bool), w15.cell? (Addr.mk w.heap.size 0 none) = some ((.bool b45 : Value)) ∧
  ∃ (b46 : Bool), w15.cell? (Addr.mk w.heap.size 1 none) = some ((.bool b46 : Value)) ∧
  stC (Addr.mk w1.heap.size 0 none) (.bool b45) w15 (fun (w27 : World) =>
  stC (Addr.mk w1.heap.size 1 none) (.bool b46) w27 (fun (w28 : World) =>
  stC (Addr.mk w1.heap.size 2 none) (.int .i64 n9) w28 (fun (w29 : World) =>
  stC (Addr.mk w1.heap.size 3 none) (.int .i64 n10) w29 (fun (w30 : World) =>
  stC (Addr.mk w1.heap.size 4 none) (.slice none 0 0) w30 (fun (w31 : World) =>
  stC (Addr.mk w1.heap.size 5 none) (.slice none 0 0) w31 (fun (w32 : World) =>
  stC (Addr.mk w1.heap.size 6 none) (.slice none 0 0) w32 (fun (w33 : World) =>
  stC (Addr.mk w1.heap.size 7 none) (.int .i64 0) w33 (fun (w34 : World) =>
  stC (Addr.mk w1.heap.size 8 none) (.bool false) w34 (fun (w35 : World) =>
  stC (Addr.mk w1.heap.size 9 none) (.bool false) w35 (fun (w36 : World) =>
  stC (Addr.mk w1.heap.size 10 none) (.bool false) w36 (fun (w37 : World) =>
  ∃ (b47 : Bool) (b48 : Bool) (n49 : Int) (n50 : Int) (a51 : Option Addr) (l51 : Nat) (c51 : Nat) (a52 : Option Addr) (l52 : Nat) (c52 : Nat) (a53 : Option Addr) (l53 : Nat) (c53 : Nat) (n54 : Int) (b55 : Bool) (b56 : Bool) (b57 : Bool), w37.cell? (Addr.mk w1.heap.size 0 none) = some ((.bool b47 : Value)) ∧ w37.cell? (Addr.mk w1.heap.size 1 none) = some ((.bool b48 : Value)) ∧ w37.cell? (Addr.mk w1.heap.size 2 none) = some ((.int .i64 n49 : Value)) ∧ w37.cell? (Addr.mk w1.heap.size 3 none) = some ((.int .i64 n50 : Value)) ∧ w37.cell? (Addr.mk w1.heap.size 4 none) = some ((.slice a51 l51 c51 : Value)) ∧ w37.cell? (Addr.mk w1.heap.size 5 none) = some ((.slice a52 l52 c52 : Value)) ∧ w37.cell? (Addr.mk w1.heap.size 6 none) = some ((.slice a53 l53 c53 : Value)) ∧ w37.cell? (Addr.mk w1.heap.size 7 none) = some ((.int .i64 n54 : Value)) ∧ w37.cell? (Addr.mk w1.heap.size 8 none) = some ((.bool b55 : Value)) ∧ w37.cell? (Addr.mk w1.heap.size 9 none) = some ((.bool b56 : Value)) ∧ w37.cell? (Addr.mk w1.heap.size 10 none) = some ((.bool b57 : Value)) ∧ 
  Q (.tuple #[.agg #[.bool b47, .bool b48, .int .i64 n49, .int .i64 n50, .slice a51 l51 c51, .slice a52 l52 c52, .slice a53 l53 c53, .int .i64 n54, .bool b55, .bool b56, .bool b57], .int .i64 0]) w37)))))))))))))))
theorem C20 {b1 : Bool} {b2 : Bool} {b3 : Bool} {b4 : Bool} {b5 : Bool} {b6 : Bool} {b7 : Bool} {b8 : Bool} {n9 : Int} {n10 : Int} {Q : Value → World → Prop} {w : World} (h : L20 b1 b2 b3 b4 b5 b6 b7 b8 n9 n10 Q w) : CallR Try.prog 20 [.agg #[.bool b1, .bool b2, .bool b3, .bool b4, .bool b5, .bool b6, .bool b7, .bool b8], .int .i64 n9, .int .i64 n10] w Q :=
  fun_calls (A := A20) mixed Try.func20 (c := (Try.f20.body).getD .skip) rfl (by kernel_rfl) (Eq.mp (by kernel_rfl) h)

/-- millrace/pushback.own -/
def A23 : Ann := ⟨[], [(4, [(4, .one (.int .i64))])], [], [], [(4, [0, 1, 3, 4, 6, 7, 2, 9, 5], 8, [10, 11, 12, 13, 14])], []⟩
def L23 (b1 : Bool) (b2 : Bool) (n3 : Int) (n4 : Int) (a5 : Option Addr) (l5 : Nat) (c5 : Nat) (a6 : Option Addr) (l6 : Nat) (c6 : Nat) (a7 : Option Addr) (l7 : Nat) (c7 : Nat) (n8 : Int) (b9 : Bool) (b10 : Bool) (b11 : Bool) (Q : Value → World → Prop) (w : World) : Prop :=
  let w1 := World.alloc w (Obj.cells #[.bool b1, .bool b2, .int .i64 n3, .int .i64 n4, .slice a5 l5 c5, .slice a6 l6 c6, .slice a7 l7 c7, .int .i64 n8, .bool b9, .bool b10, .bool b11] 25);
  let w2 := World.alloc w1 (Obj.cells #[.bool false, .bool false, .int .i64 0, .int .i64 0, .slice none 0 0, .slice none 0 0, .slice none 0 0, .int .i64 0, .bool false, .bool false, .bool false] 25);
  ∃ (b12 : Bool) (b13 : Bool) (n14 : Int) (n15 : Int) (a16 : Option Addr) (l16 : Nat) (c16 : Nat) (a17 : Option Addr) (l17 : Nat) (c17 : Nat) (a18 : Option Addr) (l18 : Nat) (c18 : Nat) (n19 : Int) (b20 : Bool) (b21 : Bool) (b22 : Bool), w2.cell? (Addr.mk w.heap.size 0 none) = some ((.bool b12 : Value)) ∧ w2.cell? (Addr.mk w.heap.size 1 none) = some ((.bool b13 : Value)) ∧ w2.cell? (Addr.mk w.heap.size 2 none) = some ((.int .i64 n14 : Value)) ∧ w2.cell? (Addr.mk w.heap.size 3 none) = some ((.int .i64 n15 : Value)) ∧ w2.cell? (Addr.mk w.heap.size 4 none) = some ((.slice a16 l16 c16 : Value)) ∧ w2.cell? (Addr.mk w.heap.size 5 none) = some ((.slice a17 l17 c17 : Value)) ∧ w2.cell? (Addr.mk w.heap.size 6 none) = some ((.slice a18 l18 c18 : Value)) ∧ w2.cell? (Addr.mk w.heap.size 7 none) = some ((.int .i64 n19 : Value)) ∧ w2.cell? (Addr.mk w.heap.size 8 none) = some ((.bool b20 : Value)) ∧ w2.cell? (Addr.mk w.heap.size 9 none) = some ((.bool b21 : Value)) ∧ w2.cell? (Addr.mk w.heap.size 10 none) = some ((.bool b22 : Value)) ∧ 
  CallR Try.prog 33 [.agg #[.bool b12, .bool b13, .int .i64 n14, .int .i64 n15, .slice a16 l16 c16, .slice a17 l17 c17, .slice a18 l18 c18, .int .i64 n19, .bool b20, .bool b21, .bool b22]] w2 (fun (r24 : Value) (w3 : World) =>
  ∃ (n23 : Int), r24 = .int .i64 n23 ∧
  ∃ (J25 : List Value → World → Prop),
  (cond (n23 == 0)
  (∃ (b26 : Bool), w3.cell? (Addr.mk w.heap.size 10 none) = some ((.bool b26 : Value)) ∧
  cond b26
  (J25 [.int .i64 113] w3)
  (J25 [.int .i64 n23] w3))
  (J25 [.int .i64 n23] w3)) ∧
  (∀ (_ : Env) (n27 : Int) (w4 : World), J25 [.int .i64 n27] w4 →
  ∃ (S28 : World → Prop), S28 (World.drew w4) ∧
  let w5 := World.drew w4;
  ∃ (a29 : Option Addr) (l29 : Nat) (c29 : Nat), (∀ wS : World, S28 wS → wS.cell? (Addr.mk w.heap.size 4 none) = some ((.slice a29 l29 c29 : Value))) ∧
  ∃ (a30 : Option Addr) (l30 : Nat) (c30 : Nat), (∀ wS : World, S28 wS → wS.cell? (Addr.mk w.heap.size 5 none) = some ((.slice a30 l30 c30 : Value))) ∧
  ∃ (a31 : Option Addr) (l31 : Nat) (c31 : Nat), (∀ wS : World, S28 wS → wS.cell? (Addr.mk w.heap.size 6 none) = some ((.slice a31 l31 c31 : Value))) ∧
  CallR Try.prog 34 [.slice a29 l29 c29] w5 (fun (r33 : Value) (w6 : World) =>
  ∃ (a32 : Option Addr) (l32 : Nat) (c32 : Nat), r33 = .slice a32 l32 c32 ∧
  S28 w6 ∧
  CallR Try.prog 34 [.slice a30 l30 c30] w6 (fun (r35 : Value) (w7 : World) =>
  ∃ (a34 : Option Addr) (l34 : Nat) (c34 : Nat), r35 = .slice a34 l34 c34 ∧
  S28 w7 ∧
  CallR Try.prog 34 [.slice a31 l31 c31] w7 (fun (r37 : Value) (w8 : World) =>
  ∃ (a36 : Option Addr) (l36 : Nat) (c36 : Nat), r37 = .slice a36 l36 c36 ∧
  stC (Addr.mk w.heap.size 4 none) (.slice a32 l32 c32) w8 (fun (w9 : World) =>
  stC (Addr.mk w.heap.size 5 none) (.slice a34 l34 c34) w9 (fun (w10 : World) =>
  stC (Addr.mk w.heap.size 6 none) (.slice a36 l36 c36) w10 (fun (w11 : World) =>
  ∃ (b38 : Bool) (b39 : Bool) (n40 : Int) (n41 : Int) (a42 : Option Addr) (l42 : Nat) (c42 : Nat) (a43 : Option Addr) (l43 : Nat) (c43 : Nat) (a44 : Option Addr) (l44 : Nat) (c44 : Nat) (n45 : Int) (b46 : Bool) (b47 : Bool) (b48 : Bool), w11.cell? (Addr.mk w.heap.size 0 none) = some ((.bool b38 : Value)) ∧ w11.cell? (Addr.mk w.heap.size 1 none) = some ((.bool b39 : Value)) ∧ w11.cell? (Addr.mk w.heap.size 2 none) = some ((.int .i64 n40 : Value)) ∧ w11.cell? (Addr.mk w.heap.size 3 none) = some ((.int .i64 n41 : Value)) ∧ w11.cell? (Addr.mk w.heap.size 4 none) = some ((.slice a42 l42 c42 : Value)) ∧ w11.cell? (Addr.mk w.heap.size 5 none) = some ((.slice a43 l43 c43 : Value)) ∧ w11.cell? (Addr.mk w.heap.size 6 none) = some ((.slice a44 l44 c44 : Value)) ∧ w11.cell? (Addr.mk w.heap.size 7 none) = some ((.int .i64 n45 : Value)) ∧ w11.cell? (Addr.mk w.heap.size 8 none) = some ((.bool b46 : Value)) ∧ w11.cell? (Addr.mk w.heap.size 9 none) = some ((.bool b47 : Value)) ∧ w11.cell? (Addr.mk w.heap.size 10 none) = some ((.bool b48 : Value)) ∧ 
  stC (Addr.mk w1.heap.size 0 none) (.bool b38) w11 (fun (w12 : World) =>
  stC (Addr.mk w1.heap.size 1 none) (.bool b39) w12 (fun (w13 : World) =>
  stC (Addr.mk w1.heap.size 2 none) (.int .i64 n40) w13 (fun (w14 : World) =>
  stC (Addr.mk w1.heap.size 3 none) (.int .i64 n41) w14 (fun (w15 : World) =>
  stC (Addr.mk w1.heap.size 4 none) (.slice a42 l42 c42) w15 (fun (w16 : World) =>
  stC (Addr.mk w1.heap.size 5 none) (.slice a43 l43 c43) w16 (fun (w17 : World) =>
  stC (Addr.mk w1.heap.size 6 none) (.slice a44 l44 c44) w17 (fun (w18 : World) =>
  stC (Addr.mk w1.heap.size 7 none) (.int .i64 n45) w18 (fun (w19 : World) =>
  stC (Addr.mk w1.heap.size 8 none) (.bool b46) w19 (fun (w20 : World) =>
  stC (Addr.mk w1.heap.size 9 none) (.bool b47) w20 (fun (w21 : World) =>
  stC (Addr.mk w1.heap.size 10 none) (.bool b48) w21 (fun (w22 : World) =>
  ∃ (b49 : Bool) (b50 : Bool) (n51 : Int) (n52 : Int) (a53 : Option Addr) (l53 : Nat) (c53 : Nat) (a54 : Option Addr) (l54 : Nat) (c54 : Nat) (a55 : Option Addr) (l55 : Nat) (c55 : Nat) (n56 : Int) (b57 : Bool) (b58 : Bool) (b59 : Bool), w22.cell? (Addr.mk w1.heap.size 0 none) = some ((.bool b49 : Value)) ∧ w22.cell? (Addr.mk w1.heap.size 1 none) = some ((.bool b50 : Value)) ∧ w22.cell? (Addr.mk w1.heap.size 2 none) = some ((.int .i64 n51 : Value)) ∧ w22.cell? (Addr.mk w1.heap.size 3 none) = some ((.int .i64 n52 : Value)) ∧ w22.cell? (Addr.mk w1.heap.size 4 none) = some ((.slice a53 l53 c53 : Value)) ∧ w22.cell? (Addr.mk w1.heap.size 5 none) = some ((.slice a54 l54 c54 : Value)) ∧ w22.cell? (Addr.mk w1.heap.size 6 none) = some ((.slice a55 l55 c55 : Value)) ∧ w22.cell? (Addr.mk w1.heap.size 7 none) = some ((.int .i64 n56 : Value)) ∧ w22.cell? (Addr.mk w1.heap.size 8 none) = some ((.bool b57 : Value)) ∧ w22.cell? (Addr.mk w1.heap.size 9 none) = some ((.bool b58 : Value)) ∧ w22.cell? (Addr.mk w1.heap.size 10 none) = some ((.bool b59 : Value)) ∧ 
  Q (.tuple #[.agg #[.bool b49, .bool b50, .int .i64 n51, .int .i64 n52, .slice a53 l53 c53, .slice a54 l54 c54, .slice a55 l55 c55, .int .i64 n56, .bool b57, .bool b58, .bool b59], .int .i64 n27]) w22)))))))))))))))))))
theorem C23 {b1 : Bool} {b2 : Bool} {n3 : Int} {n4 : Int} {a5 : Option Addr} {l5 : Nat} {c5 : Nat} {a6 : Option Addr} {l6 : Nat} {c6 : Nat} {a7 : Option Addr} {l7 : Nat} {c7 : Nat} {n8 : Int} {b9 : Bool} {b10 : Bool} {b11 : Bool} {Q : Value → World → Prop} {w : World} (h : L23 b1 b2 n3 n4 a5 l5 c5 a6 l6 c6 a7 l7 c7 n8 b9 b10 b11 Q w) : CallR Try.prog 23 [.agg #[.bool b1, .bool b2, .int .i64 n3, .int .i64 n4, .slice a5 l5 c5, .slice a6 l6 c6, .slice a7 l7 c7, .int .i64 n8, .bool b9, .bool b10, .bool b11]] w Q :=
  fun_calls (A := A23) mixed Try.func23 (c := (Try.f23.body).getD .skip) rfl (by kernel_rfl) (Eq.mp (by kernel_rfl) h)

/-- millrace/pushback.Unget -/
def A8 : Ann := ⟨[], [], [], [], [], []⟩
def L8 (b1 : Bool) (b2 : Bool) (n3 : Int) (n4 : Int) (a5 : Option Addr) (l5 : Nat) (c5 : Nat) (a6 : Option Addr) (l6 : Nat) (c6 : Nat) (a7 : Option Addr) (l7 : Nat) (c7 : Nat) (n8 : Int) (b9 : Bool) (b10 : Bool) (b11 : Bool) (n12 : Int) (Q : Value → World → Prop) (w : World) : Prop :=
  let w1 := World.alloc w (Obj.cells #[.bool b1, .bool b2, .int .i64 n3, .int .i64 n4, .slice a5 l5 c5, .slice a6 l6 c6, .slice a7 l7 c7, .int .i64 n8, .bool b9, .bool b10, .bool b11] 25);
  let w2 := World.alloc w1 (Obj.cells #[.bool false, .bool false, .int .i64 0, .int .i64 0, .slice none 0 0, .slice none 0 0, .slice none 0 0, .int .i64 0, .bool false, .bool false, .bool false] 25);
  ∃ (b13 : Bool) (b14 : Bool) (n15 : Int) (n16 : Int) (a17 : Option Addr) (l17 : Nat) (c17 : Nat) (a18 : Option Addr) (l18 : Nat) (c18 : Nat) (a19 : Option Addr) (l19 : Nat) (c19 : Nat) (n20 : Int) (b21 : Bool) (b22 : Bool) (b23 : Bool), w2.cell? (Addr.mk w.heap.size 0 none) = some ((.bool b13 : Value)) ∧ w2.cell? (Addr.mk w.heap.size 1 none) = some ((.bool b14 : Value)) ∧ w2.cell? (Addr.mk w.heap.size 2 none) = some ((.int .i64 n15 : Value)) ∧ w2.cell? (Addr.mk w.heap.size 3 none) = some ((.int .i64 n16 : Value)) ∧ w2.cell? (Addr.mk w.heap.size 4 none) = some ((.slice a17 l17 c17 : Value)) ∧ w2.cell? (Addr.mk w.heap.size 5 none) = some ((.slice a18 l18 c18 : Value)) ∧ w2.cell? (Addr.mk w.heap.size 6 none) = some ((.slice a19 l19 c19 : Value)) ∧ w2.cell? (Addr.mk w.heap.size 7 none) = some ((.int .i64 n20 : Value)) ∧ w2.cell? (Addr.mk w.heap.size 8 none) = some ((.bool b21 : Value)) ∧ w2.cell? (Addr.mk w.heap.size 9 none) = some ((.bool b22 : Value)) ∧ w2.cell? (Addr.mk w.heap.size 10 none) = some ((.bool b23 : Value)) ∧ 
  let w3 := World.alloc w2 (Obj.cells #[.int .u8 n12] 5);
  CallR Try.prog 10 [.agg #[.bool b13, .bool b14, .int .i64 n15, .int .i64 n16, .slice a17 l17 c17, .slice a18 l18 c18, .slice a19 l19 c19, .int .i64 n20, .bool b21, .bool b22, .bool b23], .slice (some (Addr.mk w2.heap.size 0 none)) 1 1] w3 (fun (r36 : Value) (w4 : World) =>
  ∃ (b24 : Bool) (b25 : Bool) (n26 : Int) (n27 : Int) (a28 : Option Addr) (l28 : Nat) (c28 : Nat) (a29 : Option Addr) (l29 : Nat) (c29 : Nat) (a30 : Option Addr) (l30 : Nat) (c30 : Nat) (n31 : Int) (b32 : Bool) (b33 : Bool) (b34 : Bool) (n35 : Int), r36 = .tuple #[.agg #[.bool b24, .bool b25, .int .i64 n26, .int .i64 n27, .slice a28 l28 c28, .slice a29 l29 c29, .slice a30 l30 c30, .int .i64 n31, .bool b32, .bool b33, .bool b34], .int .i64 n35] ∧
  stC (Addr.mk w1.heap.size 0 none) (.bool b24) w4 (fun (w5 : World) =>
  stC (Addr.mk w1.heap.size 1 none) (.bool b25) w5 (fun (w6 : World) =>
  stC (Addr.mk w1.heap.size 2 none) (.int .i64 n26) w6 (fun (w7 : World) =>
  stC (Addr.mk w1.heap.size 3 none) (.int .i64 n27) w7 (fun (w8 : World) =>
  stC (Addr.mk w1.heap.size 4 none) (.slice a28 l28 c28) w8 (fun (w9 : World) =>
  stC (Addr.mk w1.heap.size 5 none) (.slice a29 l29 c29) w9 (fun (w10 : World) =>
  stC (Addr.mk w1.heap.size 6 none) (.slice a30 l30 c30) w10 (fun (w11 : World) =>
  stC (Addr.mk w1.heap.size 7 none) (.int .i64 n31) w11 (fun (w12 : World) =>
  stC (Addr.mk w1.heap.size 8 none) (.bool b32) w12 (fun (w13 : World) =>
  stC (Addr.mk w1.heap.size 9 none) (.bool b33) w13 (fun (w14 : World) =>
  stC (Addr.mk w1.heap.size 10 none) (.bool b34) w14 (fun (w15 : World) =>
  ∃ (b37 : Bool) (b38 : Bool) (n39 : Int) (n40 : Int) (a41 : Option Addr) (l41 : Nat) (c41 : Nat) (a42 : Option Addr) (l42 : Nat) (c42 : Nat) (a43 : Option Addr) (l43 : Nat) (c43 : Nat) (n44 : Int) (b45 : Bool) (b46 : Bool) (b47 : Bool), w15.cell? (Addr.mk w1.heap.size 0 none) = some ((.bool b37 : Value)) ∧ w15.cell? (Addr.mk w1.heap.size 1 none) = some ((.bool b38 : Value)) ∧ w15.cell? (Addr.mk w1.heap.size 2 none) = some ((.int .i64 n39 : Value)) ∧ w15.cell? (Addr.mk w1.heap.size 3 none) = some ((.int .i64 n40 : Value)) ∧ w15.cell? (Addr.mk w1.heap.size 4 none) = some ((.slice a41 l41 c41 : Value)) ∧ w15.cell? (Addr.mk w1.heap.size 5 none) = some ((.slice a42 l42 c42 : Value)) ∧ w15.cell? (Addr.mk w1.heap.size 6 none) = some ((.slice a43 l43 c43 : Value)) ∧ w15.cell? (Addr.mk w1.heap.size 7 none) = some ((.int .i64 n44 : Value)) ∧ w15.cell? (Addr.mk w1.heap.size 8 none) = some ((.bool b45 : Value)) ∧ w15.cell? (Addr.mk w1.heap.size 9 none) = some ((.bool b46 : Value)) ∧ w15.cell? (Addr.mk w1.heap.size 10 none) = some ((.bool b47 : Value)) ∧ 
  Q (.tuple #[.agg #[.bool b37, .bool b38, .int .i64 n39, .int .i64 n40, .slice a41 l41 c41, .slice a42 l42 c42, .slice a43 l43 c43, .int .i64 n44, .bool b45, .bool b46, .bool b47], .int .i64 n35]) w15))))))))))))
theorem C8 {b1 : Bool} {b2 : Bool} {n3 : Int} {n4 : Int} {a5 : Option Addr} {l5 : Nat} {c5 : Nat} {a6 : Option Addr} {l6 : Nat} {c6 : Nat} {a7 : Option Addr} {l7 : Nat} {c7 : Nat} {n8 : Int} {b9 : Bool} {b10 : Bool} {b11 : Bool} {n12 : Int} {Q : Value → World → Prop} {w : World} (h : L8 b1 b2 n3 n4 a5 l5 c5 a6 l6 c6 a7 l7 c7 n8 b9 b10 b11 n12 Q w) : CallR Try.prog 8 [.agg #[.bool b1, .bool b2, .int .i64 n3, .int .i64 n4, .slice a5 l5 c5, .slice a6 l6 c6, .slice a7 l7 c7, .int .i64 n8, .bool b9, .bool b10, .bool b11], .int .u8 n12] w Q :=
  fun_calls (A := A8) mixed Try.func8 (c := (Try.f8.body).getD .skip) rfl (by kernel_rfl) (Eq.mp (by kernel_rfl) h)

/-- millrace/pushback.Held -/
def A12 : Ann := ⟨[], [], [], [], [], []⟩
def L12 (b1 : Bool) (b2 : Bool) (n3 : Int) (n4 : Int) (a5 : Option Addr) (l5 : Nat) (c5 : Nat) (a6 : Option Addr) (l6 : Nat) (c6 : Nat) (a7 : Option Addr) (l7 : Nat) (c7 : Nat) (n8 : Int) (b9 : Bool) (b10 : Bool) (b11 : Bool) (Q : Value → World → Prop) (w : World) : Prop :=
  let w1 := World.alloc w (Obj.cells #[.bool b1, .bool b2, .int .i64 n3, .int .i64 n4, .slice a5 l5 c5, .slice a6 l6 c6, .slice a7 l7 c7, .int .i64 n8, .bool b9, .bool b10, .bool b11] 25);
  ∃ (b12 : Bool) (b13 : Bool) (n14 : Int) (n15 : Int) (a16 : Option Addr) (l16 : Nat) (c16 : Nat) (a17 : Option Addr) (l17 : Nat) (c17 : Nat) (a18 : Option Addr) (l18 : Nat) (c18 : Nat) (n19 : Int) (b20 : Bool) (b21 : Bool) (b22 : Bool), w1.cell? (Addr.mk w.heap.size 0 none) = some ((.bool b12 : Value)) ∧ w1.cell? (Addr.mk w.heap.size 1 none) = some ((.bool b13 : Value)) ∧ w1.cell? (Addr.mk w.heap.size 2 none) = some ((.int .i64 n14 : Value)) ∧ w1.cell? (Addr.mk w.heap.size 3 none) = some ((.int .i64 n15 : Value)) ∧ w1.cell? (Addr.mk w.heap.size 4 none) = some ((.slice a16 l16 c16 : Value)) ∧ w1.cell? (Addr.mk w.heap.size 5 none) = some ((.slice a17 l17 c17 : Value)) ∧ w1.cell? (Addr.mk w.heap.size 6 none) = some ((.slice a18 l18 c18 : Value)) ∧ w1.cell? (Addr.mk w.heap.size 7 none) = some ((.int .i64 n19 : Value)) ∧ w1.cell? (Addr.mk w.heap.size 8 none) = some ((.bool b20 : Value)) ∧ w1.cell? (Addr.mk w.heap.size 9 none) = some ((.bool b21 : Value)) ∧ w1.cell? (Addr.mk w.heap.size 10 none) = some ((.bool b22 : Value)) ∧ 
  CallR Try.prog 23 [.agg #[.bool b12, .bool b13, .int .i64 n14, .int .i64 n15, .slice a16 l16 c16, .slice a17 l17 c17, .slice a18 l18 c18, .int .i64 n19, .bool b20, .bool b21, .bool b22]] w1 (fun (r35 : Value) (w2 : World) =>
  ∃ (b23 : Bool) (b24 : Bool) (n25 : Int) (n26 : Int) (a27 : Option Addr) (l27 : Nat) (c27 : Nat) (a28 : Option Addr) (l28 : Nat) (c28 : Nat) (a29 : Option Addr) (l29 : Nat) (c29 : Nat) (n30 : Int) (b31 : Bool) (b32 : Bool) (b33 : Bool) (n34 : Int), r35 = .tuple #[.agg #[.bool b23, .bool b24, .int .i64 n25, .int .i64 n26, .slice a27 l27 c27, .slice a28 l28 c28, .slice a29 l29 c29, .int .i64 n30, .bool b31, .bool b32, .bool b33], .int .i64 n34] ∧
  let w3 := World.alloc w2 (Obj.cells #[.bool false, .bool false, .int .i64 0, .int .i64 0, .slice none 0 0, .slice none 0 0, .slice none 0 0, .int .i64 0, .bool false, .bool false, .bool false] 25);
  stC (Addr.mk w2.heap.size 0 none) (.bool b23) w3 (fun (w4 : World) =>
  stC (Addr.mk w2.heap.size 1 none) (.bool b24) w4 (fun (w5 : World) =>
  stC (Addr.mk w2.heap.size 2 none) (.int .i64 n25) w5 (fun (w6 : World) =>
  stC (Addr.mk w2.heap.size 3 none) (.int .i64 n26) w6 (fun (w7 : World) =>
  stC (Addr.mk w2.heap.size 4 none) (.slice a27 l27 c27) w7 (fun (w8 : World) =>
  stC (Addr.mk w2.heap.size 5 none) (.slice a28 l28 c28) w8 (fun (w9 : World) =>
  stC (Addr.mk w2.heap.size 6 none) (.slice a29 l29 c29) w9 (fun (w10 : World) =>
  stC (Addr.mk w2.heap.size 7 none) (.int .i64 n30) w10 (fun (w11 : World) =>
  stC (Addr.mk w2.heap.size 8 none) (.bool b31) w11 (fun (w12 : World) =>
  stC (Addr.mk w2.heap.size 9 none) (.bool b32) w12 (fun (w13 : World) =>
  stC (Addr.mk w2.heap.size 10 none) (.bool b33) w13 (fun (w14 : World) =>
  cond (n34 != 0)
  (Q (.tuple #[.slice none 0 0, .int .i64 n34]) w14)
  (∃ (a36 : Option Addr) (l36 : Nat) (c36 : Nat), w14.cell? (Addr.mk w2.heap.size 6 none) = some ((.slice a36 l36 c36 : Value)) ∧
  CallR Try.prog 26 [.slice a36 l36 c36] w14 (fun (r37 : Value) (w15 : World) =>
  r37 = .tuple #[] ∧
  ∃ (a38 : Option Addr) (l38 : Nat) (c38 : Nat), w15.cell? (Addr.mk w2.heap.size 6 none) = some ((.slice a38 l38 c38 : Value)) ∧
  ∃ (a39 : Option Addr) (l39 : Nat) (c39 : Nat), w15.cell? (Addr.mk w2.heap.size 5 none) = some ((.slice a39 l39 c39 : Value)) ∧
  ∃ (a40 : Option Addr) (l40 : Nat) (c40 : Nat) (w16 : World), Sem.run Try.prog (Builtin.append_ #[22, 22] 22 #[.slice a38 l38 c38, .slice a39 l39 c39]) w15 = .ok ((.slice a40 l40 c40 : Value)) w16 ∧
  Q (.tuple #[.slice a40 l40 c40, .int .i64 0]) w16))))))))))))))
theorem C12 {b1 : Bool} {b2 : Bool} {n3 : Int} {n4 : Int} {a5 : Option Addr} {l5 : Nat} {c5 : Nat} {a6 : Option Addr} {l6 : Nat} {c6 : Nat} {a7 : Option Addr} {l7 : Nat} {c7 : Nat} {n8 : Int} {b9 : Bool} {b10 : Bool} {b11 : Bool} {Q : Value → World → Prop} {w : World} (h : L12 b1 b2 n3 n4 a5 l5 c5 a6 l6 c6 a7 l7 c7 n8 b9 b10 b11 Q w) : CallR Try.prog 12 [.agg #[.bool b1, .bool b2, .int .i64 n3, .int .i64 n4, .slice a5 l5 c5, .slice a6 l6 c6, .slice a7 l7 c7, .int .i64 n8, .bool b9, .bool b10, .bool b11]] w Q :=
  fun_calls (A := A12) mixed Try.func12 (c := (Try.f12.body).getD .skip) rfl (by kernel_rfl) (Eq.mp (by kernel_rfl) h)

/-- millrace/millraceref11.copied -/
def A32 : Ann := ⟨[], [], [], [], [], []⟩
def L32 (a1 : Option Addr) (l1 : Nat) (c1 : Nat) (Q : Value → World → Prop) (w : World) : Prop :=
  ∃ (a2 : Option Addr) (l2 : Nat) (c2 : Nat) (w1 : World), Sem.run Try.prog (Builtin.append_ #[22, 22] 22 #[.slice none 0 0, .slice a1 l1 c1]) w = .ok ((.slice a2 l2 c2 : Value)) w1 ∧
  Q (.slice a2 l2 c2) w1
theorem C32 {a1 : Option Addr} {l1 : Nat} {c1 : Nat} {Q : Value → World → Prop} {w : World} (h : L32 a1 l1 c1 Q w) : CallR Try.prog 32 [.slice a1 l1 c1] w Q :=
  fun_calls (A := A32) mixed Try.func32 (c := (Try.f32.body).getD .skip) rfl (by kernel_rfl) (Eq.mp (by kernel_rfl) h)

/-- millrace/millraceref11.Own -/
def A22 : Ann := ⟨[], [], [], [], [(1, [0, 1, 3, 4, 6, 7, 2, 9, 5], 8, [10, 11, 12, 13, 14])], []⟩
def L22 (b1 : Bool) (b2 : Bool) (n3 : Int) (n4 : Int) (a5 : Option Addr) (l5 : Nat) (c5 : Nat) (a6 : Option Addr) (l6 : Nat) (c6 : Nat) (a7 : Option Addr) (l7 : Nat) (c7 : Nat) (n8 : Int) (b9 : Bool) (b10 : Bool) (b11 : Bool) (Q : Value → World → Prop) (w : World) : Prop :=
  let w1 := World.alloc w (Obj.cells #[.bool b1, .bool b2, .int .i64 n3, .int .i64 n4, .slice a5 l5 c5, .slice a6 l6 c6, .slice a7 l7 c7, .int .i64 n8, .bool b9, .bool b10, .bool b11] 24);
  let w2 := World.alloc w1 (Obj.cells #[.bool false, .bool false, .int .i64 0, .int .i64 0, .slice none 0 0, .slice none 0 0, .slice none 0 0, .int .i64 0, .bool false, .bool false, .bool false] 24);
  ∃ (S12 : World → Prop), S12 (World.drew w2) ∧
  let w3 := World.drew w2;
  ∃ (a13 : Option Addr) (l13 : Nat) (c13 : Nat), (∀ wS : World, S12 wS → wS.cell? (Addr.mk w.heap.size 4 none) = some ((.slice a13 l13 c13 : Value))) ∧
  ∃ (a14 : Option Addr) (l14 : Nat) (c14 : Nat), (∀ wS : World, S12 wS → wS.cell? (Addr.mk w.heap.size 5 none) = some ((.slice a14 l14 c14 : Value))) ∧
  ∃ (a15 : Option Addr) (l15 : Nat) (c15 : Nat), (∀ wS : World, S12 wS → wS.cell? (Addr.mk w.heap.size 6 none) = some ((.slice a15 l15 c15 : Value))) ∧
  CallR Try.prog 32 [.slice a13 l13 c13] w3 (fun (r17 : Value) (w4 : World) =>
  ∃ (a16 : Option Addr) (l16 : Nat) (c16 : Nat), r17 = .slice a16 l16 c16 ∧
  S12 w4 ∧
  CallR Try.prog 32 [.slice a14 l14 c14] w4 (fun (r19 : Value) (w5 : World) =>
  ∃ (a18 : Option Addr) (l18 : Nat) (c18 : Nat), r19 = .slice a18 l18 c18 ∧
  S12 w5 ∧
  CallR Try.prog 32 [.slice a15 l15 c15] w5 (fun (r21 : Value) (w6 : World) =>
  ∃ (a20 : Option Addr) (l20 : Nat) (c20 : Nat), r21 = .slice a20 l20 c20 ∧
  stC (Addr.mk w.heap.size 4 none) (.slice a16 l16 c16) w6 (fun (w7 : World) =>
  stC (Addr.mk w.heap.size 5 none) (.slice a18 l18 c18) w7 (fun (w8 : World) =>
  stC (Addr.mk w.heap.size 6 none) (.slice a20 l20 c20) w8 (fun (w9 : World) =>
  ∃ (b22 : Bool) (b23 : Bool) (n24 : Int) (n25 : Int) (a26 : Option Addr) (l26 : Nat) (c26 : Nat) (a27 : Option Addr) (l27 : Nat) (c27 : Nat) (a28 : Option Addr) (l28 : Nat) (c28 : Nat) (n29 : Int) (b30 : Bool) (b31 : Bool) (b32 : Bool), w9.cell? (Addr.mk w.heap.size 0 none) = some ((.bool b22 : Value)) ∧ w9.cell? (Addr.mk w.heap.size 1 none) = some ((.bool b23 : Value)) ∧ w9.cell? (Addr.mk w.heap.size 2 none) = some ((.int .i64 n24 : Value)) ∧ w9.cell? (Addr.mk w.heap.size 3 none) = some ((.int .i64 n25 : Value)) ∧ w9.cell? (Addr.mk w.heap.size 4 none) = some ((.slice a26 l26 c26 : Value)) ∧ w9.cell? (Addr.mk w.heap.size 5 none) = some ((.slice a27 l27 c27 : Value)) ∧ w9.cell? (Addr.mk w.heap.size 6 none) = some ((.slice a28 l28 c28 : Value)) ∧ w9.cell? (Addr.mk w.heap.size 7 none) = some ((.int .i64 n29 : Value)) ∧ w9.cell? (Addr.mk w.heap.size 8 none) = some ((.bool b30 : Value)) ∧ w9.cell? (Addr.mk w.heap.size 9 none) = some ((.bool b31 : Value)) ∧ w9.cell? (Addr.mk w.heap.size 10 none) = some ((.bool b32 : Value)) ∧ 
  stC (Addr.mk w1.heap.size 0 none) (.bool b22) w9 (fun (w10 : World) =>
  stC (Addr.mk w1.heap.size 1 none) (.bool b23) w10 (fun (w11 : World) =>
  stC (Addr.mk w1.heap.size 2 none) (.int .i64 n24) w11 (fun (w12 : World) =>
  stC (Addr.mk w1.heap.size 3 none) (.int .i64 n25) w12 (fun (w13 : World) =>
  stC (Addr.mk w1.heap.size 4 none) (.slice a26 l26 c26) w13 (fun (w14 : World) =>
  stC (Addr.mk w1.heap.size 5 none) (.slice a27 l27 c27) w14 (fun (w15 : World) =>
  stC (Addr.mk w1.heap.size 6 none) (.slice a28 l28 c28) w15 (fun (w16 : World) =>
  stC (Addr.mk w1.heap.size 7 none) (.int .i64 n29) w16 (fun (w17 : World) =>
  stC (Addr.mk w1.heap.size 8 none) (.bool b30) w17 (fun (w18 : World) =>
  stC (Addr.mk w1.heap.size 9 none) (.bool b31) w18 (fun (w19 : World) =>
  stC (Addr.mk w1.heap.size 10 none) (.bool b32) w19 (fun (w20 : World) =>
  ∃ (b33 : Bool) (b34 : Bool) (n35 : Int) (n36 : Int) (a37 : Option Addr) (l37 : Nat) (c37 : Nat) (a38 : Option Addr) (l38 : Nat) (c38 : Nat) (a39 : Option Addr) (l39 : Nat) (c39 : Nat) (n40 : Int) (b41 : Bool) (b42 : Bool) (b43 : Bool), w20.cell? (Addr.mk w1.heap.size 0 none) = some ((.bool b33 : Value)) ∧ w20.cell? (Addr.mk w1.heap.size 1 none) = some ((.bool b34 : Value)) ∧ w20.cell? (Addr.mk w1.heap.size 2 none) = some ((.int .i64 n35 : Value)) ∧ w20.cell? (Addr.mk w1.heap.size 3 none) = some ((.int .i64 n36 : Value)) ∧ w20.cell? (Addr.mk w1.heap.size 4 none) = some ((.slice a37 l37 c37 : Value)) ∧ w20.cell? (Addr.mk w1.heap.size 5 none) = some ((.slice a38 l38 c38 : Value)) ∧ w20.cell? (Addr.mk w1.heap.size 6 none) = some ((.slice a39 l39 c39 : Value)) ∧ w20.cell? (Addr.mk w1.heap.size 7 none) = some ((.int .i64 n40 : Value)) ∧ w20.cell? (Addr.mk w1.heap.size 8 none) = some ((.bool b41 : Value)) ∧ w20.cell? (Addr.mk w1.heap.size 9 none) = some ((.bool b42 : Value)) ∧ w20.cell? (Addr.mk w1.heap.size 10 none) = some ((.bool b43 : Value)) ∧ 
  Q (.agg #[.bool b33, .bool b34, .int .i64 n35, .int .i64 n36, .slice a37 l37 c37, .slice a38 l38 c38, .slice a39 l39 c39, .int .i64 n40, .bool b41, .bool b42, .bool b43]) w20)))))))))))))))))
theorem C22 {b1 : Bool} {b2 : Bool} {n3 : Int} {n4 : Int} {a5 : Option Addr} {l5 : Nat} {c5 : Nat} {a6 : Option Addr} {l6 : Nat} {c6 : Nat} {a7 : Option Addr} {l7 : Nat} {c7 : Nat} {n8 : Int} {b9 : Bool} {b10 : Bool} {b11 : Bool} {Q : Value → World → Prop} {w : World} (h : L22 b1 b2 n3 n4 a5 l5 c5 a6 l6 c6 a7 l7 c7 n8 b9 b10 b11 Q w) : CallR Try.prog 22 [.agg #[.bool b1, .bool b2, .int .i64 n3, .int .i64 n4, .slice a5 l5 c5, .slice a6 l6 c6, .slice a7 l7 c7, .int .i64 n8, .bool b9, .bool b10, .bool b11]] w Q :=
  fun_calls (A := A22) mixed Try.func22 (c := (Try.f22.body).getD .skip) rfl (by kernel_rfl) (Eq.mp (by kernel_rfl) h)

/-- millrace/millraceref11.Check -/
def A36 : Ann := ⟨[], [], [], [], [], []⟩
def L36 (b1 : Bool) (b2 : Bool) (n3 : Int) (n4 : Int) (a5 : Option Addr) (l5 : Nat) (c5 : Nat) (a6 : Option Addr) (l6 : Nat) (c6 : Nat) (a7 : Option Addr) (l7 : Nat) (c7 : Nat) (n8 : Int) (b9 : Bool) (b10 : Bool) (b11 : Bool) (Q : Value → World → Prop) (w : World) : Prop :=
  let w1 := World.alloc w (Obj.cells #[.bool b1, .bool b2, .int .i64 n3, .int .i64 n4, .slice a5 l5 c5, .slice a6 l6 c6, .slice a7 l7 c7, .int .i64 n8, .bool b9, .bool b10, .bool b11] 24);
  ∃ (n12 : Int), w1.cell? (Addr.mk w.heap.size 2 none) = some ((.int .i64 n12 : Value)) ∧
  cond (decide (n12 < 1))
  (Q (.int .i64 51) w1)
  (∃ (n13 : Int), w1.cell? (Addr.mk w.heap.size 2 none) = some ((.int .i64 n13 : Value)) ∧
  cond (decide (n13 > 3))
  (Q (.int .i64 51) w1)
  (∃ (n14 : Int), w1.cell? (Addr.mk w.heap.size 3 none) = some ((.int .i64 n14 : Value)) ∧
  cond (decide (n14 < 1))
  (Q (.int .i64 51) w1)
  (∃ (n15 : Int), w1.cell? (Addr.mk w.heap.size 3 none) = some ((.int .i64 n15 : Value)) ∧
  cond (decide (n15 > 65536))
  (Q (.int .i64 51) w1)
  (∃ (n16 : Int), w1.cell? (Addr.mk w.heap.size 7 none) = some ((.int .i64 n16 : Value)) ∧
  cond (decide (n16 < 0))
  (Q (.int .i64 51) w1)
  (∃ (n17 : Int), w1.cell? (Addr.mk w.heap.size 7 none) = some ((.int .i64 n17 : Value)) ∧
  cond (decide (n17 > 2))
  (Q (.int .i64 51) w1)
  (∃ (a18 : Option Addr) (l18 : Nat) (c18 : Nat), w1.cell? (Addr.mk w.heap.size 4 none) = some ((.slice a18 l18 c18 : Value)) ∧
  ∃ (n19 : Int), w1.cell? (Addr.mk w.heap.size 3 none) = some ((.int .i64 n19 : Value)) ∧
  cond (decide ((((l18 : Nat) : Int)) > n19))
  (Q (.int .i64 51) w1)
  (∃ (n20 : Int), w1.cell? (Addr.mk w.heap.size 2 none) = some ((.int .i64 n20 : Value)) ∧
  cond (n20 == 1)
  (∃ (a21 : Option Addr) (l21 : Nat) (c21 : Nat), w1.cell? (Addr.mk w.heap.size 4 none) = some ((.slice a21 l21 c21 : Value)) ∧
  cond (decide ((((l21 : Nat) : Int)) > 0))
  (Q (.int .i64 51) w1)
  (∃ (a22 : Option Addr) (l22 : Nat) (c22 : Nat), w1.cell? (Addr.mk w.heap.size 5 none) = some ((.slice a22 l22 c22 : Value)) ∧
  cond (decide ((((l22 : Nat) : Int)) > 65536))
  (Q (.int .i64 51) w1)
  (∃ (a23 : Option Addr) (l23 : Nat) (c23 : Nat), w1.cell? (Addr.mk w.heap.size 6 none) = some ((.slice a23 l23 c23 : Value)) ∧
  cond (decide ((((l23 : Nat) : Int)) > 8))
  (Q (.int .i64 51) w1)
  (∃ (n24 : Int), w1.cell? (Addr.mk w.heap.size 7 none) = some ((.int .i64 n24 : Value)) ∧
  cond (n24 == 1)
  (∃ (b25 : Bool), w1.cell? (Addr.mk w.heap.size 0 none) = some ((.bool b25 : Value)) ∧
  cond (!b25)
  (Q (.int .i64 51) w1)
  (∃ (n26 : Int), w1.cell? (Addr.mk w.heap.size 7 none) = some ((.int .i64 n26 : Value)) ∧
  cond (n26 == 2)
  (∃ (b27 : Bool), w1.cell? (Addr.mk w.heap.size 1 none) = some ((.bool b27 : Value)) ∧
  cond (!b27)
  (Q (.int .i64 51) w1)
  (∃ (n28 : Int), w1.cell? (Addr.mk w.heap.size 7 none) = some ((.int .i64 n28 : Value)) ∧
  cond (n28 != 2)
  (∃ (a29 : Option Addr) (l29 : Nat) (c29 : Nat), w1.cell? (Addr.mk w.heap.size 4 none) = some ((.slice a29 l29 c29 : Value)) ∧
  cond (decide ((((l29 : Nat) : Int)) > 0))
  (Q (.int .i64 51) w1)
  (∃ (n30 : Int), w1.cell? (Addr.mk w.heap.size 7 none) = some ((.int .i64 n30 : Value)) ∧
  cond (n30 != 1)
  (∃ (a31 : Option Addr) (l31 : Nat) (c31 : Nat), w1.cell? (Addr.mk w.heap.size 5 none) = some ((.slice a31 l31 c31 : Value)) ∧
  ∃ (a32 : Option Addr) (l32 : Nat) (c32 : Nat), w1.cell? (Addr.mk w.heap.size 6 none) = some ((.slice a32 l32 c32 : Value)) ∧
  inI ((((l31 : Nat) : Int)) + (((l32 : Nat) : Int))) ∧
  cond (decide (((((l31 : Nat) : Int)) + (((l32 : Nat) : Int))) > 0))
  (Q (.int .i64 51) w1)
  (∃ (b33 : Bool), w1.cell? (Addr.mk w.heap.size 10 none) = some ((.bool b33 : Value)) ∧
  cond b33
  (∃ (n34 : Int), w1.cell? (Addr.mk w.heap.size 7 none) = some ((.int .i64 n34 : Value)) ∧
  cond (n34 != 0)
  (Q (.int .i64 51) w1)
  (Q (.int .i64 0) w1))
  (Q (.int .i64 0) w1)))
  (∃ (b35 : Bool), w1.cell? (Addr.mk w.heap.size 10 none) = some ((.bool b35 : Value)) ∧
  cond b35
  (∃ (n36 : Int), w1.cell? (Addr.mk w.heap.size 7 none) = some ((.int .i64 n36 : Value)) ∧
  cond (n36 != 0)
  (Q (.int .i64 51) w1)
  (Q (.int .i64 0) w1))
  (Q (.int .i64 0) w1))))
  (∃ (n37 : Int), w1.cell? (Addr.mk w.heap.size 7 none) = some ((.int .i64 n37 : Value)) ∧
  cond (n37 != 1)
  (∃ (a38 : Option Addr) (l38 : Nat) (c38 : Nat), w1.cell? (Addr.mk w.heap.size 5 none) = some ((.slice a38 l38 c38 : Value)) ∧
  ∃ (a39 : Option Addr) (l39 : Nat) (c39 : Nat), w1.cell? (Addr.mk w.heap.size 6 none) = some ((.slice a39 l39 c39 : Value)) ∧
  inI ((((l38 : Nat) : Int)) + (((l39 : Nat) : Int))) ∧
  cond (decide (((((l38 : Nat) : Int)) + (((l39 : Nat) : Int))) > 0))
  (Q (.int .i64 51) w1)
  (∃ (b40 : Bool), w1.cell? (Addr.mk w.heap.size 10 none) = some ((.bool b40 : Value)) ∧
  cond b40
  (∃ (n41 : Int), w1.cell? (Addr.mk w.heap.size 7 none) = some ((.int .i64 n41 : Value)) ∧
  cond (n41 != 0)
  (Q (.int .i64 51) w1)
  (Q (.int .i64 0) w1))
  (Q (.int .i64 0) w1)))
  (∃ (b42 : Bool), w1.cell? (Addr.mk w.heap.size 10 none) = some ((.bool b42 : Value)) ∧
  cond b42
  (∃ (n43 : Int), w1.cell? (Addr.mk w.heap.size 7 none) = some ((.int .i64 n43 : Value)) ∧
  cond (n43 != 0)
  (Q (.int .i64 51) w1)
  (Q (.int .i64 0) w1))
  (Q (.int .i64 0) w1)))))
  (∃ (n44 : Int), w1.cell? (Addr.mk w.heap.size 7 none) = some ((.int .i64 n44 : Value)) ∧
  cond (n44 != 2)
  (∃ (a45 : Option Addr) (l45 : Nat) (c45 : Nat), w1.cell? (Addr.mk w.heap.size 4 none) = some ((.slice a45 l45 c45 : Value)) ∧
  cond (decide ((((l45 : Nat) : Int)) > 0))
  (Q (.int .i64 51) w1)
  (∃ (n46 : Int), w1.cell? (Addr.mk w.heap.size 7 none) = some ((.int .i64 n46 : Value)) ∧
  cond (n46 != 1)
  (∃ (a47 : Option Addr) (l47 : Nat) (c47 : Nat), w1.cell? (Addr.mk w.heap.size 5 none) = some ((.slice a47 l47 c47 : Value)) ∧
  ∃ (a48 : Option Addr) (l48 : Nat) (c48 : Nat), w1.cell? (Addr.mk w.heap.size 6 none) = some ((.slice a48 l48 c48 : Value)) ∧
  inI ((((l47 : Nat) : Int)) + (((l48 : Nat) : Int))) ∧
  cond (decide (((((l47 : Nat) : Int)) + (((l48 : Nat) : Int))) > 0))
  (Q (.int .i64 51) w1)
  (∃ (b49 : Bool), w1.cell? (Addr.mk w.heap.size 10 none) = some ((.bool b49 : Value)) ∧
  cond b49
  (∃ (n50 : Int), w1.cell? (Addr.mk w.heap.size 7 none) = some ((.int .i64 n50 : Value)) ∧
  cond (n50 != 0)
  (Q (.int .i64 51) w1)
  (Q (.int .i64 0) w1))
  (Q (.int .i64 0) w1)))
  (∃ (b51 : Bool), w1.cell? (Addr.mk w.heap.size 10 none) = some ((.bool b51 : Value)) ∧
  cond b51
  (∃ (n52 : Int), w1.cell? (Addr.mk w.heap.size 7 none) = some ((.int .i64 n52 : Value)) ∧
  cond (n52 != 0)
  (Q (.int .i64 51) w1)
  (Q (.int .i64 0) w1))
  (Q (.int .i64 0) w1))))
  (∃ (n53 : Int), w1.cell? (Addr.mk w.heap.size 7 none) = some ((.int .i64 n53 : Value)) ∧
  cond (n53 != 1)
  (∃ (a54 : Option Addr) (l54 : Nat) (c54 : Nat), w1.cell? (Addr.mk w.heap.size 5 none) = some ((.slice a54 l54 c54 : Value)) ∧
  ∃ (a55 : Option Addr) (l55 : Nat) (c55 : Nat), w1.cell? (Addr.mk w.heap.size 6 none) = some ((.slice a55 l55 c55 : Value)) ∧
  inI ((((l54 : Nat) : Int)) + (((l55 : Nat) : Int))) ∧
  cond (decide (((((l54 : Nat) : Int)) + (((l55 : Nat) : Int))) > 0))
  (Q (.int .i64 51) w1)
  (∃ (b56 : Bool), w1.cell? (Addr.mk w.heap.size 10 none) = some ((.bool b56 : Value)) ∧
  cond b56
  (∃ (n57 : Int), w1.cell? (Addr.mk w.heap.size 7 none) = some ((.int .i64 n57 : Value)) ∧
  cond (n57 != 0)
  (Q (.int .i64 51) w1)
  (Q (.int .i64 0) w1))
  (Q (.int .i64 0) w1)))
  (∃ (b58 : Bool), w1.cell? (Addr.mk w.heap.size 10 none) = some ((.bool b58 : Value)) ∧
  cond b58
  (∃ (n59 : Int), w1.cell? (Addr.mk w.heap.size 7 none) = some ((.int .i64 n59 : Value)) ∧
  cond (n59 != 0)
  (Q (.int .i64 51) w1)
  (Q (.int .i64 0) w1))
  (Q (.int .i64 0) w1))))))
  (∃ (n60 : Int), w1.cell? (Addr.mk w.heap.size 7 none) = some ((.int .i64 n60 : Value)) ∧
  cond (n60 == 2)
  (∃ (b61 : Bool), w1.cell? (Addr.mk w.heap.size 1 none) = some ((.bool b61 : Value)) ∧
  cond (!b61)
  (Q (.int .i64 51) w1)
  (∃ (n62 : Int), w1.cell? (Addr.mk w.heap.size 7 none) = some ((.int .i64 n62 : Value)) ∧
  cond (n62 != 2)
  (∃ (a63 : Option Addr) (l63 : Nat) (c63 : Nat), w1.cell? (Addr.mk w.heap.size 4 none) = some ((.slice a63 l63 c63 : Value)) ∧
  cond (decide ((((l63 : Nat) : Int)) > 0))
  (Q (.int .i64 51) w1)
  (∃ (n64 : Int), w1.cell? (Addr.mk w.heap.size 7 none) = some ((.int .i64 n64 : Value)) ∧
  cond (n64 != 1)
  (∃ (a65 : Option Addr) (l65 : Nat) (c65 : Nat), w1.cell? (Addr.mk w.heap.size 5 none) = some ((.slice a65 l65 c65 : Value)) ∧
  ∃ (a66 : Option Addr) (l66 : Nat) (c66 : Nat), w1.cell? (Addr.mk w.heap.size 6 none) = some ((.slice a66 l66 c66 : Value)) ∧
  inI ((((l65 : Nat) : Int)) + (((l66 : Nat) : Int))) ∧
  cond (decide (((((l65 : Nat) : Int)) + (((l66 : Nat) : Int))) > 0))
  (Q (.int .i64 51) w1)
  (∃ (b67 : Bool), w1.cell? (Addr.mk w.heap.size 10 none) = some ((.bool b67 : Value)) ∧
  cond b67
  (∃ (n68 : Int), w1.cell? (Addr.mk w.heap.size 7 none) = some ((.int .i64 n68 : Value)) ∧
  cond (n68 != 0)
  (Q (.int .i64 51) w1)
  (Q (.int .i64 0) w1))
  (Q (.int .i64 0) w1)))
  (∃ (b69 : Bool), w1.cell? (Addr.mk w.heap.size 10 none) = some ((.bool b69 : Value)) ∧
  cond b69
  (∃ (n70 : Int), w1.cell? (Addr.mk w.heap.size 7 none) = some ((.int .i64 n70 : Value)) ∧
  cond (n70 != 0)
  (Q (.int .i64 51) w1)
  (Q (.int .i64 0) w1))
  (Q (.int .i64 0) w1))))
  (∃ (n71 : Int), w1.cell? (Addr.mk w.heap.size 7 none) = some ((.int .i64 n71 : Value)) ∧
  cond (n71 != 1)
  (∃ (a72 : Option Addr) (l72 : Nat) (c72 : Nat), w1.cell? (Addr.mk w.heap.size 5 none) = some ((.slice a72 l72 c72 : Value)) ∧
  ∃ (a73 : Option Addr) (l73 : Nat) (c73 : Nat), w1.cell? (Addr.mk w.heap.size 6 none) = some ((.slice a73 l73 c73 : Value)) ∧
  inI ((((l72 : Nat) : Int)) + (((l73 : Nat) : Int))) ∧
  cond (decide (((((l72 : Nat) : Int)) + (((l73 : Nat) : Int))) > 0))
  (Q (.int .i64 51) w1)
  (∃ (b74 : Bool), w1.cell? (Addr.mk w.heap.size 10 none) = some ((.bool b74 : Value)) ∧
  cond b74
  (∃ (n75 : Int), w1.cell? (Addr.mk w.heap.size 7 none) = some ((.int .i64 n75 : Value)) ∧
  cond (n75 != 0)
  (Q (.int .i64 51) w1)
  (Q (.int .i64 0) w1))
  (Q (.int .i64 0) w1)))
  (∃ (b76 : Bool), w1.cell? (Addr.mk w.heap.size 10 none) = some ((.bool b76 : Value)) ∧
  cond b76
  (∃ (n77 : Int), w1.cell? (Addr.mk w.heap.size 7 none) = some ((.int .i64 n77 : Value)) ∧
  cond (n77 != 0)
  (Q (.int .i64 51) w1)
  (Q (.int .i64 0) w1))
  (Q (.int .i64 0) w1)))))
  (∃ (n78 : Int), w1.cell? (Addr.mk w.heap.size 7 none) = some ((.int .i64 n78 : Value)) ∧
  cond (n78 != 2)
  (∃ (a79 : Option Addr) (l79 : Nat) (c79 : Nat), w1.cell? (Addr.mk w.heap.size 4 none) = some ((.slice a79 l79 c79 : Value)) ∧
  cond (decide ((((l79 : Nat) : Int)) > 0))
  (Q (.int .i64 51) w1)
  (∃ (n80 : Int), w1.cell? (Addr.mk w.heap.size 7 none) = some ((.int .i64 n80 : Value)) ∧
  cond (n80 != 1)
  (∃ (a81 : Option Addr) (l81 : Nat) (c81 : Nat), w1.cell? (Addr.mk w.heap.size 5 none) = some ((.slice a81 l81 c81 : Value)) ∧
  ∃ (a82 : Option Addr) (l82 : Nat) (c82 : Nat), w1.cell? (Addr.mk w.heap.size 6 none) = some ((.slice a82 l82 c82 : Value)) ∧
  inI ((((l81 : Nat) : Int)) + (((l82 : Nat) : Int))) ∧
  cond (decide (((((l81 : Nat) : Int)) + (((l82 : Nat) : Int))) > 0))
  (Q (.int .i64 51) w1)
  (∃ (b83 : Bool), w1.cell? (Addr.mk w.heap.size 10 none) = some ((.bool b83 : Value)) ∧
  cond b83
  (∃ (n84 : Int), w1.cell? (Addr.mk w.heap.size 7 none) = some ((.int .i64 n84 : Value)) ∧
  cond (n84 != 0)
  (Q (.int .i64 51) w1)
  (Q (.int .i64 0) w1))
  (Q (.int .i64 0) w1)))
  (∃ (b85 : Bool), w1.cell? (Addr.mk w.heap.size 10 none) = some ((.bool b85 : Value)) ∧
  cond b85
  (∃ (n86 : Int), w1.cell? (Addr.mk w.heap.size 7 none) = some ((.int .i64 n86 : Value)) ∧
  cond (n86 != 0)
  (Q (.int .i64 51) w1)
  (Q (.int .i64 0) w1))
  (Q (.int .i64 0) w1))))
  (∃ (n87 : Int), w1.cell? (Addr.mk w.heap.size 7 none) = some ((.int .i64 n87 : Value)) ∧
  cond (n87 != 1)
  (∃ (a88 : Option Addr) (l88 : Nat) (c88 : Nat), w1.cell? (Addr.mk w.heap.size 5 none) = some ((.slice a88 l88 c88 : Value)) ∧
  ∃ (a89 : Option Addr) (l89 : Nat) (c89 : Nat), w1.cell? (Addr.mk w.heap.size 6 none) = some ((.slice a89 l89 c89 : Value)) ∧
  inI ((((l88 : Nat) : Int)) + (((l89 : Nat) : Int))) ∧
  cond (decide (((((l88 : Nat) : Int)) + (((l89 : Nat) : Int))) > 0))
  (Q (.int .i64 51) w1)
  (∃ (b90 : Bool), w1.cell? (Addr.mk w.heap.size 10 none) = some ((.bool b90 : Value)) ∧
  cond b90
  (∃ (n91 : Int), w1.cell? (Addr.mk w.heap.size 7 none) = some ((.int .i64 n91 : Value)) ∧
  cond (n91 != 0)
  (Q (.int .i64 51) w1)
  (Q (.int .i64 0) w1))
  (Q (.int .i64 0) w1)))
  (∃ (b92 : Bool), w1.cell? (Addr.mk w.heap.size 10 none) = some ((.bool b92 : Value)) ∧
  cond b92
  (∃ (n93 : Int), w1.cell? (Addr.mk w.heap.size 7 none) = some ((.int .i64 n93 : Value)) ∧
  cond (n93 != 0)
  (Q (.int .i64 51) w1)
  (Q (.int .i64 0) w1))
  (Q (.int .i64 0) w1)))))))))
  (∃ (a94 : Option Addr) (l94 : Nat) (c94 : Nat), w1.cell? (Addr.mk w.heap.size 5 none) = some ((.slice a94 l94 c94 : Value)) ∧
  cond (decide ((((l94 : Nat) : Int)) > 65536))
  (Q (.int .i64 51) w1)
  (∃ (a95 : Option Addr) (l95 : Nat) (c95 : Nat), w1.cell? (Addr.mk w.heap.size 6 none) = some ((.slice a95 l95 c95 : Value)) ∧
  cond (decide ((((l95 : Nat) : Int)) > 8))
  (Q (.int .i64 51) w1)
  (∃ (n96 : Int), w1.cell? (Addr.mk w.heap.size 7 none) = some ((.int .i64 n96 : Value)) ∧
  cond (n96 == 1)
  (∃ (b97 : Bool), w1.cell? (Addr.mk w.heap.size 0 none) = some ((.bool b97 : Value)) ∧
  cond (!b97)
  (Q (.int .i64 51) w1)
  (∃ (n98 : Int), w1.cell? (Addr.mk w.heap.size 7 none) = some ((.int .i64 n98 : Value)) ∧
  cond (n98 == 2)
  (∃ (b99 : Bool), w1.cell? (Addr.mk w.heap.size 1 none) = some ((.bool b99 : Value)) ∧
  cond (!b99)
  (Q (.int .i64 51) w1)
  (∃ (n100 : Int), w1.cell? (Addr.mk w.heap.size 7 none) = some ((.int .i64 n100 : Value)) ∧
  cond (n100 != 2)
  (∃ (a101 : Option Addr) (l101 : Nat) (c101 : Nat), w1.cell? (Addr.mk w.heap.size 4 none) = some ((.slice a101 l101 c101 : Value)) ∧
  cond (decide ((((l101 : Nat) : Int)) > 0))
  (Q (.int .i64 51) w1)
  (∃ (n102 : Int), w1.cell? (Addr.mk w.heap.size 7 none) = some ((.int .i64 n102 : Value)) ∧
  cond (n102 != 1)
  (∃ (a103 : Option Addr) (l103 : Nat) (c103 : Nat), w1.cell? (Addr.mk w.heap.size 5 none) = some ((.slice a103 l103 c103 : Value)) ∧
  ∃ (a104 : Option Addr) (l104 : Nat) (c104 : Nat), w1.cell? (Addr.mk w.heap.size 6 none) = some ((.slice a104 l104 c104 : Value)) ∧
  inI ((((l103 : Nat) : Int)) + (((l104 : Nat) : Int))) ∧
  cond (decide (((((l103 : Nat) : Int)) + (((l104 : Nat) : Int))) > 0))
  (Q (.int .i64 51) w1)
  (∃ (b105 : Bool), w1.cell? (Addr.mk w.heap.size 10 none) = some ((.bool b105 : Value)) ∧
  cond b105
  (∃ (n106 : Int), w1.cell? (Addr.mk w.heap.size 7 none) = some ((.int .i64 n106 : Value)) ∧
  cond (n106 != 0)
  (Q (.int .i64 51) w1)
  (Q (.int .i64 0) w1))
  (Q (.int .i64 0) w1)))
  (∃ (b107 : Bool), w1.cell? (Addr.mk w.heap.size 10 none) = some ((.bool b107 : Value)) ∧
  cond b107
  (∃ (n108 : Int), w1.cell? (Addr.mk w.heap.size 7 none) = some ((.int .i64 n108 : Value)) ∧
  cond (n108 != 0)
  (Q (.int .i64 51) w1)
  (Q (.int .i64 0) w1))
  (Q (.int .i64 0) w1))))
  (∃ (n109 : Int), w1.cell? (Addr.mk w.heap.size 7 none) = some ((.int .i64 n109 : Value)) ∧
  cond (n109 != 1)
  (∃ (a110 : Option Addr) (l110 : Nat) (c110 : Nat), w1.cell? (Addr.mk w.heap.size 5 none) = some ((.slice a110 l110 c110 : Value)) ∧
  ∃ (a111 : Option Addr) (l111 : Nat) (c111 : Nat), w1.cell? (Addr.mk w.heap.size 6 none) = some ((.slice a111 l111 c111 : Value)) ∧
  inI ((((l110 : Nat) : Int)) + (((l111 : Nat) : Int))) ∧
  cond (decide (((((l110 : Nat) : Int)) + (((l111 : Nat) : Int))) > 0))
  (Q (.int .i64 51) w1)
  (∃ (b112 : Bool), w1.cell? (Addr.mk w.heap.size 10 none) = some ((.bool b112 : Value)) ∧
  cond b112
  (∃ (n113 : Int), w1.cell? (Addr.mk w.heap.size 7 none) = some ((.int .i64 n113 : Value)) ∧
  cond (n113 != 0)
  (Q (.int .i64 51) w1)
  (Q (.int .i64 0) w1))
  (Q (.int .i64 0) w1)))
  (∃ (b114 : Bool), w1.cell? (Addr.mk w.heap.size 10 none) = some ((.bool b114 : Value)) ∧
  cond b114
  (∃ (n115 : Int), w1.cell? (Addr.mk w.heap.size 7 none) = some ((.int .i64 n115 : Value)) ∧
  cond (n115 != 0)
  (Q (.int .i64 51) w1)
  (Q (.int .i64 0) w1))
  (Q (.int .i64 0) w1)))))
  (∃ (n116 : Int), w1.cell? (Addr.mk w.heap.size 7 none) = some ((.int .i64 n116 : Value)) ∧
  cond (n116 != 2)
  (∃ (a117 : Option Addr) (l117 : Nat) (c117 : Nat), w1.cell? (Addr.mk w.heap.size 4 none) = some ((.slice a117 l117 c117 : Value)) ∧
  cond (decide ((((l117 : Nat) : Int)) > 0))
  (Q (.int .i64 51) w1)
  (∃ (n118 : Int), w1.cell? (Addr.mk w.heap.size 7 none) = some ((.int .i64 n118 : Value)) ∧
  cond (n118 != 1)
  (∃ (a119 : Option Addr) (l119 : Nat) (c119 : Nat), w1.cell? (Addr.mk w.heap.size 5 none) = some ((.slice a119 l119 c119 : Value)) ∧
  ∃ (a120 : Option Addr) (l120 : Nat) (c120 : Nat), w1.cell? (Addr.mk w.heap.size 6 none) = some ((.slice a120 l120 c120 : Value)) ∧
  inI ((((l119 : Nat) : Int)) + (((l120 : Nat) : Int))) ∧
  cond (decide (((((l119 : Nat) : Int)) + (((l120 : Nat) : Int))) > 0))
  (Q (.int .i64 51) w1)
  (∃ (b121 : Bool), w1.cell? (Addr.mk w.heap.size 10 none) = some ((.bool b121 : Value)) ∧
  cond b121
  (∃ (n122 : Int), w1.cell? (Addr.mk w.heap.size 7 none) = some ((.int .i64 n122 : Value)) ∧
  cond (n122 != 0)
  (Q (.int .i64 51) w1)
  (Q (.int .i64 0) w1))
  (Q (.int .i64 0) w1)))
  (∃ (b123 : Bool), w1.cell? (Addr.mk w.heap.size 10 none) = some ((.bool b123 : Value)) ∧
  cond b123
  (∃ (n124 : Int), w1.cell? (Addr.mk w.heap.size 7 none) = some ((.int .i64 n124 : Value)) ∧
  cond (n124 != 0)
  (Q (.int .i64 51) w1)
  (Q (.int .i64 0) w1))
  (Q (.int .i64 0) w1))))
  (∃ (n125 : Int), w1.cell? (Addr.mk w.heap.size 7 none) = some ((.int .i64 n125 : Value)) ∧
  cond (n125 != 1)
  (∃ (a126 : Option Addr) (l126 : Nat) (c126 : Nat), w1.cell? (Addr.mk w.heap.size 5 none) = some ((.slice a126 l126 c126 : Value)) ∧
  ∃ (a127 : Option Addr) (l127 : Nat) (c127 : Nat), w1.cell? (Addr.mk w.heap.size 6 none) = some ((.slice a127 l127 c127 : Value)) ∧
  inI ((((l126 : Nat) : Int)) + (((l127 : Nat) : Int))) ∧
  cond (decide (((((l126 : Nat) : Int)) + (((l127 : Nat) : Int))) > 0))
  (Q (.int .i64 51) w1)
  (∃ (b128 : Bool), w1.cell? (Addr.mk w.heap.size 10 none) = some ((.bool b128 : Value)) ∧
  cond b128
  (∃ (n129 : Int), w1.cell? (Addr.mk w.heap.size 7 none) = some ((.int .i64 n129 : Value)) ∧
  cond (n129 != 0)
  (Q (.int .i64 51) w1)
  (Q (.int .i64 0) w1))
  (Q (.int .i64 0) w1)))
  (∃ (b130 : Bool), w1.cell? (Addr.mk w.heap.size 10 none) = some ((.bool b130 : Value)) ∧
  cond b130
  (∃ (n131 : Int), w1.cell? (Addr.mk w.heap.size 7 none) = some ((.int .i64 n131 : Value)) ∧
  cond (n131 != 0)
  (Q (.int .i64 51) w1)
  (Q (.int .i64 0) w1))
  (Q (.int .i64 0) w1))))))
  (∃ (n132 : Int), w1.cell? (Addr.mk w.heap.size 7 none) = some ((.int .i64 n132 : Value)) ∧
  cond (n132 == 2)
  (∃ (b133 : Bool), w1.cell? (Addr.mk w.heap.size 1 none) = some ((.bool b133 : Value)) ∧
  cond (!b133)
  (Q (.int .i64 51) w1)
  (∃ (n134 : Int), w1.cell? (Addr.mk w.heap.size 7 none) = some ((.int .i64 n134 : Value)) ∧
  cond (n134 != 2)
  (∃ (a135 : Option Addr) (l135 : Nat) (c135 : Nat), w1.cell? (Addr.mk w.heap.size 4 none) = some ((.slice a135 l135 c135 : Value)) ∧
  cond (decide ((((l135 : Nat) : Int)) > 0))
  (Q (.int .i64 51) w1)
  (∃ (n136 : Int), w1.cell? (Addr.mk w.heap.size 7 none) = some ((.int .i64 n136 : Value)) ∧
  cond (n136 != 1)
  (∃ (a137 : Option Addr) (l137 : Nat) (c137 : Nat), w1.cell? (Addr.mk w.heap.size 5 none) = some ((.slice a137 l137 c137 : Value)) ∧
  ∃ (a138 : Option Addr) (l138 : Nat) (c138 : Nat), w1.cell? (Addr.mk w.heap.size 6 none) = some ((.slice a138 l138 c138 : Value)) ∧
  inI ((((l137 : Nat) : Int)) + (((l138 : Nat) : Int))) ∧
  cond (decide (((((l137 : Nat) : Int)) + (((l138 : Nat) : Int))) > 0))
  (Q (.int .i64 51) w1)
  (∃ (b139 : Bool), w1.cell? (Addr.mk w.heap.size 10 none) = some ((.bool b139 : Value)) ∧
  cond b139
  (∃ (n140 : Int), w1.cell? (Addr.mk w.heap.size 7 none) = some ((.int .i64 n140 : Value)) ∧
  cond (n140 != 0)
  (Q (.int .i64 51) w1)
  (Q (.int .i64 0) w1))
  (Q (.int .i64 0) w1)))
  (∃ (b141 : Bool), w1.cell? (Addr.mk w.heap.size 10 none) = some ((.bool b141 : Value)) ∧
  cond b141
  (∃ (n142 : Int), w1.cell? (Addr.mk w.heap.size 7 none) = some ((.int .i64 n142 : Value)) ∧
  cond (n142 != 0)
  (Q (.int .i64 51) w1)
  (Q (.int .i64 0) w1))
  (Q (.int .i64 0) w1))))
  (∃ (n143 : Int), w1.cell? (Addr.mk w.heap.size 7 none) = some ((.int .i64 n143 : Value)) ∧
  cond (n143 != 1)
  (∃ (a144 : Option Addr) (l144 : Nat) (c144 : Nat), w1.cell? (Addr.mk w.heap.size 5 none) = some ((.slice a144 l144 c144 : Value)) ∧
  ∃ (a145 : Option Addr) (l145 : Nat) (c145 : Nat), w1.cell? (Addr.mk w.heap.size 6 none) = some ((.slice a145 l145 c145 : Value)) ∧
  inI ((((l144 : Nat) : Int)) + (((l145 : Nat) : Int))) ∧
  cond (decide (((((l144 : Nat) : Int)) + (((l145 : Nat) : Int))) > 0))
  (Q (.int .i64 51) w1)
  (∃ (b146 : Bool), w1.cell? (Addr.mk w.heap.size 10 none) = some ((.bool b146 : Value)) ∧
  cond b146
  (∃ (n147 : Int), w1.cell? (Addr.mk w.heap.size 7 none) = some ((.int .i64 n147 : Value)) ∧
  cond (n147 != 0)
  (Q (.int .i64 51) w1)
  (Q (.int .i64 0) w1))
  (Q (.int .i64 0) w1)))
  (∃ (b148 : Bool), w1.cell? (Addr.mk w.heap.size 10 none) = some ((.bool b148 : Value)) ∧
  cond b148
  (∃ (n149 : Int), w1.cell? (Addr.mk w.heap.size 7 none) = some ((.int .i64 n149 : Value)) ∧
  cond (n149 != 0)
  (Q (.int .i64 51) w1)
  (Q (.int .i64 0) w1))
  (Q (.int .i64 0) w1)))))
  (∃ (n150 : Int), w1.cell? (Addr.mk w.heap.size 7 none) = some ((.int .i64 n150 : Value)) ∧
  cond (n150 != 2)
  (∃ (a151 : Option Addr) (l151 : Nat) (c151 : Nat), w1.cell? (Addr.mk w.heap.size 4 none) = some ((.slice a151 l151 c151 : Value)) ∧
  cond (decide ((((l151 : Nat) : Int)) > 0))
  (Q (.int .i64 51) w1)
  (∃ (n152 : Int), w1.cell? (Addr.mk w.heap.size 7 none) = some ((.int .i64 n152 : Value)) ∧
  cond (n152 != 1)
  (∃ (a153 : Option Addr) (l153 : Nat) (c153 : Nat), w1.cell? (Addr.mk w.heap.size 5 none) = some ((.slice a153 l153 c153 : Value)) ∧
  ∃ (a154 : Option Addr) (l154 : Nat) (c154 : Nat), w1.cell? (Addr.mk w.heap.size 6 none) = some ((.slice a154 l154 c154 : Value)) ∧
  inI ((((l153 : Nat) : Int)) + (((l154 : Nat) : Int))) ∧
  cond (decide (((((l153 : Nat) : Int)) + (((l154 : Nat) : Int))) > 0))
  (Q (.int .i64 51) w1)
  (∃ (b155 : Bool), w1.cell? (Addr.mk w.heap.size 10 none) = some ((.bool b155 : Value)) ∧
  cond b155
  (∃ (n156 : Int), w1.cell? (Addr.mk w.heap.size 7 none) = some ((.int .i64 n156 : Value)) ∧
  cond (n156 != 0)
  (Q (.int .i64 51) w1)
  (Q (.int .i64 0) w1))
  (Q (.int .i64 0) w1)))
  (∃ (b157 : Bool), w1.cell? (Addr.mk w.heap.size 10 none) = some ((.bool b157 : Value)) ∧
  cond b157
  (∃ (n158 : Int), w1.cell? (Addr.mk w.heap.size 7 none) = some ((.int .i64 n158 : Value)) ∧
  cond (n158 != 0)
  (Q (.int .i64 51) w1)
  (Q (.int .i64 0) w1))
  (Q (.int .i64 0) w1))))
  (∃ (n159 : Int), w1.cell? (Addr.mk w.heap.size 7 none) = some ((.int .i64 n159 : Value)) ∧
  cond (n159 != 1)
  (∃ (a160 : Option Addr) (l160 : Nat) (c160 : Nat), w1.cell? (Addr.mk w.heap.size 5 none) = some ((.slice a160 l160 c160 : Value)) ∧
  ∃ (a161 : Option Addr) (l161 : Nat) (c161 : Nat), w1.cell? (Addr.mk w.heap.size 6 none) = some ((.slice a161 l161 c161 : Value)) ∧
  inI ((((l160 : Nat) : Int)) + (((l161 : Nat) : Int))) ∧
  cond (decide (((((l160 : Nat) : Int)) + (((l161 : Nat) : Int))) > 0))
  (Q (.int .i64 51) w1)
  (∃ (b162 : Bool), w1.cell? (Addr.mk w.heap.size 10 none) = some ((.bool b162 : Value)) ∧
  cond b162
  (∃ (n163 : Int), w1.cell? (Addr.mk w.heap.size 7 none) = some ((.int .i64 n163 : Value)) ∧
  cond (n163 != 0)
  (Q (.int .i64 51) w1)
  (Q (.int .i64 0) w1))
  (Q (.int .i64 0) w1)))
  (∃ (b164 : Bool), w1.cell? (Addr.mk w.heap.size 10 none) = some ((.bool b164 : Value)) ∧
  cond b164
  (∃ (n165 : Int), w1.cell? (Addr.mk w.heap.size 7 none) = some ((.int .i64 n165 : Value)) ∧
  cond (n165 != 0)
  (Q (.int .i64 51) w1)
  (Q (.int .i64 0) w1))
  (Q (.int .i64 0) w1)))))))))))))))
theorem C36 {b1 : Bool} {b2 : Bool} {n3 : Int} {n4 : Int} {a5 : Option Addr} {l5 : Nat} {c5 : Nat} {a6 : Option Addr} {l6 : Nat} {c6 : Nat} {a7 : Option Addr} {l7 : Nat} {c7 : Nat} {n8 : Int} {b9 : Bool} {b10 : Bool} {b11 : Bool} {Q : Value → World → Prop} {w : World} (h : L36 b1 b2 n3 n4 a5 l5 c5 a6 l6 c6 a7 l7 c7 n8 b9 b10 b11 Q w) : CallR Try.prog 36 [.agg #[.bool b1, .bool b2, .int .i64 n3, .int .i64 n4, .slice a5 l5 c5, .slice a6 l6 c6, .slice a7 l7 c7, .int .i64 n8, .bool b9, .bool b10, .bool b11]] w Q :=
  fun_calls (A := A36) mixed Try.func36 (c := (Try.f36.body).getD .skip) rfl (by kernel_rfl) (Eq.mp (by kernel_rfl) h)

/-- millrace/millraceref11.Begin -/
def A25 : Ann := ⟨[], [], [], [], [], []⟩
def L25 (b1 : Bool) (b2 : Bool) (n3 : Int) (n4 : Int) (a5 : Option Addr) (l5 : Nat) (c5 : Nat) (a6 : Option Addr) (l6 : Nat) (c6 : Nat) (a7 : Option Addr) (l7 : Nat) (c7 : Nat) (n8 : Int) (b9 : Bool) (b10 : Bool) (b11 : Bool) (Q : Value → World → Prop) (w : World) : Prop :=
  let w1 := World.alloc w (Obj.cells #[.bool b1, .bool b2, .int .i64 n3, .int .i64 n4, .slice a5 l5 c5, .slice a6 l6 c6, .slice a7 l7 c7, .int .i64 n8, .bool b9, .bool b10, .bool b11] 24);
  ∃ (b12 : Bool) (b13 : Bool) (n14 : Int) (n15 : Int) (a16 : Option Addr) (l16 : Nat) (c16 : Nat) (a17 : Option Addr) (l17 : Nat) (c17 : Nat) (a18 : Option Addr) (l18 : Nat) (c18 : Nat) (n19 : Int) (b20 : Bool) (b21 : Bool) (b22 : Bool), w1.cell? (Addr.mk w.heap.size 0 none) = some ((.bool b12 : Value)) ∧ w1.cell? (Addr.mk w.heap.size 1 none) = some ((.bool b13 : Value)) ∧ w1.cell? (Addr.mk w.heap.size 2 none) = some ((.int .i64 n14 : Value)) ∧ w1.cell? (Addr.mk w.heap.size 3 none) = some ((.int .i64 n15 : Value)) ∧ w1.cell? (Addr.mk w.heap.size 4 none) = some ((.slice a16 l16 c16 : Value)) ∧ w1.cell? (Addr.mk w.heap.size 5 none) = some ((.slice a17 l17 c17 : Value)) ∧ w1.cell? (Addr.mk w.heap.size 6 none) = some ((.slice a18 l18 c18 : Value)) ∧ w1.cell? (Addr.mk w.heap.size 7 none) = some ((.int .i64 n19 : Value)) ∧ w1.cell? (Addr.mk w.heap.size 8 none) = some ((.bool b20 : Value)) ∧ w1.cell? (Addr.mk w.heap.size 9 none) = some ((.bool b21 : Value)) ∧ w1.cell? (Addr.mk w.heap.size 10 none) = some ((.bool b22 : Value)) ∧ 
  CallR Try.prog 36 [.agg #[.bool b12, .bool b13, .int .i64 n14, .int .i64 n15, .slice a16 l16 c16, .slice a17 l17 c17, .slice a18 l18 c18, .int .i64 n19, .bool b20, .bool b21, .bool b22]] w1 (fun (r24 : Value) (w2 : World) =>
  ∃ (n23 : Int), r24 = .int .i64 n23 ∧
  cond (n23 != 0)
  (Q (.int .i64 51) w2)
  (∃ (b25 : Bool), w2.cell? (Addr.mk w.heap.size 10 none) = some ((.bool b25 : Value)) ∧
  cond b25
  (Q (.int .i64 113) w2)
  (Q (.int .i64 0) w2)))
theorem C25 {b1 : Bool} {b2 : Bool} {n3 : Int} {n4 : Int} {a5 : Option Addr} {l5 : Nat} {c5 : Nat} {a6 : Option Addr} {l6 : Nat} {c6 : Nat} {a7 : Option Addr} {l7 : Nat} {c7 : Nat} {n8 : Int} {b9 : Bool} {b10 : Bool} {b11 : Bool} {Q : Value → World → Prop} {w : World} (h : L25 b1 b2 n3 n4 a5 l5 c5 a6 l6 c6 a7 l7 c7 n8 b9 b10 b11 Q w) : CallR Try.prog 25 [.agg #[.bool b1, .bool b2, .int .i64 n3, .int .i64 n4, .slice a5 l5 c5, .slice a6 l6 c6, .slice a7 l7 c7, .int .i64 n8, .bool b9, .bool b10, .bool b11]] w Q :=
  fun_calls (A := A25) mixed Try.func25 (c := (Try.f25.body).getD .skip) rfl (by kernel_rfl) (Eq.mp (by kernel_rfl) h)

/-- millrace/millraceref13.UngetAll -/
def A11 : Ann := ⟨[(14, [(8, .one (.int .i64))])], [], [], [], [(16, [0, 1, 2, 3, 4, 5, 6], 7, [8, 9])], []⟩
def L11 (b1 : Bool) (b2 : Bool) (n3 : Int) (n4 : Int) (a5 : Option Addr) (l5 : Nat) (c5 : Nat) (a6 : Option Addr) (l6 : Nat) (c6 : Nat) (a7 : Option Addr) (l7 : Nat) (c7 : Nat) (n8 : Int) (b9 : Bool) (b10 : Bool) (b11 : Bool) (a12 : Option Addr) (l12 : Nat) (c12 : Nat) (Q : Value → World → Prop) (w : World) : Prop :=
  let w1 := World.alloc w (Obj.cells #[.bool b1, .bool b2, .int .i64 n3, .int .i64 n4, .slice a5 l5 c5, .slice a6 l6 c6, .slice a7 l7 c7, .int .i64 n8, .bool b9, .bool b10, .bool b11] 24);
  let w2 := World.alloc w1 (Obj.cells #[.bool false, .bool false, .int .i64 0, .int .i64 0, .slice none 0 0, .slice none 0 0, .slice none 0 0, .int .i64 0, .bool false, .bool false, .bool false] 24);
  ∃ (b13 : Bool) (b14 : Bool) (n15 : Int) (n16 : Int) (a17 : Option Addr) (l17 : Nat) (c17 : Nat) (a18 : Option Addr) (l18 : Nat) (c18 : Nat) (a19 : Option Addr) (l19 : Nat) (c19 : Nat) (n20 : Int) (b21 : Bool) (b22 : Bool) (b23 : Bool), w2.cell? (Addr.mk w.heap.size 0 none) = some ((.bool b13 : Value)) ∧ w2.cell? (Addr.mk w.heap.size 1 none) = some ((.bool b14 : Value)) ∧ w2.cell? (Addr.mk w.heap.size 2 none) = some ((.int .i64 n15 : Value)) ∧ w2.cell? (Addr.mk w.heap.size 3 none) = some ((.int .i64 n16 : Value)) ∧ w2.cell? (Addr.mk w.heap.size 4 none) = some ((.slice a17 l17 c17 : Value)) ∧ w2.cell? (Addr.mk w.heap.size 5 none) = some ((.slice a18 l18 c18 : Value)) ∧ w2.cell? (Addr.mk w.heap.size 6 none) = some ((.slice a19 l19 c19 : Value)) ∧ w2.cell? (Addr.mk w.heap.size 7 none) = some ((.int .i64 n20 : Value)) ∧ w2.cell? (Addr.mk w.heap.size 8 none) = some ((.bool b21 : Value)) ∧ w2.cell? (Addr.mk w.heap.size 9 none) = some ((.bool b22 : Value)) ∧ w2.cell? (Addr.mk w.heap.size 10 none) = some ((.bool b23 : Value)) ∧ 
  CallR Try.prog 22 [.agg #[.bool b13, .bool b14, .int .i64 n15, .int .i64 n16, .slice a17 l17 c17, .slice a18 l18 c18, .slice a19 l19 c19, .int .i64 n20, .bool b21, .bool b22, .bool b23]] w2 (fun (r35 : Value) (w3 : World) =>
  ∃ (b24 : Bool) (b25 : Bool) (n26 : Int) (n27 : Int) (a28 : Option Addr) (l28 : Nat) (c28 : Nat) (a29 : Option Addr) (l29 : Nat) (c29 : Nat) (a30 : Option Addr) (l30 : Nat) (c30 : Nat) (n31 : Int) (b32 : Bool) (b33 : Bool) (b34 : Bool), r35 = .agg #[.bool b24, .bool b25, .int .i64 n26, .int .i64 n27, .slice a28 l28 c28, .slice a29 l29 c29, .slice a30 l30 c30, .int .i64 n31, .bool b32, .bool b33, .bool b34] ∧
  let w4 := World.alloc w3 (Obj.cells #[.bool false, .bool false, .int .i64 0, .int .i64 0, .slice none 0 0, .slice none 0 0, .slice none 0 0, .int .i64 0, .bool false, .bool false, .bool false] 24);
  stC (Addr.mk w3.heap.size 0 none) (.bool b24) w4 (fun (w5 : World) =>
  stC (Addr.mk w3.heap.size 1 none) (.bool b25) w5 (fun (w6 : World) =>
  stC (Addr.mk w3.heap.size 2 none) (.int .i64 n26) w6 (fun (w7 : World) =>
  stC (Addr.mk w3.heap.size 3 none) (.int .i64 n27) w7 (fun (w8 : World) =>
  stC (Addr.mk w3.heap.size 4 none) (.slice a28 l28 c28) w8 (fun (w9 : World) =>
  stC (Addr.mk w3.heap.size 5 none) (.slice a29 l29 c29) w9 (fun (w10 : World) =>
  stC (Addr.mk w3.heap.size 6 none) (.slice a30 l30 c30) w10 (fun (w11 : World) =>
  stC (Addr.mk w3.heap.size 7 none) (.int .i64 n31) w11 (fun (w12 : World) =>
  stC (Addr.mk w3.heap.size 8 none) (.bool b32) w12 (fun (w13 : World) =>
  stC (Addr.mk w3.heap.size 9 none) (.bool b33) w13 (fun (w14 : World) =>
  stC (Addr.mk w3.heap.size 10 none) (.bool b34) w14 (fun (w15 : World) =>
  ∃ (b36 : Bool) (b37 : Bool) (n38 : Int) (n39 : Int) (a40 : Option Addr) (l40 : Nat) (c40 : Nat) (a41 : Option Addr) (l41 : Nat) (c41 : Nat) (a42 : Option Addr) (l42 : Nat) (c42 : Nat) (n43 : Int) (b44 : Bool) (b45 : Bool) (b46 : Bool), w15.cell? (Addr.mk w3.heap.size 0 none) = some ((.bool b36 : Value)) ∧ w15.cell? (Addr.mk w3.heap.size 1 none) = some ((.bool b37 : Value)) ∧ w15.cell? (Addr.mk w3.heap.size 2 none) = some ((.int .i64 n38 : Value)) ∧ w15.cell? (Addr.mk w3.heap.size 3 none) = some ((.int .i64 n39 : Value)) ∧ w15.cell? (Addr.mk w3.heap.size 4 none) = some ((.slice a40 l40 c40 : Value)) ∧ w15.cell? (Addr.mk w3.heap.size 5 none) = some ((.slice a41 l41 c41 : Value)) ∧ w15.cell? (Addr.mk w3.heap.size 6 none) = some ((.slice a42 l42 c42 : Value)) ∧ w15.cell? (Addr.mk w3.heap.size 7 none) = some ((.int .i64 n43 : Value)) ∧ w15.cell? (Addr.mk w3.heap.size 8 none) = some ((.bool b44 : Value)) ∧ w15.cell? (Addr.mk w3.heap.size 9 none) = some ((.bool b45 : Value)) ∧ w15.cell? (Addr.mk w3.heap.size 10 none) = some ((.bool b46 : Value)) ∧ 
  CallR Try.prog 25 [.agg #[.bool b36, .bool b37, .int .i64 n38, .int .i64 n39, .slice a40 l40 c40, .slice a41 l41 c41, .slice a42 l42 c42, .int .i64 n43, .bool b44, .bool b45, .bool b46]] w15 (fun (r48 : Value) (w16 : World) =>
  ∃ (n47 : Int), r48 = .int .i64 n47 ∧
  cond (n47 != 0)
  (∃ (b49 : Bool) (b50 : Bool) (n51 : Int) (n52 : Int) (a53 : Option Addr) (l53 : Nat) (c53 : Nat) (a54 : Option Addr) (l54 : Nat) (c54 : Nat) (a55 : Option Addr) (l55 : Nat) (c55 : Nat) (n56 : Int) (b57 : Bool) (b58 : Bool) (b59 : Bool), w16.cell? (Addr.mk w3.heap.size 0 none) = some ((.bool b49 : Value)) ∧ w16.cell? (Addr.mk w3.heap.size 1 none) = some ((.bool b50 : Value)) ∧ w16.cell? (Addr.mk w3.heap.size 2 none) = some ((.int .i64 n51 : Value)) ∧ w16.cell? (Addr.mk w3.heap.size 3 none) = some ((.int .i64 n52 : Value)) ∧ w16.cell? (Addr.mk w3.heap.size 4 none) = some ((.slice a53 l53 c53 : Value)) ∧ w16.cell? (Addr.mk w3.heap.size 5 none) = some ((.slice a54 l54 c54 : Value)) ∧ w16.cell? (Addr.mk w3.heap.size 6 none) = some ((.slice a55 l55 c55 : Value)) ∧ w16.cell? (Addr.mk w3.heap.size 7 none) = some ((.int .i64 n56 : Value)) ∧ w16.cell? (Addr.mk w3.heap.size 8 none) = some ((.bool b57 : Value)) ∧ w16.cell? (Addr.mk w3.heap.size 9 none) = some ((.bool b58 : Value)) ∧ w16.cell? (Addr.mk w3.heap.size 10 none) = some ((.bool b59 : Value)) ∧ 
  stC (Addr.mk w1.heap.size 0 none) (.bool b49) w16 (fun (w17 : World) =>
  stC (Addr.mk w1.heap.size 1 none) (.bool b50) w17 (fun (w18 : World) =>
  stC (Addr.mk w1.heap.size 2 none) (.int .i64 n51) w18 (fun (w19 : World) =>
  stC (Addr.mk w1.heap.size 3 none) (.int .i64 n52) w19 (fun (w20 : World) =>
  stC (Addr.mk w1.heap.size 4 none) (.slice a53 l53 c53) w20 (fun (w21 : World) =>
  stC (Addr.mk w1.heap.size 5 none) (.slice a54 l54 c54) w21 (fun (w22 : World) =>
  stC (Addr.mk w1.heap.size 6 none) (.slice a55 l55 c55) w22 (fun (w23 : World) =>
  stC (Addr.mk w1.heap.size 7 none) (.int .i64 n56) w23 (fun (w24 : World) =>
  stC (Addr.mk w1.heap.size 8 none) (.bool b57) w24 (fun (w25 : World) =>
  stC (Addr.mk w1.heap.size 9 none) (.bool b58) w25 (fun (w26 : World) =>
  stC (Addr.mk w1.heap.size 10 none) (.bool b59) w26 (fun (w27 : World) =>
  ∃ (b60 : Bool) (b61 : Bool) (n62 : Int) (n63 : Int) (a64 : Option Addr) (l64 : Nat) (c64 : Nat) (a65 : Option Addr) (l65 : Nat) (c65 : Nat) (a66 : Option Addr) (l66 : Nat) (c66 : Nat) (n67 : Int) (b68 : Bool) (b69 : Bool) (b70 : Bool), w27.cell? (Addr.mk w1.heap.size 0 none) = some ((.bool b60 : Value)) ∧ w27.cell? (Addr.mk w1.heap.size 1 none) = some ((.bool b61 : Value)) ∧ w27.cell? (Addr.mk w1.heap.size 2 none) = some ((.int .i64 n62 : Value)) ∧ w27.cell? (Addr.mk w1.heap.size 3 none) = some ((.int .i64 n63 : Value)) ∧ w27.cell? (Addr.mk w1.heap.size 4 none) = some ((.slice a64 l64 c64 : Value)) ∧ w27.cell? (Addr.mk w1.heap.size 5 none) = some ((.slice a65 l65 c65 : Value)) ∧ w27.cell? (Addr.mk w1.heap.size 6 none) = some ((.slice a66 l66 c66 : Value)) ∧ w27.cell? (Addr.mk w1.heap.size 7 none) = some ((.int .i64 n67 : Value)) ∧ w27.cell? (Addr.mk w1.heap.size 8 none) = some ((.bool b68 : Value)) ∧ w27.cell? (Addr.mk w1.heap.size 9 none) = some ((.bool b69 : Value)) ∧ w27.cell? (Addr.mk w1.heap.size 10 none) = some ((.bool b70 : Value)) ∧ 
  Q (.tuple #[.agg #[.bool b60, .bool b61, .int .i64 n62, .int .i64 n63, .slice a64 l64 c64, .slice a65 l65 c65, .slice a66 l66 c66, .int .i64 n67, .bool b68, .bool b69, .bool b70], .int .i64 n47]) w27))))))))))))
  (∃ (b71 : Bool), w16.cell? (Addr.mk w3.heap.size 0 none) = some ((.bool b71 : Value)) ∧
  cond (!b71)
  (∃ (b72 : Bool) (b73 : Bool) (n74 : Int) (n75 : Int) (a76 : Option Addr) (l76 : Nat) (c76 : Nat) (a77 : Option Addr) (l77 : Nat) (c77 : Nat) (a78 : Option Addr) (l78 : Nat) (c78 : Nat) (n79 : Int) (b80 : Bool) (b81 : Bool) (b82 : Bool), w16.cell? (Addr.mk w3.heap.size 0 none) = some ((.bool b72 : Value)) ∧ w16.cell? (Addr.mk w3.heap.size 1 none) = some ((.bool b73 : Value)) ∧ w16.cell? (Addr.mk w3.heap.size 2 none) = some ((.int .i64 n74 : Value)) ∧ w16.cell? (Addr.mk w3.heap.size 3 none) = some ((.int .i64 n75 : Value)) ∧ w16.cell? (Addr.mk w3.heap.size 4 none) = some ((.slice a76 l76 c76 : Value)) ∧ w16.cell? (Addr.mk w3.heap.size 5 none) = some ((.slice a77 l77 c77 : Value)) ∧ w16.cell? (Addr.mk w3.heap.size 6 none) = some ((.slice a78 l78 c78 : Value)) ∧ w16.cell? (Addr.mk w3.heap.size 7 none) = some ((.int .i64 n79 : Value)) ∧ w16.cell? (Addr.mk w3.heap.size 8 none) = some ((.bool b80 : Value)) ∧ w16.cell? (Addr.mk w3.heap.size 9 none) = some ((.bool b81 : Value)) ∧ w16.cell? (Addr.mk w3.heap.size 10 none) = some ((.bool b82 : Value)) ∧ 
  stC (Addr.mk w1.heap.size 0 none) (.bool b72) w16 (fun (w28 : World) =>
  stC (Addr.mk w1.heap.size 1 none) (.bool b73) w28 (fun (w29 : World) =>
  stC (Addr.mk w1.heap.size 2 none) (.int .i64 n74) w29 (fun (w30 : World) =>
  stC (Addr.mk w1.heap.size 3 none) (.int .i64 n75) w30 (fun (w31 : World) =>
  stC (Addr.mk w1.heap.size 4 none) (.slice a76 l76 c76) w31 (fun (w32 : World) =>
  stC (Addr.mk w1.heap.size 5 none) (.slice a77 l77 c77) w32 (fun (w33 : World) =>
  stC (Addr.mk w1.heap.size 6 none) (.slice a78 l78 c78) w33 (fun (w34 : World) =>
  stC (Addr.mk w1.heap.size 7 none) (.int .i64 n79) w34 (fun (w35 : World) =>
  stC (Addr.mk w1.heap.size 8 none) (.bool b80) w35 (fun (w36 : World) =>
  stC (Addr.mk w1.heap.size 9 none) (.bool b81) w36 (fun (w37 : World) =>
  stC (Addr.mk w1.heap.size 10 none) (.bool b82) w37 (fun (w38 : World) =>
  ∃ (b83 : Bool) (b84 : Bool) (n85 : Int) (n86 : Int) (a87 : Option Addr) (l87 : Nat) (c87 : Nat) (a88 : Option Addr) (l88 : Nat) (c88 : Nat) (a89 : Option Addr) (l89 : Nat) (c89 : Nat) (n90 : Int) (b91 : Bool) (b92 : Bool) (b93 : Bool), w38.cell? (Addr.mk w1.heap.size 0 none) = some ((.bool b83 : Value)) ∧ w38.cell? (Addr.mk w1.heap.size 1 none) = some ((.bool b84 : Value)) ∧ w38.cell? (Addr.mk w1.heap.size 2 none) = some ((.int .i64 n85 : Value)) ∧ w38.cell? (Addr.mk w1.heap.size 3 none) = some ((.int .i64 n86 : Value)) ∧ w38.cell? (Addr.mk w1.heap.size 4 none) = some ((.slice a87 l87 c87 : Value)) ∧ w38.cell? (Addr.mk w1.heap.size 5 none) = some ((.slice a88 l88 c88 : Value)) ∧ w38.cell? (Addr.mk w1.heap.size 6 none) = some ((.slice a89 l89 c89 : Value)) ∧ w38.cell? (Addr.mk w1.heap.size 7 none) = some ((.int .i64 n90 : Value)) ∧ w38.cell? (Addr.mk w1.heap.size 8 none) = some ((.bool b91 : Value)) ∧ w38.cell? (Addr.mk w1.heap.size 9 none) = some ((.bool b92 : Value)) ∧ w38.cell? (Addr.mk w1.heap.size 10 none) = some ((.bool b93 : Value)) ∧ 
  Q (.tuple #[.agg #[.bool b83, .bool b84, .int .i64 n85, .int .i64 n86, .slice a87 l87 c87, .slice a88 l88 c88, .slice a89 l89 c89, .int .i64 n90, .bool b91, .bool b92, .bool b93], .int .i64 65]) w38))))))))))))
  (∃ (n94 : Int), w16.cell? (Addr.mk w3.heap.size 7 none) = some ((.int .i64 n94 : Value)) ∧
  cond (n94 == 2)
  (∃ (b95 : Bool) (b96 : Bool) (n97 : Int) (n98 : Int) (a99 : Option Addr) (l99 : Nat) (c99 : Nat) (a100 : Option Addr) (l100 : Nat) (c100 : Nat) (a101 : Option Addr) (l101 : Nat) (c101 : Nat) (n102 : Int) (b103 : Bool) (b104 : Bool) (b105 : Bool), w16.cell? (Addr.mk w3.heap.size 0 none) = some ((.bool b95 : Value)) ∧ w16.cell? (Addr.mk w3.heap.size 1 none) = some ((.bool b96 : Value)) ∧ w16.cell? (Addr.mk w3.heap.size 2 none) = some ((.int .i64 n97 : Value)) ∧ w16.cell? (Addr.mk w3.heap.size 3 none) = some ((.int .i64 n98 : Value)) ∧ w16.cell? (Addr.mk w3.heap.size 4 none) = some ((.slice a99 l99 c99 : Value)) ∧ w16.cell? (Addr.mk w3.heap.size 5 none) = some ((.slice a100 l100 c100 : Value)) ∧ w16.cell? (Addr.mk w3.heap.size 6 none) = some ((.slice a101 l101 c101 : Value)) ∧ w16.cell? (Addr.mk w3.heap.size 7 none) = some ((.int .i64 n102 : Value)) ∧ w16.cell? (Addr.mk w3.heap.size 8 none) = some ((.bool b103 : Value)) ∧ w16.cell? (Addr.mk w3.heap.size 9 none) = some ((.bool b104 : Value)) ∧ w16.cell? (Addr.mk w3.heap.size 10 none) = some ((.bool b105 : Value)) ∧ 
  stC (Addr.mk w1.heap.size 0 none) (.bool b95) w16 (fun (w39 : World) =>
  stC (Addr.mk w1.heap.size 1 none) (.bool b96) w39 (fun (w40 : World) =>
  stC (Addr.mk w1.heap.size 2 none) (.int .i64 n97) w40 (fun (w41 : World) =>
  stC (Addr.mk w1.heap.size 3 none) (.int .i64 n98) w41 (fun (w42 : World) =>
  stC (Addr.mk w1.heap.size 4 none) (.slice a99 l99 c99) w42 (fun (w43 : World) =>
  stC (Addr.mk w1.heap.size 5 none) (.slice a100 l100 c100) w43 (fun (w44 : World) =>
  stC (Addr.mk w1.heap.size 6 none) (.slice a101 l101 c101) w44 (fun (w45 : World) =>
  stC (Addr.mk w1.heap.size 7 none) (.int .i64 n102) w45 (fun (w46 : World) =>
  stC (Addr.mk w1.heap.size 8 none) (.bool b103) w46 (fun (w47 : World) =>
  stC (Addr.mk w1.heap.size 9 none) (.bool b104) w47 (fun (w48 : World) =>
  stC (Addr.mk w1.heap.size 10 none) (.bool b105) w48 (fun (w49 : World) =>
  ∃ (b106 : Bool) (b107 : Bool) (n108 : Int) (n109 : Int) (a110 : Option Addr) (l110 : Nat) (c110 : Nat) (a111 : Option Addr) (l111 : Nat) (c111 : Nat) (a112 : Option Addr) (l112 : Nat) (c112 : Nat) (n113 : Int) (b114 : Bool) (b115 : Bool) (b116 : Bool), w49.cell? (Addr.mk w1.heap.size 0 none) = some ((.bool b106 : Value)) ∧ w49.cell? (Addr.mk w1.heap.size 1 none) = some ((.bool b107 : Value)) ∧ w49.cell? (Addr.mk w1.heap.size 2 none) = some ((.int .i64 n108 : Value)) ∧ w49.cell? (Addr.mk w1.heap.size 3 none) = some ((.int .i64 n109 : Value)) ∧ w49.cell? (Addr.mk w1.heap.size 4 none) = some ((.slice a110 l110 c110 : Value)) ∧ w49.cell? (Addr.mk w1.heap.size 5 none) = some ((.slice a111 l111 c111 : Value)) ∧ w49.cell? (Addr.mk w1.heap.size 6 none) = some ((.slice a112 l112 c112 : Value)) ∧ w49.cell? (Addr.mk w1.heap.size 7 none) = some ((.int .i64 n113 : Value)) ∧ w49.cell? (Addr.mk w1.heap.size 8 none) = some ((.bool b114 : Value)) ∧ w49.cell? (Addr.mk w1.heap.size 9 none) = some ((.bool b115 : Value)) ∧ w49.cell? (Addr.mk w1.heap.size 10 none) = some ((.bool b116 : Value)) ∧ 
  Q (.tuple #[.agg #[.bool b106, .bool b107, .int .i64 n108, .int .i64 n109, .slice a110 l110 c110, .slice a111 l111 c111, .slice a112 l112 c112, .int .i64 n113, .bool b114, .bool b115, .bool b116], .int .i64 112]) w49))))))))))))
  (∃ (a117 : Option Addr) (l117 : Nat) (c117 : Nat), w16.cell? (Addr.mk w3.heap.size 6 none) = some ((.slice a117 l117 c117 : Value)) ∧
  inI ((8 : Int) - (((l117 : Nat) : Int))) ∧
  cond (decide ((((l12 : Nat) : Int)) > ((8 : Int) - (((l117 : Nat) : Int)))))
  (∃ (b118 : Bool) (b119 : Bool) (n120 : Int) (n121 : Int) (a122 : Option Addr) (l122 : Nat) (c122 : Nat) (a123 : Option Addr) (l123 : Nat) (c123 : Nat) (a124 : Option Addr) (l124 : Nat) (c124 : Nat) (n125 : Int) (b126 : Bool) (b127 : Bool) (b128 : Bool), w16.cell? (Addr.mk w3.heap.size 0 none) = some ((.bool b118 : Value)) ∧ w16.cell? (Addr.mk w3.heap.size 1 none) = some ((.bool b119 : Value)) ∧ w16.cell? (Addr.mk w3.heap.size 2 none) = some ((.int .i64 n120 : Value)) ∧ w16.cell? (Addr.mk w3.heap.size 3 none) = some ((.int .i64 n121 : Value)) ∧ w16.cell? (Addr.mk w3.heap.size 4 none) = some ((.slice a122 l122 c122 : Value)) ∧ w16.cell? (Addr.mk w3.heap.size 5 none) = some ((.slice a123 l123 c123 : Value)) ∧ w16.cell? (Addr.mk w3.heap.size 6 none) = some ((.slice a124 l124 c124 : Value)) ∧ w16.cell? (Addr.mk w3.heap.size 7 none) = some ((.int .i64 n125 : Value)) ∧ w16.cell? (Addr.mk w3.heap.size 8 none) = some ((.bool b126 : Value)) ∧ w16.cell? (Addr.mk w3.heap.size 9 none) = some ((.bool b127 : Value)) ∧ w16.cell? (Addr.mk w3.heap.size 10 none) = some ((.bool b128 : Value)) ∧ 
  stC (Addr.mk w1.heap.size 0 none) (.bool b118) w16 (fun (w50 : World) =>
  stC (Addr.mk w1.heap.size 1 none) (.bool b119) w50 (fun (w51 : World) =>
  stC (Addr.mk w1.heap.size 2 none) (.int .i64 n120) w51 (fun (w52 : World) =>
  stC (Addr.mk w1.heap.size 3 none) (.int .i64 n121) w52 (fun (w53 : World) =>
  stC (Addr.mk w1.heap.size 4 none) (.slice a122 l122 c122) w53 (fun (w54 : World) =>
  stC (Addr.mk w1.heap.size 5 none) (.slice a123 l123 c123) w54 (fun (w55 : World) =>
  stC (Addr.mk w1.heap.size 6 none) (.slice a124 l124 c124) w55 (fun (w56 : World) =>
  stC (Addr.mk w1.heap.size 7 none) (.int .i64 n125) w56 (fun (w57 : World) =>
  stC (Addr.mk w1.heap.size 8 none) (.bool b126) w57 (fun (w58 : World) =>
  stC (Addr.mk w1.heap.size 9 none) (.bool b127) w58 (fun (w59 : World) =>
  stC (Addr.mk w1.heap.size 10 none) (.bool b128) w59 (fun (w60 : World) =>
  ∃ (b129 : Bool) (b130 : Bool) (n131 : Int) (n132 : Int) (a133 : Option Addr) (l133 : Nat) (c133 : Nat) (a134 : Option Addr) (l134 : Nat) (c134 : Nat) (a135 : Option Addr) (l135 : Nat) (c135 : Nat) (n136 : Int) (b137 : Bool) (b138 : Bool) (b139 : Bool), w60.cell? (Addr.mk w1.heap.size 0 none) = some ((.bool b129 : Value)) ∧ w60.cell? (Addr.mk w1.heap.size 1 none) = some ((.bool b130 : Value)) ∧ w60.cell? (Addr.mk w1.heap.size 2 none) = some ((.int .i64 n131 : Value)) ∧ w60.cell? (Addr.mk w1.heap.size 3 none) = some ((.int .i64 n132 : Value)) ∧ w60.cell? (Addr.mk w1.heap.size 4 none) = some ((.slice a133 l133 c133 : Value)) ∧ w60.cell? (Addr.mk w1.heap.size 5 none) = some ((.slice a134 l134 c134 : Value)) ∧ w60.cell? (Addr.mk w1.heap.size 6 none) = some ((.slice a135 l135 c135 : Value)) ∧ w60.cell? (Addr.mk w1.heap.size 7 none) = some ((.int .i64 n136 : Value)) ∧ w60.cell? (Addr.mk w1.heap.size 8 none) = some ((.bool b137 : Value)) ∧ w60.cell? (Addr.mk w1.heap.size 9 none) = some ((.bool b138 : Value)) ∧ w60.cell? (Addr.mk w1.heap.size 10 none) = some ((.bool b139 : Value)) ∧ 
  Q (.tuple #[.agg #[.bool b129, .bool b130, .int .i64 n131, .int .i64 n132, .slice a133 l133 c133, .slice a134 l134 c134, .slice a135 l135 c135, .int .i64 n136, .bool b137, .bool b138, .bool b139], .int .i64 31]) w60))))))))))))
  (cond ((((l12 : Nat) : Int)) == 0)
  (∃ (b140 : Bool) (b141 : Bool) (n142 : Int) (n143 : Int) (a144 : Option Addr) (l144 : Nat) (c144 : Nat) (a145 : Option Addr) (l145 : Nat) (c145 : Nat) (a146 : Option Addr) (l146 : Nat) (c146 : Nat) (n147 : Int) (b148 : Bool) (b149 : Bool) (b150 : Bool), w16.cell? (Addr.mk w3.heap.size 0 none) = some ((.bool b140 : Value)) ∧ w16.cell? (Addr.mk w3.heap.size 1 none) = some ((.bool b141 : Value)) ∧ w16.cell? (Addr.mk w3.heap.size 2 none) = some ((.int .i64 n142 : Value)) ∧ w16.cell? (Addr.mk w3.heap.size 3 none) = some ((.int .i64 n143 : Value)) ∧ w16.cell? (Addr.mk w3.heap.size 4 none) = some ((.slice a144 l144 c144 : Value)) ∧ w16.cell? (Addr.mk w3.heap.size 5 none) = some ((.slice a145 l145 c145 : Value)) ∧ w16.cell? (Addr.mk w3.heap.size 6 none) = some ((.slice a146 l146 c146 : Value)) ∧ w16.cell? (Addr.mk w3.heap.size 7 none) = some ((.int .i64 n147 : Value)) ∧ w16.cell? (Addr.mk w3.heap.size 8 none) = some ((.bool b148 : Value)) ∧ w16.cell? (Addr.mk w3.heap.size 9 none) = some ((.bool b149 : Value)) ∧ w16.cell? (Addr.mk w3.heap.size 10 none) = some ((.bool b150 : Value)) ∧ 
  stC (Addr.mk w1.heap.size 0 none) (.bool b140) w16 (fun (w61 : World) =>
  stC (Addr.mk w1.heap.size 1 none) (.bool b141) w61 (fun (w62 : World) =>
  stC (Addr.mk w1.heap.size 2 none) (.int .i64 n142) w62 (fun (w63 : World) =>
  stC (Addr.mk w1.heap.size 3 none) (.int .i64 n143) w63 (fun (w64 : World) =>
  stC (Addr.mk w1.heap.size 4 none) (.slice a144 l144 c144) w64 (fun (w65 : World) =>
  stC (Addr.mk w1.heap.size 5 none) (.slice a145 l145 c145) w65 (fun (w66 : World) =>
  stC (Addr.mk w1.heap.size 6 none) (.slice a146 l146 c146) w66 (fun (w67 : World) =>
  stC (Addr.mk w1.heap.size 7 none) (.int .i64 n147) w67 (fun (w68 : World) =>
  stC (Addr.mk w1.heap.size 8 none) (.bool b148) w68 (fun (w69 : World) =>
  stC (Addr.mk w1.heap.size 9 none) (.bool b149) w69 (fun (w70 : World) =>
  stC (Addr.mk w1.heap.size 10 none) (.bool b150) w70 (fun (w71 : World) =>
  ∃ (b151 : Bool) (b152 : Bool) (n153 : Int) (n154 : Int) (a155 : Option Addr) (l155 : Nat) (c155 : Nat) (a156 : Option Addr) (l156 : Nat) (c156 : Nat) (a157 : Option Addr) (l157 : Nat) (c157 : Nat) (n158 : Int) (b159 : Bool) (b160 : Bool) (b161 : Bool), w71.cell? (Addr.mk w1.heap.size 0 none) = some ((.bool b151 : Value)) ∧ w71.cell? (Addr.mk w1.heap.size 1 none) = some ((.bool b152 : Value)) ∧ w71.cell? (Addr.mk w1.heap.size 2 none) = some ((.int .i64 n153 : Value)) ∧ w71.cell? (Addr.mk w1.heap.size 3 none) = some ((.int .i64 n154 : Value)) ∧ w71.cell? (Addr.mk w1.heap.size 4 none) = some ((.slice a155 l155 c155 : Value)) ∧ w71.cell? (Addr.mk w1.heap.size 5 none) = some ((.slice a156 l156 c156 : Value)) ∧ w71.cell? (Addr.mk w1.heap.size 6 none) = some ((.slice a157 l157 c157 : Value)) ∧ w71.cell? (Addr.mk w1.heap.size 7 none) = some ((.int .i64 n158 : Value)) ∧ w71.cell? (Addr.mk w1.heap.size 8 none) = some ((.bool b159 : Value)) ∧ w71.cell? (Addr.mk w1.heap.size 9 none) = some ((.bool b160 : Value)) ∧ w71.cell? (Addr.mk w1.heap.size 10 none) = some ((.bool b161 : Value)) ∧ 
  Q (.tuple #[.agg #[.bool b151, .bool b152, .int .i64 n153, .int .i64 n154, .slice a155 l155 c155, .slice a156 l156 c156, .slice a157 l157 c157, .int .i64 n158, .bool b159, .bool b160, .bool b161], .int .i64 0]) w71))))))))))))
  (inI ((((l12 : Nat) : Int)) - 1) ∧
  ∃ (I162 : List Value → World → Prop) (mu163 : List Value → World → Nat),
  I162 [.int .i64 ((((l12 : Nat) : Int)) - 1)] w16 ∧
  ∀ (_ : Env) (n164 : Int) (w72 : World), I162 [.int .i64 n164] w72 →
  cond (decide (n164 ≥ 0))
  (∃ (S165 : World → Prop), S165 (World.drew w72) ∧
  let w73 := World.drew w72;
  ∃ (a166 : Option Addr) (l166 : Nat) (c166 : Nat), (∀ wS : World, S165 wS → wS.cell? (Addr.mk w3.heap.size 6 none) = some ((.slice a166 l166 c166 : Value))) ∧
  (0 ≤ (n164 : Int) ∧ (n164 : Int) < ((l12 : Nat) : Int)) ∧
  nn a12 (fun (q167 : Addr) =>
  ∃ (n168 : Int), (∀ wS : World, S165 wS → wS.cell? (Addr.add q167 (Int.toNat n164)) = some ((.int .u8 n168 : Value))) ∧
  let w74 := World.alloc w73 (Obj.cells #[.int .u8 n168] 5);
  S165 w74 ∧
  ∃ (a169 : Option Addr) (l169 : Nat) (c169 : Nat) (w75 : World), Sem.run Try.prog (Builtin.append_ #[22, 22] 22 #[.slice a166 l166 c166, .slice (some (Addr.mk w73.heap.size 0 none)) 1 1]) w74 = .ok ((.slice a169 l169 c169 : Value)) w75 ∧
  stC (Addr.mk w3.heap.size 6 none) (.slice a169 l169 c169) w75 (fun (w76 : World) =>
  inI (n164 - 1) ∧
  I162 [.int .i64 (n164 - 1)] w76 ∧ mu163 [.int .i64 (n164 - 1)] w76 < mu163 [.int .i64 n164] w72)))
  (stC (Addr.mk w3.heap.size 7 none) (.int .i64 1) w72 (fun (w77 : World) =>
  stC (Addr.mk w3.heap.size 8 none) (.bool false) w77 (fun (w78 : World) =>
  ∃ (b170 : Bool) (b171 : Bool) (n172 : Int) (n173 : Int) (a174 : Option Addr) (l174 : Nat) (c174 : Nat) (a175 : Option Addr) (l175 : Nat) (c175 : Nat) (a176 : Option Addr) (l176 : Nat) (c176 : Nat) (n177 : Int) (b178 : Bool) (b179 : Bool) (b180 : Bool), w78.cell? (Addr.mk w3.heap.size 0 none) = some ((.bool b170 : Value)) ∧ w78.cell? (Addr.mk w3.heap.size 1 none) = some ((.bool b171 : Value)) ∧ w78.cell? (Addr.mk w3.heap.size 2 none) = some ((.int .i64 n172 : Value)) ∧ w78.cell? (Addr.mk w3.heap.size 3 none) = some ((.int .i64 n173 : Value)) ∧ w78.cell? (Addr.mk w3.heap.size 4 none) = some ((.slice a174 l174 c174 : Value)) ∧ w78.cell? (Addr.mk w3.heap.size 5 none) = some ((.slice a175 l175 c175 : Value)) ∧ w78.cell? (Addr.mk w3.heap.size 6 none) = some ((.slice a176 l176 c176 : Value)) ∧ w78.cell? (Addr.mk w3.heap.size 7 none) = some ((.int .i64 n177 : Value)) ∧ w78.cell? (Addr.mk w3.heap.size 8 none) = some ((.bool b178 : Value)) ∧ w78.cell? (Addr.mk w3.heap.size 9 none) = some ((.bool b179 : Value)) ∧ w78.cell? (Addr.mk w3.heap.size 10 none) = some ((.bool b180 : Value)) ∧ 
  stC (Addr.mk w1.heap.size 0 none) (.bool b170) w78 (fun (w79 : World) =>
  stC (Addr.mk w1.heap.size 1 none) (.bool b171) w79 (fun (w80 : World) =>
  stC (Addr.mk w1.heap.size 2 none) (.int .i64 n172) w80 (fun (w81 : World) =>
  stC (Addr.mk w1.heap.size 3 none) (.int .i64 n173) w81 (fun (w82 : World) =>
  stC (Addr.mk w1.heap.size 4 none) (.slice a174 l174 c174) w82 (fun (w83 : World) =>
  stC (Addr.mk w1.heap.size 5 none) (.slice a175 l175 c175) w83 (fun (w84 : World) =>
  stC (Addr.mk w1.heap.size 6 none) (.slice a176 l176 c176) w84 (fun (w85 : World) =>
  stC (Addr.mk w1.heap.size 7 none) (.int .i64 n177) w85 (fun (w86 : World) =>
  stC (Addr.mk w1.heap.size 8 none) (.bool b178) w86 (fun (w87 : World) =>
  stC (Addr.mk w1.heap.size 9 none) (.bool b179) w87 (fun (w88 : World) =>
  stC (Addr.mk w1.heap.size 10 none) (.bool b180) w88 (fun (w89 : World) =>
  ∃ (b181 : Bool) (b182 : Bool) (n183 : Int) (n184 : Int) (a185 : Option Addr) (l185 : Nat) (c185 : Nat) (a186 : Option Addr) (l186 : Nat) (c186 : Nat) (a187 : Option Addr) (l187 : Nat) (c187 : Nat) (n188 : Int) (b189 : Bool) (b190 : Bool) (b191 : Bool), w89.cell? (Addr.mk w1.heap.size 0 none) = some ((.bool b181 : Value)) ∧ w89.cell? (Addr.mk w1.heap.size 1 none) = some ((.bool b182 : Value)) ∧ w89.cell? (Addr.mk w1.heap.size 2 none) = some ((.int .i64 n183 : Value)) ∧ w89.cell? (Addr.mk w1.heap.size 3 none) = some ((.int .i64 n184 : Value)) ∧ w89.cell? (Addr.mk w1.heap.size 4 none) = some ((.slice a185 l185 c185 : Value)) ∧ w89.cell? (Addr.mk w1.heap.size 5 none) = some ((.slice a186 l186 c186 : Value)) ∧ w89.cell? (Addr.mk w1.heap.size 6 none) = some ((.slice a187 l187 c187 : Value)) ∧ w89.cell? (Addr.mk w1.heap.size 7 none) = some ((.int .i64 n188 : Value)) ∧ w89.cell? (Addr.mk w1.heap.size 8 none) = some ((.bool b189 : Value)) ∧ w89.cell? (Addr.mk w1.heap.size 9 none) = some ((.bool b190 : Value)) ∧ w89.cell? (Addr.mk w1.heap.size 10 none) = some ((.bool b191 : Value)) ∧ 
  Q (.tuple #[.agg #[.bool b181, .bool b182, .int .i64 n183, .int .i64 n184, .slice a185 l185 c185, .slice a186 l186 c186, .slice a187 l187 c187, .int .i64 n188, .bool b189, .bool b190, .bool b191], .int .i64 0]) w89))))))))))))))))))))))))))))))))
theorem C11 {b1 : Bool} {b2 : Bool} {n3 : Int} {n4 : Int} {a5 : Option Addr} {l5 : Nat} {c5 : Nat} {a6 : Option Addr} {l6 : Nat} {c6 : Nat} {a7 : Option Addr} {l7 : Nat} {c7 : Nat} {n8 : Int} {b9 : Bool} {b10 : Bool} {b11 : Bool} {a12 : Option Addr} {l12 : Nat} {c12 : Nat} {Q : Value → World → Prop} {w : World} (h : L11 b1 b2 n3 n4 a5 l5 c5 a6 l6 c6 a7 l7 c7 n8 b9 b10 b11 a12 l12 c12 Q w) : CallR Try.prog 11 [.agg #[.bool b1, .bool b2, .int .i64 n3, .int .i64 n4, .slice a5 l5 c5, .slice a6 l6 c6, .slice a7 l7 c7, .int .i64 n8, .bool b9, .bool b10, .bool b11], .slice a12 l12 c12] w Q :=
  fun_calls (A := A11) mixed Try.func11 (c := (Try.f11.body).getD .skip) rfl (by kernel_rfl) (Eq.mp (by kernel_rfl) h)

/-- millrace/millraceref13.Unget -/
def A9 : Ann := ⟨[], [], [], [], [], []⟩
def L9 (b1 : Bool) (b2 : Bool) (n3 : Int) (n4 : Int) (a5 : Option Addr) (l5 : Nat) (c5 : Nat) (a6 : Option Addr) (l6 : Nat) (c6 : Nat) (a7 : Option Addr) (l7 : Nat) (c7 : Nat) (n8 : Int) (b9 : Bool) (b10 : Bool) (b11 : Bool) (n12 : Int) (Q : Value → World → Prop) (w : World) : Prop :=
  let w1 := World.alloc w (Obj.cells #[.bool b1, .bool b2, .int .i64 n3, .int .i64 n4, .slice a5 l5 c5, .slice a6 l6 c6, .slice a7 l7 c7, .int .i64 n8, .bool b9, .bool b10, .bool b11] 24);
  let w2 := World.alloc w1 (Obj.cells #[.bool false, .bool false, .int .i64 0, .int .i64 0, .slice none 0 0, .slice none 0 0, .slice none 0 0, .int .i64 0, .bool false, .bool false, .bool false] 24);
  ∃ (b13 : Bool) (b14 : Bool) (n15 : Int) (n16 : Int) (a17 : Option Addr) (l17 : Nat) (c17 : Nat) (a18 : Option Addr) (l18 : Nat) (c18 : Nat) (a19 : Option Addr) (l19 : Nat) (c19 : Nat) (n20 : Int) (b21 : Bool) (b22 : Bool) (b23 : Bool), w2.cell? (Addr.mk w.heap.size 0 none) = some ((.bool b13 : Value)) ∧ w2.cell? (Addr.mk w.heap.size 1 none) = some ((.bool b14 : Value)) ∧ w2.cell? (Addr.mk w.heap.size 2 none) = some ((.int .i64 n15 : Value)) ∧ w2.cell? (Addr.mk w.heap.size 3 none) = some ((.int .i64 n16 : Value)) ∧ w2.cell? (Addr.mk w.heap.size 4 none) = some ((.slice a17 l17 c17 : Value)) ∧ w2.cell? (Addr.mk w.heap.size 5 none) = some ((.slice a18 l18 c18 : Value)) ∧ w2.cell? (Addr.mk w.heap.size 6 none) = some ((.slice a19 l19 c19 : Value)) ∧ w2.cell? (Addr.mk w.heap.size 7 none) = some ((.int .i64 n20 : Value)) ∧ w2.cell? (Addr.mk w.heap.size 8 none) = some ((.bool b21 : Value)) ∧ w2.cell? (Addr.mk w.heap.size 9 none) = some ((.bool b22 : Value)) ∧ w2.cell? (Addr.mk w.heap.size 10 none) = some ((.bool b23 : Value)) ∧ 
  let w3 := World.alloc w2 (Obj.cells #[.int .u8 n12] 5);
  CallR Try.prog 11 [.agg #[.bool b13, .bool b14, .int .i64 n15, .int .i64 n16, .slice a17 l17 c17, .slice a18 l18 c18, .slice a19 l19 c19, .int .i64 n20, .bool b21, .bool b22, .bool b23], .slice (some (Addr.mk w2.heap.size 0 none)) 1 1] w3 (fun (r36 : Value) (w4 : World) =>
  ∃ (b24 : Bool) (b25 : Bool) (n26 : Int) (n27 : Int) (a28 : Option Addr) (l28 : Nat) (c28 : Nat) (a29 : Option Addr) (l29 : Nat) (c29 : Nat) (a30 : Option Addr) (l30 : Nat) (c30 : Nat) (n31 : Int) (b32 : Bool) (b33 : Bool) (b34 : Bool) (n35 : Int), r36 = .tuple #[.agg #[.bool b24, .bool b25, .int .i64 n26, .int .i64 n27, .slice a28 l28 c28, .slice a29 l29 c29, .slice a30 l30 c30, .int .i64 n31, .bool b32, .bool b33, .bool b34], .int .i64 n35] ∧
  stC (Addr.mk w1.heap.size 0 none) (.bool b24) w4 (fun (w5 : World) =>
  stC (Addr.mk w1.heap.size 1 none) (.bool b25) w5 (fun (w6 : World) =>
  stC (Addr.mk w1.heap.size 2 none) (.int .i64 n26) w6 (fun (w7 : World) =>
  stC (Addr.mk w1.heap.size 3 none) (.int .i64 n27) w7 (fun (w8 : World) =>
  stC (Addr.mk w1.heap.size 4 none) (.slice a28 l28 c28) w8 (fun (w9 : World) =>
  stC (Addr.mk w1.heap.size 5 none) (.slice a29 l29 c29) w9 (fun (w10 : World) =>
  stC (Addr.mk w1.heap.size 6 none) (.slice a30 l30 c30) w10 (fun (w11 : World) =>
  stC (Addr.mk w1.heap.size 7 none) (.int .i64 n31) w11 (fun (w12 : World) =>
  stC (Addr.mk w1.heap.size 8 none) (.bool b32) w12 (fun (w13 : World) =>
  stC (Addr.mk w1.heap.size 9 none) (.bool b33) w13 (fun (w14 : World) =>
  stC (Addr.mk w1.heap.size 10 none) (.bool b34) w14 (fun (w15 : World) =>
  ∃ (b37 : Bool) (b38 : Bool) (n39 : Int) (n40 : Int) (a41 : Option Addr) (l41 : Nat) (c41 : Nat) (a42 : Option Addr) (l42 : Nat) (c42 : Nat) (a43 : Option Addr) (l43 : Nat) (c43 : Nat) (n44 : Int) (b45 : Bool) (b46 : Bool) (b47 : Bool), w15.cell? (Addr.mk w1.heap.size 0 none) = some ((.bool b37 : Value)) ∧ w15.cell? (Addr.mk w1.heap.size 1 none) = some ((.bool b38 : Value)) ∧ w15.cell? (Addr.mk w1.heap.size 2 none) = some ((.int .i64 n39 : Value)) ∧ w15.cell? (Addr.mk w1.heap.size 3 none) = some ((.int .i64 n40 : Value)) ∧ w15.cell? (Addr.mk w1.heap.size 4 none) = some ((.slice a41 l41 c41 : Value)) ∧ w15.cell? (Addr.mk w1.heap.size 5 none) = some ((.slice a42 l42 c42 : Value)) ∧ w15.cell? (Addr.mk w1.heap.size 6 none) = some ((.slice a43 l43 c43 : Value)) ∧ w15.cell? (Addr.mk w1.heap.size 7 none) = some ((.int .i64 n44 : Value)) ∧ w15.cell? (Addr.mk w1.heap.size 8 none) = some ((.bool b45 : Value)) ∧ w15.cell? (Addr.mk w1.heap.size 9 none) = some ((.bool b46 : Value)) ∧ w15.cell? (Addr.mk w1.heap.size 10 none) = some ((.bool b47 : Value)) ∧ 
  Q (.tuple #[.agg #[.bool b37, .bool b38, .int .i64 n39, .int .i64 n40, .slice a41 l41 c41, .slice a42 l42 c42, .slice a43 l43 c43, .int .i64 n44, .bool b45, .bool b46, .bool b47], .int .i64 n35]) w15))))))))))))
theorem C9 {b1 : Bool} {b2 : Bool} {n3 : Int} {n4 : Int} {a5 : Option Addr} {l5 : Nat} {c5 : Nat} {a6 : Option Addr} {l6 : Nat} {c6 : Nat} {a7 : Option Addr} {l7 : Nat} {c7 : Nat} {n8 : Int} {b9 : Bool} {b10 : Bool} {b11 : Bool} {n12 : Int} {Q : Value → World → Prop} {w : World} (h : L9 b1 b2 n3 n4 a5 l5 c5 a6 l6 c6 a7 l7 c7 n8 b9 b10 b11 n12 Q w) : CallR Try.prog 9 [.agg #[.bool b1, .bool b2, .int .i64 n3, .int .i64 n4, .slice a5 l5 c5, .slice a6 l6 c6, .slice a7 l7 c7, .int .i64 n8, .bool b9, .bool b10, .bool b11], .int .u8 n12] w Q :=
  fun_calls (A := A9) mixed Try.func9 (c := (Try.f9.body).getD .skip) rfl (by kernel_rfl) (Eq.mp (by kernel_rfl) h)

/-- millrace/millraceref13.Held -/
def A13 : Ann := ⟨[(6, [(5, .one (.slice)), (6, .one (.int .i64))])], [], [], [], [], []⟩
def L13 (b1 : Bool) (b2 : Bool) (n3 : Int) (n4 : Int) (a5 : Option Addr) (l5 : Nat) (c5 : Nat) (a6 : Option Addr) (l6 : Nat) (c6 : Nat) (a7 : Option Addr) (l7 : Nat) (c7 : Nat) (n8 : Int) (b9 : Bool) (b10 : Bool) (b11 : Bool) (Q : Value → World → Prop) (w : World) : Prop :=
  let w1 := World.alloc w (Obj.cells #[.bool b1, .bool b2, .int .i64 n3, .int .i64 n4, .slice a5 l5 c5, .slice a6 l6 c6, .slice a7 l7 c7, .int .i64 n8, .bool b9, .bool b10, .bool b11] 24);
  ∃ (b12 : Bool) (b13 : Bool) (n14 : Int) (n15 : Int) (a16 : Option Addr) (l16 : Nat) (c16 : Nat) (a17 : Option Addr) (l17 : Nat) (c17 : Nat) (a18 : Option Addr) (l18 : Nat) (c18 : Nat) (n19 : Int) (b20 : Bool) (b21 : Bool) (b22 : Bool), w1.cell? (Addr.mk w.heap.size 0 none) = some ((.bool b12 : Value)) ∧ w1.cell? (Addr.mk w.heap.size 1 none) = some ((.bool b13 : Value)) ∧ w1.cell? (Addr.mk w.heap.size 2 none) = some ((.int .i64 n14 : Value)) ∧ w1.cell? (Addr.mk w.heap.size 3 none) = some ((.int .i64 n15 : Value)) ∧ w1.cell? (Addr.mk w.heap.size 4 none) = some ((.slice a16 l16 c16 : Value)) ∧ w1.cell? (Addr.mk w.heap.size 5 none) = some ((.slice a17 l17 c17 : Value)) ∧ w1.cell? (Addr.mk w.heap.size 6 none) = some ((.slice a18 l18 c18 : Value)) ∧ w1.cell? (Addr.mk w.heap.size 7 none) = some ((.int .i64 n19 : Value)) ∧ w1.cell? (Addr.mk w.heap.size 8 none) = some ((.bool b20 : Value)) ∧ w1.cell? (Addr.mk w.heap.size 9 none) = some ((.bool b21 : Value)) ∧ w1.cell? (Addr.mk w.heap.size 10 none) = some ((.bool b22 : Value)) ∧ 
  CallR Try.prog 25 [.agg #[.bool b12, .bool b13, .int .i64 n14, .int .i64 n15, .slice a16 l16 c16, .slice a17 l17 c17, .slice a18 l18 c18, .int .i64 n19, .bool b20, .bool b21, .bool b22]] w1 (fun (r24 : Value) (w2 : World) =>
  ∃ (n23 : Int), r24 = .int .i64 n23 ∧
  cond (n23 != 0)
  (Q (.tuple #[.slice none 0 0, .int .i64 n23]) w2)
  (∃ (a25 : Option Addr) (l25 : Nat) (c25 : Nat), w2.cell? (Addr.mk w.heap.size 6 none) = some ((.slice a25 l25 c25 : Value)) ∧
  inI ((((l25 : Nat) : Int)) - 1) ∧
  ∃ (I26 : List Value → World → Prop) (mu27 : List Value → World → Nat),
  I26 [.slice none 0 0, .int .i64 ((((l25 : Nat) : Int)) - 1)] w2 ∧
  ∀ (_ : Env) (a28 : Option Addr) (l28 : Nat) (c28 : Nat) (n29 : Int) (w3 : World), I26 [.slice a28 l28 c28, .int .i64 n29] w3 →
  cond (decide (n29 ≥ 0))
  (∃ (a30 : Option Addr) (l30 : Nat) (c30 : Nat), w3.cell? (Addr.mk w.heap.size 6 none) = some ((.slice a30 l30 c30 : Value)) ∧
  (0 ≤ (n29 : Int) ∧ (n29 : Int) < ((l30 : Nat) : Int)) ∧
  nn a30 (fun (q31 : Addr) =>
  ∃ (n32 : Int), w3.cell? (Addr.add q31 (Int.toNat n29)) = some ((.int .u8 n32 : Value)) ∧
  let w4 := World.alloc w3 (Obj.cells #[.int .u8 n32] 5);
  ∃ (a33 : Option Addr) (l33 : Nat) (c33 : Nat) (w5 : World), Sem.run Try.prog (Builtin.append_ #[22, 22] 22 #[.slice a28 l28 c28, .slice (some (Addr.mk w3.heap.size 0 none)) 1 1]) w4 = .ok ((.slice a33 l33 c33 : Value)) w5 ∧
  inI (n29 - 1) ∧
  I26 [.slice a33 l33 c33, .int .i64 (n29 - 1)] w5 ∧ mu27 [.slice a33 l33 c33, .int .i64 (n29 - 1)] w5 < mu27 [.slice a28 l28 c28, .int .i64 n29] w3))
  (∃ (a34 : Option Addr) (l34 : Nat) (c34 : Nat), w3.cell? (Addr.mk w.heap.size 5 none) = some ((.slice a34 l34 c34 : Value)) ∧
  ∃ (a35 : Option Addr) (l35 : Nat) (c35 : Nat) (w6 : World), Sem.run Try.prog (Builtin.append_ #[22, 22] 22 #[.slice a28 l28 c28, .slice a34 l34 c34]) w3 = .ok ((.slice a35 l35 c35 : Value)) w6 ∧
  Q (.tuple #[.slice a35 l35 c35, .int .i64 0]) w6)))
theorem C13 {b1 : Bool} {b2 : Bool} {n3 : Int} {n4 : Int} {a5 : Option Addr} {l5 : Nat} {c5 : Nat} {a6 : Option Addr} {l6 : Nat} {c6 : Nat} {a7 : Option Addr} {l7 : Nat} {c7 : Nat} {n8 : Int} {b9 : Bool} {b10 : Bool} {b11 : Bool} {Q : Value → World → Prop} {w : World} (h : L13 b1 b2 n3 n4 a5 l5 c5 a6 l6 c6 a7 l7 c7 n8 b9 b10 b11 Q w) : CallR Try.prog 13 [.agg #[.bool b1, .bool b2, .int .i64 n3, .int .i64 n4, .slice a5 l5 c5, .slice a6 l6 c6, .slice a7 l7 c7, .int .i64 n8, .bool b9, .bool b10, .bool b11]] w Q :=
  fun_calls (A := A13) mixed Try.func13 (c := (Try.f13.body).getD .skip) rfl (by kernel_rfl) (Eq.mp (by kernel_rfl) h)

/-- millrace/millracelaw11.Given -/
def A7 : Ann := ⟨[], [], [], [], [], []⟩
def L7 (b1 : Bool) (b2 : Bool) (n3 : Int) (n4 : Int) (a5 : Option Addr) (l5 : Nat) (c5 : Nat) (a6 : Option Addr) (l6 : Nat) (c6 : Nat) (a7 : Option Addr) (l7 : Nat) (c7 : Nat) (n8 : Int) (b9 : Bool) (b10 : Bool) (b11 : Bool) (Q : Value → World → Prop) (w : World) : Prop :=
  let w1 := World.alloc w (Obj.cells #[.bool b1, .bool b2, .int .i64 n3, .int .i64 n4, .slice a5 l5 c5, .slice a6 l6 c6, .slice a7 l7 c7, .int .i64 n8, .bool b9, .bool b10, .bool b11] 24);
  let w2 := World.alloc w1 (Obj.cells #[.bool false, .bool false, .int .i64 0, .int .i64 0, .slice none 0 0, .slice none 0 0, .slice none 0 0, .int .i64 0, .bool false, .bool false, .bool false] 25);
  ∃ (b12 : Bool) (b13 : Bool) (n14 : Int) (n15 : Int) (a16 : Option Addr) (l16 : Nat) (c16 : Nat) (a17 : Option Addr) (l17 : Nat) (c17 : Nat) (a18 : Option Addr) (l18 : Nat) (c18 : Nat) (n19 : Int) (b20 : Bool) (b21 : Bool) (b22 : Bool), w2.cell? (Addr.mk w.heap.size 0 none) = some ((.bool b12 : Value)) ∧ w2.cell? (Addr.mk w.heap.size 1 none) = some ((.bool b13 : Value)) ∧ w2.cell? (Addr.mk w.heap.size 2 none) = some ((.int .i64 n14 : Value)) ∧ w2.cell? (Addr.mk w.heap.size 3 none) = some ((.int .i64 n15 : Value)) ∧ w2.cell? (Addr.mk w.heap.size 4 none) = some ((.slice a16 l16 c16 : Value)) ∧ w2.cell? (Addr.mk w.heap.size 5 none) = some ((.slice a17 l17 c17 : Value)) ∧ w2.cell? (Addr.mk w.heap.size 6 none) = some ((.slice a18 l18 c18 : Value)) ∧ w2.cell? (Addr.mk w.heap.size 7 none) = some ((.int .i64 n19 : Value)) ∧ w2.cell? (Addr.mk w.heap.size 8 none) = some ((.bool b20 : Value)) ∧ w2.cell? (Addr.mk w.heap.size 9 none) = some ((.bool b21 : Value)) ∧ w2.cell? (Addr.mk w.heap.size 10 none) = some ((.bool b22 : Value)) ∧ 
  CallR Try.prog 22 [.agg #[.bool b12, .bool b13, .int .i64 n14, .int .i64 n15, .slice a16 l16 c16, .slice a17 l17 c17, .slice a18 l18 c18, .int .i64 n19, .bool b20, .bool b21, .bool b22]] w2 (fun (r34 : Value) (w3 : World) =>
  ∃ (b23 : Bool) (b24 : Bool) (n25 : Int) (n26 : Int) (a27 : Option Addr) (l27 : Nat) (c27 : Nat) (a28 : Option Addr) (l28 : Nat) (c28 : Nat) (a29 : Option Addr) (l29 : Nat) (c29 : Nat) (n30 : Int) (b31 : Bool) (b32 : Bool) (b33 : Bool), r34 = .agg #[.bool b23, .bool b24, .int .i64 n25, .int .i64 n26, .slice a27 l27 c27, .slice a28 l28 c28, .slice a29 l29 c29, .int .i64 n30, .bool b31, .bool b32, .bool b33] ∧
  stC (Addr.mk w1.heap.size 0 none) (.bool b23) w3 (fun (w4 : World) =>
  stC (Addr.mk w1.heap.size 1 none) (.bool b24) w4 (fun (w5 : World) =>
  stC (Addr.mk w1.heap.size 2 none) (.int .i64 n25) w5 (fun (w6 : World) =>
  stC (Addr.mk w1.heap.size 3 none) (.int .i64 n26) w6 (fun (w7 : World) =>
  stC (Addr.mk w1.heap.size 4 none) (.slice a27 l27 c27) w7 (fun (w8 : World) =>
  stC (Addr.mk w1.heap.size 5 none) (.slice a28 l28 c28) w8 (fun (w9 : World) =>
  stC (Addr.mk w1.heap.size 6 none) (.slice a29 l29 c29) w9 (fun (w10 : World) =>
  stC (Addr.mk w1.heap.size 7 none) (.int .i64 n30) w10 (fun (w11 : World) =>
  stC (Addr.mk w1.heap.size 8 none) (.bool b31) w11 (fun (w12 : World) =>
  stC (Addr.mk w1.heap.size 9 none) (.bool b32) w12 (fun (w13 : World) =>
  stC (Addr.mk w1.heap.size 10 none) (.bool b33) w13 (fun (w14 : World) =>
  ∃ (b35 : Bool) (b36 : Bool) (n37 : Int) (n38 : Int) (a39 : Option Addr) (l39 : Nat) (c39 : Nat) (a40 : Option Addr) (l40 : Nat) (c40 : Nat) (a41 : Option Addr) (l41 : Nat) (c41 : Nat) (n42 : Int) (b43 : Bool) (b44 : Bool) (b45 : Bool), w14.cell? (Addr.mk w1.heap.size 0 none) = some ((.bool b35 : Value)) ∧ w14.cell? (Addr.mk w1.heap.size 1 none) = some ((.bool b36 : Value)) ∧ w14.cell? (Addr.mk w1.heap.size 2 none) = some ((.int .i64 n37 : Value)) ∧ w14.cell? (Addr.mk w1.heap.size 3 none) = some ((.int .i64 n38 : Value)) ∧ w14.cell? (Addr.mk w1.heap.size 4 none) = some ((.slice a39 l39 c39 : Value)) ∧ w14.cell? (Addr.mk w1.heap.size 5 none) = some ((.slice a40 l40 c40 : Value)) ∧ w14.cell? (Addr.mk w1.heap.size 6 none) = some ((.slice a41 l41 c41 : Value)) ∧ w14.cell? (Addr.mk w1.heap.size 7 none) = some ((.int .i64 n42 : Value)) ∧ w14.cell? (Addr.mk w1.heap.size 8 none) = some ((.bool b43 : Value)) ∧ w14.cell? (Addr.mk w1.heap.size 9 none) = some ((.bool b44 : Value)) ∧ w14.cell? (Addr.mk w1.heap.size 10 none) = some ((.bool b45 : Value)) ∧ 
  Q (.agg #[.bool b35, .bool b36, .int .i64 n37, .int .i64 n38, .slice a39 l39 c39, .slice a40 l40 c40, .slice a41 l41 c41, .int .i64 n42, .bool b43, .bool b44, .bool b45]) w14))))))))))))
theorem C7 {b1 : Bool} {b2 : Bool} {n3 : Int} {n4 : Int} {a5 : Option Addr} {l5 : Nat} {c5 : Nat} {a6 : Option Addr} {l6 : Nat} {c6 : Nat} {a7 : Option Addr} {l7 : Nat} {c7 : Nat} {n8 : Int} {b9 : Bool} {b10 : Bool} {b11 : Bool} {Q : Value → World → Prop} {w : World} (h : L7 b1 b2 n3 n4 a5 l5 c5 a6 l6 c6 a7 l7 c7 n8 b9 b10 b11 Q w) : CallR Try.prog 7 [.agg #[.bool b1, .bool b2, .int .i64 n3, .int .i64 n4, .slice a5 l5 c5, .slice a6 l6 c6, .slice a7 l7 c7, .int .i64 n8, .bool b9, .bool b10, .bool b11]] w Q :=
  fun_calls (A := A7) mixed Try.func7 (c := (Try.f7.body).getD .skip) rfl (by kernel_rfl) (Eq.mp (by kernel_rfl) h)

/-- millrace/millracelaw11.Same -/
def A14 : Ann := ⟨[], [], [], [], [], []⟩
def L14 (b1 : Bool) (b2 : Bool) (n3 : Int) (n4 : Int) (a5 : Option Addr) (l5 : Nat) (c5 : Nat) (a6 : Option Addr) (l6 : Nat) (c6 : Nat) (a7 : Option Addr) (l7 : Nat) (c7 : Nat) (n8 : Int) (b9 : Bool) (b10 : Bool) (b11 : Bool) (b12 : Bool) (b13 : Bool) (n14 : Int) (n15 : Int) (a16 : Option Addr) (l16 : Nat) (c16 : Nat) (a17 : Option Addr) (l17 : Nat) (c17 : Nat) (a18 : Option Addr) (l18 : Nat) (c18 : Nat) (n19 : Int) (b20 : Bool) (b21 : Bool) (b22 : Bool) (Q : Value → World → Prop) (w : World) : Prop :=
  let w1 := World.alloc w (Obj.cells #[.bool b1, .bool b2, .int .i64 n3, .int .i64 n4, .slice a5 l5 c5, .slice a6 l6 c6, .slice a7 l7 c7, .int .i64 n8, .bool b9, .bool b10, .bool b11] 25);
  let w2 := World.alloc w1 (Obj.cells #[.bool b12, .bool b13, .int .i64 n14, .int .i64 n15, .slice a16 l16 c16, .slice a17 l17 c17, .slice a18 l18 c18, .int .i64 n19, .bool b20, .bool b21, .bool b22] 24);
  ∃ (b23 : Bool), w2.cell? (Addr.mk w.heap.size 0 none) = some ((.bool b23 : Value)) ∧
  ∃ (b24 : Bool), w2.cell? (Addr.mk w1.heap.size 0 none) = some ((.bool b24 : Value)) ∧
  cond (b23 == b24)
  (∃ (b25 : Bool), w2.cell? (Addr.mk w.heap.size 1 none) = some ((.bool b25 : Value)) ∧
  ∃ (b26 : Bool), w2.cell? (Addr.mk w1.heap.size 1 none) = some ((.bool b26 : Value)) ∧
  cond (b25 == b26)
  (∃ (n27 : Int), w2.cell? (Addr.mk w.heap.size 2 none) = some ((.int .i64 n27 : Value)) ∧
  ∃ (n28 : Int), w2.cell? (Addr.mk w1.heap.size 2 none) = some ((.int .i64 n28 : Value)) ∧
  cond (n27 == n28)
  (∃ (n29 : Int), w2.cell? (Addr.mk w.heap.size 3 none) = some ((.int .i64 n29 : Value)) ∧
  ∃ (n30 : Int), w2.cell? (Addr.mk w1.heap.size 3 none) = some ((.int .i64 n30 : Value)) ∧
  cond (n29 == n30)
  (∃ (a31 : Option Addr) (l31 : Nat) (c31 : Nat), w2.cell? (Addr.mk w.heap.size 4 none) = some ((.slice a31 l31 c31 : Value)) ∧
  ∃ (a32 : Option Addr) (l32 : Nat) (c32 : Nat), w2.cell? (Addr.mk w1.heap.size 4 none) = some ((.slice a32 l32 c32 : Value)) ∧
  CallR Try.prog 16 [.slice a31 l31 c31, .slice a32 l32 c32] w2 (fun (r34 : Value) (w3 : World) =>
  ∃ (b33 : Bool), r34 = .bool b33 ∧
  cond b33
  (∃ (a35 : Option Addr) (l35 : Nat) (c35 : Nat), w3.cell? (Addr.mk w.heap.size 5 none) = some ((.slice a35 l35 c35 : Value)) ∧
  ∃ (a36 : Option Addr) (l36 : Nat) (c36 : Nat), w3.cell? (Addr.mk w1.heap.size 5 none) = some ((.slice a36 l36 c36 : Value)) ∧
  CallR Try.prog 16 [.slice a35 l35 c35, .slice a36 l36 c36] w3 (fun (r38 : Value) (w4 : World) =>
  ∃ (b37 : Bool), r38 = .bool b37 ∧
  cond b37
  (∃ (a39 : Option Addr) (l39 : Nat) (c39 : Nat), w4.cell? (Addr.mk w.heap.size 6 none) = some ((.slice a39 l39 c39 : Value)) ∧
  ∃ (a40 : Option Addr) (l40 : Nat) (c40 : Nat), w4.cell? (Addr.mk w1.heap.size 6 none) = some ((.slice a40 l40 c40 : Value)) ∧
  CallR Try.prog 16 [.slice a39 l39 c39, .slice a40 l40 c40] w4 (fun (r42 : Value) (w5 : World) =>
  ∃ (b41 : Bool), r42 = .bool b41 ∧
  cond b41
  (∃ (n43 : Int), w5.cell? (Addr.mk w.heap.size 7 none) = some ((.int .i64 n43 : Value)) ∧
  ∃ (n44 : Int), w5.cell? (Addr.mk w1.heap.size 7 none) = some ((.int .i64 n44 : Value)) ∧
  cond (n43 == n44)
  (∃ (b45 : Bool), w5.cell? (Addr.mk w.heap.size 8 none) = some ((.bool b45 : Value)) ∧
  ∃ (b46 : Bool), w5.cell? (Addr.mk w1.heap.size 8 none) = some ((.bool b46 : Value)) ∧
  cond (b45 == b46)
  (∃ (b47 : Bool), w5.cell? (Addr.mk w.heap.size 9 none) = some ((.bool b47 : Value)) ∧
  ∃ (b48 : Bool), w5.cell? (Addr.mk w1.heap.size 9 none) = some ((.bool b48 : Value)) ∧
  cond (b47 == b48)
  (∃ (b49 : Bool), w5.cell? (Addr.mk w.heap.size 10 none) = some ((.bool b49 : Value)) ∧
  ∃ (b50 : Bool), w5.cell? (Addr.mk w1.heap.size 10 none) = some ((.bool b50 : Value)) ∧
  Q (.bool (b49 == b50)) w5)
  (Q (.bool false) w5))
  (Q (.bool false) w5))
  (Q (.bool false) w5))
  (Q (.bool false) w5)))
  (Q (.bool false) w4)))
  (Q (.bool false) w3)))
  (Q (.bool false) w2))
  (Q (.bool false) w2))
  (Q (.bool false) w2))
  (Q (.bool false) w2)
theorem C14 {b1 : Bool} {b2 : Bool} {n3 : Int} {n4 : Int} {a5 : Option Addr} {l5 : Nat} {c5 : Nat} {a6 : Option Addr} {l6 : Nat} {c6 : Nat} {a7 : Option Addr} {l7 : Nat} {c7 : Nat} {n8 : Int} {b9 : Bool} {b10 : Bool} {b11 : Bool} {b12 : Bool} {b13 : Bool} {n14 : Int} {n15 : Int} {a16 : Option Addr} {l16 : Nat} {c16 : Nat} {a17 : Option Addr} {l17 : Nat} {c17 : Nat} {a18 : Option Addr} {l18 : Nat} {c18 : Nat} {n19 : Int} {b20 : Bool} {b21 : Bool} {b22 : Bool} {Q : Value → World → Prop} {w : World} (h : L14 b1 b2 n3 n4 a5 l5 c5 a6 l6 c6 a7 l7 c7 n8 b9 b10 b11 b12 b13 n14 n15 a16 l16 c16 a17 l17 c17 a18 l18 c18 n19 b20 b21 b22 Q w) : CallR Try.prog 14 [.agg #[.bool b1, .bool b2, .int .i64 n3, .int .i64 n4, .slice a5 l5 c5, .slice a6 l6 c6, .slice a7 l7 c7, .int .i64 n8, .bool b9, .bool b10, .bool b11], .agg #[.bool b12, .bool b13, .int .i64 n14, .int .i64 n15, .slice a16 l16 c16, .slice a17 l17 c17, .slice a18 l18 c18, .int .i64 n19, .bool b20, .bool b21, .bool b22]] w Q :=
  fun_calls (A := A14) mixed Try.func14 (c := (Try.f14.body).getD .skip) rfl (by kernel_rfl) (Eq.mp (by kernel_rfl) h)

/-- millrace/millracelaw13.num -/
def A15 : Ann := ⟨[], [], [], [], [], []⟩
def L15 (n1 : Int) (Q : Value → World → Prop) (w : World) : Prop :=
  Q (.int .i64 n1) w
theorem C15 {n1 : Int} {Q : Value → World → Prop} {w : World} (h : L15 n1 Q w) : CallR Try.prog 15 [.int .i64 n1] w Q :=
  fun_calls (A := A15) mixed Try.func15 (c := (Try.f15.body).getD .skip) rfl (by kernel_rfl) (Eq.mp (by kernel_rfl) h)

/-- millrace/millracelaw13.reading -/
def A27 : Ann := ⟨[], [], [], [], [], []⟩
def L27 (Q : Value → World → Prop) (w : World) : Prop :=
  let w1 := World.alloc w (Obj.cells #[.bool false, .bool false, .int .i64 0, .int .i64 0, .slice none 0 0, .slice none 0 0, .slice none 0 0, .int .i64 0, .bool false, .bool false, .bool false] 25);
  CallR Try.prog 20 [.agg #[.bool true, .bool false, .bool false, .bool false, .bool false, .bool false, .bool false, .bool false], .int .i64 3, .int .i64 4] w1 (fun (r13 : Value) (w2 : World) =>
  ∃ (b1 : Bool) (b2 : Bool) (n3 : Int) (n4 : Int) (a5 : Option Addr) (l5 : Nat) (c5 : Nat) (a6 : Option Addr) (l6 : Nat) (c6 : Nat) (a7 : Option Addr) (l7 : Nat) (c7 : Nat) (n8 : Int) (b9 : Bool) (b10 : Bool) (b11 : Bool) (n12 : Int), r13 = .tuple #[.agg #[.bool b1, .bool b2, .int .i64 n3, .int .i64 n4, .slice a5 l5 c5, .slice a6 l6 c6, .slice a7 l7 c7, .int .i64 n8, .bool b9, .bool b10, .bool b11], .int .i64 n12] ∧
  let w3 := World.alloc w2 (Obj.cells #[.bool false, .bool false, .int .i64 0, .int .i64 0, .slice none 0 0, .slice none 0 0, .slice none 0 0, .int .i64 0, .bool false, .bool false, .bool false] 25);
  stC (Addr.mk w2.heap.size 0 none) (.bool b1) w3 (fun (w4 : World) =>
  stC (Addr.mk w2.heap.size 1 none) (.bool b2) w4 (fun (w5 : World) =>
  stC (Addr.mk w2.heap.size 2 none) (.int .i64 n3) w5 (fun (w6 : World) =>
  stC (Addr.mk w2.heap.size 3 none) (.int .i64 n4) w6 (fun (w7 : World) =>
  stC (Addr.mk w2.heap.size 4 none) (.slice a5 l5 c5) w7 (fun (w8 : World) =>
  stC (Addr.mk w2.heap.size 5 none) (.slice a6 l6 c6) w8 (fun (w9 : World) =>
  stC (Addr.mk w2.heap.size 6 none) (.slice a7 l7 c7) w9 (fun (w10 : World) =>
  stC (Addr.mk w2.heap.size 7 none) (.int .i64 n8) w10 (fun (w11 : World) =>
  stC (Addr.mk w2.heap.size 8 none) (.bool b9) w11 (fun (w12 : World) =>
  stC (Addr.mk w2.heap.size 9 none) (.bool b10) w12 (fun (w13 : World) =>
  stC (Addr.mk w2.heap.size 10 none) (.bool b11) w13 (fun (w14 : World) =>
  ∃ (b14 : Bool) (b15 : Bool) (n16 : Int) (n17 : Int) (a18 : Option Addr) (l18 : Nat) (c18 : Nat) (a19 : Option Addr) (l19 : Nat) (c19 : Nat) (a20 : Option Addr) (l20 : Nat) (c20 : Nat) (n21 : Int) (b22 : Bool) (b23 : Bool) (b24 : Bool), w14.cell? (Addr.mk w2.heap.size 0 none) = some ((.bool b14 : Value)) ∧ w14.cell? (Addr.mk w2.heap.size 1 none) = some ((.bool b15 : Value)) ∧ w14.cell? (Addr.mk w2.heap.size 2 none) = some ((.int .i64 n16 : Value)) ∧ w14.cell? (Addr.mk w2.heap.size 3 none) = some ((.int .i64 n17 : Value)) ∧ w14.cell? (Addr.mk w2.heap.size 4 none) = some ((.slice a18 l18 c18 : Value)) ∧ w14.cell? (Addr.mk w2.heap.size 5 none) = some ((.slice a19 l19 c19 : Value)) ∧ w14.cell? (Addr.mk w2.heap.size 6 none) = some ((.slice a20 l20 c20 : Value)) ∧ w14.cell? (Addr.mk w2.heap.size 7 none) = some ((.int .i64 n21 : Value)) ∧ w14.cell? (Addr.mk w2.heap.size 8 none) = some ((.bool b22 : Value)) ∧ w14.cell? (Addr.mk w2.heap.size 9 none) = some ((.bool b23 : Value)) ∧ w14.cell? (Addr.mk w2.heap.size 10 none) = some ((.bool b24 : Value)) ∧ 
  stC (Addr.mk w.heap.size 0 none) (.bool b14) w14 (fun (w15 : World) =>
  stC (Addr.mk w.heap.size 1 none) (.bool b15) w15 (fun (w16 : World) =>
  stC (Addr.mk w.heap.size 2 none) (.int .i64 n16) w16 (fun (w17 : World) =>
  stC (Addr.mk w.heap.size 3 none) (.int .i64 n17) w17 (fun (w18 : World) =>
  stC (Addr.mk w.heap.size 4 none) (.slice a18 l18 c18) w18 (fun (w19 : World) =>
  stC (Addr.mk w.heap.size 5 none) (.slice a19 l19 c19) w19 (fun (w20 : World) =>
  stC (Addr.mk w.heap.size 6 none) (.slice a20 l20 c20) w20 (fun (w21 : World) =>
  stC (Addr.mk w.heap.size 7 none) (.int .i64 n21) w21 (fun (w22 : World) =>
  stC (Addr.mk w.heap.size 8 none) (.bool b22) w22 (fun (w23 : World) =>
  stC (Addr.mk w.heap.size 9 none) (.bool b23) w23 (fun (w24 : World) =>
  stC (Addr.mk w.heap.size 10 none) (.bool b24) w24 (fun (w25 : World) =>
  ∃ (b25 : Bool) (b26 : Bool) (n27 : Int) (n28 : Int) (a29 : Option Addr) (l29 : Nat) (c29 : Nat) (a30 : Option Addr) (l30 : Nat) (c30 : Nat) (a31 : Option Addr) (l31 : Nat) (c31 : Nat) (n32 : Int) (b33 : Bool) (b34 : Bool) (b35 : Bool), w25.cell? (Addr.mk w.heap.size 0 none) = some ((.bool b25 : Value)) ∧ w25.cell? (Addr.mk w.heap.size 1 none) = some ((.bool b26 : Value)) ∧ w25.cell? (Addr.mk w.heap.size 2 none) = some ((.int .i64 n27 : Value)) ∧ w25.cell? (Addr.mk w.heap.size 3 none) = some ((.int .i64 n28 : Value)) ∧ w25.cell? (Addr.mk w.heap.size 4 none) = some ((.slice a29 l29 c29 : Value)) ∧ w25.cell? (Addr.mk w.heap.size 5 none) = some ((.slice a30 l30 c30 : Value)) ∧ w25.cell? (Addr.mk w.heap.size 6 none) = some ((.slice a31 l31 c31 : Value)) ∧ w25.cell? (Addr.mk w.heap.size 7 none) = some ((.int .i64 n32 : Value)) ∧ w25.cell? (Addr.mk w.heap.size 8 none) = some ((.bool b33 : Value)) ∧ w25.cell? (Addr.mk w.heap.size 9 none) = some ((.bool b34 : Value)) ∧ w25.cell? (Addr.mk w.heap.size 10 none) = some ((.bool b35 : Value)) ∧ 
  Q (.agg #[.bool b25, .bool b26, .int .i64 n27, .int .i64 n28, .slice a29 l29 c29, .slice a30 l30 c30, .slice a31 l31 c31, .int .i64 n32, .bool b33, .bool b34, .bool b35]) w25)))))))))))))))))))))))
theorem C27 {Q : Value → World → Prop} {w : World} (h : L27 Q w) : CallR Try.prog 27 [] w Q :=
  fun_calls (A := A27) mixed Try.func27 (c := (Try.f27.body).getD .skip) rfl (by kernel_rfl) (Eq.mp (by kernel_rfl) h)

/-- millrace/millracelaw13.alive -/
def A17 : Ann := ⟨[], [], [], [], [], []⟩
def L17 (Q : Value → World → Prop) (w : World) : Prop :=
  CallR Try.prog 27 [] w (fun (r12 : Value) (w1 : World) =>
  ∃ (b1 : Bool) (b2 : Bool) (n3 : Int) (n4 : Int) (a5 : Option Addr) (l5 : Nat) (c5 : Nat) (a6 : Option Addr) (l6 : Nat) (c6 : Nat) (a7 : Option Addr) (l7 : Nat) (c7 : Nat) (n8 : Int) (b9 : Bool) (b10 : Bool) (b11 : Bool), r12 = .agg #[.bool b1, .bool b2, .int .i64 n3, .int .i64 n4, .slice a5 l5 c5, .slice a6 l6 c6, .slice a7 l7 c7, .int .i64 n8, .bool b9, .bool b10, .bool b11] ∧
  CallR Try.prog 8 [.agg #[.bool b1, .bool b2, .int .i64 n3, .int .i64 n4, .slice a5 l5 c5, .slice a6 l6 c6, .slice a7 l7 c7, .int .i64 n8, .bool b9, .bool b10, .bool b11], .int .u8 97] w1 (fun (r25 : Value) (w2 : World) =>
  ∃ (b13 : Bool) (b14 : Bool) (n15 : Int) (n16 : Int) (a17 : Option Addr) (l17 : Nat) (c17 : Nat) (a18 : Option Addr) (l18 : Nat) (c18 : Nat) (a19 : Option Addr) (l19 : Nat) (c19 : Nat) (n20 : Int) (b21 : Bool) (b22 : Bool) (b23 : Bool) (n24 : Int), r25 = .tuple #[.agg #[.bool b13, .bool b14, .int .i64 n15, .int .i64 n16, .slice a17 l17 c17, .slice a18 l18 c18, .slice a19 l19 c19, .int .i64 n20, .bool b21, .bool b22, .bool b23], .int .i64 n24] ∧
  let w3 := World.alloc w2 (Obj.cells #[.bool false, .bool false, .int .i64 0, .int .i64 0, .slice none 0 0, .slice none 0 0, .slice none 0 0, .int .i64 0, .bool false, .bool false, .bool false] 25);
  stC (Addr.mk w2.heap.size 0 none) (.bool b13) w3 (fun (w4 : World) =>
  stC (Addr.mk w2.heap.size 1 none) (.bool b14) w4 (fun (w5 : World) =>
  stC (Addr.mk w2.heap.size 2 none) (.int .i64 n15) w5 (fun (w6 : World) =>
  stC (Addr.mk w2.heap.size 3 none) (.int .i64 n16) w6 (fun (w7 : World) =>
  stC (Addr.mk w2.heap.size 4 none) (.slice a17 l17 c17) w7 (fun (w8 : World) =>
  stC (Addr.mk w2.heap.size 5 none) (.slice a18 l18 c18) w8 (fun (w9 : World) =>
  stC (Addr.mk w2.heap.size 6 none) (.slice a19 l19 c19) w9 (fun (w10 : World) =>
  stC (Addr.mk w2.heap.size 7 none) (.int .i64 n20) w10 (fun (w11 : World) =>
  stC (Addr.mk w2.heap.size 8 none) (.bool b21) w11 (fun (w12 : World) =>
  stC (Addr.mk w2.heap.size 9 none) (.bool b22) w12 (fun (w13 : World) =>
  stC (Addr.mk w2.heap.size 10 none) (.bool b23) w13 (fun (w14 : World) =>
  ∃ (b26 : Bool) (b27 : Bool) (n28 : Int) (n29 : Int) (a30 : Option Addr) (l30 : Nat) (c30 : Nat) (a31 : Option Addr) (l31 : Nat) (c31 : Nat) (a32 : Option Addr) (l32 : Nat) (c32 : Nat) (n33 : Int) (b34 : Bool) (b35 : Bool) (b36 : Bool), w14.cell? (Addr.mk w2.heap.size 0 none) = some ((.bool b26 : Value)) ∧ w14.cell? (Addr.mk w2.heap.size 1 none) = some ((.bool b27 : Value)) ∧ w14.cell? (Addr.mk w2.heap.size 2 none) = some ((.int .i64 n28 : Value)) ∧ w14.cell? (Addr.mk w2.heap.size 3 none) = some ((.int .i64 n29 : Value)) ∧ w14.cell? (Addr.mk w2.heap.size 4 none) = some ((.slice a30 l30 c30 : Value)) ∧ w14.cell? (Addr.mk w2.heap.size 5 none) = some ((.slice a31 l31 c31 : Value)) ∧ w14.cell? (Addr.mk w2.heap.size 6 none) = some ((.slice a32 l32 c32 : Value)) ∧ w14.cell? (Addr.mk w2.heap.size 7 none) = some ((.int .i64 n33 : Value)) ∧ w14.cell? (Addr.mk w2.heap.size 8 none) = some ((.bool b34 : Value)) ∧ w14.cell? (Addr.mk w2.heap.size 9 none) = some ((.bool b35 : Value)) ∧ w14.cell? (Addr.mk w2.heap.size 10 none) = some ((.bool b36 : Value)) ∧ 
  CallR Try.prog 8 [.agg #[.bool b26, .bool b27, .int .i64 n28, .int .i64 n29, .slice a30 l30 c30, .slice a31 l31 c31, .slice a32 l32 c32, .int .i64 n33, .bool b34, .bool b35, .bool b36], .int .u8 98] w14 (fun (r49 : Value) (w15 : World) =>
  ∃ (b37 : Bool) (b38 : Bool) (n39 : Int) (n40 : Int) (a41 : Option Addr) (l41 : Nat) (c41 : Nat) (a42 : Option Addr) (l42 : Nat) (c42 : Nat) (a43 : Option Addr) (l43 : Nat) (c43 : Nat) (n44 : Int) (b45 : Bool) (b46 : Bool) (b47 : Bool) (n48 : Int), r49 = .tuple #[.agg #[.bool b37, .bool b38, .int .i64 n39, .int .i64 n40, .slice a41 l41 c41, .slice a42 l42 c42, .slice a43 l43 c43, .int .i64 n44, .bool b45, .bool b46, .bool b47], .int .i64 n48] ∧
  stC (Addr.mk w2.heap.size 0 none) (.bool b37) w15 (fun (w16 : World) =>
  stC (Addr.mk w2.heap.size 1 none) (.bool b38) w16 (fun (w17 : World) =>
  stC (Addr.mk w2.heap.size 2 none) (.int .i64 n39) w17 (fun (w18 : World) =>
  stC (Addr.mk w2.heap.size 3 none) (.int .i64 n40) w18 (fun (w19 : World) =>
  stC (Addr.mk w2.heap.size 4 none) (.slice a41 l41 c41) w19 (fun (w20 : World) =>
  stC (Addr.mk w2.heap.size 5 none) (.slice a42 l42 c42) w20 (fun (w21 : World) =>
  stC (Addr.mk w2.heap.size 6 none) (.slice a43 l43 c43) w21 (fun (w22 : World) =>
  stC (Addr.mk w2.heap.size 7 none) (.int .i64 n44) w22 (fun (w23 : World) =>
  stC (Addr.mk w2.heap.size 8 none) (.bool b45) w23 (fun (w24 : World) =>
  stC (Addr.mk w2.heap.size 9 none) (.bool b46) w24 (fun (w25 : World) =>
  stC (Addr.mk w2.heap.size 10 none) (.bool b47) w25 (fun (w26 : World) =>
  ∃ (b50 : Bool) (b51 : Bool) (n52 : Int) (n53 : Int) (a54 : Option Addr) (l54 : Nat) (c54 : Nat) (a55 : Option Addr) (l55 : Nat) (c55 : Nat) (a56 : Option Addr) (l56 : Nat) (c56 : Nat) (n57 : Int) (b58 : Bool) (b59 : Bool) (b60 : Bool), w26.cell? (Addr.mk w2.heap.size 0 none) = some ((.bool b50 : Value)) ∧ w26.cell? (Addr.mk w2.heap.size 1 none) = some ((.bool b51 : Value)) ∧ w26.cell? (Addr.mk w2.heap.size 2 none) = some ((.int .i64 n52 : Value)) ∧ w26.cell? (Addr.mk w2.heap.size 3 none) = some ((.int .i64 n53 : Value)) ∧ w26.cell? (Addr.mk w2.heap.size 4 none) = some ((.slice a54 l54 c54 : Value)) ∧ w26.cell? (Addr.mk w2.heap.size 5 none) = some ((.slice a55 l55 c55 : Value)) ∧ w26.cell? (Addr.mk w2.heap.size 6 none) = some ((.slice a56 l56 c56 : Value)) ∧ w26.cell? (Addr.mk w2.heap.size 7 none) = some ((.int .i64 n57 : Value)) ∧ w26.cell? (Addr.mk w2.heap.size 8 none) = some ((.bool b58 : Value)) ∧ w26.cell? (Addr.mk w2.heap.size 9 none) = some ((.bool b59 : Value)) ∧ w26.cell? (Addr.mk w2.heap.size 10 none) = some ((.bool b60 : Value)) ∧ 
  CallR Try.prog 12 [.agg #[.bool b50, .bool b51, .int .i64 n52, .int .i64 n53, .slice a54 l54 c54, .slice a55 l55 c55, .slice a56 l56 c56, .int .i64 n57, .bool b58, .bool b59, .bool b60]] w26 (fun (r63 : Value) (w27 : World) =>
  ∃ (a61 : Option Addr) (l61 : Nat) (c61 : Nat) (n62 : Int), r63 = .tuple #[.slice a61 l61 c61, .int .i64 n62] ∧
  CallR Try.prog 27 [] w27 (fun (r75 : Value) (w28 : World) =>
  ∃ (b64 : Bool) (b65 : Bool) (n66 : Int) (n67 : Int) (a68 : Option Addr) (l68 : Nat) (c68 : Nat) (a69 : Option Addr) (l69 : Nat) (c69 : Nat) (a70 : Option Addr) (l70 : Nat) (c70 : Nat) (n71 : Int) (b72 : Bool) (b73 : Bool) (b74 : Bool), r75 = .agg #[.bool b64, .bool b65, .int .i64 n66, .int .i64 n67, .slice a68 l68 c68, .slice a69 l69 c69, .slice a70 l70 c70, .int .i64 n71, .bool b72, .bool b73, .bool b74] ∧
  let w29 := World.alloc w28 (Obj.cells #[.int .u8 97, .int .u8 98] 5);
  ∃ (a76 : Option Addr) (l76 : Nat) (c76 : Nat) (w30 : World), Sem.run Try.prog (convert 22 22 (.slice (some (Addr.mk w28.heap.size 0 none)) 2 2)) w29 = .ok ((.slice a76 l76 c76 : Value)) w30 ∧
  CallR Try.prog 10 [.agg #[.bool b64, .bool b65, .int .i64 n66, .int .i64 n67, .slice a68 l68 c68, .slice a69 l69 c69, .slice a70 l70 c70, .int .i64 n71, .bool b72, .bool b73, .bool b74], .slice a76 l76 c76] w30 (fun (r89 : Value) (w31 : World) =>
  ∃ (b77 : Bool) (b78 : Bool) (n79 : Int) (n80 : Int) (a81 : Option Addr) (l81 : Nat) (c81 : Nat) (a82 : Option Addr) (l82 : Nat) (c82 : Nat) (a83 : Option Addr) (l83 : Nat) (c83 : Nat) (n84 : Int) (b85 : Bool) (b86 : Bool) (b87 : Bool) (n88 : Int), r89 = .tuple #[.agg #[.bool b77, .bool b78, .int .i64 n79, .int .i64 n80, .slice a81 l81 c81, .slice a82 l82 c82, .slice a83 l83 c83, .int .i64 n84, .bool b85, .bool b86, .bool b87], .int .i64 n88] ∧
  let w32 := World.alloc w31 (Obj.cells #[.bool false, .bool false, .int .i64 0, .int .i64 0, .slice none 0 0, .slice none 0 0, .slice none 0 0, .int .i64 0, .bool false, .bool false, .bool false] 25);
  stC (Addr.mk w31.heap.size 0 none) (.bool b77) w32 (fun (w33 : World) =>
  stC (Addr.mk w31.heap.size 1 none) (.bool b78) w33 (fun (w34 : World) =>
  stC (Addr.mk w31.heap.size 2 none) (.int .i64 n79) w34 (fun (w35 : World) =>
  stC (Addr.mk w31.heap.size 3 none) (.int .i64 n80) w35 (fun (w36 : World) =>
  stC (Addr.mk w31.heap.size 4 none) (.slice a81 l81 c81) w36 (fun (w37 : World) =>
  stC (Addr.mk w31.heap.size 5 none) (.slice a82 l82 c82) w37 (fun (w38 : World) =>
  stC (Addr.mk w31.heap.size 6 none) (.slice a83 l83 c83) w38 (fun (w39 : World) =>
  stC (Addr.mk w31.heap.size 7 none) (.int .i64 n84) w39 (fun (w40 : World) =>
  stC (Addr.mk w31.heap.size 8 none) (.bool b85) w40 (fun (w41 : World) =>
  stC (Addr.mk w31.heap.size 9 none) (.bool b86) w41 (fun (w42 : World) =>
  stC (Addr.mk w31.heap.size 10 none) (.bool b87) w42 (fun (w43 : World) =>
  ∃ (b90 : Bool) (b91 : Bool) (n92 : Int) (n93 : Int) (a94 : Option Addr) (l94 : Nat) (c94 : Nat) (a95 : Option Addr) (l95 : Nat) (c95 : Nat) (a96 : Option Addr) (l96 : Nat) (c96 : Nat) (n97 : Int) (b98 : Bool) (b99 : Bool) (b100 : Bool), w43.cell? (Addr.mk w31.heap.size 0 none) = some ((.bool b90 : Value)) ∧ w43.cell? (Addr.mk w31.heap.size 1 none) = some ((.bool b91 : Value)) ∧ w43.cell? (Addr.mk w31.heap.size 2 none) = some ((.int .i64 n92 : Value)) ∧ w43.cell? (Addr.mk w31.heap.size 3 none) = some ((.int .i64 n93 : Value)) ∧ w43.cell? (Addr.mk w31.heap.size 4 none) = some ((.slice a94 l94 c94 : Value)) ∧ w43.cell? (Addr.mk w31.heap.size 5 none) = some ((.slice a95 l95 c95 : Value)) ∧ w43.cell? (Addr.mk w31.heap.size 6 none) = some ((.slice a96 l96 c96 : Value)) ∧ w43.cell? (Addr.mk w31.heap.size 7 none) = some ((.int .i64 n97 : Value)) ∧ w43.cell? (Addr.mk w31.heap.size 8 none) = some ((.bool b98 : Value)) ∧ w43.cell? (Addr.mk w31.heap.size 9 none) = some ((.bool b99 : Value)) ∧ w43.cell? (Addr.mk w31.heap.size 10 none) = some ((.bool b100 : Value)) ∧ 
  CallR Try.prog 12 [.agg #[.bool b90, .bool b91, .int .i64 n92, .int .i64 n93, .slice a94 l94 c94, .slice a95 l95 c95, .slice a96 l96 c96, .int .i64 n97, .bool b98, .bool b99, .bool b100]] w43 (fun (r103 : Value) (w44 : World) =>
  ∃ (a101 : Option Addr) (l101 : Nat) (c101 : Nat) (n102 : Int), r103 = .tuple #[.slice a101 l101 c101, .int .i64 n102] ∧
  CallR Try.prog 15 [.int .i64 n24] w44 (fun (r105 : Value) (w45 : World) =>
  ∃ (n104 : Int), r105 = .int .i64 n104 ∧
  CallR Try.prog 15 [.int .i64 n48] w45 (fun (r107 : Value) (w46 : World) =>
  ∃ (n106 : Int), r107 = .int .i64 n106 ∧
  inI (n104 + n106) ∧
  CallR Try.prog 15 [.int .i64 n62] w46 (fun (r109 : Value) (w47 : World) =>
  ∃ (n108 : Int), r109 = .int .i64 n108 ∧
  inI ((n104 + n106) + n108) ∧
  CallR Try.prog 15 [.int .i64 n88] w47 (fun (r111 : Value) (w48 : World) =>
  ∃ (n110 : Int), r111 = .int .i64 n110 ∧
  inI (((n104 + n106) + n108) + n110) ∧
  CallR Try.prog 15 [.int .i64 n102] w48 (fun (r113 : Value) (w49 : World) =>
  ∃ (n112 : Int), r113 = .int .i64 n112 ∧
  inI ((((n104 + n106) + n108) + n110) + n112) ∧
  cond (((((n104 + n106) + n108) + n110) + n112) == 0)
  (∃ (s114 : ByteArray) (w50 : World), Sem.run Try.prog (convert 22 9 (.slice a61 l61 c61)) w49 = .ok ((.string s114 : Value)) w50 ∧
  cond (ByteArray.toList s114 == ByteArray.toList (ByteArray.mk #[98, 97]))
  (∃ (s115 : ByteArray) (w51 : World), Sem.run Try.prog (convert 22 9 (.slice a101 l101 c101)) w50 = .ok ((.string s115 : Value)) w51 ∧
  Q (.bool (ByteArray.toList s115 == ByteArray.toList (ByteArray.mk #[97, 98]))) w51)
  (Q (.bool false) w50))
  (Q (.bool false) w49))))))))))))))))))))))))))))))))))))))))))))))
theorem C17 {Q : Value → World → Prop} {w : World} (h : L17 Q w) : CallR Try.prog 17 [] w Q :=
  fun_calls (A := A17) mixed Try.func17 (c := (Try.f17.body).getD .skip) rfl (by kernel_rfl) (Eq.mp (by kernel_rfl) h)

/-- millrace/millracelaw13.PushbackSteps -/
def A3 : Ann := ⟨[], [], [], [], [], []⟩
def L3 (b1 : Bool) (b2 : Bool) (n3 : Int) (n4 : Int) (a5 : Option Addr) (l5 : Nat) (c5 : Nat) (a6 : Option Addr) (l6 : Nat) (c6 : Nat) (a7 : Option Addr) (l7 : Nat) (c7 : Nat) (n8 : Int) (b9 : Bool) (b10 : Bool) (b11 : Bool) (n12 : Int) (a13 : Option Addr) (l13 : Nat) (c13 : Nat) (Q : Value → World → Prop) (w : World) : Prop :=
  let w1 := World.alloc w (Obj.cells #[.bool b1, .bool b2, .int .i64 n3, .int .i64 n4, .slice a5 l5 c5, .slice a6 l6 c6, .slice a7 l7 c7, .int .i64 n8, .bool b9, .bool b10, .bool b11] 24);
  ∃ (b14 : Bool) (b15 : Bool) (n16 : Int) (n17 : Int) (a18 : Option Addr) (l18 : Nat) (c18 : Nat) (a19 : Option Addr) (l19 : Nat) (c19 : Nat) (a20 : Option Addr) (l20 : Nat) (c20 : Nat) (n21 : Int) (b22 : Bool) (b23 : Bool) (b24 : Bool), w1.cell? (Addr.mk w.heap.size 0 none) = some ((.bool b14 : Value)) ∧ w1.cell? (Addr.mk w.heap.size 1 none) = some ((.bool b15 : Value)) ∧ w1.cell? (Addr.mk w.heap.size 2 none) = some ((.int .i64 n16 : Value)) ∧ w1.cell? (Addr.mk w.heap.size 3 none) = some ((.int .i64 n17 : Value)) ∧ w1.cell? (Addr.mk w.heap.size 4 none) = some ((.slice a18 l18 c18 : Value)) ∧ w1.cell? (Addr.mk w.heap.size 5 none) = some ((.slice a19 l19 c19 : Value)) ∧ w1.cell? (Addr.mk w.heap.size 6 none) = some ((.slice a20 l20 c20 : Value)) ∧ w1.cell? (Addr.mk w.heap.size 7 none) = some ((.int .i64 n21 : Value)) ∧ w1.cell? (Addr.mk w.heap.size 8 none) = some ((.bool b22 : Value)) ∧ w1.cell? (Addr.mk w.heap.size 9 none) = some ((.bool b23 : Value)) ∧ w1.cell? (Addr.mk w.heap.size 10 none) = some ((.bool b24 : Value)) ∧ 
  CallR Try.prog 7 [.agg #[.bool b14, .bool b15, .int .i64 n16, .int .i64 n17, .slice a18 l18 c18, .slice a19 l19 c19, .slice a20 l20 c20, .int .i64 n21, .bool b22, .bool b23, .bool b24]] w1 (fun (r36 : Value) (w2 : World) =>
  ∃ (b25 : Bool) (b26 : Bool) (n27 : Int) (n28 : Int) (a29 : Option Addr) (l29 : Nat) (c29 : Nat) (a30 : Option Addr) (l30 : Nat) (c30 : Nat) (a31 : Option Addr) (l31 : Nat) (c31 : Nat) (n32 : Int) (b33 : Bool) (b34 : Bool) (b35 : Bool), r36 = .agg #[.bool b25, .bool b26, .int .i64 n27, .int .i64 n28, .slice a29 l29 c29, .slice a30 l30 c30, .slice a31 l31 c31, .int .i64 n32, .bool b33, .bool b34, .bool b35] ∧
  let w3 := World.alloc w2 (Obj.cells #[.bool false, .bool false, .int .i64 0, .int .i64 0, .slice none 0 0, .slice none 0 0, .slice none 0 0, .int .i64 0, .bool false, .bool false, .bool false] 25);
  stC (Addr.mk w2.heap.size 0 none) (.bool b25) w3 (fun (w4 : World) =>
  stC (Addr.mk w2.heap.size 1 none) (.bool b26) w4 (fun (w5 : World) =>
  stC (Addr.mk w2.heap.size 2 none) (.int .i64 n27) w5 (fun (w6 : World) =>
  stC (Addr.mk w2.heap.size 3 none) (.int .i64 n28) w6 (fun (w7 : World) =>
  stC (Addr.mk w2.heap.size 4 none) (.slice a29 l29 c29) w7 (fun (w8 : World) =>
  stC (Addr.mk w2.heap.size 5 none) (.slice a30 l30 c30) w8 (fun (w9 : World) =>
  stC (Addr.mk w2.heap.size 6 none) (.slice a31 l31 c31) w9 (fun (w10 : World) =>
  stC (Addr.mk w2.heap.size 7 none) (.int .i64 n32) w10 (fun (w11 : World) =>
  stC (Addr.mk w2.heap.size 8 none) (.bool b33) w11 (fun (w12 : World) =>
  stC (Addr.mk w2.heap.size 9 none) (.bool b34) w12 (fun (w13 : World) =>
  stC (Addr.mk w2.heap.size 10 none) (.bool b35) w13 (fun (w14 : World) =>
  ∃ (b37 : Bool) (b38 : Bool) (n39 : Int) (n40 : Int) (a41 : Option Addr) (l41 : Nat) (c41 : Nat) (a42 : Option Addr) (l42 : Nat) (c42 : Nat) (a43 : Option Addr) (l43 : Nat) (c43 : Nat) (n44 : Int) (b45 : Bool) (b46 : Bool) (b47 : Bool), w14.cell? (Addr.mk w2.heap.size 0 none) = some ((.bool b37 : Value)) ∧ w14.cell? (Addr.mk w2.heap.size 1 none) = some ((.bool b38 : Value)) ∧ w14.cell? (Addr.mk w2.heap.size 2 none) = some ((.int .i64 n39 : Value)) ∧ w14.cell? (Addr.mk w2.heap.size 3 none) = some ((.int .i64 n40 : Value)) ∧ w14.cell? (Addr.mk w2.heap.size 4 none) = some ((.slice a41 l41 c41 : Value)) ∧ w14.cell? (Addr.mk w2.heap.size 5 none) = some ((.slice a42 l42 c42 : Value)) ∧ w14.cell? (Addr.mk w2.heap.size 6 none) = some ((.slice a43 l43 c43 : Value)) ∧ w14.cell? (Addr.mk w2.heap.size 7 none) = some ((.int .i64 n44 : Value)) ∧ w14.cell? (Addr.mk w2.heap.size 8 none) = some ((.bool b45 : Value)) ∧ w14.cell? (Addr.mk w2.heap.size 9 none) = some ((.bool b46 : Value)) ∧ w14.cell? (Addr.mk w2.heap.size 10 none) = some ((.bool b47 : Value)) ∧ 
  CallR Try.prog 8 [.agg #[.bool b37, .bool b38, .int .i64 n39, .int .i64 n40, .slice a41 l41 c41, .slice a42 l42 c42, .slice a43 l43 c43, .int .i64 n44, .bool b45, .bool b46, .bool b47], .int .u8 n12] w14 (fun (r60 : Value) (w15 : World) =>
  ∃ (b48 : Bool) (b49 : Bool) (n50 : Int) (n51 : Int) (a52 : Option Addr) (l52 : Nat) (c52 : Nat) (a53 : Option Addr) (l53 : Nat) (c53 : Nat) (a54 : Option Addr) (l54 : Nat) (c54 : Nat) (n55 : Int) (b56 : Bool) (b57 : Bool) (b58 : Bool) (n59 : Int), r60 = .tuple #[.agg #[.bool b48, .bool b49, .int .i64 n50, .int .i64 n51, .slice a52 l52 c52, .slice a53 l53 c53, .slice a54 l54 c54, .int .i64 n55, .bool b56, .bool b57, .bool b58], .int .i64 n59] ∧
  let w16 := World.alloc w15 (Obj.cells #[.bool false, .bool false, .int .i64 0, .int .i64 0, .slice none 0 0, .slice none 0 0, .slice none 0 0, .int .i64 0, .bool false, .bool false, .bool false] 25);
  stC (Addr.mk w15.heap.size 0 none) (.bool b48) w16 (fun (w17 : World) =>
  stC (Addr.mk w15.heap.size 1 none) (.bool b49) w17 (fun (w18 : World) =>
  stC (Addr.mk w15.heap.size 2 none) (.int .i64 n50) w18 (fun (w19 : World) =>
  stC (Addr.mk w15.heap.size 3 none) (.int .i64 n51) w19 (fun (w20 : World) =>
  stC (Addr.mk w15.heap.size 4 none) (.slice a52 l52 c52) w20 (fun (w21 : World) =>
  stC (Addr.mk w15.heap.size 5 none) (.slice a53 l53 c53) w21 (fun (w22 : World) =>
  stC (Addr.mk w15.heap.size 6 none) (.slice a54 l54 c54) w22 (fun (w23 : World) =>
  stC (Addr.mk w15.heap.size 7 none) (.int .i64 n55) w23 (fun (w24 : World) =>
  stC (Addr.mk w15.heap.size 8 none) (.bool b56) w24 (fun (w25 : World) =>
  stC (Addr.mk w15.heap.size 9 none) (.bool b57) w25 (fun (w26 : World) =>
  stC (Addr.mk w15.heap.size 10 none) (.bool b58) w26 (fun (w27 : World) =>
  ∃ (b61 : Bool) (b62 : Bool) (n63 : Int) (n64 : Int) (a65 : Option Addr) (l65 : Nat) (c65 : Nat) (a66 : Option Addr) (l66 : Nat) (c66 : Nat) (a67 : Option Addr) (l67 : Nat) (c67 : Nat) (n68 : Int) (b69 : Bool) (b70 : Bool) (b71 : Bool), w27.cell? (Addr.mk w.heap.size 0 none) = some ((.bool b61 : Value)) ∧ w27.cell? (Addr.mk w.heap.size 1 none) = some ((.bool b62 : Value)) ∧ w27.cell? (Addr.mk w.heap.size 2 none) = some ((.int .i64 n63 : Value)) ∧ w27.cell? (Addr.mk w.heap.size 3 none) = some ((.int .i64 n64 : Value)) ∧ w27.cell? (Addr.mk w.heap.size 4 none) = some ((.slice a65 l65 c65 : Value)) ∧ w27.cell? (Addr.mk w.heap.size 5 none) = some ((.slice a66 l66 c66 : Value)) ∧ w27.cell? (Addr.mk w.heap.size 6 none) = some ((.slice a67 l67 c67 : Value)) ∧ w27.cell? (Addr.mk w.heap.size 7 none) = some ((.int .i64 n68 : Value)) ∧ w27.cell? (Addr.mk w.heap.size 8 none) = some ((.bool b69 : Value)) ∧ w27.cell? (Addr.mk w.heap.size 9 none) = some ((.bool b70 : Value)) ∧ w27.cell? (Addr.mk w.heap.size 10 none) = some ((.bool b71 : Value)) ∧ 
  CallR Try.prog 9 [.agg #[.bool b61, .bool b62, .int .i64 n63, .int .i64 n64, .slice a65 l65 c65, .slice a66 l66 c66, .slice a67 l67 c67, .int .i64 n68, .bool b69, .bool b70, .bool b71], .int .u8 n12] w27 (fun (r84 : Value) (w28 : World) =>
  ∃ (b72 : Bool) (b73 : Bool) (n74 : Int) (n75 : Int) (a76 : Option Addr) (l76 : Nat) (c76 : Nat) (a77 : Option Addr) (l77 : Nat) (c77 : Nat) (a78 : Option Addr) (l78 : Nat) (c78 : Nat) (n79 : Int) (b80 : Bool) (b81 : Bool) (b82 : Bool) (n83 : Int), r84 = .tuple #[.agg #[.bool b72, .bool b73, .int .i64 n74, .int .i64 n75, .slice a76 l76 c76, .slice a77 l77 c77, .slice a78 l78 c78, .int .i64 n79, .bool b80, .bool b81, .bool b82], .int .i64 n83] ∧
  let w29 := World.alloc w28 (Obj.cells #[.bool false, .bool false, .int .i64 0, .int .i64 0, .slice none 0 0, .slice none 0 0, .slice none 0 0, .int .i64 0, .bool false, .bool false, .bool false] 24);
  stC (Addr.mk w28.heap.size 0 none) (.bool b72) w29 (fun (w30 : World) =>
  stC (Addr.mk w28.heap.size 1 none) (.bool b73) w30 (fun (w31 : World) =>
  stC (Addr.mk w28.heap.size 2 none) (.int .i64 n74) w31 (fun (w32 : World) =>
  stC (Addr.mk w28.heap.size 3 none) (.int .i64 n75) w32 (fun (w33 : World) =>
  stC (Addr.mk w28.heap.size 4 none) (.slice a76 l76 c76) w33 (fun (w34 : World) =>
  stC (Addr.mk w28.heap.size 5 none) (.slice a77 l77 c77) w34 (fun (w35 : World) =>
  stC (Addr.mk w28.heap.size 6 none) (.slice a78 l78 c78) w35 (fun (w36 : World) =>
  stC (Addr.mk w28.heap.size 7 none) (.int .i64 n79) w36 (fun (w37 : World) =>
  stC (Addr.mk w28.heap.size 8 none) (.bool b80) w37 (fun (w38 : World) =>
  stC (Addr.mk w28.heap.size 9 none) (.bool b81) w38 (fun (w39 : World) =>
  stC (Addr.mk w28.heap.size 10 none) (.bool b82) w39 (fun (w40 : World) =>
  ∃ (b85 : Bool) (b86 : Bool) (n87 : Int) (n88 : Int) (a89 : Option Addr) (l89 : Nat) (c89 : Nat) (a90 : Option Addr) (l90 : Nat) (c90 : Nat) (a91 : Option Addr) (l91 : Nat) (c91 : Nat) (n92 : Int) (b93 : Bool) (b94 : Bool) (b95 : Bool), w40.cell? (Addr.mk w2.heap.size 0 none) = some ((.bool b85 : Value)) ∧ w40.cell? (Addr.mk w2.heap.size 1 none) = some ((.bool b86 : Value)) ∧ w40.cell? (Addr.mk w2.heap.size 2 none) = some ((.int .i64 n87 : Value)) ∧ w40.cell? (Addr.mk w2.heap.size 3 none) = some ((.int .i64 n88 : Value)) ∧ w40.cell? (Addr.mk w2.heap.size 4 none) = some ((.slice a89 l89 c89 : Value)) ∧ w40.cell? (Addr.mk w2.heap.size 5 none) = some ((.slice a90 l90 c90 : Value)) ∧ w40.cell? (Addr.mk w2.heap.size 6 none) = some ((.slice a91 l91 c91 : Value)) ∧ w40.cell? (Addr.mk w2.heap.size 7 none) = some ((.int .i64 n92 : Value)) ∧ w40.cell? (Addr.mk w2.heap.size 8 none) = some ((.bool b93 : Value)) ∧ w40.cell? (Addr.mk w2.heap.size 9 none) = some ((.bool b94 : Value)) ∧ w40.cell? (Addr.mk w2.heap.size 10 none) = some ((.bool b95 : Value)) ∧ 
  CallR Try.prog 10 [.agg #[.bool b85, .bool b86, .int .i64 n87, .int .i64 n88, .slice a89 l89 c89, .slice a90 l90 c90, .slice a91 l91 c91, .int .i64 n92, .bool b93, .bool b94, .bool b95], .slice a13 l13 c13] w40 (fun (r108 : Value) (w41 : World) =>
  ∃ (b96 : Bool) (b97 : Bool) (n98 : Int) (n99 : Int) (a100 : Option Addr) (l100 : Nat) (c100 : Nat) (a101 : Option Addr) (l101 : Nat) (c101 : Nat) (a102 : Option Addr) (l102 : Nat) (c102 : Nat) (n103 : Int) (b104 : Bool) (b105 : Bool) (b106 : Bool) (n107 : Int), r108 = .tuple #[.agg #[.bool b96, .bool b97, .int .i64 n98, .int .i64 n99, .slice a100 l100 c100, .slice a101 l101 c101, .slice a102 l102 c102, .int .i64 n103, .bool b104, .bool b105, .bool b106], .int .i64 n107] ∧
  let w42 := World.alloc w41 (Obj.cells #[.bool false, .bool false, .int .i64 0, .int .i64 0, .slice none 0 0, .slice none 0 0, .slice none 0 0, .int .i64 0, .bool false, .bool false, .bool false] 25);
  stC (Addr.mk w41.heap.size 0 none) (.bool b96) w42 (fun (w43 : World) =>
  stC (Addr.mk w41.heap.size 1 none) (.bool b97) w43 (fun (w44 : World) =>
  stC (Addr.mk w41.heap.size 2 none) (.int .i64 n98) w44 (fun (w45 : World) =>
  stC (Addr.mk w41.heap.size 3 none) (.int .i64 n99) w45 (fun (w46 : World) =>
  stC (Addr.mk w41.heap.size 4 none) (.slice a100 l100 c100) w46 (fun (w47 : World) =>
  stC (Addr.mk w41.heap.size 5 none) (.slice a101 l101 c101) w47 (fun (w48 : World) =>
  stC (Addr.mk w41.heap.size 6 none) (.slice a102 l102 c102) w48 (fun (w49 : World) =>
  stC (Addr.mk w41.heap.size 7 none) (.int .i64 n103) w49 (fun (w50 : World) =>
  stC (Addr.mk w41.heap.size 8 none) (.bool b104) w50 (fun (w51 : World) =>
  stC (Addr.mk w41.heap.size 9 none) (.bool b105) w51 (fun (w52 : World) =>
  stC (Addr.mk w41.heap.size 10 none) (.bool b106) w52 (fun (w53 : World) =>
  ∃ (b109 : Bool) (b110 : Bool) (n111 : Int) (n112 : Int) (a113 : Option Addr) (l113 : Nat) (c113 : Nat) (a114 : Option Addr) (l114 : Nat) (c114 : Nat) (a115 : Option Addr) (l115 : Nat) (c115 : Nat) (n116 : Int) (b117 : Bool) (b118 : Bool) (b119 : Bool), w53.cell? (Addr.mk w.heap.size 0 none) = some ((.bool b109 : Value)) ∧ w53.cell? (Addr.mk w.heap.size 1 none) = some ((.bool b110 : Value)) ∧ w53.cell? (Addr.mk w.heap.size 2 none) = some ((.int .i64 n111 : Value)) ∧ w53.cell? (Addr.mk w.heap.size 3 none) = some ((.int .i64 n112 : Value)) ∧ w53.cell? (Addr.mk w.heap.size 4 none) = some ((.slice a113 l113 c113 : Value)) ∧ w53.cell? (Addr.mk w.heap.size 5 none) = some ((.slice a114 l114 c114 : Value)) ∧ w53.cell? (Addr.mk w.heap.size 6 none) = some ((.slice a115 l115 c115 : Value)) ∧ w53.cell? (Addr.mk w.heap.size 7 none) = some ((.int .i64 n116 : Value)) ∧ w53.cell? (Addr.mk w.heap.size 8 none) = some ((.bool b117 : Value)) ∧ w53.cell? (Addr.mk w.heap.size 9 none) = some ((.bool b118 : Value)) ∧ w53.cell? (Addr.mk w.heap.size 10 none) = some ((.bool b119 : Value)) ∧ 
  CallR Try.prog 11 [.agg #[.bool b109, .bool b110, .int .i64 n111, .int .i64 n112, .slice a113 l113 c113, .slice a114 l114 c114, .slice a115 l115 c115, .int .i64 n116, .bool b117, .bool b118, .bool b119], .slice a13 l13 c13] w53 (fun (r132 : Value) (w54 : World) =>
  ∃ (b120 : Bool) (b121 : Bool) (n122 : Int) (n123 : Int) (a124 : Option Addr) (l124 : Nat) (c124 : Nat) (a125 : Option Addr) (l125 : Nat) (c125 : Nat) (a126 : Option Addr) (l126 : Nat) (c126 : Nat) (n127 : Int) (b128 : Bool) (b129 : Bool) (b130 : Bool) (n131 : Int), r132 = .tuple #[.agg #[.bool b120, .bool b121, .int .i64 n122, .int .i64 n123, .slice a124 l124 c124, .slice a125 l125 c125, .slice a126 l126 c126, .int .i64 n127, .bool b128, .bool b129, .bool b130], .int .i64 n131] ∧
  let w55 := World.alloc w54 (Obj.cells #[.bool false, .bool false, .int .i64 0, .int .i64 0, .slice none 0 0, .slice none 0 0, .slice none 0 0, .int .i64 0, .bool false, .bool false, .bool false] 24);
  stC (Addr.mk w54.heap.size 0 none) (.bool b120) w55 (fun (w56 : World) =>
  stC (Addr.mk w54.heap.size 1 none) (.bool b121) w56 (fun (w57 : World) =>
  stC (Addr.mk w54.heap.size 2 none) (.int .i64 n122) w57 (fun (w58 : World) =>
  stC (Addr.mk w54.heap.size 3 none) (.int .i64 n123) w58 (fun (w59 : World) =>
  stC (Addr.mk w54.heap.size 4 none) (.slice a124 l124 c124) w59 (fun (w60 : World) =>
  stC (Addr.mk w54.heap.size 5 none) (.slice a125 l125 c125) w60 (fun (w61 : World) =>
  stC (Addr.mk w54.heap.size 6 none) (.slice a126 l126 c126) w61 (fun (w62 : World) =>
  stC (Addr.mk w54.heap.size 7 none) (.int .i64 n127) w62 (fun (w63 : World) =>
  stC (Addr.mk w54.heap.size 8 none) (.bool b128) w63 (fun (w64 : World) =>
  stC (Addr.mk w54.heap.size 9 none) (.bool b129) w64 (fun (w65 : World) =>
  stC (Addr.mk w54.heap.size 10 none) (.bool b130) w65 (fun (w66 : World) =>
  ∃ (b133 : Bool) (b134 : Bool) (n135 : Int) (n136 : Int) (a137 : Option Addr) (l137 : Nat) (c137 : Nat) (a138 : Option Addr) (l138 : Nat) (c138 : Nat) (a139 : Option Addr) (l139 : Nat) (c139 : Nat) (n140 : Int) (b141 : Bool) (b142 : Bool) (b143 : Bool), w66.cell? (Addr.mk w2.heap.size 0 none) = some ((.bool b133 : Value)) ∧ w66.cell? (Addr.mk w2.heap.size 1 none) = some ((.bool b134 : Value)) ∧ w66.cell? (Addr.mk w2.heap.size 2 none) = some ((.int .i64 n135 : Value)) ∧ w66.cell? (Addr.mk w2.heap.size 3 none) = some ((.int .i64 n136 : Value)) ∧ w66.cell? (Addr.mk w2.heap.size 4 none) = some ((.slice a137 l137 c137 : Value)) ∧ w66.cell? (Addr.mk w2.heap.size 5 none) = some ((.slice a138 l138 c138 : Value)) ∧ w66.cell? (Addr.mk w2.heap.size 6 none) = some ((.slice a139 l139 c139 : Value)) ∧ w66.cell? (Addr.mk w2.heap.size 7 none) = some ((.int .i64 n140 : Value)) ∧ w66.cell? (Addr.mk w2.heap.size 8 none) = some ((.bool b141 : Value)) ∧ w66.cell? (Addr.mk w2.heap.size 9 none) = some ((.bool b142 : Value)) ∧ w66.cell? (Addr.mk w2.heap.size 10 none) = some ((.bool b143 : Value)) ∧ 
  CallR Try.prog 12 [.agg #[.bool b133, .bool b134, .int .i64 n135, .int .i64 n136, .slice a137 l137 c137, .slice a138 l138 c138, .slice a139 l139 c139, .int .i64 n140, .bool b141, .bool b142, .bool b143]] w66 (fun (r146 : Value) (w67 : World) =>
  ∃ (a144 : Option Addr) (l144 : Nat) (c144 : Nat) (n145 : Int), r146 = .tuple #[.slice a144 l144 c144, .int .i64 n145] ∧
  ∃ (b147 : Bool) (b148 : Bool) (n149 : Int) (n150 : Int) (a151 : Option Addr) (l151 : Nat) (c151 : Nat) (a152 : Option Addr) (l152 : Nat) (c152 : Nat) (a153 : Option Addr) (l153 : Nat) (c153 : Nat) (n154 : Int) (b155 : Bool) (b156 : Bool) (b157 : Bool), w67.cell? (Addr.mk w.heap.size 0 none) = some ((.bool b147 : Value)) ∧ w67.cell? (Addr.mk w.heap.size 1 none) = some ((.bool b148 : Value)) ∧ w67.cell? (Addr.mk w.heap.size 2 none) = some ((.int .i64 n149 : Value)) ∧ w67.cell? (Addr.mk w.heap.size 3 none) = some ((.int .i64 n150 : Value)) ∧ w67.cell? (Addr.mk w.heap.size 4 none) = some ((.slice a151 l151 c151 : Value)) ∧ w67.cell? (Addr.mk w.heap.size 5 none) = some ((.slice a152 l152 c152 : Value)) ∧ w67.cell? (Addr.mk w.heap.size 6 none) = some ((.slice a153 l153 c153 : Value)) ∧ w67.cell? (Addr.mk w.heap.size 7 none) = some ((.int .i64 n154 : Value)) ∧ w67.cell? (Addr.mk w.heap.size 8 none) = some ((.bool b155 : Value)) ∧ w67.cell? (Addr.mk w.heap.size 9 none) = some ((.bool b156 : Value)) ∧ w67.cell? (Addr.mk w.heap.size 10 none) = some ((.bool b157 : Value)) ∧ 
  CallR Try.prog 13 [.agg #[.bool b147, .bool b148, .int .i64 n149, .int .i64 n150, .slice a151 l151 c151, .slice a152 l152 c152, .slice a153 l153 c153, .int .i64 n154, .bool b155, .bool b156, .bool b157]] w67 (fun (r160 : Value) (w68 : World) =>
  ∃ (a158 : Option Addr) (l158 : Nat) (c158 : Nat) (n159 : Int), r160 = .tuple #[.slice a158 l158 c158, .int .i64 n159] ∧
  ∃ (b161 : Bool) (b162 : Bool) (n163 : Int) (n164 : Int) (a165 : Option Addr) (l165 : Nat) (c165 : Nat) (a166 : Option Addr) (l166 : Nat) (c166 : Nat) (a167 : Option Addr) (l167 : Nat) (c167 : Nat) (n168 : Int) (b169 : Bool) (b170 : Bool) (b171 : Bool), w68.cell? (Addr.mk w15.heap.size 0 none) = some ((.bool b161 : Value)) ∧ w68.cell? (Addr.mk w15.heap.size 1 none) = some ((.bool b162 : Value)) ∧ w68.cell? (Addr.mk w15.heap.size 2 none) = some ((.int .i64 n163 : Value)) ∧ w68.cell? (Addr.mk w15.heap.size 3 none) = some ((.int .i64 n164 : Value)) ∧ w68.cell? (Addr.mk w15.heap.size 4 none) = some ((.slice a165 l165 c165 : Value)) ∧ w68.cell? (Addr.mk w15.heap.size 5 none) = some ((.slice a166 l166 c166 : Value)) ∧ w68.cell? (Addr.mk w15.heap.size 6 none) = some ((.slice a167 l167 c167 : Value)) ∧ w68.cell? (Addr.mk w15.heap.size 7 none) = some ((.int .i64 n168 : Value)) ∧ w68.cell? (Addr.mk w15.heap.size 8 none) = some ((.bool b169 : Value)) ∧ w68.cell? (Addr.mk w15.heap.size 9 none) = some ((.bool b170 : Value)) ∧ w68.cell? (Addr.mk w15.heap.size 10 none) = some ((.bool b171 : Value)) ∧ 
  ∃ (b172 : Bool) (b173 : Bool) (n174 : Int) (n175 : Int) (a176 : Option Addr) (l176 : Nat) (c176 : Nat) (a177 : Option Addr) (l177 : Nat) (c177 : Nat) (a178 : Option Addr) (l178 : Nat) (c178 : Nat) (n179 : Int) (b180 : Bool) (b181 : Bool) (b182 : Bool), w68.cell? (Addr.mk w28.heap.size 0 none) = some ((.bool b172 : Value)) ∧ w68.cell? (Addr.mk w28.heap.size 1 none) = some ((.bool b173 : Value)) ∧ w68.cell? (Addr.mk w28.heap.size 2 none) = some ((.int .i64 n174 : Value)) ∧ w68.cell? (Addr.mk w28.heap.size 3 none) = some ((.int .i64 n175 : Value)) ∧ w68.cell? (Addr.mk w28.heap.size 4 none) = some ((.slice a176 l176 c176 : Value)) ∧ w68.cell? (Addr.mk w28.heap.size 5 none) = some ((.slice a177 l177 c177 : Value)) ∧ w68.cell? (Addr.mk w28.heap.size 6 none) = some ((.slice a178 l178 c178 : Value)) ∧ w68.cell? (Addr.mk w28.heap.size 7 none) = some ((.int .i64 n179 : Value)) ∧ w68.cell? (Addr.mk w28.heap.size 8 none) = some ((.bool b180 : Value)) ∧ w68.cell? (Addr.mk w28.heap.size 9 none) = some ((.bool b181 : Value)) ∧ w68.cell? (Addr.mk w28.heap.size 10 none) = some ((.bool b182 : Value)) ∧ 
  CallR Try.prog 14 [.agg #[.bool b161, .bool b162, .int .i64 n163, .int .i64 n164, .slice a165 l165 c165, .slice a166 l166 c166, .slice a167 l167 c167, .int .i64 n168, .bool b169, .bool b170, .bool b171], .agg #[.bool b172, .bool b173, .int .i64 n174, .int .i64 n175, .slice a176 l176 c176, .slice a177 l177 c177, .slice a178 l178 c178, .int .i64 n179, .bool b180, .bool b181, .bool b182]] w68 (fun (r184 : Value) (w69 : World) =>
  ∃ (b183 : Bool), r184 = .bool b183 ∧
  cond b183
  (CallR Try.prog 15 [.int .i64 n59] w69 (fun (r186 : Value) (w70 : World) =>
  ∃ (n185 : Int), r186 = .int .i64 n185 ∧
  cond (n185 == n83)
  (∃ (b187 : Bool) (b188 : Bool) (n189 : Int) (n190 : Int) (a191 : Option Addr) (l191 : Nat) (c191 : Nat) (a192 : Option Addr) (l192 : Nat) (c192 : Nat) (a193 : Option Addr) (l193 : Nat) (c193 : Nat) (n194 : Int) (b195 : Bool) (b196 : Bool) (b197 : Bool), w70.cell? (Addr.mk w41.heap.size 0 none) = some ((.bool b187 : Value)) ∧ w70.cell? (Addr.mk w41.heap.size 1 none) = some ((.bool b188 : Value)) ∧ w70.cell? (Addr.mk w41.heap.size 2 none) = some ((.int .i64 n189 : Value)) ∧ w70.cell? (Addr.mk w41.heap.size 3 none) = some ((.int .i64 n190 : Value)) ∧ w70.cell? (Addr.mk w41.heap.size 4 none) = some ((.slice a191 l191 c191 : Value)) ∧ w70.cell? (Addr.mk w41.heap.size 5 none) = some ((.slice a192 l192 c192 : Value)) ∧ w70.cell? (Addr.mk w41.heap.size 6 none) = some ((.slice a193 l193 c193 : Value)) ∧ w70.cell? (Addr.mk w41.heap.size 7 none) = some ((.int .i64 n194 : Value)) ∧ w70.cell? (Addr.mk w41.heap.size 8 none) = some ((.bool b195 : Value)) ∧ w70.cell? (Addr.mk w41.heap.size 9 none) = some ((.bool b196 : Value)) ∧ w70.cell? (Addr.mk w41.heap.size 10 none) = some ((.bool b197 : Value)) ∧ 
  ∃ (b198 : Bool) (b199 : Bool) (n200 : Int) (n201 : Int) (a202 : Option Addr) (l202 : Nat) (c202 : Nat) (a203 : Option Addr) (l203 : Nat) (c203 : Nat) (a204 : Option Addr) (l204 : Nat) (c204 : Nat) (n205 : Int) (b206 : Bool) (b207 : Bool) (b208 : Bool), w70.cell? (Addr.mk w54.heap.size 0 none) = some ((.bool b198 : Value)) ∧ w70.cell? (Addr.mk w54.heap.size 1 none) = some ((.bool b199 : Value)) ∧ w70.cell? (Addr.mk w54.heap.size 2 none) = some ((.int .i64 n200 : Value)) ∧ w70.cell? (Addr.mk w54.heap.size 3 none) = some ((.int .i64 n201 : Value)) ∧ w70.cell? (Addr.mk w54.heap.size 4 none) = some ((.slice a202 l202 c202 : Value)) ∧ w70.cell? (Addr.mk w54.heap.size 5 none) = some ((.slice a203 l203 c203 : Value)) ∧ w70.cell? (Addr.mk w54.heap.size 6 none) = some ((.slice a204 l204 c204 : Value)) ∧ w70.cell? (Addr.mk w54.heap.size 7 none) = some ((.int .i64 n205 : Value)) ∧ w70.cell? (Addr.mk w54.heap.size 8 none) = some ((.bool b206 : Value)) ∧ w70.cell? (Addr.mk w54.heap.size 9 none) = some ((.bool b207 : Value)) ∧ w70.cell? (Addr.mk w54.heap.size 10 none) = some ((.bool b208 : Value)) ∧ 
  CallR Try.prog 14 [.agg #[.bool b187, .bool b188, .int .i64 n189, .int .i64 n190, .slice a191 l191 c191, .slice a192 l192 c192, .slice a193 l193 c193, .int .i64 n194, .bool b195, .bool b196, .bool b197], .agg #[.bool b198, .bool b199, .int .i64 n200, .int .i64 n201, .slice a202 l202 c202, .slice a203 l203 c203, .slice a204 l204 c204, .int .i64 n205, .bool b206, .bool b207, .bool b208]] w70 (fun (r210 : Value) (w71 : World) =>
  ∃ (b209 : Bool), r210 = .bool b209 ∧
  cond b209
  (CallR Try.prog 15 [.int .i64 n107] w71 (fun (r212 : Value) (w72 : World) =>
  ∃ (n211 : Int), r212 = .int .i64 n211 ∧
  cond (n211 == n131)
  (CallR Try.prog 16 [.slice a144 l144 c144, .slice a158 l158 c158] w72 (fun (r214 : Value) (w73 : World) =>
  ∃ (b213 : Bool), r214 = .bool b213 ∧
  cond b213
  (CallR Try.prog 15 [.int .i64 n145] w73 (fun (r216 : Value) (w74 : World) =>
  ∃ (n215 : Int), r216 = .int .i64 n215 ∧
  cond (n215 == n159)
  (∃ (b217 : Bool) (b218 : Bool) (n219 : Int) (n220 : Int) (a221 : Option Addr) (l221 : Nat) (c221 : Nat) (a222 : Option Addr) (l222 : Nat) (c222 : Nat) (a223 : Option Addr) (l223 : Nat) (c223 : Nat) (n224 : Int) (b225 : Bool) (b226 : Bool) (b227 : Bool), w74.cell? (Addr.mk w2.heap.size 0 none) = some ((.bool b217 : Value)) ∧ w74.cell? (Addr.mk w2.heap.size 1 none) = some ((.bool b218 : Value)) ∧ w74.cell? (Addr.mk w2.heap.size 2 none) = some ((.int .i64 n219 : Value)) ∧ w74.cell? (Addr.mk w2.heap.size 3 none) = some ((.int .i64 n220 : Value)) ∧ w74.cell? (Addr.mk w2.heap.size 4 none) = some ((.slice a221 l221 c221 : Value)) ∧ w74.cell? (Addr.mk w2.heap.size 5 none) = some ((.slice a222 l222 c222 : Value)) ∧ w74.cell? (Addr.mk w2.heap.size 6 none) = some ((.slice a223 l223 c223 : Value)) ∧ w74.cell? (Addr.mk w2.heap.size 7 none) = some ((.int .i64 n224 : Value)) ∧ w74.cell? (Addr.mk w2.heap.size 8 none) = some ((.bool b225 : Value)) ∧ w74.cell? (Addr.mk w2.heap.size 9 none) = some ((.bool b226 : Value)) ∧ w74.cell? (Addr.mk w2.heap.size 10 none) = some ((.bool b227 : Value)) ∧ 
  ∃ (b228 : Bool) (b229 : Bool) (n230 : Int) (n231 : Int) (a232 : Option Addr) (l232 : Nat) (c232 : Nat) (a233 : Option Addr) (l233 : Nat) (c233 : Nat) (a234 : Option Addr) (l234 : Nat) (c234 : Nat) (n235 : Int) (b236 : Bool) (b237 : Bool) (b238 : Bool), w74.cell? (Addr.mk w.heap.size 0 none) = some ((.bool b228 : Value)) ∧ w74.cell? (Addr.mk w.heap.size 1 none) = some ((.bool b229 : Value)) ∧ w74.cell? (Addr.mk w.heap.size 2 none) = some ((.int .i64 n230 : Value)) ∧ w74.cell? (Addr.mk w.heap.size 3 none) = some ((.int .i64 n231 : Value)) ∧ w74.cell? (Addr.mk w.heap.size 4 none) = some ((.slice a232 l232 c232 : Value)) ∧ w74.cell? (Addr.mk w.heap.size 5 none) = some ((.slice a233 l233 c233 : Value)) ∧ w74.cell? (Addr.mk w.heap.size 6 none) = some ((.slice a234 l234 c234 : Value)) ∧ w74.cell? (Addr.mk w.heap.size 7 none) = some ((.int .i64 n235 : Value)) ∧ w74.cell? (Addr.mk w.heap.size 8 none) = some ((.bool b236 : Value)) ∧ w74.cell? (Addr.mk w.heap.size 9 none) = some ((.bool b237 : Value)) ∧ w74.cell? (Addr.mk w.heap.size 10 none) = some ((.bool b238 : Value)) ∧ 
  CallR Try.prog 14 [.agg #[.bool b217, .bool b218, .int .i64 n219, .int .i64 n220, .slice a221 l221 c221, .slice a222 l222 c222, .slice a223 l223 c223, .int .i64 n224, .bool b225, .bool b226, .bool b227], .agg #[.bool b228, .bool b229, .int .i64 n230, .int .i64 n231, .slice a232 l232 c232, .slice a233 l233 c233, .slice a234 l234 c234, .int .i64 n235, .bool b236, .bool b237, .bool b238]] w74 (fun (r240 : Value) (w75 : World) =>
  ∃ (b239 : Bool), r240 = .bool b239 ∧
  cond b239
  (CallR Try.prog 17 [] w75 (fun (r242 : Value) (w76 : World) =>
  ∃ (b241 : Bool), r242 = .bool b241 ∧
  Q (.bool b241) w76))
  (Q (.bool false) w75)))
  (Q (.bool false) w74)))
  (Q (.bool false) w73)))
  (Q (.bool false) w72)))
  (Q (.bool false) w71)))
  (Q (.bool false) w70)))
  (Q (.bool false) w69))))))))))))))))))))))))))))))))))))))))))))))))))))))))))))))))
theorem C3 {b1 : Bool} {b2 : Bool} {n3 : Int} {n4 : Int} {a5 : Option Addr} {l5 : Nat} {c5 : Nat} {a6 : Option Addr} {l6 : Nat} {c6 : Nat} {a7 : Option Addr} {l7 : Nat} {c7 : Nat} {n8 : Int} {b9 : Bool} {b10 : Bool} {b11 : Bool} {n12 : Int} {a13 : Option Addr} {l13 : Nat} {c13 : Nat} {Q : Value → World → Prop} {w : World} (h : L3 b1 b2 n3 n4 a5 l5 c5 a6 l6 c6 a7 l7 c7 n8 b9 b10 b11 n12 a13 l13 c13 Q w) : CallR Try.prog 3 [.agg #[.bool b1, .bool b2, .int .i64 n3, .int .i64 n4, .slice a5 l5 c5, .slice a6 l6 c6, .slice a7 l7 c7, .int .i64 n8, .bool b9, .bool b10, .bool b11], .int .u8 n12, .slice a13 l13 c13] w Q :=
  fun_calls (A := A3) mixed Try.func3 (c := (Try.f3.body).getD .skip) rfl (by kernel_rfl) (Eq.mp (by kernel_rfl) h)

/-- millrace/millracelaw13.PushbackOne -/
def A4 : Ann := ⟨[(7, [(8, .one (.int .i64)), (9, .one (.int .i64))])], [], [], [(9, [0, 1, 2, 3, 4, 5, 6, 7, 8, 9, 10])], [], []⟩
def L4 (b1 : Bool) (b2 : Bool) (n3 : Int) (n4 : Int) (a5 : Option Addr) (l5 : Nat) (c5 : Nat) (a6 : Option Addr) (l6 : Nat) (c6 : Nat) (a7 : Option Addr) (l7 : Nat) (c7 : Nat) (n8 : Int) (b9 : Bool) (b10 : Bool) (b11 : Bool) (a12 : Option Addr) (l12 : Nat) (c12 : Nat) (Q : Value → World → Prop) (w : World) : Prop :=
  let w1 := World.alloc w (Obj.cells #[.bool b1, .bool b2, .int .i64 n3, .int .i64 n4, .slice a5 l5 c5, .slice a6 l6 c6, .slice a7 l7 c7, .int .i64 n8, .bool b9, .bool b10, .bool b11] 24);
  CallR Try.prog 17 [] w1 (fun (r14 : Value) (w2 : World) =>
  ∃ (b13 : Bool), r14 = .bool b13 ∧
  cond (!b13)
  (Q (.bool false) w2)
  (∃ (b15 : Bool) (b16 : Bool) (n17 : Int) (n18 : Int) (a19 : Option Addr) (l19 : Nat) (c19 : Nat) (a20 : Option Addr) (l20 : Nat) (c20 : Nat) (a21 : Option Addr) (l21 : Nat) (c21 : Nat) (n22 : Int) (b23 : Bool) (b24 : Bool) (b25 : Bool), w2.cell? (Addr.mk w.heap.size 0 none) = some ((.bool b15 : Value)) ∧ w2.cell? (Addr.mk w.heap.size 1 none) = some ((.bool b16 : Value)) ∧ w2.cell? (Addr.mk w.heap.size 2 none) = some ((.int .i64 n17 : Value)) ∧ w2.cell? (Addr.mk w.heap.size 3 none) = some ((.int .i64 n18 : Value)) ∧ w2.cell? (Addr.mk w.heap.size 4 none) = some ((.slice a19 l19 c19 : Value)) ∧ w2.cell? (Addr.mk w.heap.size 5 none) = some ((.slice a20 l20 c20 : Value)) ∧ w2.cell? (Addr.mk w.heap.size 6 none) = some ((.slice a21 l21 c21 : Value)) ∧ w2.cell? (Addr.mk w.heap.size 7 none) = some ((.int .i64 n22 : Value)) ∧ w2.cell? (Addr.mk w.heap.size 8 none) = some ((.bool b23 : Value)) ∧ w2.cell? (Addr.mk w.heap.size 9 none) = some ((.bool b24 : Value)) ∧ w2.cell? (Addr.mk w.heap.size 10 none) = some ((.bool b25 : Value)) ∧ 
  CallR Try.prog 7 [.agg #[.bool b15, .bool b16, .int .i64 n17, .int .i64 n18, .slice a19 l19 c19, .slice a20 l20 c20, .slice a21 l21 c21, .int .i64 n22, .bool b23, .bool b24, .bool b25]] w2 (fun (r37 : Value) (w3 : World) =>
  ∃ (b26 : Bool) (b27 : Bool) (n28 : Int) (n29 : Int) (a30 : Option Addr) (l30 : Nat) (c30 : Nat) (a31 : Option Addr) (l31 : Nat) (c31 : Nat) (a32 : Option Addr) (l32 : Nat) (c32 : Nat) (n33 : Int) (b34 : Bool) (b35 : Bool) (b36 : Bool), r37 = .agg #[.bool b26, .bool b27, .int .i64 n28, .int .i64 n29, .slice a30 l30 c30, .slice a31 l31 c31, .slice a32 l32 c32, .int .i64 n33, .bool b34, .bool b35, .bool b36] ∧
  CallR Try.prog 10 [.agg #[.bool b26, .bool b27, .int .i64 n28, .int .i64 n29, .slice a30 l30 c30, .slice a31 l31 c31, .slice a32 l32 c32, .int .i64 n33, .bool b34, .bool b35, .bool b36], .slice a12 l12 c12] w3 (fun (r50 : Value) (w4 : World) =>
  ∃ (b38 : Bool) (b39 : Bool) (n40 : Int) (n41 : Int) (a42 : Option Addr) (l42 : Nat) (c42 : Nat) (a43 : Option Addr) (l43 : Nat) (c43 : Nat) (a44 : Option Addr) (l44 : Nat) (c44 : Nat) (n45 : Int) (b46 : Bool) (b47 : Bool) (b48 : Bool) (n49 : Int), r50 = .tuple #[.agg #[.bool b38, .bool b39, .int .i64 n40, .int .i64 n41, .slice a42 l42 c42, .slice a43 l43 c43, .slice a44 l44 c44, .int .i64 n45, .bool b46, .bool b47, .bool b48], .int .i64 n49] ∧
  let w5 := World.alloc w4 (Obj.cells #[.bool false, .bool false, .int .i64 0, .int .i64 0, .slice none 0 0, .slice none 0 0, .slice none 0 0, .int .i64 0, .bool false, .bool false, .bool false] 25);
  stC (Addr.mk w4.heap.size 0 none) (.bool b38) w5 (fun (w6 : World) =>
  stC (Addr.mk w4.heap.size 1 none) (.bool b39) w6 (fun (w7 : World) =>
  stC (Addr.mk w4.heap.size 2 none) (.int .i64 n40) w7 (fun (w8 : World) =>
  stC (Addr.mk w4.heap.size 3 none) (.int .i64 n41) w8 (fun (w9 : World) =>
  stC (Addr.mk w4.heap.size 4 none) (.slice a42 l42 c42) w9 (fun (w10 : World) =>
  stC (Addr.mk w4.heap.size 5 none) (.slice a43 l43 c43) w10 (fun (w11 : World) =>
  stC (Addr.mk w4.heap.size 6 none) (.slice a44 l44 c44) w11 (fun (w12 : World) =>
  stC (Addr.mk w4.heap.size 7 none) (.int .i64 n45) w12 (fun (w13 : World) =>
  stC (Addr.mk w4.heap.size 8 none) (.bool b46) w13 (fun (w14 : World) =>
  stC (Addr.mk w4.heap.size 9 none) (.bool b47) w14 (fun (w15 : World) =>
  stC (Addr.mk w4.heap.size 10 none) (.bool b48) w15 (fun (w16 : World) =>
  ∃ (b51 : Bool) (b52 : Bool) (n53 : Int) (n54 : Int) (a55 : Option Addr) (l55 : Nat) (c55 : Nat) (a56 : Option Addr) (l56 : Nat) (c56 : Nat) (a57 : Option Addr) (l57 : Nat) (c57 : Nat) (n58 : Int) (b59 : Bool) (b60 : Bool) (b61 : Bool), w16.cell? (Addr.mk w.heap.size 0 none) = some ((.bool b51 : Value)) ∧ w16.cell? (Addr.mk w.heap.size 1 none) = some ((.bool b52 : Value)) ∧ w16.cell? (Addr.mk w.heap.size 2 none) = some ((.int .i64 n53 : Value)) ∧ w16.cell? (Addr.mk w.heap.size 3 none) = some ((.int .i64 n54 : Value)) ∧ w16.cell? (Addr.mk w.heap.size 4 none) = some ((.slice a55 l55 c55 : Value)) ∧ w16.cell? (Addr.mk w.heap.size 5 none) = some ((.slice a56 l56 c56 : Value)) ∧ w16.cell? (Addr.mk w.heap.size 6 none) = some ((.slice a57 l57 c57 : Value)) ∧ w16.cell? (Addr.mk w.heap.size 7 none) = some ((.int .i64 n58 : Value)) ∧ w16.cell? (Addr.mk w.heap.size 8 none) = some ((.bool b59 : Value)) ∧ w16.cell? (Addr.mk w.heap.size 9 none) = some ((.bool b60 : Value)) ∧ w16.cell? (Addr.mk w.heap.size 10 none) = some ((.bool b61 : Value)) ∧ 
  CallR Try.prog 7 [.agg #[.bool b51, .bool b52, .int .i64 n53, .int .i64 n54, .slice a55 l55 c55, .slice a56 l56 c56, .slice a57 l57 c57, .int .i64 n58, .bool b59, .bool b60, .bool b61]] w16 (fun (r73 : Value) (w17 : World) =>
  ∃ (b62 : Bool) (b63 : Bool) (n64 : Int) (n65 : Int) (a66 : Option Addr) (l66 : Nat) (c66 : Nat) (a67 : Option Addr) (l67 : Nat) (c67 : Nat) (a68 : Option Addr) (l68 : Nat) (c68 : Nat) (n69 : Int) (b70 : Bool) (b71 : Bool) (b72 : Bool), r73 = .agg #[.bool b62, .bool b63, .int .i64 n64, .int .i64 n65, .slice a66 l66 c66, .slice a67 l67 c67, .slice a68 l68 c68, .int .i64 n69, .bool b70, .bool b71, .bool b72] ∧
  let w18 := World.alloc w17 (Obj.cells #[.bool false, .bool false, .int .i64 0, .int .i64 0, .slice none 0 0, .slice none 0 0, .slice none 0 0, .int .i64 0, .bool false, .bool false, .bool false] 25);
  stC (Addr.mk w17.heap.size 0 none) (.bool b62) w18 (fun (w19 : World) =>
  stC (Addr.mk w17.heap.size 1 none) (.bool b63) w19 (fun (w20 : World) =>
  stC (Addr.mk w17.heap.size 2 none) (.int .i64 n64) w20 (fun (w21 : World) =>
  stC (Addr.mk w17.heap.size 3 none) (.int .i64 n65) w21 (fun (w22 : World) =>
  stC (Addr.mk w17.heap.size 4 none) (.slice a66 l66 c66) w22 (fun (w23 : World) =>
  stC (Addr.mk w17.heap.size 5 none) (.slice a67 l67 c67) w23 (fun (w24 : World) =>
  stC (Addr.mk w17.heap.size 6 none) (.slice a68 l68 c68) w24 (fun (w25 : World) =>
  stC (Addr.mk w17.heap.size 7 none) (.int .i64 n69) w25 (fun (w26 : World) =>
  stC (Addr.mk w17.heap.size 8 none) (.bool b70) w26 (fun (w27 : World) =>
  stC (Addr.mk w17.heap.size 9 none) (.bool b71) w27 (fun (w28 : World) =>
  stC (Addr.mk w17.heap.size 10 none) (.bool b72) w28 (fun (w29 : World) =>
  inI ((((l12 : Nat) : Int)) - 1) ∧
  ∃ (I74 : List Value → World → Prop) (mu75 : List Value → World → Nat),
  I74 [.int .i64 0, .int .i64 ((((l12 : Nat) : Int)) - 1)] w29 ∧
  ∀ (_ : Env) (n76 : Int) (n77 : Int) (w30 : World), I74 [.int .i64 n76, .int .i64 n77] w30 →
  cond (decide (n77 ≥ 0))
  (CallR Try.prog 15 [.int .i64 n76] w30 (fun (r79 : Value) (w31 : World) =>
  ∃ (n78 : Int), r79 = .int .i64 n78 ∧
  cond (n78 == 0)
  (let w32 := World.drew w31;
  ∃ (b80 : Bool) (b81 : Bool) (n82 : Int) (n83 : Int) (a84 : Option Addr) (l84 : Nat) (c84 : Nat) (a85 : Option Addr) (l85 : Nat) (c85 : Nat) (a86 : Option Addr) (l86 : Nat) (c86 : Nat) (n87 : Int) (b88 : Bool) (b89 : Bool) (b90 : Bool), w32.cell? (Addr.mk w17.heap.size 0 none) = some ((.bool b80 : Value)) ∧ w32.cell? (Addr.mk w17.heap.size 1 none) = some ((.bool b81 : Value)) ∧ w32.cell? (Addr.mk w17.heap.size 2 none) = some ((.int .i64 n82 : Value)) ∧ w32.cell? (Addr.mk w17.heap.size 3 none) = some ((.int .i64 n83 : Value)) ∧ w32.cell? (Addr.mk w17.heap.size 4 none) = some ((.slice a84 l84 c84 : Value)) ∧ w32.cell? (Addr.mk w17.heap.size 5 none) = some ((.slice a85 l85 c85 : Value)) ∧ w32.cell? (Addr.mk w17.heap.size 6 none) = some ((.slice a86 l86 c86 : Value)) ∧ w32.cell? (Addr.mk w17.heap.size 7 none) = some ((.int .i64 n87 : Value)) ∧ w32.cell? (Addr.mk w17.heap.size 8 none) = some ((.bool b88 : Value)) ∧ w32.cell? (Addr.mk w17.heap.size 9 none) = some ((.bool b89 : Value)) ∧ w32.cell? (Addr.mk w17.heap.size 10 none) = some ((.bool b90 : Value)) ∧ 
  (0 ≤ (n77 : Int) ∧ (n77 : Int) < ((l12 : Nat) : Int)) ∧
  nn a12 (fun (q91 : Addr) =>
  ∃ (n92 : Int), w32.cell? (Addr.add q91 (Int.toNat n77)) = some ((.int .u8 n92 : Value)) ∧
  CallR Try.prog 8 [.agg #[.bool b80, .bool b81, .int .i64 n82, .int .i64 n83, .slice a84 l84 c84, .slice a85 l85 c85, .slice a86 l86 c86, .int .i64 n87, .bool b88, .bool b89, .bool b90], .int .u8 n92] w32 (fun (r105 : Value) (w33 : World) =>
  ∃ (b93 : Bool) (b94 : Bool) (n95 : Int) (n96 : Int) (a97 : Option Addr) (l97 : Nat) (c97 : Nat) (a98 : Option Addr) (l98 : Nat) (c98 : Nat) (a99 : Option Addr) (l99 : Nat) (c99 : Nat) (n100 : Int) (b101 : Bool) (b102 : Bool) (b103 : Bool) (n104 : Int), r105 = .tuple #[.agg #[.bool b93, .bool b94, .int .i64 n95, .int .i64 n96, .slice a97 l97 c97, .slice a98 l98 c98, .slice a99 l99 c99, .int .i64 n100, .bool b101, .bool b102, .bool b103], .int .i64 n104] ∧
  stC (Addr.mk w17.heap.size 0 none) (.bool b93) w33 (fun (w34 : World) =>
  stC (Addr.mk w17.heap.size 1 none) (.bool b94) w34 (fun (w35 : World) =>
  stC (Addr.mk w17.heap.size 2 none) (.int .i64 n95) w35 (fun (w36 : World) =>
  stC (Addr.mk w17.heap.size 3 none) (.int .i64 n96) w36 (fun (w37 : World) =>
  stC (Addr.mk w17.heap.size 4 none) (.slice a97 l97 c97) w37 (fun (w38 : World) =>
  stC (Addr.mk w17.heap.size 5 none) (.slice a98 l98 c98) w38 (fun (w39 : World) =>
  stC (Addr.mk w17.heap.size 6 none) (.slice a99 l99 c99) w39 (fun (w40 : World) =>
  stC (Addr.mk w17.heap.size 7 none) (.int .i64 n100) w40 (fun (w41 : World) =>
  stC (Addr.mk w17.heap.size 8 none) (.bool b101) w41 (fun (w42 : World) =>
  stC (Addr.mk w17.heap.size 9 none) (.bool b102) w42 (fun (w43 : World) =>
  stC (Addr.mk w17.heap.size 10 none) (.bool b103) w43 (fun (w44 : World) =>
  inI (n77 - 1) ∧
  I74 [.int .i64 n104, .int .i64 (n77 - 1)] w44 ∧ mu75 [.int .i64 n104, .int .i64 (n77 - 1)] w44 < mu75 [.int .i64 n76, .int .i64 n77] w30))))))))))))))
  (cond ((((l12 : Nat) : Int)) == 0)
  (∃ (b106 : Bool) (b107 : Bool) (n108 : Int) (n109 : Int) (a110 : Option Addr) (l110 : Nat) (c110 : Nat) (a111 : Option Addr) (l111 : Nat) (c111 : Nat) (a112 : Option Addr) (l112 : Nat) (c112 : Nat) (n113 : Int) (b114 : Bool) (b115 : Bool) (b116 : Bool), w31.cell? (Addr.mk w4.heap.size 0 none) = some ((.bool b106 : Value)) ∧ w31.cell? (Addr.mk w4.heap.size 1 none) = some ((.bool b107 : Value)) ∧ w31.cell? (Addr.mk w4.heap.size 2 none) = some ((.int .i64 n108 : Value)) ∧ w31.cell? (Addr.mk w4.heap.size 3 none) = some ((.int .i64 n109 : Value)) ∧ w31.cell? (Addr.mk w4.heap.size 4 none) = some ((.slice a110 l110 c110 : Value)) ∧ w31.cell? (Addr.mk w4.heap.size 5 none) = some ((.slice a111 l111 c111 : Value)) ∧ w31.cell? (Addr.mk w4.heap.size 6 none) = some ((.slice a112 l112 c112 : Value)) ∧ w31.cell? (Addr.mk w4.heap.size 7 none) = some ((.int .i64 n113 : Value)) ∧ w31.cell? (Addr.mk w4.heap.size 8 none) = some ((.bool b114 : Value)) ∧ w31.cell? (Addr.mk w4.heap.size 9 none) = some ((.bool b115 : Value)) ∧ w31.cell? (Addr.mk w4.heap.size 10 none) = some ((.bool b116 : Value)) ∧ 
  ∃ (b117 : Bool) (b118 : Bool) (n119 : Int) (n120 : Int) (a121 : Option Addr) (l121 : Nat) (c121 : Nat) (a122 : Option Addr) (l122 : Nat) (c122 : Nat) (a123 : Option Addr) (l123 : Nat) (c123 : Nat) (n124 : Int) (b125 : Bool) (b126 : Bool) (b127 : Bool), w31.cell? (Addr.mk w.heap.size 0 none) = some ((.bool b117 : Value)) ∧ w31.cell? (Addr.mk w.heap.size 1 none) = some ((.bool b118 : Value)) ∧ w31.cell? (Addr.mk w.heap.size 2 none) = some ((.int .i64 n119 : Value)) ∧ w31.cell? (Addr.mk w.heap.size 3 none) = some ((.int .i64 n120 : Value)) ∧ w31.cell? (Addr.mk w.heap.size 4 none) = some ((.slice a121 l121 c121 : Value)) ∧ w31.cell? (Addr.mk w.heap.size 5 none) = some ((.slice a122 l122 c122 : Value)) ∧ w31.cell? (Addr.mk w.heap.size 6 none) = some ((.slice a123 l123 c123 : Value)) ∧ w31.cell? (Addr.mk w.heap.size 7 none) = some ((.int .i64 n124 : Value)) ∧ w31.cell? (Addr.mk w.heap.size 8 none) = some ((.bool b125 : Value)) ∧ w31.cell? (Addr.mk w.heap.size 9 none) = some ((.bool b126 : Value)) ∧ w31.cell? (Addr.mk w.heap.size 10 none) = some ((.bool b127 : Value)) ∧ 
  CallR Try.prog 14 [.agg #[.bool b106, .bool b107, .int .i64 n108, .int .i64 n109, .slice a110 l110 c110, .slice a111 l111 c111, .slice a112 l112 c112, .int .i64 n113, .bool b114, .bool b115, .bool b116], .agg #[.bool b117, .bool b118, .int .i64 n119, .int .i64 n120, .slice a121 l121 c121, .slice a122 l122 c122, .slice a123 l123 c123, .int .i64 n124, .bool b125, .bool b126, .bool b127]] w31 (fun (r129 : Value) (w45 : World) =>
  ∃ (b128 : Bool), r129 = .bool b128 ∧
  Q (.bool b128) w45))
  (CallR Try.prog 15 [.int .i64 n49] w31 (fun (r131 : Value) (w46 : World) =>
  ∃ (n130 : Int), r131 = .int .i64 n130 ∧
  cond (n130 != 0)
  (cond (n49 == n76)
  (∃ (b132 : Bool) (b133 : Bool) (n134 : Int) (n135 : Int) (a136 : Option Addr) (l136 : Nat) (c136 : Nat) (a137 : Option Addr) (l137 : Nat) (c137 : Nat) (a138 : Option Addr) (l138 : Nat) (c138 : Nat) (n139 : Int) (b140 : Bool) (b141 : Bool) (b142 : Bool), w46.cell? (Addr.mk w4.heap.size 0 none) = some ((.bool b132 : Value)) ∧ w46.cell? (Addr.mk w4.heap.size 1 none) = some ((.bool b133 : Value)) ∧ w46.cell? (Addr.mk w4.heap.size 2 none) = some ((.int .i64 n134 : Value)) ∧ w46.cell? (Addr.mk w4.heap.size 3 none) = some ((.int .i64 n135 : Value)) ∧ w46.cell? (Addr.mk w4.heap.size 4 none) = some ((.slice a136 l136 c136 : Value)) ∧ w46.cell? (Addr.mk w4.heap.size 5 none) = some ((.slice a137 l137 c137 : Value)) ∧ w46.cell? (Addr.mk w4.heap.size 6 none) = some ((.slice a138 l138 c138 : Value)) ∧ w46.cell? (Addr.mk w4.heap.size 7 none) = some ((.int .i64 n139 : Value)) ∧ w46.cell? (Addr.mk w4.heap.size 8 none) = some ((.bool b140 : Value)) ∧ w46.cell? (Addr.mk w4.heap.size 9 none) = some ((.bool b141 : Value)) ∧ w46.cell? (Addr.mk w4.heap.size 10 none) = some ((.bool b142 : Value)) ∧ 
  ∃ (b143 : Bool) (b144 : Bool) (n145 : Int) (n146 : Int) (a147 : Option Addr) (l147 : Nat) (c147 : Nat) (a148 : Option Addr) (l148 : Nat) (c148 : Nat) (a149 : Option Addr) (l149 : Nat) (c149 : Nat) (n150 : Int) (b151 : Bool) (b152 : Bool) (b153 : Bool), w46.cell? (Addr.mk w.heap.size 0 none) = some ((.bool b143 : Value)) ∧ w46.cell? (Addr.mk w.heap.size 1 none) = some ((.bool b144 : Value)) ∧ w46.cell? (Addr.mk w.heap.size 2 none) = some ((.int .i64 n145 : Value)) ∧ w46.cell? (Addr.mk w.heap.size 3 none) = some ((.int .i64 n146 : Value)) ∧ w46.cell? (Addr.mk w.heap.size 4 none) = some ((.slice a147 l147 c147 : Value)) ∧ w46.cell? (Addr.mk w.heap.size 5 none) = some ((.slice a148 l148 c148 : Value)) ∧ w46.cell? (Addr.mk w.heap.size 6 none) = some ((.slice a149 l149 c149 : Value)) ∧ w46.cell? (Addr.mk w.heap.size 7 none) = some ((.int .i64 n150 : Value)) ∧ w46.cell? (Addr.mk w.heap.size 8 none) = some ((.bool b151 : Value)) ∧ w46.cell? (Addr.mk w.heap.size 9 none) = some ((.bool b152 : Value)) ∧ w46.cell? (Addr.mk w.heap.size 10 none) = some ((.bool b153 : Value)) ∧ 
  CallR Try.prog 14 [.agg #[.bool b132, .bool b133, .int .i64 n134, .int .i64 n135, .slice a136 l136 c136, .slice a137 l137 c137, .slice a138 l138 c138, .int .i64 n139, .bool b140, .bool b141, .bool b142], .agg #[.bool b143, .bool b144, .int .i64 n145, .int .i64 n146, .slice a147 l147 c147, .slice a148 l148 c148, .slice a149 l149 c149, .int .i64 n150, .bool b151, .bool b152, .bool b153]] w46 (fun (r155 : Value) (w47 : World) =>
  ∃ (b154 : Bool), r155 = .bool b154 ∧
  Q (.bool b154) w47))
  (Q (.bool false) w46))
  (CallR Try.prog 15 [.int .i64 n76] w46 (fun (r157 : Value) (w48 : World) =>
  ∃ (n156 : Int), r157 = .int .i64 n156 ∧
  cond (n156 == 0)
  (∃ (b158 : Bool) (b159 : Bool) (n160 : Int) (n161 : Int) (a162 : Option Addr) (l162 : Nat) (c162 : Nat) (a163 : Option Addr) (l163 : Nat) (c163 : Nat) (a164 : Option Addr) (l164 : Nat) (c164 : Nat) (n165 : Int) (b166 : Bool) (b167 : Bool) (b168 : Bool), w48.cell? (Addr.mk w4.heap.size 0 none) = some ((.bool b158 : Value)) ∧ w48.cell? (Addr.mk w4.heap.size 1 none) = some ((.bool b159 : Value)) ∧ w48.cell? (Addr.mk w4.heap.size 2 none) = some ((.int .i64 n160 : Value)) ∧ w48.cell? (Addr.mk w4.heap.size 3 none) = some ((.int .i64 n161 : Value)) ∧ w48.cell? (Addr.mk w4.heap.size 4 none) = some ((.slice a162 l162 c162 : Value)) ∧ w48.cell? (Addr.mk w4.heap.size 5 none) = some ((.slice a163 l163 c163 : Value)) ∧ w48.cell? (Addr.mk w4.heap.size 6 none) = some ((.slice a164 l164 c164 : Value)) ∧ w48.cell? (Addr.mk w4.heap.size 7 none) = some ((.int .i64 n165 : Value)) ∧ w48.cell? (Addr.mk w4.heap.size 8 none) = some ((.bool b166 : Value)) ∧ w48.cell? (Addr.mk w4.heap.size 9 none) = some ((.bool b167 : Value)) ∧ w48.cell? (Addr.mk w4.heap.size 10 none) = some ((.bool b168 : Value)) ∧ 
  ∃ (b169 : Bool) (b170 : Bool) (n171 : Int) (n172 : Int) (a173 : Option Addr) (l173 : Nat) (c173 : Nat) (a174 : Option Addr) (l174 : Nat) (c174 : Nat) (a175 : Option Addr) (l175 : Nat) (c175 : Nat) (n176 : Int) (b177 : Bool) (b178 : Bool) (b179 : Bool), w48.cell? (Addr.mk w17.heap.size 0 none) = some ((.bool b169 : Value)) ∧ w48.cell? (Addr.mk w17.heap.size 1 none) = some ((.bool b170 : Value)) ∧ w48.cell? (Addr.mk w17.heap.size 2 none) = some ((.int .i64 n171 : Value)) ∧ w48.cell? (Addr.mk w17.heap.size 3 none) = some ((.int .i64 n172 : Value)) ∧ w48.cell? (Addr.mk w17.heap.size 4 none) = some ((.slice a173 l173 c173 : Value)) ∧ w48.cell? (Addr.mk w17.heap.size 5 none) = some ((.slice a174 l174 c174 : Value)) ∧ w48.cell? (Addr.mk w17.heap.size 6 none) = some ((.slice a175 l175 c175 : Value)) ∧ w48.cell? (Addr.mk w17.heap.size 7 none) = some ((.int .i64 n176 : Value)) ∧ w48.cell? (Addr.mk w17.heap.size 8 none) = some ((.bool b177 : Value)) ∧ w48.cell? (Addr.mk w17.heap.size 9 none) = some ((.bool b178 : Value)) ∧ w48.cell? (Addr.mk w17.heap.size 10 none) = some ((.bool b179 : Value)) ∧ 
  CallR Try.prog 14 [.agg #[.bool b158, .bool b159, .int .i64 n160, .int .i64 n161, .slice a162 l162 c162, .slice a163 l163 c163, .slice a164 l164 c164, .int .i64 n165, .bool b166, .bool b167, .bool b168], .agg #[.bool b169, .bool b170, .int .i64 n171, .int .i64 n172, .slice a173 l173 c173, .slice a174 l174 c174, .slice a175 l175 c175, .int .i64 n176, .bool b177, .bool b178, .bool b179]] w48 (fun (r181 : Value) (w49 : World) =>
  ∃ (b180 : Bool), r181 = .bool b180 ∧
  Q (.bool b180) w49))
  (Q (.bool false) w48))))))))
  (cond ((((l12 : Nat) : Int)) == 0)
  (∃ (b182 : Bool) (b183 : Bool) (n184 : Int) (n185 : Int) (a186 : Option Addr) (l186 : Nat) (c186 : Nat) (a187 : Option Addr) (l187 : Nat) (c187 : Nat) (a188 : Option Addr) (l188 : Nat) (c188 : Nat) (n189 : Int) (b190 : Bool) (b191 : Bool) (b192 : Bool), w30.cell? (Addr.mk w4.heap.size 0 none) = some ((.bool b182 : Value)) ∧ w30.cell? (Addr.mk w4.heap.size 1 none) = some ((.bool b183 : Value)) ∧ w30.cell? (Addr.mk w4.heap.size 2 none) = some ((.int .i64 n184 : Value)) ∧ w30.cell? (Addr.mk w4.heap.size 3 none) = some ((.int .i64 n185 : Value)) ∧ w30.cell? (Addr.mk w4.heap.size 4 none) = some ((.slice a186 l186 c186 : Value)) ∧ w30.cell? (Addr.mk w4.heap.size 5 none) = some ((.slice a187 l187 c187 : Value)) ∧ w30.cell? (Addr.mk w4.heap.size 6 none) = some ((.slice a188 l188 c188 : Value)) ∧ w30.cell? (Addr.mk w4.heap.size 7 none) = some ((.int .i64 n189 : Value)) ∧ w30.cell? (Addr.mk w4.heap.size 8 none) = some ((.bool b190 : Value)) ∧ w30.cell? (Addr.mk w4.heap.size 9 none) = some ((.bool b191 : Value)) ∧ w30.cell? (Addr.mk w4.heap.size 10 none) = some ((.bool b192 : Value)) ∧ 
  ∃ (b193 : Bool) (b194 : Bool) (n195 : Int) (n196 : Int) (a197 : Option Addr) (l197 : Nat) (c197 : Nat) (a198 : Option Addr) (l198 : Nat) (c198 : Nat) (a199 : Option Addr) (l199 : Nat) (c199 : Nat) (n200 : Int) (b201 : Bool) (b202 : Bool) (b203 : Bool), w30.cell? (Addr.mk w.heap.size 0 none) = some ((.bool b193 : Value)) ∧ w30.cell? (Addr.mk w.heap.size 1 none) = some ((.bool b194 : Value)) ∧ w30.cell? (Addr.mk w.heap.size 2 none) = some ((.int .i64 n195 : Value)) ∧ w30.cell? (Addr.mk w.heap.size 3 none) = some ((.int .i64 n196 : Value)) ∧ w30.cell? (Addr.mk w.heap.size 4 none) = some ((.slice a197 l197 c197 : Value)) ∧ w30.cell? (Addr.mk w.heap.size 5 none) = some ((.slice a198 l198 c198 : Value)) ∧ w30.cell? (Addr.mk w.heap.size 6 none) = some ((.slice a199 l199 c199 : Value)) ∧ w30.cell? (Addr.mk w.heap.size 7 none) = some ((.int .i64 n200 : Value)) ∧ w30.cell? (Addr.mk w.heap.size 8 none) = some ((.bool b201 : Value)) ∧ w30.cell? (Addr.mk w.heap.size 9 none) = some ((.bool b202 : Value)) ∧ w30.cell? (Addr.mk w.heap.size 10 none) = some ((.bool b203 : Value)) ∧ 
  CallR Try.prog 14 [.agg #[.bool b182, .bool b183, .int .i64 n184, .int .i64 n185, .slice a186 l186 c186, .slice a187 l187 c187, .slice a188 l188 c188, .int .i64 n189, .bool b190, .bool b191, .bool b192], .agg #[.bool b193, .bool b194, .int .i64 n195, .int .i64 n196, .slice a197 l197 c197, .slice a198 l198 c198, .slice a199 l199 c199, .int .i64 n200, .bool b201, .bool b202, .bool b203]] w30 (fun (r205 : Value) (w50 : World) =>
  ∃ (b204 : Bool), r205 = .bool b204 ∧
  Q (.bool b204) w50))
  (CallR Try.prog 15 [.int .i64 n49] w30 (fun (r207 : Value) (w51 : World) =>
  ∃ (n206 : Int), r207 = .int .i64 n206 ∧
  cond (n206 != 0)
  (cond (n49 == n76)
  (∃ (b208 : Bool) (b209 : Bool) (n210 : Int) (n211 : Int) (a212 : Option Addr) (l212 : Nat) (c212 : Nat) (a213 : Option Addr) (l213 : Nat) (c213 : Nat) (a214 : Option Addr) (l214 : Nat) (c214 : Nat) (n215 : Int) (b216 : Bool) (b217 : Bool) (b218 : Bool), w51.cell? (Addr.mk w4.heap.size 0 none) = some ((.bool b208 : Value)) ∧ w51.cell? (Addr.mk w4.heap.size 1 none) = some ((.bool b209 : Value)) ∧ w51.cell? (Addr.mk w4.heap.size 2 none) = some ((.int .i64 n210 : Value)) ∧ w51.cell? (Addr.mk w4.heap.size 3 none) = some ((.int .i64 n211 : Value)) ∧ w51.cell? (Addr.mk w4.heap.size 4 none) = some ((.slice a212 l212 c212 : Value)) ∧ w51.cell? (Addr.mk w4.heap.size 5 none) = some ((.slice a213 l213 c213 : Value)) ∧ w51.cell? (Addr.mk w4.heap.size 6 none) = some ((.slice a214 l214 c214 : Value)) ∧ w51.cell? (Addr.mk w4.heap.size 7 none) = some ((.int .i64 n215 : Value)) ∧ w51.cell? (Addr.mk w4.heap.size 8 none) = some ((.bool b216 : Value)) ∧ w51.cell? (Addr.mk w4.heap.size 9 none) = some ((.bool b217 : Value)) ∧ w51.cell? (Addr.mk w4.heap.size 10 none) = some ((.bool b218 : Value)) ∧ 
  ∃ (b219 : Bool) (b220 : Bool) (n221 : Int) (n222 : Int) (a223 : Option Addr) (l223 : Nat) (c223 : Nat) (a224 : Option Addr) (l224 : Nat) (c224 : Nat) (a225 : Option Addr) (l225 : Nat) (c225 : Nat) (n226 : Int) (b227 : Bool) (b228 : Bool) (b229 : Bool), w51.cell? (Addr.mk w.heap.size 0 none) = some ((.bool b219 : Value)) ∧ w51.cell? (Addr.mk w.heap.size 1 none) = some ((.bool b220 : Value)) ∧ w51.cell? (Addr.mk w.heap.size 2 none) = some ((.int .i64 n221 : Value)) ∧ w51.cell? (Addr.mk w.heap.size 3 none) = some ((.int .i64 n222 : Value)) ∧ w51.cell? (Addr.mk w.heap.size 4 none) = some ((.slice a223 l223 c223 : Value)) ∧ w51.cell? (Addr.mk w.heap.size 5 none) = some ((.slice a224 l224 c224 : Value)) ∧ w51.cell? (Addr.mk w.heap.size 6 none) = some ((.slice a225 l225 c225 : Value)) ∧ w51.cell? (Addr.mk w.heap.size 7 none) = some ((.int .i64 n226 : Value)) ∧ w51.cell? (Addr.mk w.heap.size 8 none) = some ((.bool b227 : Value)) ∧ w51.cell? (Addr.mk w.heap.size 9 none) = some ((.bool b228 : Value)) ∧ w51.cell? (Addr.mk w.heap.size 10 none) = some ((.bool b229 : Value)) ∧ 
  CallR Try.prog 14 [.agg #[.bool b208, .bool b209, .int .i64 n210, .int .i64 n211, .slice a212 l212 c212, .slice a213 l213 c213, .slice a214 l214 c214, .int .i64 n215, .bool b216, .bool b217, .bool b218], .agg #[.bool b219, .bool b220, .int .i64 n221, .int .i64 n222, .slice a223 l223 c223, .slice a224 l224 c224, .slice a225 l225 c225, .int .i64 n226, .bool b227, .bool b228, .bool b229]] w51 (fun (r231 : Value) (w52 : World) =>
  ∃ (b230 : Bool), r231 = .bool b230 ∧
  Q (.bool b230) w52))
  (Q (.bool false) w51))
  (CallR Try.prog 15 [.int .i64 n76] w51 (fun (r233 : Value) (w53 : World) =>
  ∃ (n232 : Int), r233 = .int .i64 n232 ∧
  cond (n232 == 0)
  (∃ (b234 : Bool) (b235 : Bool) (n236 : Int) (n237 : Int) (a238 : Option Addr) (l238 : Nat) (c238 : Nat) (a239 : Option Addr) (l239 : Nat) (c239 : Nat) (a240 : Option Addr) (l240 : Nat) (c240 : Nat) (n241 : Int) (b242 : Bool) (b243 : Bool) (b244 : Bool), w53.cell? (Addr.mk w4.heap.size 0 none) = some ((.bool b234 : Value)) ∧ w53.cell? (Addr.mk w4.heap.size 1 none) = some ((.bool b235 : Value)) ∧ w53.cell? (Addr.mk w4.heap.size 2 none) = some ((.int .i64 n236 : Value)) ∧ w53.cell? (Addr.mk w4.heap.size 3 none) = some ((.int .i64 n237 : Value)) ∧ w53.cell? (Addr.mk w4.heap.size 4 none) = some ((.slice a238 l238 c238 : Value)) ∧ w53.cell? (Addr.mk w4.heap.size 5 none) = some ((.slice a239 l239 c239 : Value)) ∧ w53.cell? (Addr.mk w4.heap.size 6 none) = some ((.slice a240 l240 c240 : Value)) ∧ w53.cell? (Addr.mk w4.heap.size 7 none) = some ((.int .i64 n241 : Value)) ∧ w53.cell? (Addr.mk w4.heap.size 8 none) = some ((.bool b242 : Value)) ∧ w53.cell? (Addr.mk w4.heap.size 9 none) = some ((.bool b243 : Value)) ∧ w53.cell? (Addr.mk w4.heap.size 10 none) = some ((.bool b244 : Value)) ∧ 
  ∃ (b245 : Bool) (b246 : Bool) (n247 : Int) (n248 : Int) (a249 : Option Addr) (l249 : Nat) (c249 : Nat) (a250 : Option Addr) (l250 : Nat) (c250 : Nat) (a251 : Option Addr) (l251 : Nat) (c251 : Nat) (n252 : Int) (b253 : Bool) (b254 : Bool) (b255 : Bool), w53.cell? (Addr.mk w17.heap.size 0 none) = some ((.bool b245 : Value)) ∧ w53.cell? (Addr.mk w17.heap.size 1 none) = some ((.bool b246 : Value)) ∧ w53.cell? (Addr.mk w17.heap.size 2 none) = some ((.int .i64 n247 : Value)) ∧ w53.cell? (Addr.mk w17.heap.size 3 none) = some ((.int .i64 n248 : Value)) ∧ w53.cell? (Addr.mk w17.heap.size 4 none) = some ((.slice a249 l249 c249 : Value)) ∧ w53.cell? (Addr.mk w17.heap.size 5 none) = some ((.slice a250 l250 c250 : Value)) ∧ w53.cell? (Addr.mk w17.heap.size 6 none) = some ((.slice a251 l251 c251 : Value)) ∧ w53.cell? (Addr.mk w17.heap.size 7 none) = some ((.int .i64 n252 : Value)) ∧ w53.cell? (Addr.mk w17.heap.size 8 none) = some ((.bool b253 : Value)) ∧ w53.cell? (Addr.mk w17.heap.size 9 none) = some ((.bool b254 : Value)) ∧ w53.cell? (Addr.mk w17.heap.size 10 none) = some ((.bool b255 : Value)) ∧ 
  CallR Try.prog 14 [.agg #[.bool b234, .bool b235, .int .i64 n236, .int .i64 n237, .slice a238 l238 c238, .slice a239 l239 c239, .slice a240 l240 c240, .int .i64 n241, .bool b242, .bool b243, .bool b244], .agg #[.bool b245, .bool b246, .int .i64 n247, .int .i64 n248, .slice a249 l249 c249, .slice a250 l250 c250, .slice a251 l251 c251, .int .i64 n252, .bool b253, .bool b254, .bool b255]] w53 (fun (r257 : Value) (w54 : World) =>
  ∃ (b256 : Bool), r257 = .bool b256 ∧
  Q (.bool b256) w54))
  (Q (.bool false) w53)))))))))))))))))))))))))))))))))
theorem C4 {b1 : Bool} {b2 : Bool} {n3 : Int} {n4 : Int} {a5 : Option Addr} {l5 : Nat} {c5 : Nat} {a6 : Option Addr} {l6 : Nat} {c6 : Nat} {a7 : Option Addr} {l7 : Nat} {c7 : Nat} {n8 : Int} {b9 : Bool} {b10 : Bool} {b11 : Bool} {a12 : Option Addr} {l12 : Nat} {c12 : Nat} {Q : Value → World → Prop} {w : World} (h : L4 b1 b2 n3 n4 a5 l5 c5 a6 l6 c6 a7 l7 c7 n8 b9 b10 b11 a12 l12 c12 Q w) : CallR Try.prog 4 [.agg #[.bool b1, .bool b2, .int .i64 n3, .int .i64 n4, .slice a5 l5 c5, .slice a6 l6 c6, .slice a7 l7 c7, .int .i64 n8, .bool b9, .bool b10, .bool b11], .slice a12 l12 c12] w Q :=
  fun_calls (A := A4) mixed Try.func4 (c := (Try.f4.body).getD .skip) rfl (by kernel_rfl) (Eq.mp (by kernel_rfl) h)

/-- millrace/millracelaw13.PushbackOwn -/
def A5 : Ann := ⟨[], [], [], [], [], []⟩
def L5 (b1 : Bool) (b2 : Bool) (n3 : Int) (n4 : Int) (a5 : Option Addr) (l5 : Nat) (c5 : Nat) (a6 : Option Addr) (l6 : Nat) (c6 : Nat) (a7 : Option Addr) (l7 : Nat) (c7 : Nat) (n8 : Int) (b9 : Bool) (b10 : Bool) (b11 : Bool) (a12 : Option Addr) (l12 : Nat) (c12 : Nat) (Q : Value → World → Prop) (w : World) : Prop :=
  let w1 := World.alloc w (Obj.cells #[.bool b1, .bool b2, .int .i64 n3, .int .i64 n4, .slice a5 l5 c5, .slice a6 l6 c6, .slice a7 l7 c7, .int .i64 n8, .bool b9, .bool b10, .bool b11] 24);
  CallR Try.prog 17 [] w1 (fun (r14 : Value) (w2 : World) =>
  ∃ (b13 : Bool), r14 = .bool b13 ∧
  cond (!b13)
  (Q (.bool false) w2)
  (∃ (b15 : Bool) (b16 : Bool) (n17 : Int) (n18 : Int) (a19 : Option Addr) (l19 : Nat) (c19 : Nat) (a20 : Option Addr) (l20 : Nat) (c20 : Nat) (a21 : Option Addr) (l21 : Nat) (c21 : Nat) (n22 : Int) (b23 : Bool) (b24 : Bool) (b25 : Bool), w2.cell? (Addr.mk w.heap.size 0 none) = some ((.bool b15 : Value)) ∧ w2.cell? (Addr.mk w.heap.size 1 none) = some ((.bool b16 : Value)) ∧ w2.cell? (Addr.mk w.heap.size 2 none) = some ((.int .i64 n17 : Value)) ∧ w2.cell? (Addr.mk w.heap.size 3 none) = some ((.int .i64 n18 : Value)) ∧ w2.cell? (Addr.mk w.heap.size 4 none) = some ((.slice a19 l19 c19 : Value)) ∧ w2.cell? (Addr.mk w.heap.size 5 none) = some ((.slice a20 l20 c20 : Value)) ∧ w2.cell? (Addr.mk w.heap.size 6 none) = some ((.slice a21 l21 c21 : Value)) ∧ w2.cell? (Addr.mk w.heap.size 7 none) = some ((.int .i64 n22 : Value)) ∧ w2.cell? (Addr.mk w.heap.size 8 none) = some ((.bool b23 : Value)) ∧ w2.cell? (Addr.mk w.heap.size 9 none) = some ((.bool b24 : Value)) ∧ w2.cell? (Addr.mk w.heap.size 10 none) = some ((.bool b25 : Value)) ∧ 
  CallR Try.prog 7 [.agg #[.bool b15, .bool b16, .int .i64 n17, .int .i64 n18, .slice a19 l19 c19, .slice a20 l20 c20, .slice a21 l21 c21, .int .i64 n22, .bool b23, .bool b24, .bool b25]] w2 (fun (r37 : Value) (w3 : World) =>
  ∃ (b26 : Bool) (b27 : Bool) (n28 : Int) (n29 : Int) (a30 : Option Addr) (l30 : Nat) (c30 : Nat) (a31 : Option Addr) (l31 : Nat) (c31 : Nat) (a32 : Option Addr) (l32 : Nat) (c32 : Nat) (n33 : Int) (b34 : Bool) (b35 : Bool) (b36 : Bool), r37 = .agg #[.bool b26, .bool b27, .int .i64 n28, .int .i64 n29, .slice a30 l30 c30, .slice a31 l31 c31, .slice a32 l32 c32, .int .i64 n33, .bool b34, .bool b35, .bool b36] ∧
  let w4 := World.alloc w3 (Obj.cells #[.bool false, .bool false, .int .i64 0, .int .i64 0, .slice none 0 0, .slice none 0 0, .slice none 0 0, .int .i64 0, .bool false, .bool false, .bool false] 25);
  stC (Addr.mk w3.heap.size 0 none) (.bool b26) w4 (fun (w5 : World) =>
  stC (Addr.mk w3.heap.size 1 none) (.bool b27) w5 (fun (w6 : World) =>
  stC (Addr.mk w3.heap.size 2 none) (.int .i64 n28) w6 (fun (w7 : World) =>
  stC (Addr.mk w3.heap.size 3 none) (.int .i64 n29) w7 (fun (w8 : World) =>
  stC (Addr.mk w3.heap.size 4 none) (.slice a30 l30 c30) w8 (fun (w9 : World) =>
  stC (Addr.mk w3.heap.size 5 none) (.slice a31 l31 c31) w9 (fun (w10 : World) =>
  stC (Addr.mk w3.heap.size 6 none) (.slice a32 l32 c32) w10 (fun (w11 : World) =>
  stC (Addr.mk w3.heap.size 7 none) (.int .i64 n33) w11 (fun (w12 : World) =>
  stC (Addr.mk w3.heap.size 8 none) (.bool b34) w12 (fun (w13 : World) =>
  stC (Addr.mk w3.heap.size 9 none) (.bool b35) w13 (fun (w14 : World) =>
  stC (Addr.mk w3.heap.size 10 none) (.bool b36) w14 (fun (w15 : World) =>
  CallR Try.prog 18 [.slice a12 l12 c12] w15 (fun (r39 : Value) (w16 : World) =>
  ∃ (a38 : Option Addr) (l38 : Nat) (c38 : Nat), r39 = .slice a38 l38 c38 ∧
  ∃ (b40 : Bool) (b41 : Bool) (n42 : Int) (n43 : Int) (a44 : Option Addr) (l44 : Nat) (c44 : Nat) (a45 : Option Addr) (l45 : Nat) (c45 : Nat) (a46 : Option Addr) (l46 : Nat) (c46 : Nat) (n47 : Int) (b48 : Bool) (b49 : Bool) (b50 : Bool), w16.cell? (Addr.mk w3.heap.size 0 none) = some ((.bool b40 : Value)) ∧ w16.cell? (Addr.mk w3.heap.size 1 none) = some ((.bool b41 : Value)) ∧ w16.cell? (Addr.mk w3.heap.size 2 none) = some ((.int .i64 n42 : Value)) ∧ w16.cell? (Addr.mk w3.heap.size 3 none) = some ((.int .i64 n43 : Value)) ∧ w16.cell? (Addr.mk w3.heap.size 4 none) = some ((.slice a44 l44 c44 : Value)) ∧ w16.cell? (Addr.mk w3.heap.size 5 none) = some ((.slice a45 l45 c45 : Value)) ∧ w16.cell? (Addr.mk w3.heap.size 6 none) = some ((.slice a46 l46 c46 : Value)) ∧ w16.cell? (Addr.mk w3.heap.size 7 none) = some ((.int .i64 n47 : Value)) ∧ w16.cell? (Addr.mk w3.heap.size 8 none) = some ((.bool b48 : Value)) ∧ w16.cell? (Addr.mk w3.heap.size 9 none) = some ((.bool b49 : Value)) ∧ w16.cell? (Addr.mk w3.heap.size 10 none) = some ((.bool b50 : Value)) ∧ 
  CallR Try.prog 10 [.agg #[.bool b40, .bool b41, .int .i64 n42, .int .i64 n43, .slice a44 l44 c44, .slice a45 l45 c45, .slice a46 l46 c46, .int .i64 n47, .bool b48, .bool b49, .bool b50], .slice a38 l38 c38] w16 (fun (r63 : Value) (w17 : World) =>
  ∃ (b51 : Bool) (b52 : Bool) (n53 : Int) (n54 : Int) (a55 : Option Addr) (l55 : Nat) (c55 : Nat) (a56 : Option Addr) (l56 : Nat) (c56 : Nat) (a57 : Option Addr) (l57 : Nat) (c57 : Nat) (n58 : Int) (b59 : Bool) (b60 : Bool) (b61 : Bool) (n62 : Int), r63 = .tuple #[.agg #[.bool b51, .bool b52, .int .i64 n53, .int .i64 n54, .slice a55 l55 c55, .slice a56 l56 c56, .slice a57 l57 c57, .int .i64 n58, .bool b59, .bool b60, .bool b61], .int .i64 n62] ∧
  let w18 := World.alloc w17 (Obj.cells #[.bool false, .bool false, .int .i64 0, .int .i64 0, .slice none 0 0, .slice none 0 0, .slice none 0 0, .int .i64 0, .bool false, .bool false, .bool false] 25);
  stC (Addr.mk w17.heap.size 0 none) (.bool b51) w18 (fun (w19 : World) =>
  stC (Addr.mk w17.heap.size 1 none) (.bool b52) w19 (fun (w20 : World) =>
  stC (Addr.mk w17.heap.size 2 none) (.int .i64 n53) w20 (fun (w21 : World) =>
  stC (Addr.mk w17.heap.size 3 none) (.int .i64 n54) w21 (fun (w22 : World) =>
  stC (Addr.mk w17.heap.size 4 none) (.slice a55 l55 c55) w22 (fun (w23 : World) =>
  stC (Addr.mk w17.heap.size 5 none) (.slice a56 l56 c56) w23 (fun (w24 : World) =>
  stC (Addr.mk w17.heap.size 6 none) (.slice a57 l57 c57) w24 (fun (w25 : World) =>
  stC (Addr.mk w17.heap.size 7 none) (.int .i64 n58) w25 (fun (w26 : World) =>
  stC (Addr.mk w17.heap.size 8 none) (.bool b59) w26 (fun (w27 : World) =>
  stC (Addr.mk w17.heap.size 9 none) (.bool b60) w27 (fun (w28 : World) =>
  stC (Addr.mk w17.heap.size 10 none) (.bool b61) w28 (fun (w29 : World) =>
  ∃ (b64 : Bool) (b65 : Bool) (n66 : Int) (n67 : Int) (a68 : Option Addr) (l68 : Nat) (c68 : Nat) (a69 : Option Addr) (l69 : Nat) (c69 : Nat) (a70 : Option Addr) (l70 : Nat) (c70 : Nat) (n71 : Int) (b72 : Bool) (b73 : Bool) (b74 : Bool), w29.cell? (Addr.mk w17.heap.size 0 none) = some ((.bool b64 : Value)) ∧ w29.cell? (Addr.mk w17.heap.size 1 none) = some ((.bool b65 : Value)) ∧ w29.cell? (Addr.mk w17.heap.size 2 none) = some ((.int .i64 n66 : Value)) ∧ w29.cell? (Addr.mk w17.heap.size 3 none) = some ((.int .i64 n67 : Value)) ∧ w29.cell? (Addr.mk w17.heap.size 4 none) = some ((.slice a68 l68 c68 : Value)) ∧ w29.cell? (Addr.mk w17.heap.size 5 none) = some ((.slice a69 l69 c69 : Value)) ∧ w29.cell? (Addr.mk w17.heap.size 6 none) = some ((.slice a70 l70 c70 : Value)) ∧ w29.cell? (Addr.mk w17.heap.size 7 none) = some ((.int .i64 n71 : Value)) ∧ w29.cell? (Addr.mk w17.heap.size 8 none) = some ((.bool b72 : Value)) ∧ w29.cell? (Addr.mk w17.heap.size 9 none) = some ((.bool b73 : Value)) ∧ w29.cell? (Addr.mk w17.heap.size 10 none) = some ((.bool b74 : Value)) ∧ 
  CallR Try.prog 7 [.agg #[.bool b64, .bool b65, .int .i64 n66, .int .i64 n67, .slice a68 l68 c68, .slice a69 l69 c69, .slice a70 l70 c70, .int .i64 n71, .bool b72, .bool b73, .bool b74]] w29 (fun (r86 : Value) (w30 : World) =>
  ∃ (b75 : Bool) (b76 : Bool) (n77 : Int) (n78 : Int) (a79 : Option Addr) (l79 : Nat) (c79 : Nat) (a80 : Option Addr) (l80 : Nat) (c80 : Nat) (a81 : Option Addr) (l81 : Nat) (c81 : Nat) (n82 : Int) (b83 : Bool) (b84 : Bool) (b85 : Bool), r86 = .agg #[.bool b75, .bool b76, .int .i64 n77, .int .i64 n78, .slice a79 l79 c79, .slice a80 l80 c80, .slice a81 l81 c81, .int .i64 n82, .bool b83, .bool b84, .bool b85] ∧
  let w31 := World.alloc w30 (Obj.cells #[.bool false, .bool false, .int .i64 0, .int .i64 0, .slice none 0 0, .slice none 0 0, .slice none 0 0, .int .i64 0, .bool false, .bool false, .bool false] 25);
  stC (Addr.mk w30.heap.size 0 none) (.bool b75) w31 (fun (w32 : World) =>
  stC (Addr.mk w30.heap.size 1 none) (.bool b76) w32 (fun (w33 : World) =>
  stC (Addr.mk w30.heap.size 2 none) (.int .i64 n77) w33 (fun (w34 : World) =>
  stC (Addr.mk w30.heap.size 3 none) (.int .i64 n78) w34 (fun (w35 : World) =>
  stC (Addr.mk w30.heap.size 4 none) (.slice a79 l79 c79) w35 (fun (w36 : World) =>
  stC (Addr.mk w30.heap.size 5 none) (.slice a80 l80 c80) w36 (fun (w37 : World) =>
  stC (Addr.mk w30.heap.size 6 none) (.slice a81 l81 c81) w37 (fun (w38 : World) =>
  stC (Addr.mk w30.heap.size 7 none) (.int .i64 n82) w38 (fun (w39 : World) =>
  stC (Addr.mk w30.heap.size 8 none) (.bool b83) w39 (fun (w40 : World) =>
  stC (Addr.mk w30.heap.size 9 none) (.bool b84) w40 (fun (w41 : World) =>
  stC (Addr.mk w30.heap.size 10 none) (.bool b85) w41 (fun (w42 : World) =>
  ∃ (b87 : Bool) (b88 : Bool) (n89 : Int) (n90 : Int) (a91 : Option Addr) (l91 : Nat) (c91 : Nat) (a92 : Option Addr) (l92 : Nat) (c92 : Nat) (a93 : Option Addr) (l93 : Nat) (c93 : Nat) (n94 : Int) (b95 : Bool) (b96 : Bool) (b97 : Bool), w42.cell? (Addr.mk w17.heap.size 0 none) = some ((.bool b87 : Value)) ∧ w42.cell? (Addr.mk w17.heap.size 1 none) = some ((.bool b88 : Value)) ∧ w42.cell? (Addr.mk w17.heap.size 2 none) = some ((.int .i64 n89 : Value)) ∧ w42.cell? (Addr.mk w17.heap.size 3 none) = some ((.int .i64 n90 : Value)) ∧ w42.cell? (Addr.mk w17.heap.size 4 none) = some ((.slice a91 l91 c91 : Value)) ∧ w42.cell? (Addr.mk w17.heap.size 5 none) = some ((.slice a92 l92 c92 : Value)) ∧ w42.cell? (Addr.mk w17.heap.size 6 none) = some ((.slice a93 l93 c93 : Value)) ∧ w42.cell? (Addr.mk w17.heap.size 7 none) = some ((.int .i64 n94 : Value)) ∧ w42.cell? (Addr.mk w17.heap.size 8 none) = some ((.bool b95 : Value)) ∧ w42.cell? (Addr.mk w17.heap.size 9 none) = some ((.bool b96 : Value)) ∧ w42.cell? (Addr.mk w17.heap.size 10 none) = some ((.bool b97 : Value)) ∧ 
  CallR Try.prog 12 [.agg #[.bool b87, .bool b88, .int .i64 n89, .int .i64 n90, .slice a91 l91 c91, .slice a92 l92 c92, .slice a93 l93 c93, .int .i64 n94, .bool b95, .bool b96, .bool b97]] w42 (fun (r100 : Value) (w43 : World) =>
  ∃ (a98 : Option Addr) (l98 : Nat) (c98 : Nat) (n99 : Int), r100 = .tuple #[.slice a98 l98 c98, .int .i64 n99] ∧
  CallR Try.prog 19 [.slice a98 l98 c98] w43 (fun (r101 : Value) (w44 : World) =>
  r101 = .tuple #[] ∧
  CallR Try.prog 19 [.slice a38 l38 c38] w44 (fun (r102 : Value) (w45 : World) =>
  r102 = .tuple #[] ∧
  ∃ (a103 : Option Addr) (l103 : Nat) (c103 : Nat), w45.cell? (Addr.mk w3.heap.size 5 none) = some ((.slice a103 l103 c103 : Value)) ∧
  CallR Try.prog 19 [.slice a103 l103 c103] w45 (fun (r104 : Value) (w46 : World) =>
  r104 = .tuple #[] ∧
  ∃ (a105 : Option Addr) (l105 : Nat) (c105 : Nat), w46.cell? (Addr.mk w3.heap.size 6 none) = some ((.slice a105 l105 c105 : Value)) ∧
  CallR Try.prog 19 [.slice a105 l105 c105] w46 (fun (r106 : Value) (w47 : World) =>
  r106 = .tuple #[] ∧
  ∃ (a107 : Option Addr) (l107 : Nat) (c107 : Nat), w47.cell? (Addr.mk w3.heap.size 4 none) = some ((.slice a107 l107 c107 : Value)) ∧
  CallR Try.prog 19 [.slice a107 l107 c107] w47 (fun (r108 : Value) (w48 : World) =>
  r108 = .tuple #[] ∧
  ∃ (b109 : Bool) (b110 : Bool) (n111 : Int) (n112 : Int) (a113 : Option Addr) (l113 : Nat) (c113 : Nat) (a114 : Option Addr) (l114 : Nat) (c114 : Nat) (a115 : Option Addr) (l115 : Nat) (c115 : Nat) (n116 : Int) (b117 : Bool) (b118 : Bool) (b119 : Bool), w48.cell? (Addr.mk w17.heap.size 0 none) = some ((.bool b109 : Value)) ∧ w48.cell? (Addr.mk w17.heap.size 1 none) = some ((.bool b110 : Value)) ∧ w48.cell? (Addr.mk w17.heap.size 2 none) = some ((.int .i64 n111 : Value)) ∧ w48.cell? (Addr.mk w17.heap.size 3 none) = some ((.int .i64 n112 : Value)) ∧ w48.cell? (Addr.mk w17.heap.size 4 none) = some ((.slice a113 l113 c113 : Value)) ∧ w48.cell? (Addr.mk w17.heap.size 5 none) = some ((.slice a114 l114 c114 : Value)) ∧ w48.cell? (Addr.mk w17.heap.size 6 none) = some ((.slice a115 l115 c115 : Value)) ∧ w48.cell? (Addr.mk w17.heap.size 7 none) = some ((.int .i64 n116 : Value)) ∧ w48.cell? (Addr.mk w17.heap.size 8 none) = some ((.bool b117 : Value)) ∧ w48.cell? (Addr.mk w17.heap.size 9 none) = some ((.bool b118 : Value)) ∧ w48.cell? (Addr.mk w17.heap.size 10 none) = some ((.bool b119 : Value)) ∧ 
  ∃ (b120 : Bool) (b121 : Bool) (n122 : Int) (n123 : Int) (a124 : Option Addr) (l124 : Nat) (c124 : Nat) (a125 : Option Addr) (l125 : Nat) (c125 : Nat) (a126 : Option Addr) (l126 : Nat) (c126 : Nat) (n127 : Int) (b128 : Bool) (b129 : Bool) (b130 : Bool), w48.cell? (Addr.mk w30.heap.size 0 none) = some ((.bool b120 : Value)) ∧ w48.cell? (Addr.mk w30.heap.size 1 none) = some ((.bool b121 : Value)) ∧ w48.cell? (Addr.mk w30.heap.size 2 none) = some ((.int .i64 n122 : Value)) ∧ w48.cell? (Addr.mk w30.heap.size 3 none) = some ((.int .i64 n123 : Value)) ∧ w48.cell? (Addr.mk w30.heap.size 4 none) = some ((.slice a124 l124 c124 : Value)) ∧ w48.cell? (Addr.mk w30.heap.size 5 none) = some ((.slice a125 l125 c125 : Value)) ∧ w48.cell? (Addr.mk w30.heap.size 6 none) = some ((.slice a126 l126 c126 : Value)) ∧ w48.cell? (Addr.mk w30.heap.size 7 none) = some ((.int .i64 n127 : Value)) ∧ w48.cell? (Addr.mk w30.heap.size 8 none) = some ((.bool b128 : Value)) ∧ w48.cell? (Addr.mk w30.heap.size 9 none) = some ((.bool b129 : Value)) ∧ w48.cell? (Addr.mk w30.heap.size 10 none) = some ((.bool b130 : Value)) ∧ 
  CallR Try.prog 14 [.agg #[.bool b109, .bool b110, .int .i64 n111, .int .i64 n112, .slice a113 l113 c113, .slice a114 l114 c114, .slice a115 l115 c115, .int .i64 n116, .bool b117, .bool b118, .bool b119], .agg #[.bool b120, .bool b121, .int .i64 n122, .int .i64 n123, .slice a124 l124 c124, .slice a125 l125 c125, .slice a126 l126 c126, .int .i64 n127, .bool b128, .bool b129, .bool b130]] w48 (fun (r132 : Value) (w49 : World) =>
  ∃ (b131 : Bool), r132 = .bool b131 ∧
  Q (.bool b131) w49))))))))))))))))))))))))))))))))))))))))))))))
theorem C5 {b1 : Bool} {b2 : Bool} {n3 : Int} {n4 : Int} {a5 : Option Addr} {l5 : Nat} {c5 : Nat} {a6 : Option Addr} {l6 : Nat} {c6 : Nat} {a7 : Option Addr} {l7 : Nat} {c7 : Nat} {n8 : Int} {b9 : Bool} {b10 : Bool} {b11 : Bool} {a12 : Option Addr} {l12 : Nat} {c12 : Nat} {Q : Value → World → Prop} {w : World} (h : L5 b1 b2 n3 n4 a5 l5 c5 a6 l6 c6 a7 l7 c7 n8 b9 b10 b11 a12 l12 c12 Q w) : CallR Try.prog 5 [.agg #[.bool b1, .bool b2, .int .i64 n3, .int .i64 n4, .slice a5 l5 c5, .slice a6 l6 c6, .slice a7 l7 c7, .int .i64 n8, .bool b9, .bool b10, .bool b11], .slice a12 l12 c12] w Q :=
  fun_calls (A := A5) mixed Try.func5 (c := (Try.f5.body).getD .skip) rfl (by kernel_rfl) (Eq.mp (by kernel_rfl) h)

end Go.Proofs.Ythddogeenimjcaa
