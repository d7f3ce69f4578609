/-
  What some functions of the program ask of the world, printed by a program out of the loaded program; each text is held against the code by evaluation. Conditions: none.
-/
import Derived.Test.YtbiofmgebbdflaaProg
import Derived.Test.YtbiofmgebbdflaaLm
import Derived.Test.YtbiofmgebbdflaaLX
set_option linter.unusedVariables false
set_option maxRecDepth 100000
namespace Go.Proofs.Ytbiofmgebbdflaa
open Go.Lw
/-- slices.Clone[[]byte,byte] -/
def A117 : Ann := ⟨[], [], [], [], []⟩
def L117 (a1 : Option Addr) (l1 : Nat) (c1 : Nat) (Q : Value → World → Prop) (w : World) : Prop :=
  cond (Option.isNone a1)
  (Q (.slice none 0 0) w)
  (let w1 := World.alloc w (Obj.cells #[] 5);
  ∃ (a2 : Option Addr) (l2 : Nat) (c2 : Nat) (w2 : World), Sem.run Try.prog (Builtin.append_ #[36, 36] 36 #[.slice (some (Addr.mk w.heap.size 0 none)) 0 0, .slice a1 l1 c1]) w1 = .ok ((.slice a2 l2 c2 : Value)) w2 ∧
  Q (.slice a2 l2 c2) w2)
theorem C117 {a1 : Option Addr} {l1 : Nat} {c1 : Nat} {Q : Value → World → Prop} {w : World} (h : L117 a1 l1 c1 Q w) : CallR Try.prog 117 [.slice a1 l1 c1] w Q :=
  fun_calls (A := A117) mixed Try.func117 (c := (Try.f117.body).getD .skip) rfl (by kernel_rfl) (Eq.mp (by kernel_rfl) h)

/-- slices.Reverse[[]byte,byte] -/
def A113 : Ann := ⟨[(1, [(2, .one (.int .i64)), (3, .one (.int .i64))])], [], [], [(3, [0, 1, 2, 3, 4, 5, 6, 7, 8, 9, 10, 11, 12, 13, 14, 15])], []⟩
def L113 (a1 : Option Addr) (l1 : Nat) (c1 : Nat) (Q : Value → World → Prop) (w : World) : Prop :=
  inI ((((l1 : Nat) : Int)) - 1) ∧
  ∃ (I2 : List Value → World → Prop) (mu3 : List Value → World → Nat),
  I2 [.int .i64 0, .int .i64 ((((l1 : Nat) : Int)) - 1)] w ∧
  ∀ (_ : Env) (n4 : Int) (n5 : Int) (w1 : World), I2 [.int .i64 n4, .int .i64 n5] w1 →
  cond (decide (n4 < n5))
  (let w2 := World.drew w1;
  (0 ≤ (n5 : Int) ∧ (n5 : Int) < ((l1 : Nat) : Int)) ∧
  nn a1 (fun (q6 : Addr) =>
  ∃ (n7 : Int), w2.cell? (Addr.add q6 (Int.toNat n5)) = some ((.int .u8 n7 : Value)) ∧
  (0 ≤ (n4 : Int) ∧ (n4 : Int) < ((l1 : Nat) : Int)) ∧
  nn a1 (fun (q8 : Addr) =>
  ∃ (n9 : Int), w2.cell? (Addr.add q8 (Int.toNat n4)) = some ((.int .u8 n9 : Value)) ∧
  (0 ≤ (n4 : Int) ∧ (n4 : Int) < ((l1 : Nat) : Int)) ∧
  nn a1 (fun (q10 : Addr) =>
  stC (Addr.add q10 (Int.toNat n4)) (.int .u8 n7) w2 (fun (w3 : World) =>
  (0 ≤ (n5 : Int) ∧ (n5 : Int) < ((l1 : Nat) : Int)) ∧
  nn a1 (fun (q11 : Addr) =>
  stC (Addr.add q11 (Int.toNat n5)) (.int .u8 n9) w3 (fun (w4 : World) =>
  inI (n4 + 1) ∧
  inI (n5 - 1) ∧
  I2 [.int .i64 (n4 + 1), .int .i64 (n5 - 1)] w4 ∧ mu3 [.int .i64 (n4 + 1), .int .i64 (n5 - 1)] w4 < mu3 [.int .i64 n4, .int .i64 n5] w1)))))))
  (Q (.tuple #[]) w1)
theorem C113 {a1 : Option Addr} {l1 : Nat} {c1 : Nat} {Q : Value → World → Prop} {w : World} (h : L113 a1 l1 c1 Q w) : CallR Try.prog 113 [.slice a1 l1 c1] w Q :=
  fun_calls (A := A113) mixed Try.func113 (c := (Try.f113.body).getD .skip) rfl (by kernel_rfl) (Eq.mp (by kernel_rfl) h)

/-- millrace/stream.buffer -/
def A86 : Ann := ⟨[], [], [], [], []⟩
def L86 (n1 : Int) (n2 : Int) (Q : Value → World → Prop) (w : World) : Prop :=
  cond (decide (n1 < 1))
  (Q (.int .i64 1) w)
  (cond (decide (n1 > 3))
  (Q (.int .i64 1) w)
  (cond (decide (n2 < 1))
  (Q (.int .i64 4) w)
  (cond (decide (n2 > 65536))
  (Q (.int .i64 4) w)
  (Q (.int .i64 0) w))))
theorem C86 {n1 : Int} {n2 : Int} {Q : Value → World → Prop} {w : World} (h : L86 n1 n2 Q w) : CallR Try.prog 86 [.int .i64 n1, .int .i64 n2] w Q :=
  fun_calls (A := A86) mixed Try.func86 (c := (Try.f86.body).getD .skip) rfl (by kernel_rfl) (Eq.mp (by kernel_rfl) h)

/-- millrace/stream.Check -/
def A115 : Ann := ⟨[], [], [], [], []⟩
def L115 (b1 : Bool) (b2 : Bool) (n3 : Int) (n4 : Int) (a5 : Option Addr) (l5 : Nat) (c5 : Nat) (a6 : Option Addr) (l6 : Nat) (c6 : Nat) (a7 : Option Addr) (l7 : Nat) (c7 : Nat) (n8 : Int) (b9 : Bool) (b10 : Bool) (b11 : Bool) (Q : Value → World → Prop) (w : World) : Prop :=
  let w1 := World.alloc w (Obj.cells #[.bool b1, .bool b2, .int .i64 n3, .int .i64 n4, .slice a5 l5 c5, .slice a6 l6 c6, .slice a7 l7 c7, .int .i64 n8, .bool b9, .bool b10, .bool b11] 60);
  ∃ (a12 : Option Addr) (l12 : Nat) (c12 : Nat), w1.cell? (Addr.mk w.heap.size 5 none) = some ((.slice a12 l12 c12 : Value)) ∧
  ∃ (a13 : Option Addr) (l13 : Nat) (c13 : Nat), w1.cell? (Addr.mk w.heap.size 6 none) = some ((.slice a13 l13 c13 : Value)) ∧
  inI ((((l12 : Nat) : Int)) + (((l13 : Nat) : Int))) ∧
  ∃ (n14 : Int), w1.cell? (Addr.mk w.heap.size 2 none) = some ((.int .i64 n14 : Value)) ∧
  ∃ (n15 : Int), w1.cell? (Addr.mk w.heap.size 3 none) = some ((.int .i64 n15 : Value)) ∧
  CallR Try.prog 86 [.int .i64 n14, .int .i64 n15] w1 (fun (r17 : Value) (w2 : World) =>
  ∃ (n16 : Int), r17 = .int .i64 n16 ∧
  cond (n16 == 0)
  (∃ (a18 : Option Addr) (l18 : Nat) (c18 : Nat), w2.cell? (Addr.mk w.heap.size 4 none) = some ((.slice a18 l18 c18 : Value)) ∧
  ∃ (n19 : Int), w2.cell? (Addr.mk w.heap.size 3 none) = some ((.int .i64 n19 : Value)) ∧
  cond (decide ((((l18 : Nat) : Int)) ≤ n19))
  (∃ (n20 : Int), w2.cell? (Addr.mk w.heap.size 2 none) = some ((.int .i64 n20 : Value)) ∧
  cond (n20 != 1)
  (∃ (a21 : Option Addr) (l21 : Nat) (c21 : Nat), w2.cell? (Addr.mk w.heap.size 5 none) = some ((.slice a21 l21 c21 : Value)) ∧
  cond (decide ((((l21 : Nat) : Int)) ≤ 65536))
  (∃ (a22 : Option Addr) (l22 : Nat) (c22 : Nat), w2.cell? (Addr.mk w.heap.size 6 none) = some ((.slice a22 l22 c22 : Value)) ∧
  cond (decide ((((l22 : Nat) : Int)) ≤ 8))
  (∃ (b23 : Bool), w2.cell? (Addr.mk w.heap.size 10 none) = some ((.bool b23 : Value)) ∧
  cond (!b23)
  (∃ (n24 : Int), w2.cell? (Addr.mk w.heap.size 7 none) = some ((.int .i64 n24 : Value)) ∧
  cond (n24 == 0)
  (∃ (a25 : Option Addr) (l25 : Nat) (c25 : Nat), w2.cell? (Addr.mk w.heap.size 4 none) = some ((.slice a25 l25 c25 : Value)) ∧
  inI ((((l25 : Nat) : Int)) + ((((l12 : Nat) : Int)) + (((l13 : Nat) : Int)))) ∧
  cond (!(((((l25 : Nat) : Int)) + ((((l12 : Nat) : Int)) + (((l13 : Nat) : Int)))) == 0))
  (Q (.int .i64 51) w2)
  (Q (.int .i64 0) w2))
  (cond (n24 == 1)
  (∃ (b26 : Bool), w2.cell? (Addr.mk w.heap.size 0 none) = some ((.bool b26 : Value)) ∧
  cond b26
  (∃ (a27 : Option Addr) (l27 : Nat) (c27 : Nat), w2.cell? (Addr.mk w.heap.size 4 none) = some ((.slice a27 l27 c27 : Value)) ∧
  cond (!((((l27 : Nat) : Int)) == 0))
  (Q (.int .i64 51) w2)
  (Q (.int .i64 0) w2))
  (Q (.int .i64 51) w2))
  (cond (n24 == 2)
  (∃ (b28 : Bool), w2.cell? (Addr.mk w.heap.size 1 none) = some ((.bool b28 : Value)) ∧
  cond b28
  (cond (!(((((l12 : Nat) : Int)) + (((l13 : Nat) : Int))) == 0))
  (Q (.int .i64 51) w2)
  (Q (.int .i64 0) w2))
  (Q (.int .i64 51) w2))
  (Q (.int .i64 51) w2))))
  (∃ (n29 : Int), w2.cell? (Addr.mk w.heap.size 7 none) = some ((.int .i64 n29 : Value)) ∧
  ∃ (n30 : Int), w2.cell? (Addr.mk w.heap.size 7 none) = some ((.int .i64 n30 : Value)) ∧
  cond (n30 == 0)
  (cond (n29 == 0)
  (∃ (a31 : Option Addr) (l31 : Nat) (c31 : Nat), w2.cell? (Addr.mk w.heap.size 4 none) = some ((.slice a31 l31 c31 : Value)) ∧
  inI ((((l31 : Nat) : Int)) + ((((l12 : Nat) : Int)) + (((l13 : Nat) : Int)))) ∧
  cond (!(((((l31 : Nat) : Int)) + ((((l12 : Nat) : Int)) + (((l13 : Nat) : Int)))) == 0))
  (Q (.int .i64 51) w2)
  (Q (.int .i64 0) w2))
  (Q (.int .i64 51) w2))
  (cond (n30 == 1)
  (cond (n29 == 0)
  (∃ (b32 : Bool), w2.cell? (Addr.mk w.heap.size 0 none) = some ((.bool b32 : Value)) ∧
  cond b32
  (∃ (a33 : Option Addr) (l33 : Nat) (c33 : Nat), w2.cell? (Addr.mk w.heap.size 4 none) = some ((.slice a33 l33 c33 : Value)) ∧
  cond (!((((l33 : Nat) : Int)) == 0))
  (Q (.int .i64 51) w2)
  (Q (.int .i64 0) w2))
  (Q (.int .i64 51) w2))
  (Q (.int .i64 51) w2))
  (cond (n30 == 2)
  (cond (n29 == 0)
  (∃ (b34 : Bool), w2.cell? (Addr.mk w.heap.size 1 none) = some ((.bool b34 : Value)) ∧
  cond b34
  (cond (!(((((l12 : Nat) : Int)) + (((l13 : Nat) : Int))) == 0))
  (Q (.int .i64 51) w2)
  (Q (.int .i64 0) w2))
  (Q (.int .i64 51) w2))
  (Q (.int .i64 51) w2))
  (Q (.int .i64 51) w2)))))
  (∃ (n35 : Int), w2.cell? (Addr.mk w.heap.size 7 none) = some ((.int .i64 n35 : Value)) ∧
  cond (n35 == 0)
  (Q (.int .i64 51) w2)
  (cond (n35 == 1)
  (Q (.int .i64 51) w2)
  (cond (n35 == 2)
  (Q (.int .i64 51) w2)
  (Q (.int .i64 51) w2)))))
  (∃ (n36 : Int), w2.cell? (Addr.mk w.heap.size 7 none) = some ((.int .i64 n36 : Value)) ∧
  cond (n36 == 0)
  (Q (.int .i64 51) w2)
  (cond (n36 == 1)
  (Q (.int .i64 51) w2)
  (cond (n36 == 2)
  (Q (.int .i64 51) w2)
  (Q (.int .i64 51) w2)))))
  (∃ (a37 : Option Addr) (l37 : Nat) (c37 : Nat), w2.cell? (Addr.mk w.heap.size 4 none) = some ((.slice a37 l37 c37 : Value)) ∧
  cond ((((l37 : Nat) : Int)) == 0)
  (∃ (a38 : Option Addr) (l38 : Nat) (c38 : Nat), w2.cell? (Addr.mk w.heap.size 5 none) = some ((.slice a38 l38 c38 : Value)) ∧
  cond (decide ((((l38 : Nat) : Int)) ≤ 65536))
  (∃ (a39 : Option Addr) (l39 : Nat) (c39 : Nat), w2.cell? (Addr.mk w.heap.size 6 none) = some ((.slice a39 l39 c39 : Value)) ∧
  cond (decide ((((l39 : Nat) : Int)) ≤ 8))
  (∃ (b40 : Bool), w2.cell? (Addr.mk w.heap.size 10 none) = some ((.bool b40 : Value)) ∧
  cond (!b40)
  (∃ (n41 : Int), w2.cell? (Addr.mk w.heap.size 7 none) = some ((.int .i64 n41 : Value)) ∧
  cond (n41 == 0)
  (∃ (a42 : Option Addr) (l42 : Nat) (c42 : Nat), w2.cell? (Addr.mk w.heap.size 4 none) = some ((.slice a42 l42 c42 : Value)) ∧
  inI ((((l42 : Nat) : Int)) + ((((l12 : Nat) : Int)) + (((l13 : Nat) : Int)))) ∧
  cond (!(((((l42 : Nat) : Int)) + ((((l12 : Nat) : Int)) + (((l13 : Nat) : Int)))) == 0))
  (Q (.int .i64 51) w2)
  (Q (.int .i64 0) w2))
  (cond (n41 == 1)
  (∃ (b43 : Bool), w2.cell? (Addr.mk w.heap.size 0 none) = some ((.bool b43 : Value)) ∧
  cond b43
  (∃ (a44 : Option Addr) (l44 : Nat) (c44 : Nat), w2.cell? (Addr.mk w.heap.size 4 none) = some ((.slice a44 l44 c44 : Value)) ∧
  cond (!((((l44 : Nat) : Int)) == 0))
  (Q (.int .i64 51) w2)
  (Q (.int .i64 0) w2))
  (Q (.int .i64 51) w2))
  (cond (n41 == 2)
  (∃ (b45 : Bool), w2.cell? (Addr.mk w.heap.size 1 none) = some ((.bool b45 : Value)) ∧
  cond b45
  (cond (!(((((l12 : Nat) : Int)) + (((l13 : Nat) : Int))) == 0))
  (Q (.int .i64 51) w2)
  (Q (.int .i64 0) w2))
  (Q (.int .i64 51) w2))
  (Q (.int .i64 51) w2))))
  (∃ (n46 : Int), w2.cell? (Addr.mk w.heap.size 7 none) = some ((.int .i64 n46 : Value)) ∧
  ∃ (n47 : Int), w2.cell? (Addr.mk w.heap.size 7 none) = some ((.int .i64 n47 : Value)) ∧
  cond (n47 == 0)
  (cond (n46 == 0)
  (∃ (a48 : Option Addr) (l48 : Nat) (c48 : Nat), w2.cell? (Addr.mk w.heap.size 4 none) = some ((.slice a48 l48 c48 : Value)) ∧
  inI ((((l48 : Nat) : Int)) + ((((l12 : Nat) : Int)) + (((l13 : Nat) : Int)))) ∧
  cond (!(((((l48 : Nat) : Int)) + ((((l12 : Nat) : Int)) + (((l13 : Nat) : Int)))) == 0))
  (Q (.int .i64 51) w2)
  (Q (.int .i64 0) w2))
  (Q (.int .i64 51) w2))
  (cond (n47 == 1)
  (cond (n46 == 0)
  (∃ (b49 : Bool), w2.cell? (Addr.mk w.heap.size 0 none) = some ((.bool b49 : Value)) ∧
  cond b49
  (∃ (a50 : Option Addr) (l50 : Nat) (c50 : Nat), w2.cell? (Addr.mk w.heap.size 4 none) = some ((.slice a50 l50 c50 : Value)) ∧
  cond (!((((l50 : Nat) : Int)) == 0))
  (Q (.int .i64 51) w2)
  (Q (.int .i64 0) w2))
  (Q (.int .i64 51) w2))
  (Q (.int .i64 51) w2))
  (cond (n47 == 2)
  (cond (n46 == 0)
  (∃ (b51 : Bool), w2.cell? (Addr.mk w.heap.size 1 none) = some ((.bool b51 : Value)) ∧
  cond b51
  (cond (!(((((l12 : Nat) : Int)) + (((l13 : Nat) : Int))) == 0))
  (Q (.int .i64 51) w2)
  (Q (.int .i64 0) w2))
  (Q (.int .i64 51) w2))
  (Q (.int .i64 51) w2))
  (Q (.int .i64 51) w2)))))
  (∃ (n52 : Int), w2.cell? (Addr.mk w.heap.size 7 none) = some ((.int .i64 n52 : Value)) ∧
  cond (n52 == 0)
  (Q (.int .i64 51) w2)
  (cond (n52 == 1)
  (Q (.int .i64 51) w2)
  (cond (n52 == 2)
  (Q (.int .i64 51) w2)
  (Q (.int .i64 51) w2)))))
  (∃ (n53 : Int), w2.cell? (Addr.mk w.heap.size 7 none) = some ((.int .i64 n53 : Value)) ∧
  cond (n53 == 0)
  (Q (.int .i64 51) w2)
  (cond (n53 == 1)
  (Q (.int .i64 51) w2)
  (cond (n53 == 2)
  (Q (.int .i64 51) w2)
  (Q (.int .i64 51) w2)))))
  (∃ (n54 : Int), w2.cell? (Addr.mk w.heap.size 7 none) = some ((.int .i64 n54 : Value)) ∧
  cond (n54 == 0)
  (Q (.int .i64 51) w2)
  (cond (n54 == 1)
  (Q (.int .i64 51) w2)
  (cond (n54 == 2)
  (Q (.int .i64 51) w2)
  (Q (.int .i64 51) w2))))))
  (∃ (n55 : Int), w2.cell? (Addr.mk w.heap.size 7 none) = some ((.int .i64 n55 : Value)) ∧
  cond (n55 == 0)
  (Q (.int .i64 51) w2)
  (cond (n55 == 1)
  (Q (.int .i64 51) w2)
  (cond (n55 == 2)
  (Q (.int .i64 51) w2)
  (Q (.int .i64 51) w2)))))
  (∃ (n56 : Int), w2.cell? (Addr.mk w.heap.size 7 none) = some ((.int .i64 n56 : Value)) ∧
  cond (n56 == 0)
  (Q (.int .i64 51) w2)
  (cond (n56 == 1)
  (Q (.int .i64 51) w2)
  (cond (n56 == 2)
  (Q (.int .i64 51) w2)
  (Q (.int .i64 51) w2)))))
theorem C115 {b1 : Bool} {b2 : Bool} {n3 : Int} {n4 : Int} {a5 : Option Addr} {l5 : Nat} {c5 : Nat} {a6 : Option Addr} {l6 : Nat} {c6 : Nat} {a7 : Option Addr} {l7 : Nat} {c7 : Nat} {n8 : Int} {b9 : Bool} {b10 : Bool} {b11 : Bool} {Q : Value → World → Prop} {w : World} (h : L115 b1 b2 n3 n4 a5 l5 c5 a6 l6 c6 a7 l7 c7 n8 b9 b10 b11 Q w) : CallR Try.prog 115 [.agg #[.bool b1, .bool b2, .int .i64 n3, .int .i64 n4, .slice a5 l5 c5, .slice a6 l6 c6, .slice a7 l7 c7, .int .i64 n8, .bool b9, .bool b10, .bool b11]] w Q :=
  fun_calls (A := A115) mixed Try.func115 (c := (Try.f115.body).getD .skip) rfl (by kernel_rfl) (Eq.mp (by kernel_rfl) h)

/-- millrace/stream.New -/
def A33 : Ann := ⟨[], [], [], [], []⟩
def L33 (b1 : Bool) (b2 : Bool) (b3 : Bool) (b4 : Bool) (b5 : Bool) (b6 : Bool) (b7 : Bool) (b8 : Bool) (n9 : Int) (n10 : Int) (Q : Value → World → Prop) (w : World) : Prop :=
  let w1 := World.alloc w (Obj.cells #[.bool b1, .bool b2, .bool b3, .bool b4, .bool b5, .bool b6, .bool b7, .bool b8] 64);
  let w2 := World.alloc w1 (Obj.cells #[.bool false, .bool false, .int .i64 0, .int .i64 0, .slice none 0 0, .slice none 0 0, .slice none 0 0, .int .i64 0, .bool false, .bool false, .bool false] 60);
  ∃ (b11 : Bool) (b12 : Bool) (b13 : Bool) (b14 : Bool) (b15 : Bool) (b16 : Bool) (b17 : Bool) (b18 : Bool), w2.cell? (Addr.mk w.heap.size 0 none) = some ((.bool b11 : Value)) ∧ w2.cell? (Addr.mk w.heap.size 1 none) = some ((.bool b12 : Value)) ∧ w2.cell? (Addr.mk w.heap.size 2 none) = some ((.bool b13 : Value)) ∧ w2.cell? (Addr.mk w.heap.size 3 none) = some ((.bool b14 : Value)) ∧ w2.cell? (Addr.mk w.heap.size 4 none) = some ((.bool b15 : Value)) ∧ w2.cell? (Addr.mk w.heap.size 5 none) = some ((.bool b16 : Value)) ∧ w2.cell? (Addr.mk w.heap.size 6 none) = some ((.bool b17 : Value)) ∧ w2.cell? (Addr.mk w.heap.size 7 none) = some ((.bool b18 : Value)) ∧ 
  CallR Try.prog 85 [.agg #[.bool b11, .bool b12, .bool b13, .bool b14, .bool b15, .bool b16, .bool b17, .bool b18]] w2 (fun (r20 : Value) (w3 : World) =>
  ∃ (n19 : Int), r20 = .int .i64 n19 ∧
  cond (n19 != 0)
  (stC (Addr.mk w1.heap.size 0 none) (.bool false) w3 (fun (w4 : World) =>
  stC (Addr.mk w1.heap.size 1 none) (.bool false) w4 (fun (w5 : World) =>
  stC (Addr.mk w1.heap.size 2 none) (.int .i64 0) w5 (fun (w6 : World) =>
  stC (Addr.mk w1.heap.size 3 none) (.int .i64 0) w6 (fun (w7 : World) =>
  stC (Addr.mk w1.heap.size 4 none) (.slice none 0 0) w7 (fun (w8 : World) =>
  stC (Addr.mk w1.heap.size 5 none) (.slice none 0 0) w8 (fun (w9 : World) =>
  stC (Addr.mk w1.heap.size 6 none) (.slice none 0 0) w9 (fun (w10 : World) =>
  stC (Addr.mk w1.heap.size 7 none) (.int .i64 0) w10 (fun (w11 : World) =>
  stC (Addr.mk w1.heap.size 8 none) (.bool false) w11 (fun (w12 : World) =>
  stC (Addr.mk w1.heap.size 9 none) (.bool false) w12 (fun (w13 : World) =>
  stC (Addr.mk w1.heap.size 10 none) (.bool false) w13 (fun (w14 : World) =>
  ∃ (b21 : Bool) (b22 : Bool) (n23 : Int) (n24 : Int) (a25 : Option Addr) (l25 : Nat) (c25 : Nat) (a26 : Option Addr) (l26 : Nat) (c26 : Nat) (a27 : Option Addr) (l27 : Nat) (c27 : Nat) (n28 : Int) (b29 : Bool) (b30 : Bool) (b31 : Bool), w14.cell? (Addr.mk w1.heap.size 0 none) = some ((.bool b21 : Value)) ∧ w14.cell? (Addr.mk w1.heap.size 1 none) = some ((.bool b22 : Value)) ∧ w14.cell? (Addr.mk w1.heap.size 2 none) = some ((.int .i64 n23 : Value)) ∧ w14.cell? (Addr.mk w1.heap.size 3 none) = some ((.int .i64 n24 : Value)) ∧ w14.cell? (Addr.mk w1.heap.size 4 none) = some ((.slice a25 l25 c25 : Value)) ∧ w14.cell? (Addr.mk w1.heap.size 5 none) = some ((.slice a26 l26 c26 : Value)) ∧ w14.cell? (Addr.mk w1.heap.size 6 none) = some ((.slice a27 l27 c27 : Value)) ∧ w14.cell? (Addr.mk w1.heap.size 7 none) = some ((.int .i64 n28 : Value)) ∧ w14.cell? (Addr.mk w1.heap.size 8 none) = some ((.bool b29 : Value)) ∧ w14.cell? (Addr.mk w1.heap.size 9 none) = some ((.bool b30 : Value)) ∧ w14.cell? (Addr.mk w1.heap.size 10 none) = some ((.bool b31 : Value)) ∧ 
  Q (.tuple #[.agg #[.bool b21, .bool b22, .int .i64 n23, .int .i64 n24, .slice a25 l25 c25, .slice a26 l26 c26, .slice a27 l27 c27, .int .i64 n28, .bool b29, .bool b30, .bool b31], .int .i64 n19]) w14))))))))))))
  (CallR Try.prog 86 [.int .i64 n9, .int .i64 n10] w3 (fun (r33 : Value) (w15 : World) =>
  ∃ (n32 : Int), r33 = .int .i64 n32 ∧
  cond (n32 != 0)
  (stC (Addr.mk w1.heap.size 0 none) (.bool false) w15 (fun (w16 : World) =>
  stC (Addr.mk w1.heap.size 1 none) (.bool false) w16 (fun (w17 : World) =>
  stC (Addr.mk w1.heap.size 2 none) (.int .i64 0) w17 (fun (w18 : World) =>
  stC (Addr.mk w1.heap.size 3 none) (.int .i64 0) w18 (fun (w19 : World) =>
  stC (Addr.mk w1.heap.size 4 none) (.slice none 0 0) w19 (fun (w20 : World) =>
  stC (Addr.mk w1.heap.size 5 none) (.slice none 0 0) w20 (fun (w21 : World) =>
  stC (Addr.mk w1.heap.size 6 none) (.slice none 0 0) w21 (fun (w22 : World) =>
  stC (Addr.mk w1.heap.size 7 none) (.int .i64 0) w22 (fun (w23 : World) =>
  stC (Addr.mk w1.heap.size 8 none) (.bool false) w23 (fun (w24 : World) =>
  stC (Addr.mk w1.heap.size 9 none) (.bool false) w24 (fun (w25 : World) =>
  stC (Addr.mk w1.heap.size 10 none) (.bool false) w25 (fun (w26 : World) =>
  ∃ (b34 : Bool) (b35 : Bool) (n36 : Int) (n37 : Int) (a38 : Option Addr) (l38 : Nat) (c38 : Nat) (a39 : Option Addr) (l39 : Nat) (c39 : Nat) (a40 : Option Addr) (l40 : Nat) (c40 : Nat) (n41 : Int) (b42 : Bool) (b43 : Bool) (b44 : Bool), w26.cell? (Addr.mk w1.heap.size 0 none) = some ((.bool b34 : Value)) ∧ w26.cell? (Addr.mk w1.heap.size 1 none) = some ((.bool b35 : Value)) ∧ w26.cell? (Addr.mk w1.heap.size 2 none) = some ((.int .i64 n36 : Value)) ∧ w26.cell? (Addr.mk w1.heap.size 3 none) = some ((.int .i64 n37 : Value)) ∧ w26.cell? (Addr.mk w1.heap.size 4 none) = some ((.slice a38 l38 c38 : Value)) ∧ w26.cell? (Addr.mk w1.heap.size 5 none) = some ((.slice a39 l39 c39 : Value)) ∧ w26.cell? (Addr.mk w1.heap.size 6 none) = some ((.slice a40 l40 c40 : Value)) ∧ w26.cell? (Addr.mk w1.heap.size 7 none) = some ((.int .i64 n41 : Value)) ∧ w26.cell? (Addr.mk w1.heap.size 8 none) = some ((.bool b42 : Value)) ∧ w26.cell? (Addr.mk w1.heap.size 9 none) = some ((.bool b43 : Value)) ∧ w26.cell? (Addr.mk w1.heap.size 10 none) = some ((.bool b44 : Value)) ∧ 
  Q (.tuple #[.agg #[.bool b34, .bool b35, .int .i64 n36, .int .i64 n37, .slice a38 l38 c38, .slice a39 l39 c39, .slice a40 l40 c40, .int .i64 n41, .bool b42, .bool b43, .bool b44], .int .i64 n32]) w26))))))))))))
  (∃ (b45 : Bool), w15.cell? (Addr.mk w.heap.size 0 none) = some ((.bool b45 : Value)) ∧
  ∃ (b46 : Bool), w15.cell? (Addr.mk w.heap.size 1 none) = some ((.bool b46 : Value)) ∧
  stC (Addr.mk w1.heap.size 0 none) (.bool b45) w15 (fun (w27 : World) =>
  stC (Addr.mk w1.heap.size 1 none) (.bool b46) w27 (fun (w28 : World) =>
  stC (Addr.mk w1.heap.size 2 none) (.int .i64 n9) w28 (fun (w29 : World) =>
  stC (Addr.mk w1.heap.size 3 none) (.int .i64 n10) w29 (fun (w30 : World) =>
  stC (Addr.mk w1.heap.size 4 none) (.slice none 0 0) w30 (fun (w31 : World) =>
  stC (Addr.mk w1.heap.size 5 none) (.slice none 0 0) w31 (fun (w32 : World) =>
  stC (Addr.mk w1.heap.size 6 none) (.slice none 0 0) w32 (fun (w33 : World) =>
  stC (Addr.mk w1.heap.size 7 none) (.int .i64 0) w33 (fun (w34 : World) =>
  stC (Addr.mk w1.heap.size 8 none) (.bool false) w34 (fun (w35 : World) =>
  stC (Addr.mk w1.heap.size 9 none) (.bool false) w35 (fun (w36 : World) =>
  stC (Addr.mk w1.heap.size 10 none) (.bool false) w36 (fun (w37 : World) =>
  ∃ (b47 : Bool) (b48 : Bool) (n49 : Int) (n50 : Int) (a51 : Option Addr) (l51 : Nat) (c51 : Nat) (a52 : Option Addr) (l52 : Nat) (c52 : Nat) (a53 : Option Addr) (l53 : Nat) (c53 : Nat) (n54 : Int) (b55 : Bool) (b56 : Bool) (b57 : Bool), w37.cell? (Addr.mk w1.heap.size 0 none) = some ((.bool b47 : Value)) ∧ w37.cell? (Addr.mk w1.heap.size 1 none) = some ((.bool b48 : Value)) ∧ w37.cell? (Addr.mk w1.heap.size 2 none) = some ((.int .i64 n49 : Value)) ∧ w37.cell? (Addr.mk w1.heap.size 3 none) = some ((.int .i64 n50 : Value)) ∧ w37.cell? (Addr.mk w1.heap.size 4 none) = some ((.slice a51 l51 c51 : Value)) ∧ w37.cell? (Addr.mk w1.heap.size 5 none) = some ((.slice a52 l52 c52 : Value)) ∧ w37.cell? (Addr.mk w1.heap.size 6 none) = some ((.slice a53 l53 c53 : Value)) ∧ w37.cell? (Addr.mk w1.heap.size 7 none) = some ((.int .i64 n54 : Value)) ∧ w37.cell? (Addr.mk w1.heap.size 8 none) = some ((.bool b55 : Value)) ∧ w37.cell? (Addr.mk w1.heap.size 9 none) = some ((.bool b56 : Value)) ∧ w37.cell? (Addr.mk w1.heap.size 10 none) = some ((.bool b57 : Value)) ∧ 
  Q (.tuple #[.agg #[.bool b47, .bool b48, .int .i64 n49, .int .i64 n50, .slice a51 l51 c51, .slice a52 l52 c52, .slice a53 l53 c53, .int .i64 n54, .bool b55, .bool b56, .bool b57], .int .i64 0]) w37)))))))))))))))
theorem C33 {b1 : Bool} {b2 : Bool} {b3 : Bool} {b4 : Bool} {b5 : Bool} {b6 : Bool} {b7 : Bool} {b8 : Bool} {n9 : Int} {n10 : Int} {Q : Value → World → Prop} {w : World} (h : L33 b1 b2 b3 b4 b5 b6 b7 b8 n9 n10 Q w) : CallR Try.prog 33 [.agg #[.bool b1, .bool b2, .bool b3, .bool b4, .bool b5, .bool b6, .bool b7, .bool b8], .int .i64 n9, .int .i64 n10] w Q :=
  fun_calls (A := A33) mixed Try.func33 (c := (Try.f33.body).getD .skip) rfl (by kernel_rfl) (Eq.mp (by kernel_rfl) h)

/-- millrace/pushback.own -/
def A89 : Ann := ⟨[], [(4, [(4, .one (.int .i64))])], [], [], [(4, [0, 1, 3, 4, 6, 7, 2, 9, 5], 8, [10, 11, 12, 13, 14])]⟩
def L89 (b1 : Bool) (b2 : Bool) (n3 : Int) (n4 : Int) (a5 : Option Addr) (l5 : Nat) (c5 : Nat) (a6 : Option Addr) (l6 : Nat) (c6 : Nat) (a7 : Option Addr) (l7 : Nat) (c7 : Nat) (n8 : Int) (b9 : Bool) (b10 : Bool) (b11 : Bool) (Q : Value → World → Prop) (w : World) : Prop :=
  let w1 := World.alloc w (Obj.cells #[.bool b1, .bool b2, .int .i64 n3, .int .i64 n4, .slice a5 l5 c5, .slice a6 l6 c6, .slice a7 l7 c7, .int .i64 n8, .bool b9, .bool b10, .bool b11] 60);
  let w2 := World.alloc w1 (Obj.cells #[.bool false, .bool false, .int .i64 0, .int .i64 0, .slice none 0 0, .slice none 0 0, .slice none 0 0, .int .i64 0, .bool false, .bool false, .bool false] 60);
  ∃ (b12 : Bool) (b13 : Bool) (n14 : Int) (n15 : Int) (a16 : Option Addr) (l16 : Nat) (c16 : Nat) (a17 : Option Addr) (l17 : Nat) (c17 : Nat) (a18 : Option Addr) (l18 : Nat) (c18 : Nat) (n19 : Int) (b20 : Bool) (b21 : Bool) (b22 : Bool), w2.cell? (Addr.mk w.heap.size 0 none) = some ((.bool b12 : Value)) ∧ w2.cell? (Addr.mk w.heap.size 1 none) = some ((.bool b13 : Value)) ∧ w2.cell? (Addr.mk w.heap.size 2 none) = some ((.int .i64 n14 : Value)) ∧ w2.cell? (Addr.mk w.heap.size 3 none) = some ((.int .i64 n15 : Value)) ∧ w2.cell? (Addr.mk w.heap.size 4 none) = some ((.slice a16 l16 c16 : Value)) ∧ w2.cell? (Addr.mk w.heap.size 5 none) = some ((.slice a17 l17 c17 : Value)) ∧ w2.cell? (Addr.mk w.heap.size 6 none) = some ((.slice a18 l18 c18 : Value)) ∧ w2.cell? (Addr.mk w.heap.size 7 none) = some ((.int .i64 n19 : Value)) ∧ w2.cell? (Addr.mk w.heap.size 8 none) = some ((.bool b20 : Value)) ∧ w2.cell? (Addr.mk w.heap.size 9 none) = some ((.bool b21 : Value)) ∧ w2.cell? (Addr.mk w.heap.size 10 none) = some ((.bool b22 : Value)) ∧ 
  CallR Try.prog 115 [.agg #[.bool b12, .bool b13, .int .i64 n14, .int .i64 n15, .slice a16 l16 c16, .slice a17 l17 c17, .slice a18 l18 c18, .int .i64 n19, .bool b20, .bool b21, .bool b22]] w2 (fun (r24 : Value) (w3 : World) =>
  ∃ (n23 : Int), r24 = .int .i64 n23 ∧
  ∃ (J25 : List Value → World → Prop),
  (cond (n23 == 0)
  (∃ (b26 : Bool), w3.cell? (Addr.mk w.heap.size 10 none) = some ((.bool b26 : Value)) ∧
  cond b26
  (J25 [.int .i64 113] w3)
  (J25 [.int .i64 n23] w3))
  (J25 [.int .i64 n23] w3)) ∧
  (∀ (_ : Env) (n27 : Int) (w4 : World), J25 [.int .i64 n27] w4 →
  ∃ (S28 : World → Prop), S28 (World.drew w4) ∧
  let w5 := World.drew w4;
  ∃ (a29 : Option Addr) (l29 : Nat) (c29 : Nat), (∀ wS : World, S28 wS → wS.cell? (Addr.mk w.heap.size 4 none) = some ((.slice a29 l29 c29 : Value))) ∧
  ∃ (a30 : Option Addr) (l30 : Nat) (c30 : Nat), (∀ wS : World, S28 wS → wS.cell? (Addr.mk w.heap.size 5 none) = some ((.slice a30 l30 c30 : Value))) ∧
  ∃ (a31 : Option Addr) (l31 : Nat) (c31 : Nat), (∀ wS : World, S28 wS → wS.cell? (Addr.mk w.heap.size 6 none) = some ((.slice a31 l31 c31 : Value))) ∧
  CallR Try.prog 117 [.slice a29 l29 c29] w5 (fun (r33 : Value) (w6 : World) =>
  ∃ (a32 : Option Addr) (l32 : Nat) (c32 : Nat), r33 = .slice a32 l32 c32 ∧
  S28 w6 ∧
  CallR Try.prog 117 [.slice a30 l30 c30] w6 (fun (r35 : Value) (w7 : World) =>
  ∃ (a34 : Option Addr) (l34 : Nat) (c34 : Nat), r35 = .slice a34 l34 c34 ∧
  S28 w7 ∧
  CallR Try.prog 117 [.slice a31 l31 c31] w7 (fun (r37 : Value) (w8 : World) =>
  ∃ (a36 : Option Addr) (l36 : Nat) (c36 : Nat), r37 = .slice a36 l36 c36 ∧
  stC (Addr.mk w.heap.size 4 none) (.slice a32 l32 c32) w8 (fun (w9 : World) =>
  stC (Addr.mk w.heap.size 5 none) (.slice a34 l34 c34) w9 (fun (w10 : World) =>
  stC (Addr.mk w.heap.size 6 none) (.slice a36 l36 c36) w10 (fun (w11 : World) =>
  ∃ (b38 : Bool) (b39 : Bool) (n40 : Int) (n41 : Int) (a42 : Option Addr) (l42 : Nat) (c42 : Nat) (a43 : Option Addr) (l43 : Nat) (c43 : Nat) (a44 : Option Addr) (l44 : Nat) (c44 : Nat) (n45 : Int) (b46 : Bool) (b47 : Bool) (b48 : Bool), w11.cell? (Addr.mk w.heap.size 0 none) = some ((.bool b38 : Value)) ∧ w11.cell? (Addr.mk w.heap.size 1 none) = some ((.bool b39 : Value)) ∧ w11.cell? (Addr.mk w.heap.size 2 none) = some ((.int .i64 n40 : Value)) ∧ w11.cell? (Addr.mk w.heap.size 3 none) = some ((.int .i64 n41 : Value)) ∧ w11.cell? (Addr.mk w.heap.size 4 none) = some ((.slice a42 l42 c42 : Value)) ∧ w11.cell? (Addr.mk w.heap.size 5 none) = some ((.slice a43 l43 c43 : Value)) ∧ w11.cell? (Addr.mk w.heap.size 6 none) = some ((.slice a44 l44 c44 : Value)) ∧ w11.cell? (Addr.mk w.heap.size 7 none) = some ((.int .i64 n45 : Value)) ∧ w11.cell? (Addr.mk w.heap.size 8 none) = some ((.bool b46 : Value)) ∧ w11.cell? (Addr.mk w.heap.size 9 none) = some ((.bool b47 : Value)) ∧ w11.cell? (Addr.mk w.heap.size 10 none) = some ((.bool b48 : Value)) ∧ 
  stC (Addr.mk w1.heap.size 0 none) (.bool b38) w11 (fun (w12 : World) =>
  stC (Addr.mk w1.heap.size 1 none) (.bool b39) w12 (fun (w13 : World) =>
  stC (Addr.mk w1.heap.size 2 none) (.int .i64 n40) w13 (fun (w14 : World) =>
  stC (Addr.mk w1.heap.size 3 none) (.int .i64 n41) w14 (fun (w15 : World) =>
  stC (Addr.mk w1.heap.size 4 none) (.slice a42 l42 c42) w15 (fun (w16 : World) =>
  stC (Addr.mk w1.heap.size 5 none) (.slice a43 l43 c43) w16 (fun (w17 : World) =>
  stC (Addr.mk w1.heap.size 6 none) (.slice a44 l44 c44) w17 (fun (w18 : World) =>
  stC (Addr.mk w1.heap.size 7 none) (.int .i64 n45) w18 (fun (w19 : World) =>
  stC (Addr.mk w1.heap.size 8 none) (.bool b46) w19 (fun (w20 : World) =>
  stC (Addr.mk w1.heap.size 9 none) (.bool b47) w20 (fun (w21 : World) =>
  stC (Addr.mk w1.heap.size 10 none) (.bool b48) w21 (fun (w22 : World) =>
  ∃ (b49 : Bool) (b50 : Bool) (n51 : Int) (n52 : Int) (a53 : Option Addr) (l53 : Nat) (c53 : Nat) (a54 : Option Addr) (l54 : Nat) (c54 : Nat) (a55 : Option Addr) (l55 : Nat) (c55 : Nat) (n56 : Int) (b57 : Bool) (b58 : Bool) (b59 : Bool), w22.cell? (Addr.mk w1.heap.size 0 none) = some ((.bool b49 : Value)) ∧ w22.cell? (Addr.mk w1.heap.size 1 none) = some ((.bool b50 : Value)) ∧ w22.cell? (Addr.mk w1.heap.size 2 none) = some ((.int .i64 n51 : Value)) ∧ w22.cell? (Addr.mk w1.heap.size 3 none) = some ((.int .i64 n52 : Value)) ∧ w22.cell? (Addr.mk w1.heap.size 4 none) = some ((.slice a53 l53 c53 : Value)) ∧ w22.cell? (Addr.mk w1.heap.size 5 none) = some ((.slice a54 l54 c54 : Value)) ∧ w22.cell? (Addr.mk w1.heap.size 6 none) = some ((.slice a55 l55 c55 : Value)) ∧ w22.cell? (Addr.mk w1.heap.size 7 none) = some ((.int .i64 n56 : Value)) ∧ w22.cell? (Addr.mk w1.heap.size 8 none) = some ((.bool b57 : Value)) ∧ w22.cell? (Addr.mk w1.heap.size 9 none) = some ((.bool b58 : Value)) ∧ w22.cell? (Addr.mk w1.heap.size 10 none) = some ((.bool b59 : Value)) ∧ 
  Q (.tuple #[.agg #[.bool b49, .bool b50, .int .i64 n51, .int .i64 n52, .slice a53 l53 c53, .slice a54 l54 c54, .slice a55 l55 c55, .int .i64 n56, .bool b57, .bool b58, .bool b59], .int .i64 n27]) w22)))))))))))))))))))
theorem C89 {b1 : Bool} {b2 : Bool} {n3 : Int} {n4 : Int} {a5 : Option Addr} {l5 : Nat} {c5 : Nat} {a6 : Option Addr} {l6 : Nat} {c6 : Nat} {a7 : Option Addr} {l7 : Nat} {c7 : Nat} {n8 : Int} {b9 : Bool} {b10 : Bool} {b11 : Bool} {Q : Value → World → Prop} {w : World} (h : L89 b1 b2 n3 n4 a5 l5 c5 a6 l6 c6 a7 l7 c7 n8 b9 b10 b11 Q w) : CallR Try.prog 89 [.agg #[.bool b1, .bool b2, .int .i64 n3, .int .i64 n4, .slice a5 l5 c5, .slice a6 l6 c6, .slice a7 l7 c7, .int .i64 n8, .bool b9, .bool b10, .bool b11]] w Q :=
  fun_calls (A := A89) mixed Try.func89 (c := (Try.f89.body).getD .skip) rfl (by kernel_rfl) (Eq.mp (by kernel_rfl) h)

/-- millrace/pushback.Unget -/
def A82 : Ann := ⟨[], [], [], [], []⟩
def L82 (b1 : Bool) (b2 : Bool) (n3 : Int) (n4 : Int) (a5 : Option Addr) (l5 : Nat) (c5 : Nat) (a6 : Option Addr) (l6 : Nat) (c6 : Nat) (a7 : Option Addr) (l7 : Nat) (c7 : Nat) (n8 : Int) (b9 : Bool) (b10 : Bool) (b11 : Bool) (n12 : Int) (Q : Value → World → Prop) (w : World) : Prop :=
  let w1 := World.alloc w (Obj.cells #[.bool b1, .bool b2, .int .i64 n3, .int .i64 n4, .slice a5 l5 c5, .slice a6 l6 c6, .slice a7 l7 c7, .int .i64 n8, .bool b9, .bool b10, .bool b11] 60);
  let w2 := World.alloc w1 (Obj.cells #[.bool false, .bool false, .int .i64 0, .int .i64 0, .slice none 0 0, .slice none 0 0, .slice none 0 0, .int .i64 0, .bool false, .bool false, .bool false] 60);
  ∃ (b13 : Bool) (b14 : Bool) (n15 : Int) (n16 : Int) (a17 : Option Addr) (l17 : Nat) (c17 : Nat) (a18 : Option Addr) (l18 : Nat) (c18 : Nat) (a19 : Option Addr) (l19 : Nat) (c19 : Nat) (n20 : Int) (b21 : Bool) (b22 : Bool) (b23 : Bool), w2.cell? (Addr.mk w.heap.size 0 none) = some ((.bool b13 : Value)) ∧ w2.cell? (Addr.mk w.heap.size 1 none) = some ((.bool b14 : Value)) ∧ w2.cell? (Addr.mk w.heap.size 2 none) = some ((.int .i64 n15 : Value)) ∧ w2.cell? (Addr.mk w.heap.size 3 none) = some ((.int .i64 n16 : Value)) ∧ w2.cell? (Addr.mk w.heap.size 4 none) = some ((.slice a17 l17 c17 : Value)) ∧ w2.cell? (Addr.mk w.heap.size 5 none) = some ((.slice a18 l18 c18 : Value)) ∧ w2.cell? (Addr.mk w.heap.size 6 none) = some ((.slice a19 l19 c19 : Value)) ∧ w2.cell? (Addr.mk w.heap.size 7 none) = some ((.int .i64 n20 : Value)) ∧ w2.cell? (Addr.mk w.heap.size 8 none) = some ((.bool b21 : Value)) ∧ w2.cell? (Addr.mk w.heap.size 9 none) = some ((.bool b22 : Value)) ∧ w2.cell? (Addr.mk w.heap.size 10 none) = some ((.bool b23 : Value)) ∧ 
  let w3 := World.alloc w2 (Obj.cells #[.int .u8 n12] 5);
  CallR Try.prog 37 [.agg #[.bool b13, .bool b14, .int .i64 n15, .int .i64 n16, .slice a17 l17 c17, .slice a18 l18 c18, .slice a19 l19 c19, .int .i64 n20, .bool b21, .bool b22, .bool b23], .slice (some (Addr.mk w2.heap.size 0 none)) 1 1] w3 (fun (r36 : Value) (w4 : World) =>
  ∃ (b24 : Bool) (b25 : Bool) (n26 : Int) (n27 : Int) (a28 : Option Addr) (l28 : Nat) (c28 : Nat) (a29 : Option Addr) (l29 : Nat) (c29 : Nat) (a30 : Option Addr) (l30 : Nat) (c30 : Nat) (n31 : Int) (b32 : Bool) (b33 : Bool) (b34 : Bool) (n35 : Int), r36 = .tuple #[.agg #[.bool b24, .bool b25, .int .i64 n26, .int .i64 n27, .slice a28 l28 c28, .slice a29 l29 c29, .slice a30 l30 c30, .int .i64 n31, .bool b32, .bool b33, .bool b34], .int .i64 n35] ∧
  stC (Addr.mk w1.heap.size 0 none) (.bool b24) w4 (fun (w5 : World) =>
  stC (Addr.mk w1.heap.size 1 none) (.bool b25) w5 (fun (w6 : World) =>
  stC (Addr.mk w1.heap.size 2 none) (.int .i64 n26) w6 (fun (w7 : World) =>
  stC (Addr.mk w1.heap.size 3 none) (.int .i64 n27) w7 (fun (w8 : World) =>
  stC (Addr.mk w1.heap.size 4 none) (.slice a28 l28 c28) w8 (fun (w9 : World) =>
  stC (Addr.mk w1.heap.size 5 none) (.slice a29 l29 c29) w9 (fun (w10 : World) =>
  stC (Addr.mk w1.heap.size 6 none) (.slice a30 l30 c30) w10 (fun (w11 : World) =>
  stC (Addr.mk w1.heap.size 7 none) (.int .i64 n31) w11 (fun (w12 : World) =>
  stC (Addr.mk w1.heap.size 8 none) (.bool b32) w12 (fun (w13 : World) =>
  stC (Addr.mk w1.heap.size 9 none) (.bool b33) w13 (fun (w14 : World) =>
  stC (Addr.mk w1.heap.size 10 none) (.bool b34) w14 (fun (w15 : World) =>
  ∃ (b37 : Bool) (b38 : Bool) (n39 : Int) (n40 : Int) (a41 : Option Addr) (l41 : Nat) (c41 : Nat) (a42 : Option Addr) (l42 : Nat) (c42 : Nat) (a43 : Option Addr) (l43 : Nat) (c43 : Nat) (n44 : Int) (b45 : Bool) (b46 : Bool) (b47 : Bool), w15.cell? (Addr.mk w1.heap.size 0 none) = some ((.bool b37 : Value)) ∧ w15.cell? (Addr.mk w1.heap.size 1 none) = some ((.bool b38 : Value)) ∧ w15.cell? (Addr.mk w1.heap.size 2 none) = some ((.int .i64 n39 : Value)) ∧ w15.cell? (Addr.mk w1.heap.size 3 none) = some ((.int .i64 n40 : Value)) ∧ w15.cell? (Addr.mk w1.heap.size 4 none) = some ((.slice a41 l41 c41 : Value)) ∧ w15.cell? (Addr.mk w1.heap.size 5 none) = some ((.slice a42 l42 c42 : Value)) ∧ w15.cell? (Addr.mk w1.heap.size 6 none) = some ((.slice a43 l43 c43 : Value)) ∧ w15.cell? (Addr.mk w1.heap.size 7 none) = some ((.int .i64 n44 : Value)) ∧ w15.cell? (Addr.mk w1.heap.size 8 none) = some ((.bool b45 : Value)) ∧ w15.cell? (Addr.mk w1.heap.size 9 none) = some ((.bool b46 : Value)) ∧ w15.cell? (Addr.mk w1.heap.size 10 none) = some ((.bool b47 : Value)) ∧ 
  Q (.tuple #[.agg #[.bool b37, .bool b38, .int .i64 n39, .int .i64 n40, .slice a41 l41 c41, .slice a42 l42 c42, .slice a43 l43 c43, .int .i64 n44, .bool b45, .bool b46, .bool b47], .int .i64 n35]) w15))))))))))))
theorem C82 {b1 : Bool} {b2 : Bool} {n3 : Int} {n4 : Int} {a5 : Option Addr} {l5 : Nat} {c5 : Nat} {a6 : Option Addr} {l6 : Nat} {c6 : Nat} {a7 : Option Addr} {l7 : Nat} {c7 : Nat} {n8 : Int} {b9 : Bool} {b10 : Bool} {b11 : Bool} {n12 : Int} {Q : Value → World → Prop} {w : World} (h : L82 b1 b2 n3 n4 a5 l5 c5 a6 l6 c6 a7 l7 c7 n8 b9 b10 b11 n12 Q w) : CallR Try.prog 82 [.agg #[.bool b1, .bool b2, .int .i64 n3, .int .i64 n4, .slice a5 l5 c5, .slice a6 l6 c6, .slice a7 l7 c7, .int .i64 n8, .bool b9, .bool b10, .bool b11], .int .u8 n12] w Q :=
  fun_calls (A := A82) mixed Try.func82 (c := (Try.f82.body).getD .skip) rfl (by kernel_rfl) (Eq.mp (by kernel_rfl) h)

/-- millrace/pushback.Held -/
def A84 : Ann := ⟨[], [], [], [], []⟩
def L84 (b1 : Bool) (b2 : Bool) (n3 : Int) (n4 : Int) (a5 : Option Addr) (l5 : Nat) (c5 : Nat) (a6 : Option Addr) (l6 : Nat) (c6 : Nat) (a7 : Option Addr) (l7 : Nat) (c7 : Nat) (n8 : Int) (b9 : Bool) (b10 : Bool) (b11 : Bool) (Q : Value → World → Prop) (w : World) : Prop :=
  let w1 := World.alloc w (Obj.cells #[.bool b1, .bool b2, .int .i64 n3, .int .i64 n4, .slice a5 l5 c5, .slice a6 l6 c6, .slice a7 l7 c7, .int .i64 n8, .bool b9, .bool b10, .bool b11] 60);
  ∃ (b12 : Bool) (b13 : Bool) (n14 : Int) (n15 : Int) (a16 : Option Addr) (l16 : Nat) (c16 : Nat) (a17 : Option Addr) (l17 : Nat) (c17 : Nat) (a18 : Option Addr) (l18 : Nat) (c18 : Nat) (n19 : Int) (b20 : Bool) (b21 : Bool) (b22 : Bool), w1.cell? (Addr.mk w.heap.size 0 none) = some ((.bool b12 : Value)) ∧ w1.cell? (Addr.mk w.heap.size 1 none) = some ((.bool b13 : Value)) ∧ w1.cell? (Addr.mk w.heap.size 2 none) = some ((.int .i64 n14 : Value)) ∧ w1.cell? (Addr.mk w.heap.size 3 none) = some ((.int .i64 n15 : Value)) ∧ w1.cell? (Addr.mk w.heap.size 4 none) = some ((.slice a16 l16 c16 : Value)) ∧ w1.cell? (Addr.mk w.heap.size 5 none) = some ((.slice a17 l17 c17 : Value)) ∧ w1.cell? (Addr.mk w.heap.size 6 none) = some ((.slice a18 l18 c18 : Value)) ∧ w1.cell? (Addr.mk w.heap.size 7 none) = some ((.int .i64 n19 : Value)) ∧ w1.cell? (Addr.mk w.heap.size 8 none) = some ((.bool b20 : Value)) ∧ w1.cell? (Addr.mk w.heap.size 9 none) = some ((.bool b21 : Value)) ∧ w1.cell? (Addr.mk w.heap.size 10 none) = some ((.bool b22 : Value)) ∧ 
  CallR Try.prog 89 [.agg #[.bool b12, .bool b13, .int .i64 n14, .int .i64 n15, .slice a16 l16 c16, .slice a17 l17 c17, .slice a18 l18 c18, .int .i64 n19, .bool b20, .bool b21, .bool b22]] w1 (fun (r35 : Value) (w2 : World) =>
  ∃ (b23 : Bool) (b24 : Bool) (n25 : Int) (n26 : Int) (a27 : Option Addr) (l27 : Nat) (c27 : Nat) (a28 : Option Addr) (l28 : Nat) (c28 : Nat) (a29 : Option Addr) (l29 : Nat) (c29 : Nat) (n30 : Int) (b31 : Bool) (b32 : Bool) (b33 : Bool) (n34 : Int), r35 = .tuple #[.agg #[.bool b23, .bool b24, .int .i64 n25, .int .i64 n26, .slice a27 l27 c27, .slice a28 l28 c28, .slice a29 l29 c29, .int .i64 n30, .bool b31, .bool b32, .bool b33], .int .i64 n34] ∧
  let w3 := World.alloc w2 (Obj.cells #[.bool false, .bool false, .int .i64 0, .int .i64 0, .slice none 0 0, .slice none 0 0, .slice none 0 0, .int .i64 0, .bool false, .bool false, .bool false] 60);
  stC (Addr.mk w2.heap.size 0 none) (.bool b23) w3 (fun (w4 : World) =>
  stC (Addr.mk w2.heap.size 1 none) (.bool b24) w4 (fun (w5 : World) =>
  stC (Addr.mk w2.heap.size 2 none) (.int .i64 n25) w5 (fun (w6 : World) =>
  stC (Addr.mk w2.heap.size 3 none) (.int .i64 n26) w6 (fun (w7 : World) =>
  stC (Addr.mk w2.heap.size 4 none) (.slice a27 l27 c27) w7 (fun (w8 : World) =>
  stC (Addr.mk w2.heap.size 5 none) (.slice a28 l28 c28) w8 (fun (w9 : World) =>
  stC (Addr.mk w2.heap.size 6 none) (.slice a29 l29 c29) w9 (fun (w10 : World) =>
  stC (Addr.mk w2.heap.size 7 none) (.int .i64 n30) w10 (fun (w11 : World) =>
  stC (Addr.mk w2.heap.size 8 none) (.bool b31) w11 (fun (w12 : World) =>
  stC (Addr.mk w2.heap.size 9 none) (.bool b32) w12 (fun (w13 : World) =>
  stC (Addr.mk w2.heap.size 10 none) (.bool b33) w13 (fun (w14 : World) =>
  cond (n34 != 0)
  (Q (.tuple #[.slice none 0 0, .int .i64 n34]) w14)
  (∃ (a36 : Option Addr) (l36 : Nat) (c36 : Nat), w14.cell? (Addr.mk w2.heap.size 6 none) = some ((.slice a36 l36 c36 : Value)) ∧
  CallR Try.prog 113 [.slice a36 l36 c36] w14 (fun (r37 : Value) (w15 : World) =>
  r37 = .tuple #[] ∧
  ∃ (a38 : Option Addr) (l38 : Nat) (c38 : Nat), w15.cell? (Addr.mk w2.heap.size 6 none) = some ((.slice a38 l38 c38 : Value)) ∧
  ∃ (a39 : Option Addr) (l39 : Nat) (c39 : Nat), w15.cell? (Addr.mk w2.heap.size 5 none) = some ((.slice a39 l39 c39 : Value)) ∧
  ∃ (a40 : Option Addr) (l40 : Nat) (c40 : Nat) (w16 : World), Sem.run Try.prog (Builtin.append_ #[36, 36] 36 #[.slice a38 l38 c38, .slice a39 l39 c39]) w15 = .ok ((.slice a40 l40 c40 : Value)) w16 ∧
  Q (.tuple #[.slice a40 l40 c40, .int .i64 0]) w16))))))))))))))
theorem C84 {b1 : Bool} {b2 : Bool} {n3 : Int} {n4 : Int} {a5 : Option Addr} {l5 : Nat} {c5 : Nat} {a6 : Option Addr} {l6 : Nat} {c6 : Nat} {a7 : Option Addr} {l7 : Nat} {c7 : Nat} {n8 : Int} {b9 : Bool} {b10 : Bool} {b11 : Bool} {Q : Value → World → Prop} {w : World} (h : L84 b1 b2 n3 n4 a5 l5 c5 a6 l6 c6 a7 l7 c7 n8 b9 b10 b11 Q w) : CallR Try.prog 84 [.agg #[.bool b1, .bool b2, .int .i64 n3, .int .i64 n4, .slice a5 l5 c5, .slice a6 l6 c6, .slice a7 l7 c7, .int .i64 n8, .bool b9, .bool b10, .bool b11]] w Q :=
  fun_calls (A := A84) mixed Try.func84 (c := (Try.f84.body).getD .skip) rfl (by kernel_rfl) (Eq.mp (by kernel_rfl) h)

/-- millrace/millracelaw13.num -/
def A34 : Ann := ⟨[], [], [], [], []⟩
def L34 (n1 : Int) (Q : Value → World → Prop) (w : World) : Prop :=
  Q (.int .i64 n1) w
theorem C34 {n1 : Int} {Q : Value → World → Prop} {w : World} (h : L34 n1 Q w) : CallR Try.prog 34 [.int .i64 n1] w Q :=
  fun_calls (A := A34) mixed Try.func34 (c := (Try.f34.body).getD .skip) rfl (by kernel_rfl) (Eq.mp (by kernel_rfl) h)

/-- millrace/millracelaw13.reading -/
def A83 : Ann := ⟨[], [], [], [], []⟩
def L83 (Q : Value → World → Prop) (w : World) : Prop :=
  let w1 := World.alloc w (Obj.cells #[.bool false, .bool false, .int .i64 0, .int .i64 0, .slice none 0 0, .slice none 0 0, .slice none 0 0, .int .i64 0, .bool false, .bool false, .bool false] 60);
  CallR Try.prog 33 [.agg #[.bool true, .bool false, .bool false, .bool false, .bool false, .bool false, .bool false, .bool false], .int .i64 3, .int .i64 4] w1 (fun (r13 : Value) (w2 : World) =>
  ∃ (b1 : Bool) (b2 : Bool) (n3 : Int) (n4 : Int) (a5 : Option Addr) (l5 : Nat) (c5 : Nat) (a6 : Option Addr) (l6 : Nat) (c6 : Nat) (a7 : Option Addr) (l7 : Nat) (c7 : Nat) (n8 : Int) (b9 : Bool) (b10 : Bool) (b11 : Bool) (n12 : Int), r13 = .tuple #[.agg #[.bool b1, .bool b2, .int .i64 n3, .int .i64 n4, .slice a5 l5 c5, .slice a6 l6 c6, .slice a7 l7 c7, .int .i64 n8, .bool b9, .bool b10, .bool b11], .int .i64 n12] ∧
  let w3 := World.alloc w2 (Obj.cells #[.bool false, .bool false, .int .i64 0, .int .i64 0, .slice none 0 0, .slice none 0 0, .slice none 0 0, .int .i64 0, .bool false, .bool false, .bool false] 60);
  stC (Addr.mk w2.heap.size 0 none) (.bool b1) w3 (fun (w4 : World) =>
  stC (Addr.mk w2.heap.size 1 none) (.bool b2) w4 (fun (w5 : World) =>
  stC (Addr.mk w2.heap.size 2 none) (.int .i64 n3) w5 (fun (w6 : World) =>
  stC (Addr.mk w2.heap.size 3 none) (.int .i64 n4) w6 (fun (w7 : World) =>
  stC (Addr.mk w2.heap.size 4 none) (.slice a5 l5 c5) w7 (fun (w8 : World) =>
  stC (Addr.mk w2.heap.size 5 none) (.slice a6 l6 c6) w8 (fun (w9 : World) =>
  stC (Addr.mk w2.heap.size 6 none) (.slice a7 l7 c7) w9 (fun (w10 : World) =>
  stC (Addr.mk w2.heap.size 7 none) (.int .i64 n8) w10 (fun (w11 : World) =>
  stC (Addr.mk w2.heap.size 8 none) (.bool b9) w11 (fun (w12 : World) =>
  stC (Addr.mk w2.heap.size 9 none) (.bool b10) w12 (fun (w13 : World) =>
  stC (Addr.mk w2.heap.size 10 none) (.bool b11) w13 (fun (w14 : World) =>
  ∃ (b14 : Bool) (b15 : Bool) (n16 : Int) (n17 : Int) (a18 : Option Addr) (l18 : Nat) (c18 : Nat) (a19 : Option Addr) (l19 : Nat) (c19 : Nat) (a20 : Option Addr) (l20 : Nat) (c20 : Nat) (n21 : Int) (b22 : Bool) (b23 : Bool) (b24 : Bool), w14.cell? (Addr.mk w2.heap.size 0 none) = some ((.bool b14 : Value)) ∧ w14.cell? (Addr.mk w2.heap.size 1 none) = some ((.bool b15 : Value)) ∧ w14.cell? (Addr.mk w2.heap.size 2 none) = some ((.int .i64 n16 : Value)) ∧ w14.cell? (Addr.mk w2.heap.size 3 none) = some ((.int .i64 n17 : Value)) ∧ w14.cell? (Addr.mk w2.heap.size 4 none) = some ((.slice a18 l18 c18 : Value)) ∧ w14.cell? (Addr.mk w2.heap.size 5 none) = some ((.slice a19 l19 c19 : Value)) ∧ w14.cell? (Addr.mk w2.heap.size 6 none) = some ((.slice a20 l20 c20 : Value)) ∧ w14.cell? (Addr.mk w2.heap.size 7 none) = some ((.int .i64 n21 : Value)) ∧ w14.cell? (Addr.mk w2.heap.size 8 none) = some ((.bool b22 : Value)) ∧ w14.cell? (Addr.mk w2.heap.size 9 none) = some ((.bool b23 : Value)) ∧ w14.cell? (Addr.mk w2.heap.size 10 none) = some ((.bool b24 : Value)) ∧ 
  stC (Addr.mk w.heap.size 0 none) (.bool b14) w14 (fun (w15 : World) =>
  stC (Addr.mk w.heap.size 1 none) (.bool b15) w15 (fun (w16 : World) =>
  stC (Addr.mk w.heap.size 2 none) (.int .i64 n16) w16 (fun (w17 : World) =>
  stC (Addr.mk w.heap.size 3 none) (.int .i64 n17) w17 (fun (w18 : World) =>
  stC (Addr.mk w.heap.size 4 none) (.slice a18 l18 c18) w18 (fun (w19 : World) =>
  stC (Addr.mk w.heap.size 5 none) (.slice a19 l19 c19) w19 (fun (w20 : World) =>
  stC (Addr.mk w.heap.size 6 none) (.slice a20 l20 c20) w20 (fun (w21 : World) =>
  stC (Addr.mk w.heap.size 7 none) (.int .i64 n21) w21 (fun (w22 : World) =>
  stC (Addr.mk w.heap.size 8 none) (.bool b22) w22 (fun (w23 : World) =>
  stC (Addr.mk w.heap.size 9 none) (.bool b23) w23 (fun (w24 : World) =>
  stC (Addr.mk w.heap.size 10 none) (.bool b24) w24 (fun (w25 : World) =>
  ∃ (b25 : Bool) (b26 : Bool) (n27 : Int) (n28 : Int) (a29 : Option Addr) (l29 : Nat) (c29 : Nat) (a30 : Option Addr) (l30 : Nat) (c30 : Nat) (a31 : Option Addr) (l31 : Nat) (c31 : Nat) (n32 : Int) (b33 : Bool) (b34 : Bool) (b35 : Bool), w25.cell? (Addr.mk w.heap.size 0 none) = some ((.bool b25 : Value)) ∧ w25.cell? (Addr.mk w.heap.size 1 none) = some ((.bool b26 : Value)) ∧ w25.cell? (Addr.mk w.heap.size 2 none) = some ((.int .i64 n27 : Value)) ∧ w25.cell? (Addr.mk w.heap.size 3 none) = some ((.int .i64 n28 : Value)) ∧ w25.cell? (Addr.mk w.heap.size 4 none) = some ((.slice a29 l29 c29 : Value)) ∧ w25.cell? (Addr.mk w.heap.size 5 none) = some ((.slice a30 l30 c30 : Value)) ∧ w25.cell? (Addr.mk w.heap.size 6 none) = some ((.slice a31 l31 c31 : Value)) ∧ w25.cell? (Addr.mk w.heap.size 7 none) = some ((.int .i64 n32 : Value)) ∧ w25.cell? (Addr.mk w.heap.size 8 none) = some ((.bool b33 : Value)) ∧ w25.cell? (Addr.mk w.heap.size 9 none) = some ((.bool b34 : Value)) ∧ w25.cell? (Addr.mk w.heap.size 10 none) = some ((.bool b35 : Value)) ∧ 
  Q (.agg #[.bool b25, .bool b26, .int .i64 n27, .int .i64 n28, .slice a29 l29 c29, .slice a30 l30 c30, .slice a31 l31 c31, .int .i64 n32, .bool b33, .bool b34, .bool b35]) w25)))))))))))))))))))))))
theorem C83 {Q : Value → World → Prop} {w : World} (h : L83 Q w) : CallR Try.prog 83 [] w Q :=
  fun_calls (A := A83) mixed Try.func83 (c := (Try.f83.body).getD .skip) rfl (by kernel_rfl) (Eq.mp (by kernel_rfl) h)

/-- millrace/millracelaw13.alive -/
def A32 : Ann := ⟨[], [], [], [], []⟩
def L32 (Q : Value → World → Prop) (w : World) : Prop :=
  CallR Try.prog 83 [] w (fun (r12 : Value) (w1 : World) =>
  ∃ (b1 : Bool) (b2 : Bool) (n3 : Int) (n4 : Int) (a5 : Option Addr) (l5 : Nat) (c5 : Nat) (a6 : Option Addr) (l6 : Nat) (c6 : Nat) (a7 : Option Addr) (l7 : Nat) (c7 : Nat) (n8 : Int) (b9 : Bool) (b10 : Bool) (b11 : Bool), r12 = .agg #[.bool b1, .bool b2, .int .i64 n3, .int .i64 n4, .slice a5 l5 c5, .slice a6 l6 c6, .slice a7 l7 c7, .int .i64 n8, .bool b9, .bool b10, .bool b11] ∧
  CallR Try.prog 82 [.agg #[.bool b1, .bool b2, .int .i64 n3, .int .i64 n4, .slice a5 l5 c5, .slice a6 l6 c6, .slice a7 l7 c7, .int .i64 n8, .bool b9, .bool b10, .bool b11], .int .u8 97] w1 (fun (r25 : Value) (w2 : World) =>
  ∃ (b13 : Bool) (b14 : Bool) (n15 : Int) (n16 : Int) (a17 : Option Addr) (l17 : Nat) (c17 : Nat) (a18 : Option Addr) (l18 : Nat) (c18 : Nat) (a19 : Option Addr) (l19 : Nat) (c19 : Nat) (n20 : Int) (b21 : Bool) (b22 : Bool) (b23 : Bool) (n24 : Int), r25 = .tuple #[.agg #[.bool b13, .bool b14, .int .i64 n15, .int .i64 n16, .slice a17 l17 c17, .slice a18 l18 c18, .slice a19 l19 c19, .int .i64 n20, .bool b21, .bool b22, .bool b23], .int .i64 n24] ∧
  let w3 := World.alloc w2 (Obj.cells #[.bool false, .bool false, .int .i64 0, .int .i64 0, .slice none 0 0, .slice none 0 0, .slice none 0 0, .int .i64 0, .bool false, .bool false, .bool false] 60);
  stC (Addr.mk w2.heap.size 0 none) (.bool b13) w3 (fun (w4 : World) =>
  stC (Addr.mk w2.heap.size 1 none) (.bool b14) w4 (fun (w5 : World) =>
  stC (Addr.mk w2.heap.size 2 none) (.int .i64 n15) w5 (fun (w6 : World) =>
  stC (Addr.mk w2.heap.size 3 none) (.int .i64 n16) w6 (fun (w7 : World) =>
  stC (Addr.mk w2.heap.size 4 none) (.slice a17 l17 c17) w7 (fun (w8 : World) =>
  stC (Addr.mk w2.heap.size 5 none) (.slice a18 l18 c18) w8 (fun (w9 : World) =>
  stC (Addr.mk w2.heap.size 6 none) (.slice a19 l19 c19) w9 (fun (w10 : World) =>
  stC (Addr.mk w2.heap.size 7 none) (.int .i64 n20) w10 (fun (w11 : World) =>
  stC (Addr.mk w2.heap.size 8 none) (.bool b21) w11 (fun (w12 : World) =>
  stC (Addr.mk w2.heap.size 9 none) (.bool b22) w12 (fun (w13 : World) =>
  stC (Addr.mk w2.heap.size 10 none) (.bool b23) w13 (fun (w14 : World) =>
  ∃ (b26 : Bool) (b27 : Bool) (n28 : Int) (n29 : Int) (a30 : Option Addr) (l30 : Nat) (c30 : Nat) (a31 : Option Addr) (l31 : Nat) (c31 : Nat) (a32 : Option Addr) (l32 : Nat) (c32 : Nat) (n33 : Int) (b34 : Bool) (b35 : Bool) (b36 : Bool), w14.cell? (Addr.mk w2.heap.size 0 none) = some ((.bool b26 : Value)) ∧ w14.cell? (Addr.mk w2.heap.size 1 none) = some ((.bool b27 : Value)) ∧ w14.cell? (Addr.mk w2.heap.size 2 none) = some ((.int .i64 n28 : Value)) ∧ w14.cell? (Addr.mk w2.heap.size 3 none) = some ((.int .i64 n29 : Value)) ∧ w14.cell? (Addr.mk w2.heap.size 4 none) = some ((.slice a30 l30 c30 : Value)) ∧ w14.cell? (Addr.mk w2.heap.size 5 none) = some ((.slice a31 l31 c31 : Value)) ∧ w14.cell? (Addr.mk w2.heap.size 6 none) = some ((.slice a32 l32 c32 : Value)) ∧ w14.cell? (Addr.mk w2.heap.size 7 none) = some ((.int .i64 n33 : Value)) ∧ w14.cell? (Addr.mk w2.heap.size 8 none) = some ((.bool b34 : Value)) ∧ w14.cell? (Addr.mk w2.heap.size 9 none) = some ((.bool b35 : Value)) ∧ w14.cell? (Addr.mk w2.heap.size 10 none) = some ((.bool b36 : Value)) ∧ 
  CallR Try.prog 82 [.agg #[.bool b26, .bool b27, .int .i64 n28, .int .i64 n29, .slice a30 l30 c30, .slice a31 l31 c31, .slice a32 l32 c32, .int .i64 n33, .bool b34, .bool b35, .bool b36], .int .u8 98] w14 (fun (r49 : Value) (w15 : World) =>
  ∃ (b37 : Bool) (b38 : Bool) (n39 : Int) (n40 : Int) (a41 : Option Addr) (l41 : Nat) (c41 : Nat) (a42 : Option Addr) (l42 : Nat) (c42 : Nat) (a43 : Option Addr) (l43 : Nat) (c43 : Nat) (n44 : Int) (b45 : Bool) (b46 : Bool) (b47 : Bool) (n48 : Int), r49 = .tuple #[.agg #[.bool b37, .bool b38, .int .i64 n39, .int .i64 n40, .slice a41 l41 c41, .slice a42 l42 c42, .slice a43 l43 c43, .int .i64 n44, .bool b45, .bool b46, .bool b47], .int .i64 n48] ∧
  stC (Addr.mk w2.heap.size 0 none) (.bool b37) w15 (fun (w16 : World) =>
  stC (Addr.mk w2.heap.size 1 none) (.bool b38) w16 (fun (w17 : World) =>
  stC (Addr.mk w2.heap.size 2 none) (.int .i64 n39) w17 (fun (w18 : World) =>
  stC (Addr.mk w2.heap.size 3 none) (.int .i64 n40) w18 (fun (w19 : World) =>
  stC (Addr.mk w2.heap.size 4 none) (.slice a41 l41 c41) w19 (fun (w20 : World) =>
  stC (Addr.mk w2.heap.size 5 none) (.slice a42 l42 c42) w20 (fun (w21 : World) =>
  stC (Addr.mk w2.heap.size 6 none) (.slice a43 l43 c43) w21 (fun (w22 : World) =>
  stC (Addr.mk w2.heap.size 7 none) (.int .i64 n44) w22 (fun (w23 : World) =>
  stC (Addr.mk w2.heap.size 8 none) (.bool b45) w23 (fun (w24 : World) =>
  stC (Addr.mk w2.heap.size 9 none) (.bool b46) w24 (fun (w25 : World) =>
  stC (Addr.mk w2.heap.size 10 none) (.bool b47) w25 (fun (w26 : World) =>
  ∃ (b50 : Bool) (b51 : Bool) (n52 : Int) (n53 : Int) (a54 : Option Addr) (l54 : Nat) (c54 : Nat) (a55 : Option Addr) (l55 : Nat) (c55 : Nat) (a56 : Option Addr) (l56 : Nat) (c56 : Nat) (n57 : Int) (b58 : Bool) (b59 : Bool) (b60 : Bool), w26.cell? (Addr.mk w2.heap.size 0 none) = some ((.bool b50 : Value)) ∧ w26.cell? (Addr.mk w2.heap.size 1 none) = some ((.bool b51 : Value)) ∧ w26.cell? (Addr.mk w2.heap.size 2 none) = some ((.int .i64 n52 : Value)) ∧ w26.cell? (Addr.mk w2.heap.size 3 none) = some ((.int .i64 n53 : Value)) ∧ w26.cell? (Addr.mk w2.heap.size 4 none) = some ((.slice a54 l54 c54 : Value)) ∧ w26.cell? (Addr.mk w2.heap.size 5 none) = some ((.slice a55 l55 c55 : Value)) ∧ w26.cell? (Addr.mk w2.heap.size 6 none) = some ((.slice a56 l56 c56 : Value)) ∧ w26.cell? (Addr.mk w2.heap.size 7 none) = some ((.int .i64 n57 : Value)) ∧ w26.cell? (Addr.mk w2.heap.size 8 none) = some ((.bool b58 : Value)) ∧ w26.cell? (Addr.mk w2.heap.size 9 none) = some ((.bool b59 : Value)) ∧ w26.cell? (Addr.mk w2.heap.size 10 none) = some ((.bool b60 : Value)) ∧ 
  CallR Try.prog 84 [.agg #[.bool b50, .bool b51, .int .i64 n52, .int .i64 n53, .slice a54 l54 c54, .slice a55 l55 c55, .slice a56 l56 c56, .int .i64 n57, .bool b58, .bool b59, .bool b60]] w26 (fun (r63 : Value) (w27 : World) =>
  ∃ (a61 : Option Addr) (l61 : Nat) (c61 : Nat) (n62 : Int), r63 = .tuple #[.slice a61 l61 c61, .int .i64 n62] ∧
  CallR Try.prog 83 [] w27 (fun (r75 : Value) (w28 : World) =>
  ∃ (b64 : Bool) (b65 : Bool) (n66 : Int) (n67 : Int) (a68 : Option Addr) (l68 : Nat) (c68 : Nat) (a69 : Option Addr) (l69 : Nat) (c69 : Nat) (a70 : Option Addr) (l70 : Nat) (c70 : Nat) (n71 : Int) (b72 : Bool) (b73 : Bool) (b74 : Bool), r75 = .agg #[.bool b64, .bool b65, .int .i64 n66, .int .i64 n67, .slice a68 l68 c68, .slice a69 l69 c69, .slice a70 l70 c70, .int .i64 n71, .bool b72, .bool b73, .bool b74] ∧
  let w29 := World.alloc w28 (Obj.cells #[.int .u8 97, .int .u8 98] 5);
  ∃ (a76 : Option Addr) (l76 : Nat) (c76 : Nat) (w30 : World), Sem.run Try.prog (convert 36 36 (.slice (some (Addr.mk w28.heap.size 0 none)) 2 2)) w29 = .ok ((.slice a76 l76 c76 : Value)) w30 ∧
  CallR Try.prog 37 [.agg #[.bool b64, .bool b65, .int .i64 n66, .int .i64 n67, .slice a68 l68 c68, .slice a69 l69 c69, .slice a70 l70 c70, .int .i64 n71, .bool b72, .bool b73, .bool b74], .slice a76 l76 c76] w30 (fun (r89 : Value) (w31 : World) =>
  ∃ (b77 : Bool) (b78 : Bool) (n79 : Int) (n80 : Int) (a81 : Option Addr) (l81 : Nat) (c81 : Nat) (a82 : Option Addr) (l82 : Nat) (c82 : Nat) (a83 : Option Addr) (l83 : Nat) (c83 : Nat) (n84 : Int) (b85 : Bool) (b86 : Bool) (b87 : Bool) (n88 : Int), r89 = .tuple #[.agg #[.bool b77, .bool b78, .int .i64 n79, .int .i64 n80, .slice a81 l81 c81, .slice a82 l82 c82, .slice a83 l83 c83, .int .i64 n84, .bool b85, .bool b86, .bool b87], .int .i64 n88] ∧
  let w32 := World.alloc w31 (Obj.cells #[.bool false, .bool false, .int .i64 0, .int .i64 0, .slice none 0 0, .slice none 0 0, .slice none 0 0, .int .i64 0, .bool false, .bool false, .bool false] 60);
  stC (Addr.mk w31.heap.size 0 none) (.bool b77) w32 (fun (w33 : World) =>
  stC (Addr.mk w31.heap.size 1 none) (.bool b78) w33 (fun (w34 : World) =>
  stC (Addr.mk w31.heap.size 2 none) (.int .i64 n79) w34 (fun (w35 : World) =>
  stC (Addr.mk w31.heap.size 3 none) (.int .i64 n80) w35 (fun (w36 : World) =>
  stC (Addr.mk w31.heap.size 4 none) (.slice a81 l81 c81) w36 (fun (w37 : World) =>
  stC (Addr.mk w31.heap.size 5 none) (.slice a82 l82 c82) w37 (fun (w38 : World) =>
  stC (Addr.mk w31.heap.size 6 none) (.slice a83 l83 c83) w38 (fun (w39 : World) =>
  stC (Addr.mk w31.heap.size 7 none) (.int .i64 n84) w39 (fun (w40 : World) =>
  stC (Addr.mk w31.heap.size 8 none) (.bool b85) w40 (fun (w41 : World) =>
  stC (Addr.mk w31.heap.size 9 none) (.bool b86) w41 (fun (w42 : World) =>
  stC (Addr.mk w31.heap.size 10 none) (.bool b87) w42 (fun (w43 : World) =>
  ∃ (b90 : Bool) (b91 : Bool) (n92 : Int) (n93 : Int) (a94 : Option Addr) (l94 : Nat) (c94 : Nat) (a95 : Option Addr) (l95 : Nat) (c95 : Nat) (a96 : Option Addr) (l96 : Nat) (c96 : Nat) (n97 : Int) (b98 : Bool) (b99 : Bool) (b100 : Bool), w43.cell? (Addr.mk w31.heap.size 0 none) = some ((.bool b90 : Value)) ∧ w43.cell? (Addr.mk w31.heap.size 1 none) = some ((.bool b91 : Value)) ∧ w43.cell? (Addr.mk w31.heap.size 2 none) = some ((.int .i64 n92 : Value)) ∧ w43.cell? (Addr.mk w31.heap.size 3 none) = some ((.int .i64 n93 : Value)) ∧ w43.cell? (Addr.mk w31.heap.size 4 none) = some ((.slice a94 l94 c94 : Value)) ∧ w43.cell? (Addr.mk w31.heap.size 5 none) = some ((.slice a95 l95 c95 : Value)) ∧ w43.cell? (Addr.mk w31.heap.size 6 none) = some ((.slice a96 l96 c96 : Value)) ∧ w43.cell? (Addr.mk w31.heap.size 7 none) = some ((.int .i64 n97 : Value)) ∧ w43.cell? (Addr.mk w31.heap.size 8 none) = some ((.bool b98 : Value)) ∧ w43.cell? (Addr.mk w31.heap.size 9 none) = some ((.bool b99 : Value)) ∧ w43.cell? (Addr.mk w31.heap.size 10 none) = some ((.bool b100 : Value)) ∧ 
  CallR Try.prog 84 [.agg #[.bool b90, .bool b91, .int .i64 n92, .int .i64 n93, .slice a94 l94 c94, .slice a95 l95 c95, .slice a96 l96 c96, .int .i64 n97, .bool b98, .bool b99, .bool b100]] w43 (fun (r103 : Value) (w44 : World) =>
  ∃ (a101 : Option Addr) (l101 : Nat) (c101 : Nat) (n102 : Int), r103 = .tuple #[.slice a101 l101 c101, .int .i64 n102] ∧
  CallR Try.prog 34 [.int .i64 n24] w44 (fun (r105 : Value) (w45 : World) =>
  ∃ (n104 : Int), r105 = .int .i64 n104 ∧
  CallR Try.prog 34 [.int .i64 n48] w45 (fun (r107 : Value) (w46 : World) =>
  ∃ (n106 : Int), r107 = .int .i64 n106 ∧
  inI (n104 + n106) ∧
  CallR Try.prog 34 [.int .i64 n62] w46 (fun (r109 : Value) (w47 : World) =>
  ∃ (n108 : Int), r109 = .int .i64 n108 ∧
  inI ((n104 + n106) + n108) ∧
  CallR Try.prog 34 [.int .i64 n88] w47 (fun (r111 : Value) (w48 : World) =>
  ∃ (n110 : Int), r111 = .int .i64 n110 ∧
  inI (((n104 + n106) + n108) + n110) ∧
  CallR Try.prog 34 [.int .i64 n102] w48 (fun (r113 : Value) (w49 : World) =>
  ∃ (n112 : Int), r113 = .int .i64 n112 ∧
  inI ((((n104 + n106) + n108) + n110) + n112) ∧
  cond (((((n104 + n106) + n108) + n110) + n112) == 0)
  (∃ (s114 : ByteArray) (w50 : World), Sem.run Try.prog (convert 36 9 (.slice a61 l61 c61)) w49 = .ok ((.string s114 : Value)) w50 ∧
  cond (ByteArray.toList s114 == ByteArray.toList (ByteArray.mk #[98, 97]))
  (∃ (s115 : ByteArray) (w51 : World), Sem.run Try.prog (convert 36 9 (.slice a101 l101 c101)) w50 = .ok ((.string s115 : Value)) w51 ∧
  Q (.bool (ByteArray.toList s115 == ByteArray.toList (ByteArray.mk #[97, 98]))) w51)
  (Q (.bool false) w50))
  (Q (.bool false) w49))))))))))))))))))))))))))))))))))))))))))))))
theorem C32 {Q : Value → World → Prop} {w : World} (h : L32 Q w) : CallR Try.prog 32 [] w Q :=
  fun_calls (A := A32) mixed Try.func32 (c := (Try.f32.body).getD .skip) rfl (by kernel_rfl) (Eq.mp (by kernel_rfl) h)

end Go.Proofs.Ytbiofmgebbdflaa
