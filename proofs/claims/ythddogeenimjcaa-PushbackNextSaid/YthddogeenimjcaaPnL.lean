/-
  What some functions of the program ask of the world, printed by a program out of the loaded program; each text is held against the code by evaluation. Conditions: none.
-/
import Derived.Test.YthddogeenimjcaaProg
import Derived.Test.YthddogeenimjcaaLm
import Derived.Test.YthddogeenimjcaaLX
import Derived.Test.YthddogeenimjcaaRf
set_option linter.unusedVariables false
set_option maxRecDepth 100000
namespace Go.Proofs.Ythddogeenimjcaa
open Go.Lw
/-- millrace/stream.begin -/
def A30 : Ann := ⟨[], [], [], [], [(2, [0, 1, 2, 3, 4, 6, 7, 9, 10, 5, 8], 11, [12, 13, 14, 15, 16, 17, 18, 19, 20, 21, 22, 23])], []⟩
def L30 (b1 : Bool) (b2 : Bool) (n3 : Int) (n4 : Int) (a5 : Option Addr) (l5 : Nat) (c5 : Nat) (a6 : Option Addr) (l6 : Nat) (c6 : Nat) (a7 : Option Addr) (l7 : Nat) (c7 : Nat) (n8 : Int) (b9 : Bool) (b10 : Bool) (b11 : Bool) (t12 : TypeId) (v12 : Value) (Q : Value → World → Prop) (w : World) : Prop :=
  let w1 := World.alloc w (Obj.cells #[.bool b1, .bool b2, .int .i64 n3, .int .i64 n4, .slice a5 l5 c5, .slice a6 l6 c6, .slice a7 l7 c7, .int .i64 n8, .bool b9, .bool b10, .bool b11] 25);
  ∃ (b13 : Bool) (b14 : Bool) (n15 : Int) (n16 : Int) (a17 : Option Addr) (l17 : Nat) (c17 : Nat) (a18 : Option Addr) (l18 : Nat) (c18 : Nat) (a19 : Option Addr) (l19 : Nat) (c19 : Nat) (n20 : Int) (b21 : Bool) (b22 : Bool) (b23 : Bool), w1.cell? (Addr.mk w.heap.size 0 none) = some ((.bool b13 : Value)) ∧ w1.cell? (Addr.mk w.heap.size 1 none) = some ((.bool b14 : Value)) ∧ w1.cell? (Addr.mk w.heap.size 2 none) = some ((.int .i64 n15 : Value)) ∧ w1.cell? (Addr.mk w.heap.size 3 none) = some ((.int .i64 n16 : Value)) ∧ w1.cell? (Addr.mk w.heap.size 4 none) = some ((.slice a17 l17 c17 : Value)) ∧ w1.cell? (Addr.mk w.heap.size 5 none) = some ((.slice a18 l18 c18 : Value)) ∧ w1.cell? (Addr.mk w.heap.size 6 none) = some ((.slice a19 l19 c19 : Value)) ∧ w1.cell? (Addr.mk w.heap.size 7 none) = some ((.int .i64 n20 : Value)) ∧ w1.cell? (Addr.mk w.heap.size 8 none) = some ((.bool b21 : Value)) ∧ w1.cell? (Addr.mk w.heap.size 9 none) = some ((.bool b22 : Value)) ∧ w1.cell? (Addr.mk w.heap.size 10 none) = some ((.bool b23 : Value)) ∧ 
  let w2 := World.alloc w1 (Obj.cells #[.bool b13, .bool b14, .int .i64 n15, .int .i64 n16, .slice a17 l17 c17, .slice a18 l18 c18, .slice a19 l19 c19, .int .i64 n20, .bool b21, .bool b22, .bool b23, .iface t12 v12] 70);
  ∃ (S24 : World → Prop), S24 (World.drew w2) ∧
  let w3 := World.drew w2;
  ∃ (a25 : Option Addr) (l25 : Nat) (c25 : Nat), (∀ wS : World, S24 wS → wS.cell? (Addr.mk w.heap.size 4 none) = some ((.slice a25 l25 c25 : Value))) ∧
  ∃ (a26 : Option Addr) (l26 : Nat) (c26 : Nat), (∀ wS : World, S24 wS → wS.cell? (Addr.mk w.heap.size 5 none) = some ((.slice a26 l26 c26 : Value))) ∧
  ∃ (a27 : Option Addr) (l27 : Nat) (c27 : Nat), (∀ wS : World, S24 wS → wS.cell? (Addr.mk w.heap.size 6 none) = some ((.slice a27 l27 c27 : Value))) ∧
  CallR Try.prog 38 [.slice a25 l25 c25] w3 (fun (r29 : Value) (w4 : World) =>
  ∃ (a28 : Option Addr) (l28 : Nat) (c28 : Nat), r29 = .slice a28 l28 c28 ∧
  S24 w4 ∧
  CallR Try.prog 38 [.slice a26 l26 c26] w4 (fun (r31 : Value) (w5 : World) =>
  ∃ (a30 : Option Addr) (l30 : Nat) (c30 : Nat), r31 = .slice a30 l30 c30 ∧
  S24 w5 ∧
  CallR Try.prog 38 [.slice a27 l27 c27] w5 (fun (r33 : Value) (w6 : World) =>
  ∃ (a32 : Option Addr) (l32 : Nat) (c32 : Nat), r33 = .slice a32 l32 c32 ∧
  stC (Addr.mk w1.heap.size 4 none) (.slice a28 l28 c28) w6 (fun (w7 : World) =>
  stC (Addr.mk w1.heap.size 5 none) (.slice a30 l30 c30) w7 (fun (w8 : World) =>
  stC (Addr.mk w1.heap.size 6 none) (.slice a32 l32 c32) w8 (fun (w9 : World) =>
  ∃ (b34 : Bool) (b35 : Bool) (n36 : Int) (n37 : Int) (a38 : Option Addr) (l38 : Nat) (c38 : Nat) (a39 : Option Addr) (l39 : Nat) (c39 : Nat) (a40 : Option Addr) (l40 : Nat) (c40 : Nat) (n41 : Int) (b42 : Bool) (b43 : Bool) (b44 : Bool), w9.cell? (Addr.mk w.heap.size 0 none) = some ((.bool b34 : Value)) ∧ w9.cell? (Addr.mk w.heap.size 1 none) = some ((.bool b35 : Value)) ∧ w9.cell? (Addr.mk w.heap.size 2 none) = some ((.int .i64 n36 : Value)) ∧ w9.cell? (Addr.mk w.heap.size 3 none) = some ((.int .i64 n37 : Value)) ∧ w9.cell? (Addr.mk w.heap.size 4 none) = some ((.slice a38 l38 c38 : Value)) ∧ w9.cell? (Addr.mk w.heap.size 5 none) = some ((.slice a39 l39 c39 : Value)) ∧ w9.cell? (Addr.mk w.heap.size 6 none) = some ((.slice a40 l40 c40 : Value)) ∧ w9.cell? (Addr.mk w.heap.size 7 none) = some ((.int .i64 n41 : Value)) ∧ w9.cell? (Addr.mk w.heap.size 8 none) = some ((.bool b42 : Value)) ∧ w9.cell? (Addr.mk w.heap.size 9 none) = some ((.bool b43 : Value)) ∧ w9.cell? (Addr.mk w.heap.size 10 none) = some ((.bool b44 : Value)) ∧ 
  CallR Try.prog 33 [.agg #[.bool b34, .bool b35, .int .i64 n36, .int .i64 n37, .slice a38 l38 c38, .slice a39 l39 c39, .slice a40 l40 c40, .int .i64 n41, .bool b42, .bool b43, .bool b44]] w9 (fun (r46 : Value) (w10 : World) =>
  ∃ (n45 : Int), r46 = .int .i64 n45 ∧
  cond (n45 != 0)
  (Q (.tuple #[.pointer (some (Addr.mk w1.heap.size 0 none)), .int .i64 n45]) w10)
  (∃ (b47 : Bool) (w11 : World), Sem.run Try.prog (Sem.bind (eqGuard .eql 65 (.tmp 41) (.const (.nilIface)) (.iface t12 v12) .nilIface) (fun _ => binOp .eql 65 (.iface t12 v12) .nilIface)) w10 = .ok ((.bool b47 : Value)) w11 ∧
  cond b47
  (Q (.tuple #[.pointer (some (Addr.mk w1.heap.size 0 none)), .int .i64 2]) w11)
  (∃ (b48 : Bool), w11.cell? (Addr.mk w.heap.size 10 none) = some ((.bool b48 : Value)) ∧
  cond b48
  (Q (.tuple #[.pointer (some (Addr.mk w1.heap.size 0 none)), .int .i64 113]) w11)
  (Q (.tuple #[.pointer (some (Addr.mk w1.heap.size 0 none)), .int .i64 0]) w11))))))))))
theorem C30 {b1 : Bool} {b2 : Bool} {n3 : Int} {n4 : Int} {a5 : Option Addr} {l5 : Nat} {c5 : Nat} {a6 : Option Addr} {l6 : Nat} {c6 : Nat} {a7 : Option Addr} {l7 : Nat} {c7 : Nat} {n8 : Int} {b9 : Bool} {b10 : Bool} {b11 : Bool} {t12 : TypeId} {v12 : Value} {Q : Value → World → Prop} {w : World} (h : L30 b1 b2 n3 n4 a5 l5 c5 a6 l6 c6 a7 l7 c7 n8 b9 b10 b11 t12 v12 Q w) : CallR Try.prog 30 [.agg #[.bool b1, .bool b2, .int .i64 n3, .int .i64 n4, .slice a5 l5 c5, .slice a6 l6 c6, .slice a7 l7 c7, .int .i64 n8, .bool b9, .bool b10, .bool b11], .iface t12 v12] w Q :=
  fun_calls (A := A30) mixed Try.func30 (c := (Try.f30.body).getD .skip) rfl (by kernel_rfl) (Eq.mp (by kernel_rfl) h)

/-- (*millrace/stream.work).noted -/
def A43 : Ann := ⟨[], [], [], [], [], []⟩
def L43 (p1 : Option Addr) (n2 : Int) (Q : Value → World → Prop) (w : World) : Prop :=
  nn p1 (fun (q3 : Addr) =>
  ∃ (b4 : Bool), w.cell? (Addr.add q3 9) = some ((.bool b4 : Value)) ∧
  cond b4
  (nn p1 (fun (q5 : Addr) =>
  stC (Addr.add q5 9) (.bool true) w (fun (w1 : World) =>
  Q (.int .i64 n2) w1)))
  (cond (n2 != 0)
  (nn p1 (fun (q6 : Addr) =>
  stC (Addr.add q6 9) (.bool (n2 != 52)) w (fun (w2 : World) =>
  Q (.int .i64 n2) w2)))
  (nn p1 (fun (q7 : Addr) =>
  stC (Addr.add q7 9) (.bool false) w (fun (w3 : World) =>
  Q (.int .i64 n2) w3)))))
theorem C43 {p1 : Option Addr} {n2 : Int} {Q : Value → World → Prop} {w : World} (h : L43 p1 n2 Q w) : CallR Try.prog 43 [.pointer p1, .int .i64 n2] w Q :=
  fun_calls (A := A43) mixed Try.func43 (c := (Try.f43.body).getD .skip) rfl (by kernel_rfl) (Eq.mp (by kernel_rfl) h)

/-- (*millrace/stream.work).fill -/
def A39 : Ann := ⟨[], [(6, [(3, .one (.int .i64))])], [], [], [], []⟩
def L39 (p1 : Option Addr) (Q : Value → World → Prop) (w : World) : Prop :=
  nn p1 (fun (q2 : Addr) =>
  ∃ (b3 : Bool), w.cell? (Addr.add q2 8) = some ((.bool b3 : Value)) ∧
  cond b3
  (Q (.int .i64 111) w)
  (nn p1 (fun (q4 : Addr) =>
  ∃ (n5 : Int), w.cell? (Addr.add q4 3) = some ((.int .i64 n5 : Value)) ∧
  ∃ (J6 : List Value → World → Prop),
  (nn p1 (fun (q7 : Addr) =>
  ∃ (n8 : Int), w.cell? (Addr.add q7 2) = some ((.int .i64 n8 : Value)) ∧
  cond (n8 == 1)
  (J6 [.int .i64 1] w)
  (J6 [.int .i64 n5] w))) ∧
  (∀ (_ : Env) (n9 : Int) (w1 : World), J6 [.int .i64 n9] w1 →
  nn p1 (fun (q10 : Addr) =>
  ∃ (v11 : Value), w1.cell? (Addr.add q10 11) = some v11 ∧
  CallR Try.prog 42 [v11, .int .i64 n9] w1 (fun (r14 : Value) (w2 : World) =>
  ∃ (a12 : Option Addr) (l12 : Nat) (c12 : Nat) (n13 : Int), r14 = .tuple #[.slice a12 l12 c12, .int .i64 n13] ∧
  cond (n13 == 0)
  (cond ((((l12 : Nat) : Int)) == 0)
  (nn p1 (fun (q15 : Addr) =>
  stC (Addr.add q15 8) (.bool true) w2 (fun (w3 : World) =>
  Q (.int .i64 111) w3)))
  (nn p1 (fun (q16 : Addr) =>
  ∃ (a17 : Option Addr) (l17 : Nat) (c17 : Nat), w2.cell? (Addr.add q16 5) = some ((.slice a17 l17 c17 : Value)) ∧
  ∃ (a18 : Option Addr) (l18 : Nat) (c18 : Nat) (w4 : World), Sem.run Try.prog (Builtin.append_ #[22, 22] 22 #[.slice a17 l17 c17, .slice a12 l12 c12]) w2 = .ok ((.slice a18 l18 c18 : Value)) w4 ∧
  nn p1 (fun (q19 : Addr) =>
  stC (Addr.add q19 5) (.slice a18 l18 c18) w4 (fun (w5 : World) =>
  CallR Try.prog 43 [.pointer p1, .int .i64 n13] w5 (fun (r21 : Value) (w6 : World) =>
  ∃ (n20 : Int), r21 = .int .i64 n20 ∧
  Q (.int .i64 n20) w6))))))
  (nn p1 (fun (q22 : Addr) =>
  ∃ (a23 : Option Addr) (l23 : Nat) (c23 : Nat), w2.cell? (Addr.add q22 5) = some ((.slice a23 l23 c23 : Value)) ∧
  ∃ (a24 : Option Addr) (l24 : Nat) (c24 : Nat) (w7 : World), Sem.run Try.prog (Builtin.append_ #[22, 22] 22 #[.slice a23 l23 c23, .slice a12 l12 c12]) w2 = .ok ((.slice a24 l24 c24 : Value)) w7 ∧
  nn p1 (fun (q25 : Addr) =>
  stC (Addr.add q25 5) (.slice a24 l24 c24) w7 (fun (w8 : World) =>
  CallR Try.prog 43 [.pointer p1, .int .i64 n13] w8 (fun (r27 : Value) (w9 : World) =>
  ∃ (n26 : Int), r27 = .int .i64 n26 ∧
  Q (.int .i64 n26) w9)))))))))))
theorem C39 {p1 : Option Addr} {Q : Value → World → Prop} {w : World} (h : L39 p1 Q w) : CallR Try.prog 39 [.pointer p1] w Q :=
  fun_calls (A := A39) mixed Try.func39 (c := (Try.f39.body).getD .skip) rfl (by kernel_rfl) (Eq.mp (by kernel_rfl) h)

/-- (*millrace/stream.work).get -/
def A31 : Ann := ⟨[], [], [], [], [], []⟩
def L31 (p1 : Option Addr) (Q : Value → World → Prop) (w : World) : Prop :=
  nn p1 (fun (q2 : Addr) =>
  ∃ (b3 : Bool), w.cell? q2 = some ((.bool b3 : Value)) ∧
  cond (!b3)
  (Q (.tuple #[.int .u8 0, .int .i64 65]) w)
  (nn p1 (fun (q4 : Addr) =>
  ∃ (n5 : Int), w.cell? (Addr.add q4 7) = some ((.int .i64 n5 : Value)) ∧
  cond (n5 == 2)
  (Q (.tuple #[.int .u8 0, .int .i64 112]) w)
  (nn p1 (fun (q6 : Addr) =>
  stC (Addr.add q6 7) (.int .i64 1) w (fun (w1 : World) =>
  nn p1 (fun (q7 : Addr) =>
  ∃ (a8 : Option Addr) (l8 : Nat) (c8 : Nat), w1.cell? (Addr.add q7 6) = some ((.slice a8 l8 c8 : Value)) ∧
  cond (decide ((((l8 : Nat) : Int)) > 0))
  (nn p1 (fun (q9 : Addr) =>
  ∃ (a10 : Option Addr) (l10 : Nat) (c10 : Nat), w1.cell? (Addr.add q9 6) = some ((.slice a10 l10 c10 : Value)) ∧
  inI ((((l8 : Nat) : Int)) - 1) ∧
  (0 ≤ ((((l8 : Nat) : Int)) - 1 : Int) ∧ ((((l8 : Nat) : Int)) - 1 : Int) < ((l10 : Nat) : Int)) ∧
  nn a10 (fun (q11 : Addr) =>
  ∃ (n12 : Int), w1.cell? (Addr.add q11 (Int.toNat ((((l8 : Nat) : Int)) - 1))) = some ((.int .u8 n12 : Value)) ∧
  nn p1 (fun (q13 : Addr) =>
  ∃ (a14 : Option Addr) (l14 : Nat) (c14 : Nat), w1.cell? (Addr.add q13 6) = some ((.slice a14 l14 c14 : Value)) ∧
  inI ((((l8 : Nat) : Int)) - 1) ∧
  (0 ≤ ((((l8 : Nat) : Int)) - 1 : Int) ∧ ((((l8 : Nat) : Int)) - 1 : Int) ≤ ((c14 : Nat) : Int)) ∧
  nn p1 (fun (q15 : Addr) =>
  stC (Addr.add q15 6) (.slice a14 (Int.toNat ((((l8 : Nat) : Int)) - 1)) c14) w1 (fun (w2 : World) =>
  Q (.tuple #[.int .u8 n12, .int .i64 0]) w2))))))
  (nn p1 (fun (q16 : Addr) =>
  ∃ (a17 : Option Addr) (l17 : Nat) (c17 : Nat), w1.cell? (Addr.add q16 5) = some ((.slice a17 l17 c17 : Value)) ∧
  cond ((((l17 : Nat) : Int)) == 0)
  (CallR Try.prog 39 [.pointer p1] w1 (fun (r19 : Value) (w3 : World) =>
  ∃ (n18 : Int), r19 = .int .i64 n18 ∧
  cond (n18 != 0)
  (Q (.tuple #[.int .u8 0, .int .i64 n18]) w3)
  (nn p1 (fun (q20 : Addr) =>
  ∃ (a21 : Option Addr) (l21 : Nat) (c21 : Nat), w3.cell? (Addr.add q20 5) = some ((.slice a21 l21 c21 : Value)) ∧
  (0 ≤ (0 : Int) ∧ (0 : Int) < ((l21 : Nat) : Int)) ∧
  nn a21 (fun (q22 : Addr) =>
  ∃ (n23 : Int), w3.cell? (Addr.add q22 (Int.toNat 0)) = some ((.int .u8 n23 : Value)) ∧
  nn p1 (fun (q24 : Addr) =>
  ∃ (a25 : Option Addr) (l25 : Nat) (c25 : Nat), w3.cell? (Addr.add q24 5) = some ((.slice a25 l25 c25 : Value)) ∧
  (0 ≤ (1 : Int) ∧ (1 : Int) ≤ ((l25 : Nat) : Int)) ∧
  nn p1 (fun (q26 : Addr) =>
  stC (Addr.add q26 5) (.slice (adv a25 (Int.toNat 1) c25 1) (l25 - Int.toNat 1) (c25 - Int.toNat 1)) w3 (fun (w4 : World) =>
  Q (.tuple #[.int .u8 n23, .int .i64 0]) w4))))))))
  (nn p1 (fun (q27 : Addr) =>
  ∃ (a28 : Option Addr) (l28 : Nat) (c28 : Nat), w1.cell? (Addr.add q27 5) = some ((.slice a28 l28 c28 : Value)) ∧
  (0 ≤ (0 : Int) ∧ (0 : Int) < ((l28 : Nat) : Int)) ∧
  nn a28 (fun (q29 : Addr) =>
  ∃ (n30 : Int), w1.cell? (Addr.add q29 (Int.toNat 0)) = some ((.int .u8 n30 : Value)) ∧
  nn p1 (fun (q31 : Addr) =>
  ∃ (a32 : Option Addr) (l32 : Nat) (c32 : Nat), w1.cell? (Addr.add q31 5) = some ((.slice a32 l32 c32 : Value)) ∧
  (0 ≤ (1 : Int) ∧ (1 : Int) ≤ ((l32 : Nat) : Int)) ∧
  nn p1 (fun (q33 : Addr) =>
  stC (Addr.add q33 5) (.slice (adv a32 (Int.toNat 1) c32 1) (l32 - Int.toNat 1) (c32 - Int.toNat 1)) w1 (fun (w5 : World) =>
  Q (.tuple #[.int .u8 n30, .int .i64 0]) w5)))))))))))))))
theorem C31 {p1 : Option Addr} {Q : Value → World → Prop} {w : World} (h : L31 p1 Q w) : CallR Try.prog 31 [.pointer p1] w Q :=
  fun_calls (A := A31) mixed Try.func31 (c := (Try.f31.body).getD .skip) rfl (by kernel_rfl) (Eq.mp (by kernel_rfl) h)

/-- millrace/stream.Get -/
def A21 : Ann := ⟨[], [], [], [], [], []⟩
def L21 (b1 : Bool) (b2 : Bool) (n3 : Int) (n4 : Int) (a5 : Option Addr) (l5 : Nat) (c5 : Nat) (a6 : Option Addr) (l6 : Nat) (c6 : Nat) (a7 : Option Addr) (l7 : Nat) (c7 : Nat) (n8 : Int) (b9 : Bool) (b10 : Bool) (b11 : Bool) (v12 : Value) (Q : Value → World → Prop) (w : World) : Prop :=
  let w1 := World.alloc w (Obj.cells #[.bool b1, .bool b2, .int .i64 n3, .int .i64 n4, .slice a5 l5 c5, .slice a6 l6 c6, .slice a7 l7 c7, .int .i64 n8, .bool b9, .bool b10, .bool b11] 25);
  let w2 := World.alloc w1 (Obj.cells #[.bool false, .bool false, .int .i64 0, .int .i64 0, .slice none 0 0, .slice none 0 0, .slice none 0 0, .int .i64 0, .bool false, .bool false, .bool false] 25);
  ∃ (b13 : Bool) (b14 : Bool) (n15 : Int) (n16 : Int) (a17 : Option Addr) (l17 : Nat) (c17 : Nat) (a18 : Option Addr) (l18 : Nat) (c18 : Nat) (a19 : Option Addr) (l19 : Nat) (c19 : Nat) (n20 : Int) (b21 : Bool) (b22 : Bool) (b23 : Bool), w2.cell? (Addr.mk w.heap.size 0 none) = some ((.bool b13 : Value)) ∧ w2.cell? (Addr.mk w.heap.size 1 none) = some ((.bool b14 : Value)) ∧ w2.cell? (Addr.mk w.heap.size 2 none) = some ((.int .i64 n15 : Value)) ∧ w2.cell? (Addr.mk w.heap.size 3 none) = some ((.int .i64 n16 : Value)) ∧ w2.cell? (Addr.mk w.heap.size 4 none) = some ((.slice a17 l17 c17 : Value)) ∧ w2.cell? (Addr.mk w.heap.size 5 none) = some ((.slice a18 l18 c18 : Value)) ∧ w2.cell? (Addr.mk w.heap.size 6 none) = some ((.slice a19 l19 c19 : Value)) ∧ w2.cell? (Addr.mk w.heap.size 7 none) = some ((.int .i64 n20 : Value)) ∧ w2.cell? (Addr.mk w.heap.size 8 none) = some ((.bool b21 : Value)) ∧ w2.cell? (Addr.mk w.heap.size 9 none) = some ((.bool b22 : Value)) ∧ w2.cell? (Addr.mk w.heap.size 10 none) = some ((.bool b23 : Value)) ∧ 
  CallR Try.prog 30 [.agg #[.bool b13, .bool b14, .int .i64 n15, .int .i64 n16, .slice a17 l17 c17, .slice a18 l18 c18, .slice a19 l19 c19, .int .i64 n20, .bool b21, .bool b22, .bool b23], v12] w2 (fun (r26 : Value) (w3 : World) =>
  ∃ (p24 : Option Addr) (n25 : Int), r26 = .tuple #[.pointer p24, .int .i64 n25] ∧
  cond (n25 != 0)
  (nn p24 (fun (q27 : Addr) =>
  ∃ (b28 : Bool) (b29 : Bool) (n30 : Int) (n31 : Int) (a32 : Option Addr) (l32 : Nat) (c32 : Nat) (a33 : Option Addr) (l33 : Nat) (c33 : Nat) (a34 : Option Addr) (l34 : Nat) (c34 : Nat) (n35 : Int) (b36 : Bool) (b37 : Bool) (b38 : Bool), w3.cell? q27 = some ((.bool b28 : Value)) ∧ w3.cell? (Addr.add q27 1) = some ((.bool b29 : Value)) ∧ w3.cell? (Addr.add q27 2) = some ((.int .i64 n30 : Value)) ∧ w3.cell? (Addr.add q27 3) = some ((.int .i64 n31 : Value)) ∧ w3.cell? (Addr.add q27 4) = some ((.slice a32 l32 c32 : Value)) ∧ w3.cell? (Addr.add q27 5) = some ((.slice a33 l33 c33 : Value)) ∧ w3.cell? (Addr.add q27 6) = some ((.slice a34 l34 c34 : Value)) ∧ w3.cell? (Addr.add q27 7) = some ((.int .i64 n35 : Value)) ∧ w3.cell? (Addr.add q27 8) = some ((.bool b36 : Value)) ∧ w3.cell? (Addr.add q27 9) = some ((.bool b37 : Value)) ∧ w3.cell? (Addr.add q27 10) = some ((.bool b38 : Value)) ∧ 
  stC (Addr.mk w1.heap.size 0 none) (.bool b28) w3 (fun (w4 : World) =>
  stC (Addr.mk w1.heap.size 1 none) (.bool b29) w4 (fun (w5 : World) =>
  stC (Addr.mk w1.heap.size 2 none) (.int .i64 n30) w5 (fun (w6 : World) =>
  stC (Addr.mk w1.heap.size 3 none) (.int .i64 n31) w6 (fun (w7 : World) =>
  stC (Addr.mk w1.heap.size 4 none) (.slice a32 l32 c32) w7 (fun (w8 : World) =>
  stC (Addr.mk w1.heap.size 5 none) (.slice a33 l33 c33) w8 (fun (w9 : World) =>
  stC (Addr.mk w1.heap.size 6 none) (.slice a34 l34 c34) w9 (fun (w10 : World) =>
  stC (Addr.mk w1.heap.size 7 none) (.int .i64 n35) w10 (fun (w11 : World) =>
  stC (Addr.mk w1.heap.size 8 none) (.bool b36) w11 (fun (w12 : World) =>
  stC (Addr.mk w1.heap.size 9 none) (.bool b37) w12 (fun (w13 : World) =>
  stC (Addr.mk w1.heap.size 10 none) (.bool b38) w13 (fun (w14 : World) =>
  ∃ (b39 : Bool) (b40 : Bool) (n41 : Int) (n42 : Int) (a43 : Option Addr) (l43 : Nat) (c43 : Nat) (a44 : Option Addr) (l44 : Nat) (c44 : Nat) (a45 : Option Addr) (l45 : Nat) (c45 : Nat) (n46 : Int) (b47 : Bool) (b48 : Bool) (b49 : Bool), w14.cell? (Addr.mk w1.heap.size 0 none) = some ((.bool b39 : Value)) ∧ w14.cell? (Addr.mk w1.heap.size 1 none) = some ((.bool b40 : Value)) ∧ w14.cell? (Addr.mk w1.heap.size 2 none) = some ((.int .i64 n41 : Value)) ∧ w14.cell? (Addr.mk w1.heap.size 3 none) = some ((.int .i64 n42 : Value)) ∧ w14.cell? (Addr.mk w1.heap.size 4 none) = some ((.slice a43 l43 c43 : Value)) ∧ w14.cell? (Addr.mk w1.heap.size 5 none) = some ((.slice a44 l44 c44 : Value)) ∧ w14.cell? (Addr.mk w1.heap.size 6 none) = some ((.slice a45 l45 c45 : Value)) ∧ w14.cell? (Addr.mk w1.heap.size 7 none) = some ((.int .i64 n46 : Value)) ∧ w14.cell? (Addr.mk w1.heap.size 8 none) = some ((.bool b47 : Value)) ∧ w14.cell? (Addr.mk w1.heap.size 9 none) = some ((.bool b48 : Value)) ∧ w14.cell? (Addr.mk w1.heap.size 10 none) = some ((.bool b49 : Value)) ∧ 
  Q (.tuple #[.agg #[.bool b39, .bool b40, .int .i64 n41, .int .i64 n42, .slice a43 l43 c43, .slice a44 l44 c44, .slice a45 l45 c45, .int .i64 n46, .bool b47, .bool b48, .bool b49], .int .u8 0, .int .i64 n25]) w14)))))))))))))
  (CallR Try.prog 31 [.pointer p24] w3 (fun (r52 : Value) (w15 : World) =>
  ∃ (n50 : Int) (n51 : Int), r52 = .tuple #[.int .u8 n50, .int .i64 n51] ∧
  nn p24 (fun (q53 : Addr) =>
  ∃ (b54 : Bool) (b55 : Bool) (n56 : Int) (n57 : Int) (a58 : Option Addr) (l58 : Nat) (c58 : Nat) (a59 : Option Addr) (l59 : Nat) (c59 : Nat) (a60 : Option Addr) (l60 : Nat) (c60 : Nat) (n61 : Int) (b62 : Bool) (b63 : Bool) (b64 : Bool), w15.cell? q53 = some ((.bool b54 : Value)) ∧ w15.cell? (Addr.add q53 1) = some ((.bool b55 : Value)) ∧ w15.cell? (Addr.add q53 2) = some ((.int .i64 n56 : Value)) ∧ w15.cell? (Addr.add q53 3) = some ((.int .i64 n57 : Value)) ∧ w15.cell? (Addr.add q53 4) = some ((.slice a58 l58 c58 : Value)) ∧ w15.cell? (Addr.add q53 5) = some ((.slice a59 l59 c59 : Value)) ∧ w15.cell? (Addr.add q53 6) = some ((.slice a60 l60 c60 : Value)) ∧ w15.cell? (Addr.add q53 7) = some ((.int .i64 n61 : Value)) ∧ w15.cell? (Addr.add q53 8) = some ((.bool b62 : Value)) ∧ w15.cell? (Addr.add q53 9) = some ((.bool b63 : Value)) ∧ w15.cell? (Addr.add q53 10) = some ((.bool b64 : Value)) ∧ 
  stC (Addr.mk w1.heap.size 0 none) (.bool b54) w15 (fun (w16 : World) =>
  stC (Addr.mk w1.heap.size 1 none) (.bool b55) w16 (fun (w17 : World) =>
  stC (Addr.mk w1.heap.size 2 none) (.int .i64 n56) w17 (fun (w18 : World) =>
  stC (Addr.mk w1.heap.size 3 none) (.int .i64 n57) w18 (fun (w19 : World) =>
  stC (Addr.mk w1.heap.size 4 none) (.slice a58 l58 c58) w19 (fun (w20 : World) =>
  stC (Addr.mk w1.heap.size 5 none) (.slice a59 l59 c59) w20 (fun (w21 : World) =>
  stC (Addr.mk w1.heap.size 6 none) (.slice a60 l60 c60) w21 (fun (w22 : World) =>
  stC (Addr.mk w1.heap.size 7 none) (.int .i64 n61) w22 (fun (w23 : World) =>
  stC (Addr.mk w1.heap.size 8 none) (.bool b62) w23 (fun (w24 : World) =>
  stC (Addr.mk w1.heap.size 9 none) (.bool b63) w24 (fun (w25 : World) =>
  stC (Addr.mk w1.heap.size 10 none) (.bool b64) w25 (fun (w26 : World) =>
  ∃ (b65 : Bool) (b66 : Bool) (n67 : Int) (n68 : Int) (a69 : Option Addr) (l69 : Nat) (c69 : Nat) (a70 : Option Addr) (l70 : Nat) (c70 : Nat) (a71 : Option Addr) (l71 : Nat) (c71 : Nat) (n72 : Int) (b73 : Bool) (b74 : Bool) (b75 : Bool), w26.cell? (Addr.mk w1.heap.size 0 none) = some ((.bool b65 : Value)) ∧ w26.cell? (Addr.mk w1.heap.size 1 none) = some ((.bool b66 : Value)) ∧ w26.cell? (Addr.mk w1.heap.size 2 none) = some ((.int .i64 n67 : Value)) ∧ w26.cell? (Addr.mk w1.heap.size 3 none) = some ((.int .i64 n68 : Value)) ∧ w26.cell? (Addr.mk w1.heap.size 4 none) = some ((.slice a69 l69 c69 : Value)) ∧ w26.cell? (Addr.mk w1.heap.size 5 none) = some ((.slice a70 l70 c70 : Value)) ∧ w26.cell? (Addr.mk w1.heap.size 6 none) = some ((.slice a71 l71 c71 : Value)) ∧ w26.cell? (Addr.mk w1.heap.size 7 none) = some ((.int .i64 n72 : Value)) ∧ w26.cell? (Addr.mk w1.heap.size 8 none) = some ((.bool b73 : Value)) ∧ w26.cell? (Addr.mk w1.heap.size 9 none) = some ((.bool b74 : Value)) ∧ w26.cell? (Addr.mk w1.heap.size 10 none) = some ((.bool b75 : Value)) ∧ 
  Q (.tuple #[.agg #[.bool b65, .bool b66, .int .i64 n67, .int .i64 n68, .slice a69 l69 c69, .slice a70 l70 c70, .slice a71 l71 c71, .int .i64 n72, .bool b73, .bool b74, .bool b75], .int .u8 n50, .int .i64 n51]) w26)))))))))))))))
theorem C21 {b1 : Bool} {b2 : Bool} {n3 : Int} {n4 : Int} {a5 : Option Addr} {l5 : Nat} {c5 : Nat} {a6 : Option Addr} {l6 : Nat} {c6 : Nat} {a7 : Option Addr} {l7 : Nat} {c7 : Nat} {n8 : Int} {b9 : Bool} {b10 : Bool} {b11 : Bool} {v12 : Value} {Q : Value → World → Prop} {w : World} (h : L21 b1 b2 n3 n4 a5 l5 c5 a6 l6 c6 a7 l7 c7 n8 b9 b10 b11 v12 Q w) : CallR Try.prog 21 [.agg #[.bool b1, .bool b2, .int .i64 n3, .int .i64 n4, .slice a5 l5 c5, .slice a6 l6 c6, .slice a7 l7 c7, .int .i64 n8, .bool b9, .bool b10, .bool b11], v12] w Q :=
  fun_calls (A := A21) mixed Try.func21 (c := (Try.f21.body).getD .skip) rfl (by kernel_rfl) (Eq.mp (by kernel_rfl) h)

/-- millrace/retry.Some -/
def A42 : Ann := ⟨[(6, [])], [], [], [], [], []⟩
def L42 (v1 : Value) (n2 : Int) (Q : Value → World → Prop) (w : World) : Prop :=
  ∃ (b3 : Bool) (w1 : World), Sem.run Try.prog (Sem.bind (eqGuard .eql 65 (.tmp 9) (.const (.nilIface)) v1 .nilIface) (fun _ => binOp .eql 65 v1 .nilIface)) w = .ok ((.bool b3 : Value)) w1 ∧
  cond b3
  (Q (.tuple #[.slice none 0 0, .int .i64 2]) w1)
  (cond (decide (n2 < 1))
  (Q (.tuple #[.slice none 0 0, .int .i64 4]) w1)
  (cond (decide (n2 > 1048576))
  (Q (.tuple #[.slice none 0 0, .int .i64 4]) w1)
  (let w2 := World.alloc w1 (Obj.cells #[.int .i64 0] 92);
  ∃ (I4 : List Value → World → Prop) (mu5 : List Value → World → Nat),
  I4 [] w2 ∧
  ∀ (_ : Env) (w3 : World), I4 [] w3 →
  ∃ (f6 : FuncId) (xs7 : Array Value) (w4 : World), Sem.run Try.prog (callMethod v1 "Read" #[.int .i64 n2]) w3 = .ok (.enter f6 xs7) w4 ∧
  CallR Try.prog f6 (Array.toList xs7) w4 (fun (r10 : Value) (w5 : World) =>
  ∃ (a8 : Option Addr) (l8 : Nat) (c8 : Nat) (n9 : Int), r10 = .tuple #[.slice a8 l8 c8, .int .i64 n9] ∧
  CallR Try.prog 54 [.int .i64 n9] w5 (fun (r12 : Value) (w6 : World) =>
  ∃ (b11 : Bool), r12 = .bool b11 ∧
  cond b11
  (CallR Try.prog 55 [.pointer (some (Addr.mk w1.heap.size 0 none))] w6 (fun (r14 : Value) (w7 : World) =>
  ∃ (b13 : Bool), r14 = .bool b13 ∧
  cond b13
  (Q (.tuple #[.slice none 0 0, .int .i64 81]) w7)
  (I4 [] w7 ∧ mu5 [] w7 < mu5 [] w3)))
  (cond (n9 != 0)
  (Q (.tuple #[.slice none 0 0, .int .i64 n9]) w6)
  (cond (decide ((((l8 : Nat) : Int)) > n2))
  (Q (.tuple #[.slice none 0 0, .int .i64 82]) w6)
  (Q (.tuple #[.slice a8 l8 c8, .int .i64 0]) w6))))))))
theorem C42 {v1 : Value} {n2 : Int} {Q : Value → World → Prop} {w : World} (h : L42 v1 n2 Q w) : CallR Try.prog 42 [v1, .int .i64 n2] w Q :=
  fun_calls (A := A42) mixed Try.func42 (c := (Try.f42.body).getD .skip) rfl (by kernel_rfl) (Eq.mp (by kernel_rfl) h)

/-- (*millrace/retry.patience).out -/
def A55 : Ann := ⟨[], [], [], [], [], []⟩
def L55 (p1 : Option Addr) (Q : Value → World → Prop) (w : World) : Prop :=
  nn p1 (fun (q2 : Addr) =>
  ∃ (n3 : Int), w.cell? q2 = some ((.int .i64 n3 : Value)) ∧
  inI (n3 + 1) ∧
  nn p1 (fun (q4 : Addr) =>
  stC q4 (.int .i64 (n3 + 1)) w (fun (w1 : World) =>
  nn p1 (fun (q5 : Addr) =>
  ∃ (n6 : Int), w1.cell? q5 = some ((.int .i64 n6 : Value)) ∧
  Q (.bool (decide (n6 ≥ 8192))) w1))))
theorem C55 {p1 : Option Addr} {Q : Value → World → Prop} {w : World} (h : L55 p1 Q w) : CallR Try.prog 55 [.pointer p1] w Q :=
  fun_calls (A := A55) mixed Try.func55 (c := (Try.f55.body).getD .skip) rfl (by kernel_rfl) (Eq.mp (by kernel_rfl) h)

/-- millrace/retry.passing -/
def A54 : Ann := ⟨[], [], [], [], [], []⟩
def L54 (n1 : Int) (Q : Value → World → Prop) (w : World) : Prop :=
  cond (n1 == 22)
  (Q (.bool true) w)
  (Q (.bool (n1 == 23)) w)
theorem C54 {n1 : Int} {Q : Value → World → Prop} {w : World} (h : L54 n1 Q w) : CallR Try.prog 54 [.int .i64 n1] w Q :=
  fun_calls (A := A54) mixed Try.func54 (c := (Try.f54.body).getD .skip) rfl (by kernel_rfl) (Eq.mp (by kernel_rfl) h)

/-- (*millrace/millracelaw11.Counter).Read -/
def A73 : Ann := ⟨[], [], [], [], [], []⟩
def L73 (p1 : Option Addr) (n2 : Int) (Q : Value → World → Prop) (w : World) : Prop :=
  nn p1 (fun (q3 : Addr) =>
  ∃ (n4 : Int), w.cell? (Addr.add q3 2) = some ((.int .i64 n4 : Value)) ∧
  inI (n4 + 1) ∧
  nn p1 (fun (q5 : Addr) =>
  stC (Addr.add q5 2) (.int .i64 (n4 + 1)) w (fun (w1 : World) =>
  nn p1 (fun (q7 : Addr) =>
  ∃ (a8 : Option Addr) (l8 : Nat) (c8 : Nat), w1.cell? q7 = some ((.slice a8 l8 c8 : Value)) ∧
  nn p1 (fun (q9 : Addr) =>
  ∃ (n10 : Int), w1.cell? (Addr.add q9 1) = some ((.int .i64 n10 : Value)) ∧
  inI ((((l8 : Nat) : Int)) - n10) ∧
  ∀ nd6 : Nat, let w2 := World.drewN w1 nd6;
  nn p1 (fun (q11 : Addr) =>
  ∃ (n12 : Int), w2.cell? (Addr.add q11 1) = some ((.int .i64 n12 : Value)) ∧
  inI (n12 + (mn n2 ((((l8 : Nat) : Int)) - n10))) ∧
  nn p1 (fun (q13 : Addr) =>
  stC (Addr.add q13 1) (.int .i64 (n12 + (mn n2 ((((l8 : Nat) : Int)) - n10)))) w2 (fun (w3 : World) =>
  nn p1 (fun (q15 : Addr) =>
  ∃ (a16 : Option Addr) (l16 : Nat) (c16 : Nat), w3.cell? q15 = some ((.slice a16 l16 c16 : Value)) ∧
  nn p1 (fun (q17 : Addr) =>
  ∃ (n18 : Int), w3.cell? (Addr.add q17 1) = some ((.int .i64 n18 : Value)) ∧
  inI (n18 - (mn n2 ((((l8 : Nat) : Int)) - n10))) ∧
  nn p1 (fun (q19 : Addr) =>
  ∃ (n20 : Int), w3.cell? (Addr.add q19 1) = some ((.int .i64 n20 : Value)) ∧
  (0 ≤ (n20 : Int) ∧ (n20 : Int) ≤ ((c16 : Nat) : Int)) ∧
  (0 ≤ (n18 - (mn n2 ((((l8 : Nat) : Int)) - n10)) : Int) ∧ (n18 - (mn n2 ((((l8 : Nat) : Int)) - n10)) : Int) ≤ ((Int.toNat n20 : Nat) : Int)) ∧
  ∀ nd14 : Nat, let w4 := World.drewN w3 nd14;
  Q (.tuple #[.slice (adv a16 (Int.toNat (n18 - (mn n2 ((((l8 : Nat) : Int)) - n10)))) c16 1) (Int.toNat n20 - Int.toNat (n18 - (mn n2 ((((l8 : Nat) : Int)) - n10)))) (c16 - Int.toNat (n18 - (mn n2 ((((l8 : Nat) : Int)) - n10)))), .int .i64 0]) w4)))))))))))
theorem C73 {p1 : Option Addr} {n2 : Int} {Q : Value → World → Prop} {w : World} (h : L73 p1 n2 Q w) : CallR Try.prog 73 [.pointer p1, .int .i64 n2] w Q :=
  fun_calls (A := A73) mixed Try.func73 (c := (Try.f73.body).getD .skip) rfl (by kernel_rfl) (Eq.mp (by kernel_rfl) h)

/-- millrace/millracelaw13.PushbackNext -/
def A6 : Ann := ⟨[(10, [(12, .one (.int .i64)), (13, .one (.int .i64))]), (23, [(20, .one (.int .i64))])], [], [], [], [], []⟩
def L6 (a1 : Option Addr) (l1 : Nat) (c1 : Nat) (n2 : Int) (n3 : Int) (a4 : Option Addr) (l4 : Nat) (c4 : Nat) (Q : Value → World → Prop) (w : World) : Prop :=
  CallR Try.prog 17 [] w (fun (r6 : Value) (w1 : World) =>
  ∃ (b5 : Bool), r6 = .bool b5 ∧
  cond (!b5)
  (Q (.bool false) w1)
  (CallR Try.prog 20 [.agg #[.bool true, .bool false, .bool false, .bool false, .bool false, .bool false, .bool false, .bool false], .int .i64 3, .int .i64 n2] w1 (fun (r19 : Value) (w2 : World) =>
  ∃ (b7 : Bool) (b8 : Bool) (n9 : Int) (n10 : Int) (a11 : Option Addr) (l11 : Nat) (c11 : Nat) (a12 : Option Addr) (l12 : Nat) (c12 : Nat) (a13 : Option Addr) (l13 : Nat) (c13 : Nat) (n14 : Int) (b15 : Bool) (b16 : Bool) (b17 : Bool) (n18 : Int), r19 = .tuple #[.agg #[.bool b7, .bool b8, .int .i64 n9, .int .i64 n10, .slice a11 l11 c11, .slice a12 l12 c12, .slice a13 l13 c13, .int .i64 n14, .bool b15, .bool b16, .bool b17], .int .i64 n18] ∧
  let w3 := World.alloc w2 (Obj.cells #[.bool false, .bool false, .int .i64 0, .int .i64 0, .slice none 0 0, .slice none 0 0, .slice none 0 0, .int .i64 0, .bool false, .bool false, .bool false] 25);
  stC (Addr.mk w2.heap.size 0 none) (.bool b7) w3 (fun (w4 : World) =>
  stC (Addr.mk w2.heap.size 1 none) (.bool b8) w4 (fun (w5 : World) =>
  stC (Addr.mk w2.heap.size 2 none) (.int .i64 n9) w5 (fun (w6 : World) =>
  stC (Addr.mk w2.heap.size 3 none) (.int .i64 n10) w6 (fun (w7 : World) =>
  stC (Addr.mk w2.heap.size 4 none) (.slice a11 l11 c11) w7 (fun (w8 : World) =>
  stC (Addr.mk w2.heap.size 5 none) (.slice a12 l12 c12) w8 (fun (w9 : World) =>
  stC (Addr.mk w2.heap.size 6 none) (.slice a13 l13 c13) w9 (fun (w10 : World) =>
  stC (Addr.mk w2.heap.size 7 none) (.int .i64 n14) w10 (fun (w11 : World) =>
  stC (Addr.mk w2.heap.size 8 none) (.bool b15) w11 (fun (w12 : World) =>
  stC (Addr.mk w2.heap.size 9 none) (.bool b16) w12 (fun (w13 : World) =>
  stC (Addr.mk w2.heap.size 10 none) (.bool b17) w13 (fun (w14 : World) =>
  CallR Try.prog 15 [.int .i64 n18] w14 (fun (r21 : Value) (w15 : World) =>
  ∃ (n20 : Int), r21 = .int .i64 n20 ∧
  cond (n20 != 0)
  (Q (.bool true) w15)
  (CallR Try.prog 18 [.slice a1 l1 c1] w15 (fun (r23 : Value) (w16 : World) =>
  ∃ (a22 : Option Addr) (l22 : Nat) (c22 : Nat), r23 = .slice a22 l22 c22 ∧
  let w17 := World.alloc w16 (Obj.cells #[.slice a22 l22 c22, .int .i64 0, .int .i64 0, .int .i64 0] 51);
  (50 : Int) ≠ 0 ∧
  inI ((Int.tmod n3 (50 : Int)) + 50) ∧
  (50 : Int) ≠ 0 ∧
  ∃ (I24 : List Value → World → Prop) (mu25 : List Value → World → Nat),
  I24 [.int .i64 0, .int .i64 0] w17 ∧
  ∀ (_ : Env) (n26 : Int) (n27 : Int) (w18 : World), I24 [.int .i64 n26, .int .i64 n27] w18 →
  cond (decide (n27 < (Int.tmod ((Int.tmod n3 (50 : Int)) + 50) (50 : Int))))
  (∃ (b28 : Bool) (b29 : Bool) (n30 : Int) (n31 : Int) (a32 : Option Addr) (l32 : Nat) (c32 : Nat) (a33 : Option Addr) (l33 : Nat) (c33 : Nat) (a34 : Option Addr) (l34 : Nat) (c34 : Nat) (n35 : Int) (b36 : Bool) (b37 : Bool) (b38 : Bool), w18.cell? (Addr.mk w2.heap.size 0 none) = some ((.bool b28 : Value)) ∧ w18.cell? (Addr.mk w2.heap.size 1 none) = some ((.bool b29 : Value)) ∧ w18.cell? (Addr.mk w2.heap.size 2 none) = some ((.int .i64 n30 : Value)) ∧ w18.cell? (Addr.mk w2.heap.size 3 none) = some ((.int .i64 n31 : Value)) ∧ w18.cell? (Addr.mk w2.heap.size 4 none) = some ((.slice a32 l32 c32 : Value)) ∧ w18.cell? (Addr.mk w2.heap.size 5 none) = some ((.slice a33 l33 c33 : Value)) ∧ w18.cell? (Addr.mk w2.heap.size 6 none) = some ((.slice a34 l34 c34 : Value)) ∧ w18.cell? (Addr.mk w2.heap.size 7 none) = some ((.int .i64 n35 : Value)) ∧ w18.cell? (Addr.mk w2.heap.size 8 none) = some ((.bool b36 : Value)) ∧ w18.cell? (Addr.mk w2.heap.size 9 none) = some ((.bool b37 : Value)) ∧ w18.cell? (Addr.mk w2.heap.size 10 none) = some ((.bool b38 : Value)) ∧ 
  CallR Try.prog 21 [.agg #[.bool b28, .bool b29, .int .i64 n30, .int .i64 n31, .slice a32 l32 c32, .slice a33 l33 c33, .slice a34 l34 c34, .int .i64 n35, .bool b36, .bool b37, .bool b38], .iface 49 (.pointer (some (Addr.mk w16.heap.size 0 none)))] w18 (fun (r52 : Value) (w19 : World) =>
  ∃ (b39 : Bool) (b40 : Bool) (n41 : Int) (n42 : Int) (a43 : Option Addr) (l43 : Nat) (c43 : Nat) (a44 : Option Addr) (l44 : Nat) (c44 : Nat) (a45 : Option Addr) (l45 : Nat) (c45 : Nat) (n46 : Int) (b47 : Bool) (b48 : Bool) (b49 : Bool) (n50 : Int) (n51 : Int), r52 = .tuple #[.agg #[.bool b39, .bool b40, .int .i64 n41, .int .i64 n42, .slice a43 l43 c43, .slice a44 l44 c44, .slice a45 l45 c45, .int .i64 n46, .bool b47, .bool b48, .bool b49], .int .u8 n50, .int .i64 n51] ∧
  let w20 := World.alloc w19 (Obj.cells #[.bool false, .bool false, .int .i64 0, .int .i64 0, .slice none 0 0, .slice none 0 0, .slice none 0 0, .int .i64 0, .bool false, .bool false, .bool false] 25);
  stC (Addr.mk w19.heap.size 0 none) (.bool b39) w20 (fun (w21 : World) =>
  stC (Addr.mk w19.heap.size 1 none) (.bool b40) w21 (fun (w22 : World) =>
  stC (Addr.mk w19.heap.size 2 none) (.int .i64 n41) w22 (fun (w23 : World) =>
  stC (Addr.mk w19.heap.size 3 none) (.int .i64 n42) w23 (fun (w24 : World) =>
  stC (Addr.mk w19.heap.size 4 none) (.slice a43 l43 c43) w24 (fun (w25 : World) =>
  stC (Addr.mk w19.heap.size 5 none) (.slice a44 l44 c44) w25 (fun (w26 : World) =>
  stC (Addr.mk w19.heap.size 6 none) (.slice a45 l45 c45) w26 (fun (w27 : World) =>
  stC (Addr.mk w19.heap.size 7 none) (.int .i64 n46) w27 (fun (w28 : World) =>
  stC (Addr.mk w19.heap.size 8 none) (.bool b47) w28 (fun (w29 : World) =>
  stC (Addr.mk w19.heap.size 9 none) (.bool b48) w29 (fun (w30 : World) =>
  stC (Addr.mk w19.heap.size 10 none) (.bool b49) w30 (fun (w31 : World) =>
  ∃ (b53 : Bool) (b54 : Bool) (n55 : Int) (n56 : Int) (a57 : Option Addr) (l57 : Nat) (c57 : Nat) (a58 : Option Addr) (l58 : Nat) (c58 : Nat) (a59 : Option Addr) (l59 : Nat) (c59 : Nat) (n60 : Int) (b61 : Bool) (b62 : Bool) (b63 : Bool), w31.cell? (Addr.mk w19.heap.size 0 none) = some ((.bool b53 : Value)) ∧ w31.cell? (Addr.mk w19.heap.size 1 none) = some ((.bool b54 : Value)) ∧ w31.cell? (Addr.mk w19.heap.size 2 none) = some ((.int .i64 n55 : Value)) ∧ w31.cell? (Addr.mk w19.heap.size 3 none) = some ((.int .i64 n56 : Value)) ∧ w31.cell? (Addr.mk w19.heap.size 4 none) = some ((.slice a57 l57 c57 : Value)) ∧ w31.cell? (Addr.mk w19.heap.size 5 none) = some ((.slice a58 l58 c58 : Value)) ∧ w31.cell? (Addr.mk w19.heap.size 6 none) = some ((.slice a59 l59 c59 : Value)) ∧ w31.cell? (Addr.mk w19.heap.size 7 none) = some ((.int .i64 n60 : Value)) ∧ w31.cell? (Addr.mk w19.heap.size 8 none) = some ((.bool b61 : Value)) ∧ w31.cell? (Addr.mk w19.heap.size 9 none) = some ((.bool b62 : Value)) ∧ w31.cell? (Addr.mk w19.heap.size 10 none) = some ((.bool b63 : Value)) ∧ 
  stC (Addr.mk w2.heap.size 0 none) (.bool b53) w31 (fun (w32 : World) =>
  stC (Addr.mk w2.heap.size 1 none) (.bool b54) w32 (fun (w33 : World) =>
  stC (Addr.mk w2.heap.size 2 none) (.int .i64 n55) w33 (fun (w34 : World) =>
  stC (Addr.mk w2.heap.size 3 none) (.int .i64 n56) w34 (fun (w35 : World) =>
  stC (Addr.mk w2.heap.size 4 none) (.slice a57 l57 c57) w35 (fun (w36 : World) =>
  stC (Addr.mk w2.heap.size 5 none) (.slice a58 l58 c58) w36 (fun (w37 : World) =>
  stC (Addr.mk w2.heap.size 6 none) (.slice a59 l59 c59) w37 (fun (w38 : World) =>
  stC (Addr.mk w2.heap.size 7 none) (.int .i64 n60) w38 (fun (w39 : World) =>
  stC (Addr.mk w2.heap.size 8 none) (.bool b61) w39 (fun (w40 : World) =>
  stC (Addr.mk w2.heap.size 9 none) (.bool b62) w40 (fun (w41 : World) =>
  stC (Addr.mk w2.heap.size 10 none) (.bool b63) w41 (fun (w42 : World) =>
  CallR Try.prog 15 [.int .i64 n51] w42 (fun (r65 : Value) (w43 : World) =>
  ∃ (n64 : Int), r65 = .int .i64 n64 ∧
  cond (n64 == 0)
  (inI (n26 + 1) ∧
  inI (n27 + 1) ∧
  I24 [.int .i64 (n26 + 1), .int .i64 (n27 + 1)] w43 ∧ mu25 [.int .i64 (n26 + 1), .int .i64 (n27 + 1)] w43 < mu25 [.int .i64 n26, .int .i64 n27] w18)
  (inI (n27 + 1) ∧
  I24 [.int .i64 n26, .int .i64 (n27 + 1)] w43 ∧ mu25 [.int .i64 n26, .int .i64 (n27 + 1)] w43 < mu25 [.int .i64 n26, .int .i64 n27] w18))))))))))))))))))))))))))
  (∃ (b66 : Bool) (b67 : Bool) (n68 : Int) (n69 : Int) (a70 : Option Addr) (l70 : Nat) (c70 : Nat) (a71 : Option Addr) (l71 : Nat) (c71 : Nat) (a72 : Option Addr) (l72 : Nat) (c72 : Nat) (n73 : Int) (b74 : Bool) (b75 : Bool) (b76 : Bool), w18.cell? (Addr.mk w2.heap.size 0 none) = some ((.bool b66 : Value)) ∧ w18.cell? (Addr.mk w2.heap.size 1 none) = some ((.bool b67 : Value)) ∧ w18.cell? (Addr.mk w2.heap.size 2 none) = some ((.int .i64 n68 : Value)) ∧ w18.cell? (Addr.mk w2.heap.size 3 none) = some ((.int .i64 n69 : Value)) ∧ w18.cell? (Addr.mk w2.heap.size 4 none) = some ((.slice a70 l70 c70 : Value)) ∧ w18.cell? (Addr.mk w2.heap.size 5 none) = some ((.slice a71 l71 c71 : Value)) ∧ w18.cell? (Addr.mk w2.heap.size 6 none) = some ((.slice a72 l72 c72 : Value)) ∧ w18.cell? (Addr.mk w2.heap.size 7 none) = some ((.int .i64 n73 : Value)) ∧ w18.cell? (Addr.mk w2.heap.size 8 none) = some ((.bool b74 : Value)) ∧ w18.cell? (Addr.mk w2.heap.size 9 none) = some ((.bool b75 : Value)) ∧ w18.cell? (Addr.mk w2.heap.size 10 none) = some ((.bool b76 : Value)) ∧ 
  CallR Try.prog 10 [.agg #[.bool b66, .bool b67, .int .i64 n68, .int .i64 n69, .slice a70 l70 c70, .slice a71 l71 c71, .slice a72 l72 c72, .int .i64 n73, .bool b74, .bool b75, .bool b76], .slice a4 l4 c4] w18 (fun (r89 : Value) (w44 : World) =>
  ∃ (b77 : Bool) (b78 : Bool) (n79 : Int) (n80 : Int) (a81 : Option Addr) (l81 : Nat) (c81 : Nat) (a82 : Option Addr) (l82 : Nat) (c82 : Nat) (a83 : Option Addr) (l83 : Nat) (c83 : Nat) (n84 : Int) (b85 : Bool) (b86 : Bool) (b87 : Bool) (n88 : Int), r89 = .tuple #[.agg #[.bool b77, .bool b78, .int .i64 n79, .int .i64 n80, .slice a81 l81 c81, .slice a82 l82 c82, .slice a83 l83 c83, .int .i64 n84, .bool b85, .bool b86, .bool b87], .int .i64 n88] ∧
  let w45 := World.alloc w44 (Obj.cells #[.bool false, .bool false, .int .i64 0, .int .i64 0, .slice none 0 0, .slice none 0 0, .slice none 0 0, .int .i64 0, .bool false, .bool false, .bool false] 25);
  stC (Addr.mk w44.heap.size 0 none) (.bool b77) w45 (fun (w46 : World) =>
  stC (Addr.mk w44.heap.size 1 none) (.bool b78) w46 (fun (w47 : World) =>
  stC (Addr.mk w44.heap.size 2 none) (.int .i64 n79) w47 (fun (w48 : World) =>
  stC (Addr.mk w44.heap.size 3 none) (.int .i64 n80) w48 (fun (w49 : World) =>
  stC (Addr.mk w44.heap.size 4 none) (.slice a81 l81 c81) w49 (fun (w50 : World) =>
  stC (Addr.mk w44.heap.size 5 none) (.slice a82 l82 c82) w50 (fun (w51 : World) =>
  stC (Addr.mk w44.heap.size 6 none) (.slice a83 l83 c83) w51 (fun (w52 : World) =>
  stC (Addr.mk w44.heap.size 7 none) (.int .i64 n84) w52 (fun (w53 : World) =>
  stC (Addr.mk w44.heap.size 8 none) (.bool b85) w53 (fun (w54 : World) =>
  stC (Addr.mk w44.heap.size 9 none) (.bool b86) w54 (fun (w55 : World) =>
  stC (Addr.mk w44.heap.size 10 none) (.bool b87) w55 (fun (w56 : World) =>
  cond (decide ((((l4 : Nat) : Int)) > 8))
  (CallR Try.prog 15 [.int .i64 n88] w56 (fun (r91 : Value) (w57 : World) =>
  ∃ (n90 : Int), r91 = .int .i64 n90 ∧
  Q (.bool (n90 == 31)) w57))
  (CallR Try.prog 15 [.int .i64 n88] w56 (fun (r93 : Value) (w58 : World) =>
  ∃ (n92 : Int), r93 = .int .i64 n92 ∧
  cond (n92 != 0)
  (Q (.bool false) w58)
  (∃ (n94 : Int), w58.cell? (Addr.mk w16.heap.size 2 none) = some ((.int .i64 n94 : Value)) ∧
  ∃ (I95 : List Value → World → Prop) (mu96 : List Value → World → Nat),
  I95 [.int .i64 0] w58 ∧
  ∀ (_ : Env) (n97 : Int) (w59 : World), I95 [.int .i64 n97] w59 →
  cond (decide (n97 < (((l4 : Nat) : Int))))
  (∃ (b98 : Bool) (b99 : Bool) (n100 : Int) (n101 : Int) (a102 : Option Addr) (l102 : Nat) (c102 : Nat) (a103 : Option Addr) (l103 : Nat) (c103 : Nat) (a104 : Option Addr) (l104 : Nat) (c104 : Nat) (n105 : Int) (b106 : Bool) (b107 : Bool) (b108 : Bool), w59.cell? (Addr.mk w44.heap.size 0 none) = some ((.bool b98 : Value)) ∧ w59.cell? (Addr.mk w44.heap.size 1 none) = some ((.bool b99 : Value)) ∧ w59.cell? (Addr.mk w44.heap.size 2 none) = some ((.int .i64 n100 : Value)) ∧ w59.cell? (Addr.mk w44.heap.size 3 none) = some ((.int .i64 n101 : Value)) ∧ w59.cell? (Addr.mk w44.heap.size 4 none) = some ((.slice a102 l102 c102 : Value)) ∧ w59.cell? (Addr.mk w44.heap.size 5 none) = some ((.slice a103 l103 c103 : Value)) ∧ w59.cell? (Addr.mk w44.heap.size 6 none) = some ((.slice a104 l104 c104 : Value)) ∧ w59.cell? (Addr.mk w44.heap.size 7 none) = some ((.int .i64 n105 : Value)) ∧ w59.cell? (Addr.mk w44.heap.size 8 none) = some ((.bool b106 : Value)) ∧ w59.cell? (Addr.mk w44.heap.size 9 none) = some ((.bool b107 : Value)) ∧ w59.cell? (Addr.mk w44.heap.size 10 none) = some ((.bool b108 : Value)) ∧ 
  CallR Try.prog 21 [.agg #[.bool b98, .bool b99, .int .i64 n100, .int .i64 n101, .slice a102 l102 c102, .slice a103 l103 c103, .slice a104 l104 c104, .int .i64 n105, .bool b106, .bool b107, .bool b108], .iface 49 (.pointer (some (Addr.mk w16.heap.size 0 none)))] w59 (fun (r122 : Value) (w60 : World) =>
  ∃ (b109 : Bool) (b110 : Bool) (n111 : Int) (n112 : Int) (a113 : Option Addr) (l113 : Nat) (c113 : Nat) (a114 : Option Addr) (l114 : Nat) (c114 : Nat) (a115 : Option Addr) (l115 : Nat) (c115 : Nat) (n116 : Int) (b117 : Bool) (b118 : Bool) (b119 : Bool) (n120 : Int) (n121 : Int), r122 = .tuple #[.agg #[.bool b109, .bool b110, .int .i64 n111, .int .i64 n112, .slice a113 l113 c113, .slice a114 l114 c114, .slice a115 l115 c115, .int .i64 n116, .bool b117, .bool b118, .bool b119], .int .u8 n120, .int .i64 n121] ∧
  let w61 := World.alloc w60 (Obj.cells #[.bool false, .bool false, .int .i64 0, .int .i64 0, .slice none 0 0, .slice none 0 0, .slice none 0 0, .int .i64 0, .bool false, .bool false, .bool false] 25);
  stC (Addr.mk w60.heap.size 0 none) (.bool b109) w61 (fun (w62 : World) =>
  stC (Addr.mk w60.heap.size 1 none) (.bool b110) w62 (fun (w63 : World) =>
  stC (Addr.mk w60.heap.size 2 none) (.int .i64 n111) w63 (fun (w64 : World) =>
  stC (Addr.mk w60.heap.size 3 none) (.int .i64 n112) w64 (fun (w65 : World) =>
  stC (Addr.mk w60.heap.size 4 none) (.slice a113 l113 c113) w65 (fun (w66 : World) =>
  stC (Addr.mk w60.heap.size 5 none) (.slice a114 l114 c114) w66 (fun (w67 : World) =>
  stC (Addr.mk w60.heap.size 6 none) (.slice a115 l115 c115) w67 (fun (w68 : World) =>
  stC (Addr.mk w60.heap.size 7 none) (.int .i64 n116) w68 (fun (w69 : World) =>
  stC (Addr.mk w60.heap.size 8 none) (.bool b117) w69 (fun (w70 : World) =>
  stC (Addr.mk w60.heap.size 9 none) (.bool b118) w70 (fun (w71 : World) =>
  stC (Addr.mk w60.heap.size 10 none) (.bool b119) w71 (fun (w72 : World) =>
  ∃ (b123 : Bool) (b124 : Bool) (n125 : Int) (n126 : Int) (a127 : Option Addr) (l127 : Nat) (c127 : Nat) (a128 : Option Addr) (l128 : Nat) (c128 : Nat) (a129 : Option Addr) (l129 : Nat) (c129 : Nat) (n130 : Int) (b131 : Bool) (b132 : Bool) (b133 : Bool), w72.cell? (Addr.mk w60.heap.size 0 none) = some ((.bool b123 : Value)) ∧ w72.cell? (Addr.mk w60.heap.size 1 none) = some ((.bool b124 : Value)) ∧ w72.cell? (Addr.mk w60.heap.size 2 none) = some ((.int .i64 n125 : Value)) ∧ w72.cell? (Addr.mk w60.heap.size 3 none) = some ((.int .i64 n126 : Value)) ∧ w72.cell? (Addr.mk w60.heap.size 4 none) = some ((.slice a127 l127 c127 : Value)) ∧ w72.cell? (Addr.mk w60.heap.size 5 none) = some ((.slice a128 l128 c128 : Value)) ∧ w72.cell? (Addr.mk w60.heap.size 6 none) = some ((.slice a129 l129 c129 : Value)) ∧ w72.cell? (Addr.mk w60.heap.size 7 none) = some ((.int .i64 n130 : Value)) ∧ w72.cell? (Addr.mk w60.heap.size 8 none) = some ((.bool b131 : Value)) ∧ w72.cell? (Addr.mk w60.heap.size 9 none) = some ((.bool b132 : Value)) ∧ w72.cell? (Addr.mk w60.heap.size 10 none) = some ((.bool b133 : Value)) ∧ 
  stC (Addr.mk w44.heap.size 0 none) (.bool b123) w72 (fun (w73 : World) =>
  stC (Addr.mk w44.heap.size 1 none) (.bool b124) w73 (fun (w74 : World) =>
  stC (Addr.mk w44.heap.size 2 none) (.int .i64 n125) w74 (fun (w75 : World) =>
  stC (Addr.mk w44.heap.size 3 none) (.int .i64 n126) w75 (fun (w76 : World) =>
  stC (Addr.mk w44.heap.size 4 none) (.slice a127 l127 c127) w76 (fun (w77 : World) =>
  stC (Addr.mk w44.heap.size 5 none) (.slice a128 l128 c128) w77 (fun (w78 : World) =>
  stC (Addr.mk w44.heap.size 6 none) (.slice a129 l129 c129) w78 (fun (w79 : World) =>
  stC (Addr.mk w44.heap.size 7 none) (.int .i64 n130) w79 (fun (w80 : World) =>
  stC (Addr.mk w44.heap.size 8 none) (.bool b131) w80 (fun (w81 : World) =>
  stC (Addr.mk w44.heap.size 9 none) (.bool b132) w81 (fun (w82 : World) =>
  stC (Addr.mk w44.heap.size 10 none) (.bool b133) w82 (fun (w83 : World) =>
  CallR Try.prog 15 [.int .i64 n121] w83 (fun (r135 : Value) (w84 : World) =>
  ∃ (n134 : Int), r135 = .int .i64 n134 ∧
  cond (n134 != 0)
  (Q (.bool false) w84)
  ((0 ≤ (n97 : Int) ∧ (n97 : Int) < ((l4 : Nat) : Int)) ∧
  nn a4 (fun (q136 : Addr) =>
  ∃ (n137 : Int), w84.cell? (Addr.add q136 (Int.toNat n97)) = some ((.int .u8 n137 : Value)) ∧
  cond (n120 != n137)
  (Q (.bool false) w84)
  (inI (n97 + 1) ∧
  I95 [.int .i64 (n97 + 1)] w84 ∧ mu96 [.int .i64 (n97 + 1)] w84 < mu96 [.int .i64 n97] w59))))))))))))))))))))))))))))
  (∃ (n138 : Int), w59.cell? (Addr.mk w16.heap.size 2 none) = some ((.int .i64 n138 : Value)) ∧
  cond (n138 != n94)
  (Q (.bool false) w59)
  (∃ (b139 : Bool) (b140 : Bool) (n141 : Int) (n142 : Int) (a143 : Option Addr) (l143 : Nat) (c143 : Nat) (a144 : Option Addr) (l144 : Nat) (c144 : Nat) (a145 : Option Addr) (l145 : Nat) (c145 : Nat) (n146 : Int) (b147 : Bool) (b148 : Bool) (b149 : Bool), w59.cell? (Addr.mk w44.heap.size 0 none) = some ((.bool b139 : Value)) ∧ w59.cell? (Addr.mk w44.heap.size 1 none) = some ((.bool b140 : Value)) ∧ w59.cell? (Addr.mk w44.heap.size 2 none) = some ((.int .i64 n141 : Value)) ∧ w59.cell? (Addr.mk w44.heap.size 3 none) = some ((.int .i64 n142 : Value)) ∧ w59.cell? (Addr.mk w44.heap.size 4 none) = some ((.slice a143 l143 c143 : Value)) ∧ w59.cell? (Addr.mk w44.heap.size 5 none) = some ((.slice a144 l144 c144 : Value)) ∧ w59.cell? (Addr.mk w44.heap.size 6 none) = some ((.slice a145 l145 c145 : Value)) ∧ w59.cell? (Addr.mk w44.heap.size 7 none) = some ((.int .i64 n146 : Value)) ∧ w59.cell? (Addr.mk w44.heap.size 8 none) = some ((.bool b147 : Value)) ∧ w59.cell? (Addr.mk w44.heap.size 9 none) = some ((.bool b148 : Value)) ∧ w59.cell? (Addr.mk w44.heap.size 10 none) = some ((.bool b149 : Value)) ∧ 
  CallR Try.prog 21 [.agg #[.bool b139, .bool b140, .int .i64 n141, .int .i64 n142, .slice a143 l143 c143, .slice a144 l144 c144, .slice a145 l145 c145, .int .i64 n146, .bool b147, .bool b148, .bool b149], .iface 49 (.pointer (some (Addr.mk w16.heap.size 0 none)))] w59 (fun (r163 : Value) (w85 : World) =>
  ∃ (b150 : Bool) (b151 : Bool) (n152 : Int) (n153 : Int) (a154 : Option Addr) (l154 : Nat) (c154 : Nat) (a155 : Option Addr) (l155 : Nat) (c155 : Nat) (a156 : Option Addr) (l156 : Nat) (c156 : Nat) (n157 : Int) (b158 : Bool) (b159 : Bool) (b160 : Bool) (n161 : Int) (n162 : Int), r163 = .tuple #[.agg #[.bool b150, .bool b151, .int .i64 n152, .int .i64 n153, .slice a154 l154 c154, .slice a155 l155 c155, .slice a156 l156 c156, .int .i64 n157, .bool b158, .bool b159, .bool b160], .int .u8 n161, .int .i64 n162] ∧
  let w86 := World.alloc w85 (Obj.cells #[.bool false, .bool false, .int .i64 0, .int .i64 0, .slice none 0 0, .slice none 0 0, .slice none 0 0, .int .i64 0, .bool false, .bool false, .bool false] 25);
  stC (Addr.mk w85.heap.size 0 none) (.bool b150) w86 (fun (w87 : World) =>
  stC (Addr.mk w85.heap.size 1 none) (.bool b151) w87 (fun (w88 : World) =>
  stC (Addr.mk w85.heap.size 2 none) (.int .i64 n152) w88 (fun (w89 : World) =>
  stC (Addr.mk w85.heap.size 3 none) (.int .i64 n153) w89 (fun (w90 : World) =>
  stC (Addr.mk w85.heap.size 4 none) (.slice a154 l154 c154) w90 (fun (w91 : World) =>
  stC (Addr.mk w85.heap.size 5 none) (.slice a155 l155 c155) w91 (fun (w92 : World) =>
  stC (Addr.mk w85.heap.size 6 none) (.slice a156 l156 c156) w92 (fun (w93 : World) =>
  stC (Addr.mk w85.heap.size 7 none) (.int .i64 n157) w93 (fun (w94 : World) =>
  stC (Addr.mk w85.heap.size 8 none) (.bool b158) w94 (fun (w95 : World) =>
  stC (Addr.mk w85.heap.size 9 none) (.bool b159) w95 (fun (w96 : World) =>
  stC (Addr.mk w85.heap.size 10 none) (.bool b160) w96 (fun (w97 : World) =>
  cond (decide (n26 < (((l1 : Nat) : Int))))
  (CallR Try.prog 15 [.int .i64 n162] w97 (fun (r165 : Value) (w98 : World) =>
  ∃ (n164 : Int), r165 = .int .i64 n164 ∧
  cond (n164 == 0)
  ((0 ≤ (n26 : Int) ∧ (n26 : Int) < ((l1 : Nat) : Int)) ∧
  nn a1 (fun (q166 : Addr) =>
  ∃ (n167 : Int), w98.cell? (Addr.add q166 (Int.toNat n26)) = some ((.int .u8 n167 : Value)) ∧
  Q (.bool (n161 == n167)) w98))
  (Q (.bool false) w98)))
  (CallR Try.prog 15 [.int .i64 n162] w97 (fun (r169 : Value) (w99 : World) =>
  ∃ (n168 : Int), r169 = .int .i64 n168 ∧
  Q (.bool (n168 == 111)) w99)))))))))))))))))))))))))))))))))))))))))))))))))
theorem C6 {a1 : Option Addr} {l1 : Nat} {c1 : Nat} {n2 : Int} {n3 : Int} {a4 : Option Addr} {l4 : Nat} {c4 : Nat} {Q : Value → World → Prop} {w : World} (h : L6 a1 l1 c1 n2 n3 a4 l4 c4 Q w) : CallR Try.prog 6 [.slice a1 l1 c1, .int .i64 n2, .int .i64 n3, .slice a4 l4 c4] w Q :=
  fun_calls (A := A6) mixed Try.func6 (c := (Try.f6.body).getD .skip) rfl (by kernel_rfl) (Eq.mp (by kernel_rfl) h)

end Go.Proofs.Ythddogeenimjcaa
