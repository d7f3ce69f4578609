/-
  What some functions of the program ask of the world, printed by a program out of the loaded program; each text is held against the code by evaluation. Conditions: none.
-/
import Derived.Test.YtmpmobhofdefeaaProg
import Derived.Test.YtmpmobhofdefeaaLm
import Derived.Test.YtmpmobhofdefeaaLX
set_option linter.unusedVariables false
set_option maxRecDepth 100000
namespace Go.Proofs.Ytmpmobhofdefeaa
open Go.Lw
/-- millrace/memory.kept -/
def A80 : Ann := ⟨[], [], [], [], []⟩
def L80 (a1 : Option Addr) (l1 : Nat) (c1 : Nat) (n2 : Int) (Q : Value → World → Prop) (w : World) : Prop :=
  let w1 := World.alloc w (Obj.cells #[.bool false, .slice none 0 0, .int .i64 0, .int .i64 0] 114);
  CallR Try.prog 78 [.slice a1 l1 c1] w1 (fun (r4 : Value) (w2 : World) =>
  ∃ (a3 : Option Addr) (l3 : Nat) (c3 : Nat), r4 = .slice a3 l3 c3 ∧
  stC (Addr.mk w.heap.size 0 none) (.bool true) w2 (fun (w3 : World) =>
  stC (Addr.mk w.heap.size 1 none) (.slice a3 l3 c3) w3 (fun (w4 : World) =>
  stC (Addr.mk w.heap.size 2 none) (.int .i64 n2) w4 (fun (w5 : World) =>
  stC (Addr.mk w.heap.size 3 none) (.int .i64 0) w5 (fun (w6 : World) =>
  ∃ (b5 : Bool) (a6 : Option Addr) (l6 : Nat) (c6 : Nat) (n7 : Int) (n8 : Int), w6.cell? (Addr.mk w.heap.size 0 none) = some ((.bool b5 : Value)) ∧ w6.cell? (Addr.mk w.heap.size 1 none) = some ((.slice a6 l6 c6 : Value)) ∧ w6.cell? (Addr.mk w.heap.size 2 none) = some ((.int .i64 n7 : Value)) ∧ w6.cell? (Addr.mk w.heap.size 3 none) = some ((.int .i64 n8 : Value)) ∧ 
  Q (.agg #[.bool b5, .slice a6 l6 c6, .int .i64 n7, .int .i64 n8]) w6)))))
theorem C80 {a1 : Option Addr} {l1 : Nat} {c1 : Nat} {n2 : Int} {Q : Value → World → Prop} {w : World} (h : L80 a1 l1 c1 n2 Q w) : CallR Try.prog 80 [.slice a1 l1 c1, .int .i64 n2] w Q :=
  fun_calls (A := A80) mixed Try.func80 (c := (Try.f80.body).getD .skip) rfl (by kernel_rfl) (Eq.mp (by kernel_rfl) h)

/-- millrace/memory.NewFixed -/
def A42 : Ann := ⟨[], [], [], [], []⟩
def L42 (n1 : Int) (a2 : Option Addr) (l2 : Nat) (c2 : Nat) (Q : Value → World → Prop) (w : World) : Prop :=
  cond (decide (n1 < 0))
  (Q (.tuple #[.pointer none, .int .i64 4]) w)
  (cond (decide (n1 > 1048576))
  (Q (.tuple #[.pointer none, .int .i64 4]) w)
  (cond (decide ((((l2 : Nat) : Int)) > n1))
  (Q (.tuple #[.pointer none, .int .i64 5]) w)
  (CallR Try.prog 80 [.slice a2 l2 c2, .int .i64 n1] w (fun (r7 : Value) (w1 : World) =>
  ∃ (b3 : Bool) (a4 : Option Addr) (l4 : Nat) (c4 : Nat) (n5 : Int) (n6 : Int), r7 = .agg #[.bool b3, .slice a4 l4 c4, .int .i64 n5, .int .i64 n6] ∧
  let w2 := World.alloc w1 (Obj.cells #[.bool b3, .slice a4 l4 c4, .int .i64 n5, .int .i64 n6] 116);
  Q (.tuple #[.pointer (some (Addr.mk w1.heap.size 0 none)), .int .i64 0]) w2))))
theorem C42 {n1 : Int} {a2 : Option Addr} {l2 : Nat} {c2 : Nat} {Q : Value → World → Prop} {w : World} (h : L42 n1 a2 l2 c2 Q w) : CallR Try.prog 42 [.int .i64 n1, .slice a2 l2 c2] w Q :=
  fun_calls (A := A42) mixed Try.func42 (c := (Try.f42.body).getD .skip) rfl (by kernel_rfl) (Eq.mp (by kernel_rfl) h)

/-- millrace/memory.NewGrowing -/
def A46 : Ann := ⟨[], [], [], [], []⟩
def L46 (a1 : Option Addr) (l1 : Nat) (c1 : Nat) (Q : Value → World → Prop) (w : World) : Prop :=
  cond (decide ((((l1 : Nat) : Int)) > 1048576))
  (Q (.tuple #[.pointer none, .int .i64 5]) w)
  (CallR Try.prog 80 [.slice a1 l1 c1, .int .i64 1048576] w (fun (r6 : Value) (w1 : World) =>
  ∃ (b2 : Bool) (a3 : Option Addr) (l3 : Nat) (c3 : Nat) (n4 : Int) (n5 : Int), r6 = .agg #[.bool b2, .slice a3 l3 c3, .int .i64 n4, .int .i64 n5] ∧
  let w2 := World.alloc w1 (Obj.cells #[.bool b2, .slice a3 l3 c3, .int .i64 n4, .int .i64 n5] 117);
  Q (.tuple #[.pointer (some (Addr.mk w1.heap.size 0 none)), .int .i64 0]) w2))
theorem C46 {a1 : Option Addr} {l1 : Nat} {c1 : Nat} {Q : Value → World → Prop} {w : World} (h : L46 a1 l1 c1 Q w) : CallR Try.prog 46 [.slice a1 l1 c1] w Q :=
  fun_calls (A := A46) mixed Try.func46 (c := (Try.f46.body).getD .skip) rfl (by kernel_rfl) (Eq.mp (by kernel_rfl) h)

/-- millrace/memory.NewReader -/
def A48 : Ann := ⟨[], [], [], [], []⟩
def L48 (a1 : Option Addr) (l1 : Nat) (c1 : Nat) (Q : Value → World → Prop) (w : World) : Prop :=
  cond (decide ((((l1 : Nat) : Int)) > 1048576))
  (Q (.tuple #[.pointer none, .int .i64 5]) w)
  (CallR Try.prog 80 [.slice a1 l1 c1, .int .i64 (((l1 : Nat) : Int))] w (fun (r6 : Value) (w1 : World) =>
  ∃ (b2 : Bool) (a3 : Option Addr) (l3 : Nat) (c3 : Nat) (n4 : Int) (n5 : Int), r6 = .agg #[.bool b2, .slice a3 l3 c3, .int .i64 n4, .int .i64 n5] ∧
  let w2 := World.alloc w1 (Obj.cells #[.bool b2, .slice a3 l3 c3, .int .i64 n4, .int .i64 n5] 118);
  Q (.tuple #[.pointer (some (Addr.mk w1.heap.size 0 none)), .int .i64 0]) w2))
theorem C48 {a1 : Option Addr} {l1 : Nat} {c1 : Nat} {Q : Value → World → Prop} {w : World} (h : L48 a1 l1 c1 Q w) : CallR Try.prog 48 [.slice a1 l1 c1] w Q :=
  fun_calls (A := A48) mixed Try.func48 (c := (Try.f48.body).getD .skip) rfl (by kernel_rfl) (Eq.mp (by kernel_rfl) h)

/-- millrace/memory.NewCustom -/
def A39 : Ann := ⟨[(5, [(24, .one (.int .i64))])], [], [], [], [(9, [0, 1, 2, 3, 4, 5, 6, 8, 9, 7, 10, 11], 12, [13, 14, 15])]⟩
def L39 (a1 : Option Addr) (l1 : Nat) (c1 : Nat) (a2 : Option Addr) (l2 : Nat) (c2 : Nat) (Q : Value → World → Prop) (w : World) : Prop :=
  cond (decide ((((l1 : Nat) : Int)) > 4096))
  (Q (.tuple #[.pointer none, .int .i64 3]) w)
  (cond (decide ((((l2 : Nat) : Int)) > 4096))
  (Q (.tuple #[.pointer none, .int .i64 3]) w)
  (let w1 := World.alloc w (Obj.cells #[] 3);
  ∃ (a3 : Option Addr) (l3 : Nat) (c3 : Nat) (w2 : World), Sem.run Try.prog (Builtin.append_ #[75, 75] 75 #[.slice (some (Addr.mk w.heap.size 0 none)) 0 0, .slice a2 l2 c2]) w1 = .ok ((.slice a3 l3 c3 : Value)) w2 ∧
  let w3 := World.alloc w2 (Obj.cells #[.bool true, .slice none 0 0, .slice a3 l3 c3, .slice none 0 0] 120);
  ∃ (I4 : List Value → World → Prop) (mu5 : List Value → World → Nat),
  I4 [.int .i64 0] w3 ∧
  ∀ (_ : Env) (n6 : Int) (w4 : World), I4 [.int .i64 n6] w4 →
  cond (decide (n6 < (((l1 : Nat) : Int))))
  ((0 ≤ (n6 : Int) ∧ (n6 : Int) < ((l1 : Nat) : Int)) ∧
  nn a1 (fun (q7 : Addr) =>
  ∃ (a8 : Option Addr) (l8 : Nat) (c8 : Nat) (n9 : Int), w4.cell? (Addr.add q7 (Int.toNat n6 * 2)) = some ((.slice a8 l8 c8 : Value)) ∧ w4.cell? (Addr.add (Addr.add q7 (Int.toNat n6 * 2)) 1) = some ((.int .i64 n9 : Value)) ∧ 
  let w5 := World.alloc w4 (Obj.cells #[.slice none 0 0, .int .i64 0] 64);
  stC (Addr.mk w4.heap.size 0 none) (.slice a8 l8 c8) w5 (fun (w6 : World) =>
  stC (Addr.mk w4.heap.size 1 none) (.int .i64 n9) w6 (fun (w7 : World) =>
  ∃ (a10 : Option Addr) (l10 : Nat) (c10 : Nat), w7.cell? (Addr.mk w4.heap.size 0 none) = some ((.slice a10 l10 c10 : Value)) ∧
  cond (decide ((((l10 : Nat) : Int)) > 1048576))
  (Q (.tuple #[.pointer none, .int .i64 5]) w7)
  (∃ (S11 : World → Prop), S11 (World.drew w7) ∧
  let w8 := World.drew w7;
  ∃ (a12 : Option Addr) (l12 : Nat) (c12 : Nat), (∀ wS : World, S11 wS → wS.cell? (Addr.mk w2.heap.size 1 none) = some ((.slice a12 l12 c12 : Value))) ∧
  ∃ (a13 : Option Addr) (l13 : Nat) (c13 : Nat), (∀ wS : World, S11 wS → wS.cell? (Addr.mk w4.heap.size 0 none) = some ((.slice a13 l13 c13 : Value))) ∧
  ∃ (n14 : Int), (∀ wS : World, S11 wS → wS.cell? (Addr.mk w4.heap.size 1 none) = some ((.int .i64 n14 : Value))) ∧
  CallR Try.prog 78 [.slice a13 l13 c13] w8 (fun (r16 : Value) (w9 : World) =>
  ∃ (a15 : Option Addr) (l15 : Nat) (c15 : Nat), r16 = .slice a15 l15 c15 ∧
  S11 w9 ∧
  let w10 := World.alloc w9 (Obj.cells #[.slice a15 l15 c15, .int .i64 n14] 64);
  S11 w10 ∧
  ∃ (a17 : Option Addr) (l17 : Nat) (c17 : Nat) (w11 : World), Sem.run Try.prog (Builtin.append_ #[62, 62] 62 #[.slice a12 l12 c12, .slice (some (Addr.mk w9.heap.size 0 none)) 1 1]) w10 = .ok ((.slice a17 l17 c17 : Value)) w11 ∧
  stC (Addr.mk w2.heap.size 1 none) (.slice a17 l17 c17) w11 (fun (w12 : World) =>
  inI (n6 + 1) ∧
  I4 [.int .i64 (n6 + 1)] w12 ∧ mu5 [.int .i64 (n6 + 1)] w12 < mu5 [.int .i64 n6] w4)))))))
  (Q (.tuple #[.pointer (some (Addr.mk w2.heap.size 0 none)), .int .i64 0]) w4)))
theorem C39 {a1 : Option Addr} {l1 : Nat} {c1 : Nat} {a2 : Option Addr} {l2 : Nat} {c2 : Nat} {Q : Value → World → Prop} {w : World} (h : L39 a1 l1 c1 a2 l2 c2 Q w) : CallR Try.prog 39 [.slice a1 l1 c1, .slice a2 l2 c2] w Q :=
  fun_calls (A := A39) mixed Try.func39 (c := (Try.f39.body).getD .skip) rfl (by kernel_rfl) (Eq.mp (by kernel_rfl) h)

/-- (*millrace/memory.store).read -/
def A89 : Ann := ⟨[], [], [], [(6, [0, 1, 2, 3, 4, 5, 6, 7, 8, 9, 10, 11, 12, 13, 14, 15, 16])], []⟩
def L89 (p1 : Option Addr) (n2 : Int) (Q : Value → World → Prop) (w : World) : Prop :=
  nn p1 (fun (q3 : Addr) =>
  ∃ (b4 : Bool), w.cell? q3 = some ((.bool b4 : Value)) ∧
  cond (!b4)
  (Q (.tuple #[.slice none 0 0, .int .i64 2]) w)
  (cond (decide (n2 < 0))
  (Q (.tuple #[.slice none 0 0, .int .i64 4]) w)
  (cond (decide (n2 > 1048576))
  (Q (.tuple #[.slice none 0 0, .int .i64 4]) w)
  (nn p1 (fun (q6 : Addr) =>
  ∃ (n7 : Int), w.cell? (Addr.add q6 3) = some ((.int .i64 n7 : Value)) ∧
  nn p1 (fun (q8 : Addr) =>
  ∃ (a9 : Option Addr) (l9 : Nat) (c9 : Nat), w.cell? (Addr.add q8 1) = some ((.slice a9 l9 c9 : Value)) ∧
  ∀ nd5 : Nat, let w1 := World.drewN w nd5;
  let w2 := World.drew w1;
  nn p1 (fun (q10 : Addr) =>
  ∃ (a11 : Option Addr) (l11 : Nat) (c11 : Nat), w2.cell? (Addr.add q10 1) = some ((.slice a11 l11 c11 : Value)) ∧
  inI ((mn n7 (((l9 : Nat) : Int))) + n2) ∧
  nn p1 (fun (q12 : Addr) =>
  ∃ (a13 : Option Addr) (l13 : Nat) (c13 : Nat), w2.cell? (Addr.add q12 1) = some ((.slice a13 l13 c13 : Value)) ∧
  (0 ≤ (mn ((mn n7 (((l9 : Nat) : Int))) + n2) (((l13 : Nat) : Int)) : Int) ∧ (mn ((mn n7 (((l9 : Nat) : Int))) + n2) (((l13 : Nat) : Int)) : Int) ≤ ((c11 : Nat) : Int)) ∧
  (0 ≤ (mn n7 (((l9 : Nat) : Int)) : Int) ∧ (mn n7 (((l9 : Nat) : Int)) : Int) ≤ ((Int.toNat (mn ((mn n7 (((l9 : Nat) : Int))) + n2) (((l13 : Nat) : Int))) : Nat) : Int)) ∧
  CallR Try.prog 78 [.slice (adv a11 (Int.toNat (mn n7 (((l9 : Nat) : Int)))) c11 1) (Int.toNat (mn ((mn n7 (((l9 : Nat) : Int))) + n2) (((l13 : Nat) : Int))) - Int.toNat (mn n7 (((l9 : Nat) : Int)))) (c11 - Int.toNat (mn n7 (((l9 : Nat) : Int))))] w2 (fun (r15 : Value) (w3 : World) =>
  ∃ (a14 : Option Addr) (l14 : Nat) (c14 : Nat), r15 = .slice a14 l14 c14 ∧
  nn p1 (fun (q16 : Addr) =>
  ∃ (n17 : Int), w3.cell? (Addr.add q16 3) = some ((.int .i64 n17 : Value)) ∧
  inI (n17 + (((l14 : Nat) : Int))) ∧
  nn p1 (fun (q18 : Addr) =>
  stC (Addr.add q18 3) (.int .i64 (n17 + (((l14 : Nat) : Int)))) w3 (fun (w4 : World) =>
  Q (.tuple #[.slice a14 l14 c14, .int .i64 0]) w4))))))))))))
theorem C89 {p1 : Option Addr} {n2 : Int} {Q : Value → World → Prop} {w : World} (h : L89 p1 n2 Q w) : CallR Try.prog 89 [.pointer p1, .int .i64 n2] w Q :=
  fun_calls (A := A89) mixed Try.func89 (c := (Try.f89.body).getD .skip) rfl (by kernel_rfl) (Eq.mp (by kernel_rfl) h)

/-- (*millrace/memory.store).write -/
def A81 : Ann := ⟨[], [(13, [])], [], [(12, [0, 1, 2, 3, 4, 5, 6, 7, 8, 9, 10, 11, 12, 13, 14, 15])], [(13, [0, 1, 2, 3, 4, 5, 6, 7, 8, 9, 10, 11, 12, 13, 14, 15, 16, 17, 18, 19], 20, [])]⟩
def L81 (p1 : Option Addr) (a2 : Option Addr) (l2 : Nat) (c2 : Nat) (Q : Value → World → Prop) (w : World) : Prop :=
  nn p1 (fun (q3 : Addr) =>
  ∃ (b4 : Bool), w.cell? q3 = some ((.bool b4 : Value)) ∧
  cond (!b4)
  (Q (.tuple #[.int .i64 0, .int .i64 2]) w)
  (cond (decide ((((l2 : Nat) : Int)) > 1048576))
  (Q (.tuple #[.int .i64 0, .int .i64 5]) w)
  (cond ((((l2 : Nat) : Int)) == 0)
  (Q (.tuple #[.int .i64 0, .int .i64 0]) w)
  (nn p1 (fun (q6 : Addr) =>
  ∃ (n7 : Int), w.cell? (Addr.add q6 3) = some ((.int .i64 n7 : Value)) ∧
  nn p1 (fun (q8 : Addr) =>
  ∃ (n9 : Int), w.cell? (Addr.add q8 2) = some ((.int .i64 n9 : Value)) ∧
  ∀ nd5 : Nat, let w1 := World.drewN w nd5;
  cond (decide (n7 ≥ n9))
  (Q (.tuple #[.int .i64 0, .int .i64 31]) w1)
  (nn p1 (fun (q11 : Addr) =>
  ∃ (n12 : Int), w1.cell? (Addr.add q11 2) = some ((.int .i64 n12 : Value)) ∧
  nn p1 (fun (q13 : Addr) =>
  ∃ (n14 : Int), w1.cell? (Addr.add q13 3) = some ((.int .i64 n14 : Value)) ∧
  inI (n12 - n14) ∧
  ∀ nd10 : Nat, let w2 := World.drewN w1 nd10;
  ∃ (J15 : List Value → World → Prop),
  (nn p1 (fun (q16 : Addr) =>
  ∃ (n17 : Int), w2.cell? (Addr.add q16 3) = some ((.int .i64 n17 : Value)) ∧
  inI (n17 + (mn (((l2 : Nat) : Int)) (n12 - n14))) ∧
  nn p1 (fun (q18 : Addr) =>
  ∃ (a19 : Option Addr) (l19 : Nat) (c19 : Nat), w2.cell? (Addr.add q18 1) = some ((.slice a19 l19 c19 : Value)) ∧
  cond (decide ((n17 + (mn (((l2 : Nat) : Int)) (n12 - n14))) > (((l19 : Nat) : Int))))
  (let w3 := World.drew w2;
  nn p1 (fun (q20 : Addr) =>
  ∃ (a21 : Option Addr) (l21 : Nat) (c21 : Nat), w3.cell? (Addr.add q20 1) = some ((.slice a21 l21 c21 : Value)) ∧
  nn p1 (fun (q22 : Addr) =>
  ∃ (a23 : Option Addr) (l23 : Nat) (c23 : Nat), w3.cell? (Addr.add q22 1) = some ((.slice a23 l23 c23 : Value)) ∧
  inI ((n17 + (mn (((l2 : Nat) : Int)) (n12 - n14))) - (((l23 : Nat) : Int))) ∧
  ∃ (a24 : Option Addr) (l24 : Nat) (c24 : Nat) (w4 : World), Sem.run Try.prog (Builtin.append_ #[26, 3] 26 #[.slice a21 l21 c21, .int .i64 ((n17 + (mn (((l2 : Nat) : Int)) (n12 - n14))) - (((l23 : Nat) : Int)))]) w3 = .ok ((.slice a24 l24 c24 : Value)) w4 ∧
  nn p1 (fun (q25 : Addr) =>
  stC (Addr.add q25 1) (.slice a24 l24 c24) w4 (fun (w5 : World) =>
  J15 [] w5)))))
  (J15 [] w2)))) ∧
  (∀ (_ : Env) (w6 : World), J15 [] w6 →
  ∃ (S26 : World → Prop), S26 (World.drew w6) ∧
  let w7 := World.drew w6;
  nn p1 (fun (q27 : Addr) =>
  ∃ (n28 : Int), (∀ wS : World, S26 wS → wS.cell? (Addr.add q27 3) = some ((.int .i64 n28 : Value))) ∧
  nn p1 (fun (q29 : Addr) =>
  ∃ (a30 : Option Addr) (l30 : Nat) (c30 : Nat), (∀ wS : World, S26 wS → wS.cell? (Addr.add q29 1) = some ((.slice a30 l30 c30 : Value))) ∧
  nn p1 (fun (q31 : Addr) =>
  ∃ (n32 : Int), (∀ wS : World, S26 wS → wS.cell? (Addr.add q31 3) = some ((.int .i64 n32 : Value))) ∧
  (0 ≤ (n32 : Int) ∧ (n32 : Int) ≤ ((l30 : Nat) : Int)) ∧
  (0 ≤ (mn (((l2 : Nat) : Int)) (n12 - n14) : Int) ∧ (mn (((l2 : Nat) : Int)) (n12 - n14) : Int) ≤ ((c2 : Nat) : Int)) ∧
  ∃ (n33 : Int) (w8 : World), Sem.run Try.prog (Builtin.copy_ #[26, 26] 3 #[.slice (adv a30 (Int.toNat n32) c30 1) (l30 - Int.toNat n32) (c30 - Int.toNat n32), .slice a2 (Int.toNat (mn (((l2 : Nat) : Int)) (n12 - n14))) c2]) w7 = .ok ((.int .i64 n33 : Value)) w8 ∧
  S26 w8 ∧
  inI (n28 + n33) ∧
  nn p1 (fun (q34 : Addr) =>
  stC (Addr.add q34 3) (.int .i64 (n28 + n33)) w8 (fun (w9 : World) =>
  Q (.tuple #[.int .i64 (mn (((l2 : Nat) : Int)) (n12 - n14)), .int .i64 0]) w9)))))))))))))))
theorem C81 {p1 : Option Addr} {a2 : Option Addr} {l2 : Nat} {c2 : Nat} {Q : Value → World → Prop} {w : World} (h : L81 p1 a2 l2 c2 Q w) : CallR Try.prog 81 [.pointer p1, .slice a2 l2 c2] w Q :=
  fun_calls (A := A81) mixed Try.func81 (c := (Try.f81.body).getD .skip) rfl (by kernel_rfl) (Eq.mp (by kernel_rfl) h)

/-- (*millrace/memory.store).seek -/
def A90 : Ann := ⟨[], [], [], [], []⟩
def L90 (p1 : Option Addr) (n2 : Int) (n3 : Int) (Q : Value → World → Prop) (w : World) : Prop :=
  nn p1 (fun (q4 : Addr) =>
  ∃ (b5 : Bool), w.cell? q4 = some ((.bool b5 : Value)) ∧
  cond (!b5)
  (Q (.tuple #[.int .i64 0, .int .i64 2]) w)
  (cond (decide (n3 < 0))
  (Q (.tuple #[.int .i64 0, .int .i64 1]) w)
  (cond (decide (n3 > 2))
  (Q (.tuple #[.int .i64 0, .int .i64 1]) w)
  (nn p1 (fun (q7 : Addr) =>
  ∃ (n8 : Int), w.cell? (Addr.add q7 3) = some ((.int .i64 n8 : Value)) ∧
  nn p1 (fun (q9 : Addr) =>
  ∃ (a10 : Option Addr) (l10 : Nat) (c10 : Nat), w.cell? (Addr.add q9 1) = some ((.slice a10 l10 c10 : Value)) ∧
  (0 ≤ (n3 : Int) ∧ (n3 : Int) < ((3 : Nat) : Int)) ∧
  ∃ (n11 : Int), (#[.int .i64 0, .int .i64 n8, .int .i64 (((l10 : Nat) : Int))] : Array Value)[Int.toNat n3]? = some (.int .i64 n11) ∧
  ∀ nd6 : Nat, let w1 := World.drewN w nd6;
  inI ((0 : Int) - n11) ∧
  cond (decide (n2 < ((0 : Int) - n11)))
  (Q (.tuple #[.int .i64 0, .int .i64 4]) w1)
  (nn p1 (fun (q12 : Addr) =>
  ∃ (n13 : Int), w1.cell? (Addr.add q12 2) = some ((.int .i64 n13 : Value)) ∧
  inI (n13 - n11) ∧
  cond (decide (n2 > (n13 - n11)))
  (Q (.tuple #[.int .i64 0, .int .i64 4]) w1)
  (inI (n11 + n2) ∧
  nn p1 (fun (q14 : Addr) =>
  stC (Addr.add q14 3) (.int .i64 (n11 + n2)) w1 (fun (w2 : World) =>
  nn p1 (fun (q15 : Addr) =>
  ∃ (n16 : Int), w2.cell? (Addr.add q15 3) = some ((.int .i64 n16 : Value)) ∧
  Q (.tuple #[.int .i64 n16, .int .i64 0]) w2))))))))))))
theorem C90 {p1 : Option Addr} {n2 : Int} {n3 : Int} {Q : Value → World → Prop} {w : World} (h : L90 p1 n2 n3 Q w) : CallR Try.prog 90 [.pointer p1, .int .i64 n2, .int .i64 n3] w Q :=
  fun_calls (A := A90) mixed Try.func90 (c := (Try.f90.body).getD .skip) rfl (by kernel_rfl) (Eq.mp (by kernel_rfl) h)

/-- (*millrace/memory.Fixed).Read -/
def A62 : Ann := ⟨[], [], [], [], []⟩
def L62 (p1 : Option Addr) (n2 : Int) (Q : Value → World → Prop) (w : World) : Prop :=
  cond (Option.isNone p1)
  (Q (.tuple #[.slice none 0 0, .int .i64 2]) w)
  (nn p1 (fun (q3 : Addr) =>
  CallR Try.prog 89 [.pointer (some q3), .int .i64 n2] w (fun (r6 : Value) (w1 : World) =>
  ∃ (a4 : Option Addr) (l4 : Nat) (c4 : Nat) (n5 : Int), r6 = .tuple #[.slice a4 l4 c4, .int .i64 n5] ∧
  Q (.tuple #[.slice a4 l4 c4, .int .i64 n5]) w1)))
theorem C62 {p1 : Option Addr} {n2 : Int} {Q : Value → World → Prop} {w : World} (h : L62 p1 n2 Q w) : CallR Try.prog 62 [.pointer p1, .int .i64 n2] w Q :=
  fun_calls (A := A62) mixed Try.func62 (c := (Try.f62.body).getD .skip) rfl (by kernel_rfl) (Eq.mp (by kernel_rfl) h)

/-- (*millrace/memory.Fixed).Write -/
def A43 : Ann := ⟨[], [], [], [], []⟩
def L43 (p1 : Option Addr) (a2 : Option Addr) (l2 : Nat) (c2 : Nat) (Q : Value → World → Prop) (w : World) : Prop :=
  cond (Option.isNone p1)
  (Q (.tuple #[.int .i64 0, .int .i64 2]) w)
  (nn p1 (fun (q3 : Addr) =>
  CallR Try.prog 81 [.pointer (some q3), .slice a2 l2 c2] w (fun (r6 : Value) (w1 : World) =>
  ∃ (n4 : Int) (n5 : Int), r6 = .tuple #[.int .i64 n4, .int .i64 n5] ∧
  Q (.tuple #[.int .i64 n4, .int .i64 n5]) w1)))
theorem C43 {p1 : Option Addr} {a2 : Option Addr} {l2 : Nat} {c2 : Nat} {Q : Value → World → Prop} {w : World} (h : L43 p1 a2 l2 c2 Q w) : CallR Try.prog 43 [.pointer p1, .slice a2 l2 c2] w Q :=
  fun_calls (A := A43) mixed Try.func43 (c := (Try.f43.body).getD .skip) rfl (by kernel_rfl) (Eq.mp (by kernel_rfl) h)

/-- (*millrace/memory.Fixed).Seek -/
def A65 : Ann := ⟨[], [], [], [], []⟩
def L65 (p1 : Option Addr) (n2 : Int) (n3 : Int) (Q : Value → World → Prop) (w : World) : Prop :=
  cond (Option.isNone p1)
  (Q (.tuple #[.int .i64 0, .int .i64 2]) w)
  (nn p1 (fun (q4 : Addr) =>
  CallR Try.prog 90 [.pointer (some q4), .int .i64 n2, .int .i64 n3] w (fun (r7 : Value) (w1 : World) =>
  ∃ (n5 : Int) (n6 : Int), r7 = .tuple #[.int .i64 n5, .int .i64 n6] ∧
  Q (.tuple #[.int .i64 n5, .int .i64 n6]) w1)))
theorem C65 {p1 : Option Addr} {n2 : Int} {n3 : Int} {Q : Value → World → Prop} {w : World} (h : L65 p1 n2 n3 Q w) : CallR Try.prog 65 [.pointer p1, .int .i64 n2, .int .i64 n3] w Q :=
  fun_calls (A := A65) mixed Try.func65 (c := (Try.f65.body).getD .skip) rfl (by kernel_rfl) (Eq.mp (by kernel_rfl) h)

/-- (*millrace/memory.Fixed).Bytes -/
def A44 : Ann := ⟨[], [], [], [], []⟩
def L44 (p1 : Option Addr) (Q : Value → World → Prop) (w : World) : Prop :=
  cond (Option.isNone p1)
  (Q (.slice none 0 0) w)
  (nn p1 (fun (q2 : Addr) =>
  ∃ (a3 : Option Addr) (l3 : Nat) (c3 : Nat), w.cell? (Addr.add q2 1) = some ((.slice a3 l3 c3 : Value)) ∧
  CallR Try.prog 78 [.slice a3 l3 c3] w (fun (r5 : Value) (w1 : World) =>
  ∃ (a4 : Option Addr) (l4 : Nat) (c4 : Nat), r5 = .slice a4 l4 c4 ∧
  Q (.slice a4 l4 c4) w1)))
theorem C44 {p1 : Option Addr} {Q : Value → World → Prop} {w : World} (h : L44 p1 Q w) : CallR Try.prog 44 [.pointer p1] w Q :=
  fun_calls (A := A44) mixed Try.func44 (c := (Try.f44.body).getD .skip) rfl (by kernel_rfl) (Eq.mp (by kernel_rfl) h)

/-- (*millrace/memory.Growing).Read -/
def A63 : Ann := ⟨[], [], [], [], []⟩
def L63 (p1 : Option Addr) (n2 : Int) (Q : Value → World → Prop) (w : World) : Prop :=
  cond (Option.isNone p1)
  (Q (.tuple #[.slice none 0 0, .int .i64 2]) w)
  (nn p1 (fun (q3 : Addr) =>
  CallR Try.prog 89 [.pointer (some q3), .int .i64 n2] w (fun (r6 : Value) (w1 : World) =>
  ∃ (a4 : Option Addr) (l4 : Nat) (c4 : Nat) (n5 : Int), r6 = .tuple #[.slice a4 l4 c4, .int .i64 n5] ∧
  Q (.tuple #[.slice a4 l4 c4, .int .i64 n5]) w1)))
theorem C63 {p1 : Option Addr} {n2 : Int} {Q : Value → World → Prop} {w : World} (h : L63 p1 n2 Q w) : CallR Try.prog 63 [.pointer p1, .int .i64 n2] w Q :=
  fun_calls (A := A63) mixed Try.func63 (c := (Try.f63.body).getD .skip) rfl (by kernel_rfl) (Eq.mp (by kernel_rfl) h)

/-- (*millrace/memory.Growing).Write -/
def A64 : Ann := ⟨[], [], [], [], []⟩
def L64 (p1 : Option Addr) (a2 : Option Addr) (l2 : Nat) (c2 : Nat) (Q : Value → World → Prop) (w : World) : Prop :=
  cond (Option.isNone p1)
  (Q (.tuple #[.int .i64 0, .int .i64 2]) w)
  (nn p1 (fun (q3 : Addr) =>
  CallR Try.prog 81 [.pointer (some q3), .slice a2 l2 c2] w (fun (r6 : Value) (w1 : World) =>
  ∃ (n4 : Int) (n5 : Int), r6 = .tuple #[.int .i64 n4, .int .i64 n5] ∧
  Q (.tuple #[.int .i64 n4, .int .i64 n5]) w1)))
theorem C64 {p1 : Option Addr} {a2 : Option Addr} {l2 : Nat} {c2 : Nat} {Q : Value → World → Prop} {w : World} (h : L64 p1 a2 l2 c2 Q w) : CallR Try.prog 64 [.pointer p1, .slice a2 l2 c2] w Q :=
  fun_calls (A := A64) mixed Try.func64 (c := (Try.f64.body).getD .skip) rfl (by kernel_rfl) (Eq.mp (by kernel_rfl) h)

/-- (*millrace/memory.Growing).Seek -/
def A66 : Ann := ⟨[], [], [], [], []⟩
def L66 (p1 : Option Addr) (n2 : Int) (n3 : Int) (Q : Value → World → Prop) (w : World) : Prop :=
  cond (Option.isNone p1)
  (Q (.tuple #[.int .i64 0, .int .i64 2]) w)
  (nn p1 (fun (q4 : Addr) =>
  CallR Try.prog 90 [.pointer (some q4), .int .i64 n2, .int .i64 n3] w (fun (r7 : Value) (w1 : World) =>
  ∃ (n5 : Int) (n6 : Int), r7 = .tuple #[.int .i64 n5, .int .i64 n6] ∧
  Q (.tuple #[.int .i64 n5, .int .i64 n6]) w1)))
theorem C66 {p1 : Option Addr} {n2 : Int} {n3 : Int} {Q : Value → World → Prop} {w : World} (h : L66 p1 n2 n3 Q w) : CallR Try.prog 66 [.pointer p1, .int .i64 n2, .int .i64 n3] w Q :=
  fun_calls (A := A66) mixed Try.func66 (c := (Try.f66.body).getD .skip) rfl (by kernel_rfl) (Eq.mp (by kernel_rfl) h)

/-- (*millrace/memory.Growing).Bytes -/
def A67 : Ann := ⟨[], [], [], [], []⟩
def L67 (p1 : Option Addr) (Q : Value → World → Prop) (w : World) : Prop :=
  cond (Option.isNone p1)
  (Q (.slice none 0 0) w)
  (nn p1 (fun (q2 : Addr) =>
  ∃ (a3 : Option Addr) (l3 : Nat) (c3 : Nat), w.cell? (Addr.add q2 1) = some ((.slice a3 l3 c3 : Value)) ∧
  CallR Try.prog 78 [.slice a3 l3 c3] w (fun (r5 : Value) (w1 : World) =>
  ∃ (a4 : Option Addr) (l4 : Nat) (c4 : Nat), r5 = .slice a4 l4 c4 ∧
  Q (.slice a4 l4 c4) w1)))
theorem C67 {p1 : Option Addr} {Q : Value → World → Prop} {w : World} (h : L67 p1 Q w) : CallR Try.prog 67 [.pointer p1] w Q :=
  fun_calls (A := A67) mixed Try.func67 (c := (Try.f67.body).getD .skip) rfl (by kernel_rfl) (Eq.mp (by kernel_rfl) h)

/-- (*millrace/memory.Reader).Read -/
def A69 : Ann := ⟨[], [], [], [], []⟩
def L69 (p1 : Option Addr) (n2 : Int) (Q : Value → World → Prop) (w : World) : Prop :=
  cond (Option.isNone p1)
  (Q (.tuple #[.slice none 0 0, .int .i64 2]) w)
  (nn p1 (fun (q3 : Addr) =>
  CallR Try.prog 89 [.pointer (some q3), .int .i64 n2] w (fun (r6 : Value) (w1 : World) =>
  ∃ (a4 : Option Addr) (l4 : Nat) (c4 : Nat) (n5 : Int), r6 = .tuple #[.slice a4 l4 c4, .int .i64 n5] ∧
  Q (.tuple #[.slice a4 l4 c4, .int .i64 n5]) w1)))
theorem C69 {p1 : Option Addr} {n2 : Int} {Q : Value → World → Prop} {w : World} (h : L69 p1 n2 Q w) : CallR Try.prog 69 [.pointer p1, .int .i64 n2] w Q :=
  fun_calls (A := A69) mixed Try.func69 (c := (Try.f69.body).getD .skip) rfl (by kernel_rfl) (Eq.mp (by kernel_rfl) h)

/-- (*millrace/memory.Reader).Write -/
def A70 : Ann := ⟨[], [], [], [], []⟩
def L70 (p1 : Option Addr) (a2 : Option Addr) (l2 : Nat) (c2 : Nat) (Q : Value → World → Prop) (w : World) : Prop :=
  cond (Option.isNone p1)
  (Q (.tuple #[.int .i64 0, .int .i64 2]) w)
  (nn p1 (fun (q3 : Addr) =>
  ∃ (b4 : Bool), w.cell? q3 = some ((.bool b4 : Value)) ∧
  cond (!b4)
  (Q (.tuple #[.int .i64 0, .int .i64 2]) w)
  (Q (.tuple #[.int .i64 0, .int .i64 65]) w)))
theorem C70 {p1 : Option Addr} {a2 : Option Addr} {l2 : Nat} {c2 : Nat} {Q : Value → World → Prop} {w : World} (h : L70 p1 a2 l2 c2 Q w) : CallR Try.prog 70 [.pointer p1, .slice a2 l2 c2] w Q :=
  fun_calls (A := A70) mixed Try.func70 (c := (Try.f70.body).getD .skip) rfl (by kernel_rfl) (Eq.mp (by kernel_rfl) h)

/-- (*millrace/memory.Reader).Seek -/
def A91 : Ann := ⟨[], [], [], [], []⟩
def L91 (p1 : Option Addr) (n2 : Int) (n3 : Int) (Q : Value → World → Prop) (w : World) : Prop :=
  cond (Option.isNone p1)
  (Q (.tuple #[.int .i64 0, .int .i64 2]) w)
  (nn p1 (fun (q4 : Addr) =>
  CallR Try.prog 90 [.pointer (some q4), .int .i64 n2, .int .i64 n3] w (fun (r7 : Value) (w1 : World) =>
  ∃ (n5 : Int) (n6 : Int), r7 = .tuple #[.int .i64 n5, .int .i64 n6] ∧
  Q (.tuple #[.int .i64 n5, .int .i64 n6]) w1)))
theorem C91 {p1 : Option Addr} {n2 : Int} {n3 : Int} {Q : Value → World → Prop} {w : World} (h : L91 p1 n2 n3 Q w) : CallR Try.prog 91 [.pointer p1, .int .i64 n2, .int .i64 n3] w Q :=
  fun_calls (A := A91) mixed Try.func91 (c := (Try.f91.body).getD .skip) rfl (by kernel_rfl) (Eq.mp (by kernel_rfl) h)

/-- (*millrace/memory.Custom).Read -/
def A41 : Ann := ⟨[], [], [], [(11, [0, 1, 2, 3, 4, 5, 6, 7, 8, 9, 10, 11, 12, 13]), (14, [0, 1, 2, 3, 4, 5, 6, 7, 8])], []⟩
def L41 (p1 : Option Addr) (n2 : Int) (Q : Value → World → Prop) (w : World) : Prop :=
  let w1 := World.alloc w (Obj.cells #[.pointer p1] 65);
  ∃ (p3 : Option Addr), w1.cell? (Addr.mk w.heap.size 0 none) = some ((.pointer p3 : Value)) ∧
  cond (Option.isNone p3)
  (Q (.tuple #[.slice none 0 0, .int .i64 2]) w1)
  (∃ (p4 : Option Addr), w1.cell? (Addr.mk w.heap.size 0 none) = some ((.pointer p4 : Value)) ∧
  nn p4 (fun (q5 : Addr) =>
  ∃ (b6 : Bool), w1.cell? q5 = some ((.bool b6 : Value)) ∧
  cond (!b6)
  (Q (.tuple #[.slice none 0 0, .int .i64 2]) w1)
  (cond (decide (n2 < 0))
  (Q (.tuple #[.slice none 0 0, .int .i64 4]) w1)
  (cond (decide (n2 > 1048576))
  (Q (.tuple #[.slice none 0 0, .int .i64 4]) w1)
  (cond (n2 == 0)
  (Q (.tuple #[.slice none 0 0, .int .i64 0]) w1)
  (∃ (p7 : Option Addr), w1.cell? (Addr.mk w.heap.size 0 none) = some ((.pointer p7 : Value)) ∧
  nn p7 (fun (q8 : Addr) =>
  ∃ (a9 : Option Addr) (l9 : Nat) (c9 : Nat), w1.cell? (Addr.add q8 1) = some ((.slice a9 l9 c9 : Value)) ∧
  cond ((((l9 : Nat) : Int)) == 0)
  (Q (.tuple #[.slice none 0 0, .int .i64 0]) w1)
  (∃ (p10 : Option Addr), w1.cell? (Addr.mk w.heap.size 0 none) = some ((.pointer p10 : Value)) ∧
  nn p10 (fun (q11 : Addr) =>
  ∃ (a12 : Option Addr) (l12 : Nat) (c12 : Nat), w1.cell? (Addr.add q11 1) = some ((.slice a12 l12 c12 : Value)) ∧
  (0 ≤ (0 : Int) ∧ (0 : Int) < ((l12 : Nat) : Int)) ∧
  nn a12 (fun (q13 : Addr) =>
  ∃ (n14 : Int), w1.cell? (Addr.add (Addr.add q13 (Int.toNat 0 * 2)) 1) = some ((.int .i64 n14 : Value)) ∧
  cond (n14 != 0)
  (False)
  (let w2 := World.drew w1;
  ∃ (a15 : Option Addr) (l15 : Nat) (c15 : Nat), w2.cell? (Addr.add q13 (Int.toNat 0 * 2)) = some ((.slice a15 l15 c15 : Value)) ∧
  ∃ (a16 : Option Addr) (l16 : Nat) (c16 : Nat), w2.cell? (Addr.add q13 (Int.toNat 0 * 2)) = some ((.slice a16 l16 c16 : Value)) ∧
  (0 ≤ (mn n2 (((l16 : Nat) : Int)) : Int) ∧ (mn n2 (((l16 : Nat) : Int)) : Int) ≤ ((c15 : Nat) : Int)) ∧
  CallR Try.prog 78 [.slice a15 (Int.toNat (mn n2 (((l16 : Nat) : Int)))) c15] w2 (fun (r18 : Value) (w3 : World) =>
  ∃ (a17 : Option Addr) (l17 : Nat) (c17 : Nat), r18 = .slice a17 l17 c17 ∧
  ∃ (a19 : Option Addr) (l19 : Nat) (c19 : Nat), w3.cell? (Addr.add q13 (Int.toNat 0 * 2)) = some ((.slice a19 l19 c19 : Value)) ∧
  (0 ≤ (((l17 : Nat) : Int) : Int) ∧ (((l17 : Nat) : Int) : Int) ≤ ((l19 : Nat) : Int)) ∧
  stC (Addr.add q13 (Int.toNat 0 * 2)) (.slice (adv a19 (Int.toNat (((l17 : Nat) : Int))) c19 1) (l19 - Int.toNat (((l17 : Nat) : Int))) (c19 - Int.toNat (((l17 : Nat) : Int)))) w3 (fun (w4 : World) =>
  ∃ (a20 : Option Addr) (l20 : Nat) (c20 : Nat), w4.cell? (Addr.add q13 (Int.toNat 0 * 2)) = some ((.slice a20 l20 c20 : Value)) ∧
  cond ((((l20 : Nat) : Int)) == 0)
  (let w5 := World.drew w4;
  ∃ (p21 : Option Addr), w5.cell? (Addr.mk w.heap.size 0 none) = some ((.pointer p21 : Value)) ∧
  ∃ (p22 : Option Addr), w5.cell? (Addr.mk w.heap.size 0 none) = some ((.pointer p22 : Value)) ∧
  nn p22 (fun (q23 : Addr) =>
  ∃ (a24 : Option Addr) (l24 : Nat) (c24 : Nat), w5.cell? (Addr.add q23 1) = some ((.slice a24 l24 c24 : Value)) ∧
  (0 ≤ (1 : Int) ∧ (1 : Int) ≤ ((l24 : Nat) : Int)) ∧
  nn p21 (fun (q25 : Addr) =>
  stC (Addr.add q25 1) (.slice (adv a24 (Int.toNat 1) c24 2) (l24 - Int.toNat 1) (c24 - Int.toNat 1)) w5 (fun (w6 : World) =>
  Q (.tuple #[.slice a17 l17 c17, .int .i64 0]) w6))))
  (Q (.tuple #[.slice a17 l17 c17, .int .i64 0]) w4))))))))))))))
theorem C41 {p1 : Option Addr} {n2 : Int} {Q : Value → World → Prop} {w : World} (h : L41 p1 n2 Q w) : CallR Try.prog 41 [.pointer p1, .int .i64 n2] w Q :=
  fun_calls (A := A41) mixed Try.func41 (c := (Try.f41.body).getD .skip) rfl (by kernel_rfl) (Eq.mp (by kernel_rfl) h)

/-- (*millrace/memory.Custom).Write -/
def A77 : Ann := ⟨[], [(10, [(6, .one (.int .i64))])], [], [(9, [0, 1, 2, 3, 4, 5, 6, 7, 8, 9, 10, 11, 12, 13, 14, 15]), (15, [0, 1, 2, 3, 4, 5, 6, 7, 8, 9, 10, 11])], []⟩
def L77 (p1 : Option Addr) (a2 : Option Addr) (l2 : Nat) (c2 : Nat) (Q : Value → World → Prop) (w : World) : Prop :=
  cond (Option.isNone p1)
  (Q (.tuple #[.int .i64 0, .int .i64 2]) w)
  (nn p1 (fun (q3 : Addr) =>
  ∃ (b4 : Bool), w.cell? q3 = some ((.bool b4 : Value)) ∧
  cond (!b4)
  (Q (.tuple #[.int .i64 0, .int .i64 2]) w)
  (cond (decide ((((l2 : Nat) : Int)) > 1048576))
  (Q (.tuple #[.int .i64 0, .int .i64 5]) w)
  (cond ((((l2 : Nat) : Int)) == 0)
  (Q (.tuple #[.int .i64 0, .int .i64 0]) w)
  (∃ (J5 : List Value → World → Prop),
  (nn p1 (fun (q6 : Addr) =>
  ∃ (a7 : Option Addr) (l7 : Nat) (c7 : Nat), w.cell? (Addr.add q6 2) = some ((.slice a7 l7 c7 : Value)) ∧
  cond (decide ((((l7 : Nat) : Int)) > 0))
  (let w1 := World.drew w;
  nn p1 (fun (q8 : Addr) =>
  ∃ (a9 : Option Addr) (l9 : Nat) (c9 : Nat), w1.cell? (Addr.add q8 2) = some ((.slice a9 l9 c9 : Value)) ∧
  (0 ≤ (0 : Int) ∧ (0 : Int) < ((l9 : Nat) : Int)) ∧
  nn a9 (fun (q10 : Addr) =>
  ∃ (n11 : Int), w1.cell? (Addr.add q10 (Int.toNat 0)) = some ((.int .i64 n11 : Value)) ∧
  nn p1 (fun (q12 : Addr) =>
  ∃ (a13 : Option Addr) (l13 : Nat) (c13 : Nat), w1.cell? (Addr.add q12 2) = some ((.slice a13 l13 c13 : Value)) ∧
  (0 ≤ (1 : Int) ∧ (1 : Int) ≤ ((l13 : Nat) : Int)) ∧
  nn p1 (fun (q14 : Addr) =>
  stC (Addr.add q14 2) (.slice (adv a13 (Int.toNat 1) c13 1) (l13 - Int.toNat 1) (c13 - Int.toNat 1)) w1 (fun (w2 : World) =>
  J5 [.int .i64 n11] w2))))))
  (J5 [.int .i64 (((l2 : Nat) : Int))] w))) ∧
  (∀ (_ : Env) (n15 : Int) (w3 : World), J5 [.int .i64 n15] w3 →
  cond (n15 == ((-1)))
  (Q (.tuple #[.int .i64 0, .int .i64 101]) w3)
  (cond (decide (n15 < 0))
  (False)
  (let w4 := World.drew w3;
  nn p1 (fun (q16 : Addr) =>
  ∃ (a17 : Option Addr) (l17 : Nat) (c17 : Nat), w4.cell? (Addr.add q16 3) = some ((.slice a17 l17 c17 : Value)) ∧
  (0 ≤ (mn n15 (((l2 : Nat) : Int)) : Int) ∧ (mn n15 (((l2 : Nat) : Int)) : Int) ≤ ((c2 : Nat) : Int)) ∧
  ∃ (a18 : Option Addr) (l18 : Nat) (c18 : Nat) (w5 : World), Sem.run Try.prog (Builtin.append_ #[26, 26] 26 #[.slice a17 l17 c17, .slice a2 (Int.toNat (mn n15 (((l2 : Nat) : Int)))) c2]) w4 = .ok ((.slice a18 l18 c18 : Value)) w5 ∧
  nn p1 (fun (q19 : Addr) =>
  stC (Addr.add q19 3) (.slice a18 l18 c18) w5 (fun (w6 : World) =>
  Q (.tuple #[.int .i64 (mn n15 (((l2 : Nat) : Int))), .int .i64 0]) w6)))))))))))
theorem C77 {p1 : Option Addr} {a2 : Option Addr} {l2 : Nat} {c2 : Nat} {Q : Value → World → Prop} {w : World} (h : L77 p1 a2 l2 c2 Q w) : CallR Try.prog 77 [.pointer p1, .slice a2 l2 c2] w Q :=
  fun_calls (A := A77) mixed Try.func77 (c := (Try.f77.body).getD .skip) rfl (by kernel_rfl) (Eq.mp (by kernel_rfl) h)

/-- (*millrace/memory.Custom).Seek -/
def A92 : Ann := ⟨[], [], [], [], []⟩
def L92 (p1 : Option Addr) (n2 : Int) (n3 : Int) (Q : Value → World → Prop) (w : World) : Prop :=
  cond (Option.isNone p1)
  (Q (.tuple #[.int .i64 0, .int .i64 2]) w)
  (nn p1 (fun (q4 : Addr) =>
  ∃ (b5 : Bool), w.cell? q4 = some ((.bool b5 : Value)) ∧
  cond (!b5)
  (Q (.tuple #[.int .i64 0, .int .i64 2]) w)
  (Q (.tuple #[.int .i64 0, .int .i64 66]) w)))
theorem C92 {p1 : Option Addr} {n2 : Int} {n3 : Int} {Q : Value → World → Prop} {w : World} (h : L92 p1 n2 n3 Q w) : CallR Try.prog 92 [.pointer p1, .int .i64 n2, .int .i64 n3] w Q :=
  fun_calls (A := A92) mixed Try.func92 (c := (Try.f92.body).getD .skip) rfl (by kernel_rfl) (Eq.mp (by kernel_rfl) h)

/-- (*millrace/memory.Custom).Taken -/
def A93 : Ann := ⟨[], [], [], [], []⟩
def L93 (p1 : Option Addr) (Q : Value → World → Prop) (w : World) : Prop :=
  cond (Option.isNone p1)
  (Q (.slice none 0 0) w)
  (nn p1 (fun (q2 : Addr) =>
  ∃ (a3 : Option Addr) (l3 : Nat) (c3 : Nat), w.cell? (Addr.add q2 3) = some ((.slice a3 l3 c3 : Value)) ∧
  CallR Try.prog 78 [.slice a3 l3 c3] w (fun (r5 : Value) (w1 : World) =>
  ∃ (a4 : Option Addr) (l4 : Nat) (c4 : Nat), r5 = .slice a4 l4 c4 ∧
  Q (.slice a4 l4 c4) w1)))
theorem C93 {p1 : Option Addr} {Q : Value → World → Prop} {w : World} (h : L93 p1 Q w) : CallR Try.prog 93 [.pointer p1] w Q :=
  fun_calls (A := A93) mixed Try.func93 (c := (Try.f93.body).getD .skip) rfl (by kernel_rfl) (Eq.mp (by kernel_rfl) h)

/-- millrace/millraceref10.copied -/
def A82 : Ann := ⟨[], [], [], [], []⟩
def L82 (a1 : Option Addr) (l1 : Nat) (c1 : Nat) (Q : Value → World → Prop) (w : World) : Prop :=
  ∃ (a2 : Option Addr) (l2 : Nat) (c2 : Nat) (w1 : World), Sem.run Try.prog (Builtin.append_ #[26, 26] 26 #[.slice none 0 0, .slice a1 l1 c1]) w = .ok ((.slice a2 l2 c2 : Value)) w1 ∧
  Q (.slice a2 l2 c2) w1
theorem C82 {a1 : Option Addr} {l1 : Nat} {c1 : Nat} {Q : Value → World → Prop} {w : World} (h : L82 a1 l1 c1 Q w) : CallR Try.prog 82 [.slice a1 l1 c1] w Q :=
  fun_calls (A := A82) mixed Try.func82 (c := (Try.f82.body).getD .skip) rfl (by kernel_rfl) (Eq.mp (by kernel_rfl) h)

/-- millrace/millraceref10.NewFixed -/
def A45 : Ann := ⟨[], [], [], [], []⟩
def L45 (n1 : Int) (a2 : Option Addr) (l2 : Nat) (c2 : Nat) (Q : Value → World → Prop) (w : World) : Prop :=
  cond (decide (n1 < 0))
  (Q (.tuple #[.pointer none, .int .i64 4]) w)
  (cond (decide (n1 > 1048576))
  (Q (.tuple #[.pointer none, .int .i64 4]) w)
  (cond (decide ((((l2 : Nat) : Int)) > n1))
  (Q (.tuple #[.pointer none, .int .i64 5]) w)
  (CallR Try.prog 82 [.slice a2 l2 c2] w (fun (r4 : Value) (w1 : World) =>
  ∃ (a3 : Option Addr) (l3 : Nat) (c3 : Nat), r4 = .slice a3 l3 c3 ∧
  let w2 := World.alloc w1 (Obj.cells #[.int .i64 1, .slice a3 l3 c3, .int .i64 n1, .int .i64 0, .slice none 0 0, .slice none 0 0, .pointer none, .int .i64 0, .int .i64 0] 128);
  Q (.tuple #[.pointer (some (Addr.mk w1.heap.size 0 none)), .int .i64 0]) w2))))
theorem C45 {n1 : Int} {a2 : Option Addr} {l2 : Nat} {c2 : Nat} {Q : Value → World → Prop} {w : World} (h : L45 n1 a2 l2 c2 Q w) : CallR Try.prog 45 [.int .i64 n1, .slice a2 l2 c2] w Q :=
  fun_calls (A := A45) mixed Try.func45 (c := (Try.f45.body).getD .skip) rfl (by kernel_rfl) (Eq.mp (by kernel_rfl) h)

/-- millrace/millraceref10.NewGrowing -/
def A47 : Ann := ⟨[], [], [], [], []⟩
def L47 (a1 : Option Addr) (l1 : Nat) (c1 : Nat) (Q : Value → World → Prop) (w : World) : Prop :=
  cond (decide ((((l1 : Nat) : Int)) > 1048576))
  (Q (.tuple #[.pointer none, .int .i64 5]) w)
  (CallR Try.prog 82 [.slice a1 l1 c1] w (fun (r3 : Value) (w1 : World) =>
  ∃ (a2 : Option Addr) (l2 : Nat) (c2 : Nat), r3 = .slice a2 l2 c2 ∧
  let w2 := World.alloc w1 (Obj.cells #[.int .i64 2, .slice a2 l2 c2, .int .i64 1048576, .int .i64 0, .slice none 0 0, .slice none 0 0, .pointer none, .int .i64 0, .int .i64 0] 128);
  Q (.tuple #[.pointer (some (Addr.mk w1.heap.size 0 none)), .int .i64 0]) w2))
theorem C47 {a1 : Option Addr} {l1 : Nat} {c1 : Nat} {Q : Value → World → Prop} {w : World} (h : L47 a1 l1 c1 Q w) : CallR Try.prog 47 [.slice a1 l1 c1] w Q :=
  fun_calls (A := A47) mixed Try.func47 (c := (Try.f47.body).getD .skip) rfl (by kernel_rfl) (Eq.mp (by kernel_rfl) h)

/-- millrace/millraceref10.NewReader -/
def A49 : Ann := ⟨[], [], [], [], []⟩
def L49 (a1 : Option Addr) (l1 : Nat) (c1 : Nat) (Q : Value → World → Prop) (w : World) : Prop :=
  cond (decide ((((l1 : Nat) : Int)) > 1048576))
  (Q (.tuple #[.pointer none, .int .i64 5]) w)
  (CallR Try.prog 82 [.slice a1 l1 c1] w (fun (r3 : Value) (w1 : World) =>
  ∃ (a2 : Option Addr) (l2 : Nat) (c2 : Nat), r3 = .slice a2 l2 c2 ∧
  let w2 := World.alloc w1 (Obj.cells #[.int .i64 3, .slice a2 l2 c2, .int .i64 (((l1 : Nat) : Int)), .int .i64 0, .slice none 0 0, .slice none 0 0, .pointer none, .int .i64 0, .int .i64 0] 128);
  Q (.tuple #[.pointer (some (Addr.mk w1.heap.size 0 none)), .int .i64 0]) w2))
theorem C49 {a1 : Option Addr} {l1 : Nat} {c1 : Nat} {Q : Value → World → Prop} {w : World} (h : L49 a1 l1 c1 Q w) : CallR Try.prog 49 [.slice a1 l1 c1] w Q :=
  fun_calls (A := A49) mixed Try.func49 (c := (Try.f49.body).getD .skip) rfl (by kernel_rfl) (Eq.mp (by kernel_rfl) h)

/-- millrace/millraceref10.NewCustom -/
def A51 : Ann := ⟨[(5, [(7, .one (.int .i64))])], [], [], [], [(9, [0, 1, 2, 3, 4, 5, 6, 7, 8, 9, 11, 12, 13, 14, 15, 10, 16, 17], 18, [19, 20, 21])]⟩
def L51 (a1 : Option Addr) (l1 : Nat) (c1 : Nat) (a2 : Option Addr) (l2 : Nat) (c2 : Nat) (Q : Value → World → Prop) (w : World) : Prop :=
  cond (decide ((((l1 : Nat) : Int)) > 4096))
  (Q (.tuple #[.pointer none, .int .i64 3]) w)
  (cond (decide ((((l2 : Nat) : Int)) > 4096))
  (Q (.tuple #[.pointer none, .int .i64 3]) w)
  (let w1 := World.alloc w (Obj.cells #[.int .i64 4, .slice none 0 0, .int .i64 0, .int .i64 0, .slice none 0 0, .slice none 0 0, .pointer none, .int .i64 0, .int .i64 0] 128);
  ∃ (I3 : List Value → World → Prop) (mu4 : List Value → World → Nat),
  I3 [.int .i64 0] w1 ∧
  ∀ (_ : Env) (n5 : Int) (w2 : World), I3 [.int .i64 n5] w2 →
  cond (decide (n5 < (((l1 : Nat) : Int))))
  ((0 ≤ (n5 : Int) ∧ (n5 : Int) < ((l1 : Nat) : Int)) ∧
  nn a1 (fun (q6 : Addr) =>
  ∃ (a7 : Option Addr) (l7 : Nat) (c7 : Nat), w2.cell? (Addr.add q6 (Int.toNat n5 * 2)) = some ((.slice a7 l7 c7 : Value)) ∧
  cond (decide ((((l7 : Nat) : Int)) > 1048576))
  (Q (.tuple #[.pointer none, .int .i64 5]) w2)
  (∃ (S8 : World → Prop), S8 (World.drew w2) ∧
  let w3 := World.drew w2;
  ∃ (a9 : Option Addr) (l9 : Nat) (c9 : Nat), (∀ wS : World, S8 wS → wS.cell? (Addr.mk w.heap.size 4 none) = some ((.slice a9 l9 c9 : Value))) ∧
  (0 ≤ (n5 : Int) ∧ (n5 : Int) < ((l1 : Nat) : Int)) ∧
  nn a1 (fun (q10 : Addr) =>
  ∃ (a11 : Option Addr) (l11 : Nat) (c11 : Nat), (∀ wS : World, S8 wS → wS.cell? (Addr.add q10 (Int.toNat n5 * 2)) = some ((.slice a11 l11 c11 : Value))) ∧
  (0 ≤ (n5 : Int) ∧ (n5 : Int) < ((l1 : Nat) : Int)) ∧
  nn a1 (fun (q12 : Addr) =>
  ∃ (n13 : Int), (∀ wS : World, S8 wS → wS.cell? (Addr.add (Addr.add q12 (Int.toNat n5 * 2)) 1) = some ((.int .i64 n13 : Value))) ∧
  CallR Try.prog 82 [.slice a11 l11 c11] w3 (fun (r15 : Value) (w4 : World) =>
  ∃ (a14 : Option Addr) (l14 : Nat) (c14 : Nat), r15 = .slice a14 l14 c14 ∧
  S8 w4 ∧
  let w5 := World.alloc w4 (Obj.cells #[.slice a14 l14 c14, .int .i64 n13] 129);
  S8 w5 ∧
  ∃ (a16 : Option Addr) (l16 : Nat) (c16 : Nat) (w6 : World), Sem.run Try.prog (Builtin.append_ #[74, 74] 74 #[.slice a9 l9 c9, .slice (some (Addr.mk w4.heap.size 0 none)) 1 1]) w5 = .ok ((.slice a16 l16 c16 : Value)) w6 ∧
  stC (Addr.mk w.heap.size 4 none) (.slice a16 l16 c16) w6 (fun (w7 : World) =>
  inI (n5 + 1) ∧
  I3 [.int .i64 (n5 + 1)] w7 ∧ mu4 [.int .i64 (n5 + 1)] w7 < mu4 [.int .i64 n5] w2)))))))
  (∃ (a17 : Option Addr) (l17 : Nat) (c17 : Nat), w2.cell? (Addr.mk w.heap.size 5 none) = some ((.slice a17 l17 c17 : Value)) ∧
  ∃ (a18 : Option Addr) (l18 : Nat) (c18 : Nat) (w8 : World), Sem.run Try.prog (Builtin.append_ #[75, 75] 75 #[.slice a17 l17 c17, .slice a2 l2 c2]) w2 = .ok ((.slice a18 l18 c18 : Value)) w8 ∧
  stC (Addr.mk w.heap.size 5 none) (.slice a18 l18 c18) w8 (fun (w9 : World) =>
  Q (.tuple #[.pointer (some (Addr.mk w.heap.size 0 none)), .int .i64 0]) w9))))
theorem C51 {a1 : Option Addr} {l1 : Nat} {c1 : Nat} {a2 : Option Addr} {l2 : Nat} {c2 : Nat} {Q : Value → World → Prop} {w : World} (h : L51 a1 l1 c1 a2 l2 c2 Q w) : CallR Try.prog 51 [.slice a1 l1 c1, .slice a2 l2 c2] w Q :=
  fun_calls (A := A51) mixed Try.func51 (c := (Try.f51.body).getD .skip) rfl (by kernel_rfl) (Eq.mp (by kernel_rfl) h)

end Go.Proofs.Ytmpmobhofdefeaa
