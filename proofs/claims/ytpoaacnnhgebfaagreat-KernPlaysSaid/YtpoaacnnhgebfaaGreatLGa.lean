/-
  What some functions of the program ask of the world, printed by a program out of the loaded program; each text is held against the code by evaluation. Conditions: none.
-/
import Derived.Test.YtpoaacnnhgebfaaGreatProg
import Derived.Test.YtpoaacnnhgebfaaGreatLm
import Derived.Test.YtpoaacnnhgebfaaGreatLX
import Derived.Test.YtpoaacnnhgebfaaGreatRf
set_option linter.unusedVariables false
set_option maxRecDepth 100000
namespace Go.Proofs.YtpoaacnnhgebfaaGreat
open Go.Lw
/-- millrace/millraceref02.may -/
def A158 : Ann := ⟨[], [], [], [], [], []⟩
def L158 (n1 : Int) (n2 : Int) (Q : Value → World → Prop) (w : World) : Prop :=
  let w1 := World.alloc w (Obj.cells #[.int .i64 n1, .int .i64 n2] 188);
  ∃ (n3 : Int), w1.cell? (Addr.mk w.heap.size 0 none) = some ((.int .i64 n3 : Value)) ∧
  cond (n3 == 1)
  (∃ (n4 : Int), w1.cell? (Addr.mk w.heap.size 1 none) = some ((.int .i64 n4 : Value)) ∧
  cond (decide (n4 ≥ 1))
  (∃ (n5 : Int), w1.cell? (Addr.mk w.heap.size 1 none) = some ((.int .i64 n5 : Value)) ∧
  Q (.bool (decide (n5 ≤ 1048576))) w1)
  (Q (.bool false) w1))
  (∃ (n6 : Int), w1.cell? (Addr.mk w.heap.size 0 none) = some ((.int .i64 n6 : Value)) ∧
  cond (decide (n6 ≥ 0))
  (∃ (n7 : Int), w1.cell? (Addr.mk w.heap.size 0 none) = some ((.int .i64 n7 : Value)) ∧
  cond (decide (n7 ≤ 3))
  (∃ (n8 : Int), w1.cell? (Addr.mk w.heap.size 1 none) = some ((.int .i64 n8 : Value)) ∧
  Q (.bool (n8 == 0)) w1)
  (Q (.bool false) w1))
  (Q (.bool false) w1))
theorem C158 {n1 : Int} {n2 : Int} {Q : Value → World → Prop} {w : World} (h : L158 n1 n2 Q w) : CallR Tryz.prog 158 [.agg #[.int .i64 n1, .int .i64 n2]] w Q :=
  fun_calls (A := A158) mixed Tryz.func158 (c := (Tryz.f158.body).getD .skip) rfl (by kernel_rfl) (Eq.mp (by kernel_rfl) h)

/-- millrace/millraceref02.Check -/
def A59 : Ann := ⟨[(4, [(4, .one (.int .i64))])], [], [], [], [], []⟩
def L59 (a1 : Option Addr) (l1 : Nat) (c1 : Nat) (Q : Value → World → Prop) (w : World) : Prop :=
  cond (decide ((((l1 : Nat) : Int)) > 4096))
  (Q (.tuple #[.int .i64 3, .int .i64 0]) w)
  (∃ (I2 : List Value → World → Prop) (mu3 : List Value → World → Nat),
  I2 [.int .i64 0] w ∧
  ∀ (_ : Env) (n4 : Int) (w1 : World), I2 [.int .i64 n4] w1 →
  cond (decide (n4 < (((l1 : Nat) : Int))))
  ((0 ≤ (n4 : Int) ∧ (n4 : Int) < ((l1 : Nat) : Int)) ∧
  nn a1 (fun (q5 : Addr) =>
  ∃ (n6 : Int) (n7 : Int), w1.cell? (Addr.add q5 (Int.toNat n4 * 2)) = some ((.int .i64 n6 : Value)) ∧ w1.cell? (Addr.add (Addr.add q5 (Int.toNat n4 * 2)) 1) = some ((.int .i64 n7 : Value)) ∧ 
  CallR Tryz.prog 158 [.agg #[.int .i64 n6, .int .i64 n7]] w1 (fun (r9 : Value) (w2 : World) =>
  ∃ (b8 : Bool), r9 = .bool b8 ∧
  cond (!b8)
  (Q (.tuple #[.int .i64 21, .int .i64 n4]) w2)
  (inI (n4 + 1) ∧
  I2 [.int .i64 (n4 + 1)] w2 ∧ mu3 [.int .i64 (n4 + 1)] w2 < mu3 [.int .i64 n4] w1))))
  (Q (.tuple #[.int .i64 0, .int .i64 (((l1 : Nat) : Int))]) w1))
theorem C59 {a1 : Option Addr} {l1 : Nat} {c1 : Nat} {Q : Value → World → Prop} {w : World} (h : L59 a1 l1 c1 Q w) : CallR Tryz.prog 59 [.slice a1 l1 c1] w Q :=
  fun_calls (A := A59) mixed Tryz.func59 (c := (Tryz.f59.body).getD .skip) rfl (by kernel_rfl) (Eq.mp (by kernel_rfl) h)

/-- (*millrace/millraceref02.Plan).Next -/
def A170 : Ann := ⟨[], [], [], [], [], []⟩
def L170 (p1 : Option Addr) (n2 : Int) (Q : Value → World → Prop) (w : World) : Prop :=
  cond (decide (n2 < 1))
  (Q (.tuple #[.int .i64 0, .int .i64 4]) w)
  (cond (decide (n2 > 1048576))
  (Q (.tuple #[.int .i64 0, .int .i64 4]) w)
  (nn p1 (fun (q3 : Addr) =>
  ∃ (a4 : Option Addr) (l4 : Nat) (c4 : Nat), w.cell? q3 = some ((.slice a4 l4 c4 : Value)) ∧
  cond ((((l4 : Nat) : Int)) == 0)
  (Q (.tuple #[.int .i64 n2, .int .i64 0]) w)
  (nn p1 (fun (q5 : Addr) =>
  ∃ (a6 : Option Addr) (l6 : Nat) (c6 : Nat), w.cell? q5 = some ((.slice a6 l6 c6 : Value)) ∧
  (0 ≤ (0 : Int) ∧ (0 : Int) < ((l6 : Nat) : Int)) ∧
  nn a6 (fun (q7 : Addr) =>
  ∃ (n8 : Int) (n9 : Int), w.cell? (Addr.add q7 (Int.toNat 0 * 2)) = some ((.int .i64 n8 : Value)) ∧ w.cell? (Addr.add (Addr.add q7 (Int.toNat 0 * 2)) 1) = some ((.int .i64 n9 : Value)) ∧ 
  let w1 := World.alloc w (Obj.cells #[.int .i64 0, .int .i64 0] 188);
  stC (Addr.mk w.heap.size 0 none) (.int .i64 n8) w1 (fun (w2 : World) =>
  stC (Addr.mk w.heap.size 1 none) (.int .i64 n9) w2 (fun (w3 : World) =>
  nn p1 (fun (q10 : Addr) =>
  ∃ (a11 : Option Addr) (l11 : Nat) (c11 : Nat), w3.cell? q10 = some ((.slice a11 l11 c11 : Value)) ∧
  (0 ≤ (1 : Int) ∧ (1 : Int) ≤ ((l11 : Nat) : Int)) ∧
  nn p1 (fun (q12 : Addr) =>
  stC q12 (.slice (adv a11 (Int.toNat 1) c11 2) (l11 - Int.toNat 1) (c11 - Int.toNat 1)) w3 (fun (w4 : World) =>
  ∃ (n13 : Int), w4.cell? (Addr.mk w.heap.size 0 none) = some ((.int .i64 n13 : Value)) ∧
  cond (n13 == 1)
  (∃ (n14 : Int), w4.cell? (Addr.mk w.heap.size 1 none) = some ((.int .i64 n14 : Value)) ∧
  Q (.tuple #[.int .i64 (mn n2 n14), .int .i64 0]) w4)
  (cond (n13 == 2)
  (Q (.tuple #[.int .i64 0, .int .i64 22]) w4)
  (cond (n13 == 3)
  (Q (.tuple #[.int .i64 0, .int .i64 23]) w4)
  (Q (.tuple #[.int .i64 n2, .int .i64 0]) w4))))))))))))))
theorem C170 {p1 : Option Addr} {n2 : Int} {Q : Value → World → Prop} {w : World} (h : L170 p1 n2 Q w) : CallR Tryz.prog 170 [.pointer p1, .int .i64 n2] w Q :=
  fun_calls (A := A170) mixed Tryz.func170 (c := (Tryz.f170.body).getD .skip) rfl (by kernel_rfl) (Eq.mp (by kernel_rfl) h)

/-- millrace/millraceref03.New -/
def A127 : Ann := ⟨[], [], [], [], [], []⟩
def L127 (a1 : Option Addr) (l1 : Nat) (c1 : Nat) (Q : Value → World → Prop) (w : World) : Prop :=
  cond (decide ((((l1 : Nat) : Int)) > 1048576))
  (Q (.tuple #[.pointer none, .int .i64 5]) w)
  (let w1 := World.alloc w (Obj.cells #[.slice none 0 0] 215);
  ∃ (a2 : Option Addr) (l2 : Nat) (c2 : Nat), w1.cell? (Addr.mk w.heap.size 0 none) = some ((.slice a2 l2 c2 : Value)) ∧
  ∃ (a3 : Option Addr) (l3 : Nat) (c3 : Nat) (w2 : World), Sem.run Tryz.prog (Builtin.append_ #[40, 40] 40 #[.slice a2 l2 c2, .slice a1 l1 c1]) w1 = .ok ((.slice a3 l3 c3 : Value)) w2 ∧
  stC (Addr.mk w.heap.size 0 none) (.slice a3 l3 c3) w2 (fun (w3 : World) =>
  Q (.tuple #[.pointer (some (Addr.mk w.heap.size 0 none)), .int .i64 0]) w3))
theorem C127 {a1 : Option Addr} {l1 : Nat} {c1 : Nat} {Q : Value → World → Prop} {w : World} (h : L127 a1 l1 c1 Q w) : CallR Tryz.prog 127 [.slice a1 l1 c1] w Q :=
  fun_calls (A := A127) mixed Tryz.func127 (c := (Tryz.f127.body).getD .skip) rfl (by kernel_rfl) (Eq.mp (by kernel_rfl) h)

/-- millrace/millraceref03.within -/
def A205 : Ann := ⟨[], [], [], [], [], []⟩
def L205 (n1 : Int) (Q : Value → World → Prop) (w : World) : Prop :=
  cond (decide (n1 ≥ 0))
  (Q (.bool (decide (n1 ≤ 1048576))) w)
  (Q (.bool false) w)
theorem C205 {n1 : Int} {Q : Value → World → Prop} {w : World} (h : L205 n1 Q w) : CallR Tryz.prog 205 [.int .i64 n1] w Q :=
  fun_calls (A := A205) mixed Tryz.func205 (c := (Tryz.f205.body).getD .skip) rfl (by kernel_rfl) (Eq.mp (by kernel_rfl) h)

/-- millrace/millraceref03.Piece -/
def A148 : Ann := ⟨[], [], [], [], [], []⟩
def L148 (a1 : Option Addr) (l1 : Nat) (c1 : Nat) (n2 : Int) (n3 : Int) (Q : Value → World → Prop) (w : World) : Prop :=
  cond (decide (n2 ≥ (((l1 : Nat) : Int))))
  (Q (.slice none 0 0) w)
  (inI ((((l1 : Nat) : Int)) - n2) ∧
  inI (n2 + (mn n3 ((((l1 : Nat) : Int)) - n2))) ∧
  (0 ≤ (n2 + (mn n3 ((((l1 : Nat) : Int)) - n2)) : Int) ∧ (n2 + (mn n3 ((((l1 : Nat) : Int)) - n2)) : Int) ≤ ((c1 : Nat) : Int)) ∧
  (0 ≤ (n2 : Int) ∧ (n2 : Int) ≤ ((Int.toNat (n2 + (mn n3 ((((l1 : Nat) : Int)) - n2))) : Nat) : Int)) ∧
  ∃ (a4 : Option Addr) (l4 : Nat) (c4 : Nat) (w1 : World), Sem.run Tryz.prog (Builtin.append_ #[40, 40] 40 #[.slice none 0 0, .slice (adv a1 (Int.toNat n2) c1 1) (Int.toNat (n2 + (mn n3 ((((l1 : Nat) : Int)) - n2))) - Int.toNat n2) (c1 - Int.toNat n2)]) w = .ok ((.slice a4 l4 c4 : Value)) w1 ∧
  Q (.slice a4 l4 c4) w1)
theorem C148 {a1 : Option Addr} {l1 : Nat} {c1 : Nat} {n2 : Int} {n3 : Int} {Q : Value → World → Prop} {w : World} (h : L148 a1 l1 c1 n2 n3 Q w) : CallR Tryz.prog 148 [.slice a1 l1 c1, .int .i64 n2, .int .i64 n3] w Q :=
  fun_calls (A := A148) mixed Tryz.func148 (c := (Tryz.f148.body).getD .skip) rfl (by kernel_rfl) (Eq.mp (by kernel_rfl) h)

/-- millrace/millraceref03.Lay -/
def A150 : Ann := ⟨[(1, [(0, .one (.slice))]), (4, [(0, .one (.slice)), (7, .one (.int .i64))])], [], [], [], [], []⟩
def L150 (a1 : Option Addr) (l1 : Nat) (c1 : Nat) (n2 : Int) (a3 : Option Addr) (l3 : Nat) (c3 : Nat) (Q : Value → World → Prop) (w : World) : Prop :=
  ∃ (I4 : List Value → World → Prop) (mu5 : List Value → World → Nat),
  I4 [.slice a1 l1 c1] w ∧
  ∀ (_ : Env) (a6 : Option Addr) (l6 : Nat) (c6 : Nat) (w1 : World), I4 [.slice a6 l6 c6] w1 →
  cond (decide ((((l6 : Nat) : Int)) < n2))
  (let w2 := World.alloc w1 (Obj.cells #[.int .u8 0] 5);
  ∃ (a7 : Option Addr) (l7 : Nat) (c7 : Nat) (w3 : World), Sem.run Tryz.prog (Builtin.append_ #[40, 40] 40 #[.slice a6 l6 c6, .slice (some (Addr.mk w1.heap.size 0 none)) 1 1]) w2 = .ok ((.slice a7 l7 c7 : Value)) w3 ∧
  I4 [.slice a7 l7 c7] w3 ∧ mu5 [.slice a7 l7 c7] w3 < mu5 [.slice a6 l6 c6] w1)
  (∃ (I8 : List Value → World → Prop) (mu9 : List Value → World → Nat),
  I8 [.slice a6 l6 c6, .int .i64 0] w1 ∧
  ∀ (_ : Env) (a10 : Option Addr) (l10 : Nat) (c10 : Nat) (n11 : Int) (w4 : World), I8 [.slice a10 l10 c10, .int .i64 n11] w4 →
  cond (decide (n11 < (((l3 : Nat) : Int))))
  (inI (n2 + n11) ∧
  cond (decide ((n2 + n11) < (((l10 : Nat) : Int))))
  (inI (n2 + n11) ∧
  (0 ≤ (n11 : Int) ∧ (n11 : Int) < ((l3 : Nat) : Int)) ∧
  nn a3 (fun (q12 : Addr) =>
  ∃ (n13 : Int), w4.cell? (Addr.add q12 (Int.toNat n11)) = some ((.int .u8 n13 : Value)) ∧
  (0 ≤ (n2 + n11 : Int) ∧ (n2 + n11 : Int) < ((l10 : Nat) : Int)) ∧
  nn a10 (fun (q14 : Addr) =>
  stC (Addr.add q14 (Int.toNat (n2 + n11))) (.int .u8 n13) w4 (fun (w5 : World) =>
  inI (n11 + 1) ∧
  I8 [.slice a10 l10 c10, .int .i64 (n11 + 1)] w5 ∧ mu9 [.slice a10 l10 c10, .int .i64 (n11 + 1)] w5 < mu9 [.slice a10 l10 c10, .int .i64 n11] w4))))
  ((0 ≤ (n11 : Int) ∧ (n11 : Int) < ((l3 : Nat) : Int)) ∧
  nn a3 (fun (q15 : Addr) =>
  ∃ (n16 : Int), w4.cell? (Addr.add q15 (Int.toNat n11)) = some ((.int .u8 n16 : Value)) ∧
  let w6 := World.alloc w4 (Obj.cells #[.int .u8 n16] 5);
  ∃ (a17 : Option Addr) (l17 : Nat) (c17 : Nat) (w7 : World), Sem.run Tryz.prog (Builtin.append_ #[40, 40] 40 #[.slice a10 l10 c10, .slice (some (Addr.mk w4.heap.size 0 none)) 1 1]) w6 = .ok ((.slice a17 l17 c17 : Value)) w7 ∧
  inI (n11 + 1) ∧
  I8 [.slice a17 l17 c17, .int .i64 (n11 + 1)] w7 ∧ mu9 [.slice a17 l17 c17, .int .i64 (n11 + 1)] w7 < mu9 [.slice a10 l10 c10, .int .i64 n11] w4)))
  (Q (.slice a10 l10 c10) w4))
theorem C150 {a1 : Option Addr} {l1 : Nat} {c1 : Nat} {n2 : Int} {a3 : Option Addr} {l3 : Nat} {c3 : Nat} {Q : Value → World → Prop} {w : World} (h : L150 a1 l1 c1 n2 a3 l3 c3 Q w) : CallR Tryz.prog 150 [.slice a1 l1 c1, .int .i64 n2, .slice a3 l3 c3] w Q :=
  fun_calls (A := A150) mixed Tryz.func150 (c := (Tryz.f150.body).getD .skip) rfl (by kernel_rfl) (Eq.mp (by kernel_rfl) h)

/-- (*millrace/millraceref03.File).WriteAt -/
def A177 : Ann := ⟨[], [], [], [], [], []⟩
def L177 (p1 : Option Addr) (n2 : Int) (a3 : Option Addr) (l3 : Nat) (c3 : Nat) (Q : Value → World → Prop) (w : World) : Prop :=
  CallR Tryz.prog 205 [.int .i64 n2] w (fun (r5 : Value) (w1 : World) =>
  ∃ (b4 : Bool), r5 = .bool b4 ∧
  cond (!b4)
  (Q (.int .i64 4) w1)
  (inI ((1048576 : Int) - n2) ∧
  cond (decide ((((l3 : Nat) : Int)) > ((1048576 : Int) - n2)))
  (Q (.int .i64 31) w1)
  (cond (decide ((((l3 : Nat) : Int)) > 0))
  (nn p1 (fun (q6 : Addr) =>
  ∃ (a7 : Option Addr) (l7 : Nat) (c7 : Nat), w1.cell? q6 = some ((.slice a7 l7 c7 : Value)) ∧
  CallR Tryz.prog 150 [.slice a7 l7 c7, .int .i64 n2, .slice a3 l3 c3] w1 (fun (r9 : Value) (w2 : World) =>
  ∃ (a8 : Option Addr) (l8 : Nat) (c8 : Nat), r9 = .slice a8 l8 c8 ∧
  nn p1 (fun (q10 : Addr) =>
  stC q10 (.slice a8 l8 c8) w2 (fun (w3 : World) =>
  Q (.int .i64 0) w3)))))
  (Q (.int .i64 0) w1))))
theorem C177 {p1 : Option Addr} {n2 : Int} {a3 : Option Addr} {l3 : Nat} {c3 : Nat} {Q : Value → World → Prop} {w : World} (h : L177 p1 n2 a3 l3 c3 Q w) : CallR Tryz.prog 177 [.pointer p1, .int .i64 n2, .slice a3 l3 c3] w Q :=
  fun_calls (A := A177) mixed Tryz.func177 (c := (Tryz.f177.body).getD .skip) rfl (by kernel_rfl) (Eq.mp (by kernel_rfl) h)

/-- millrace/millraceref04.Check -/
def A58 : Ann := ⟨[(4, [(3, .one (.int .i64))])], [], [], [], [], []⟩
def L58 (a1 : Option Addr) (l1 : Nat) (c1 : Nat) (Q : Value → World → Prop) (w : World) : Prop :=
  cond (decide ((((l1 : Nat) : Int)) > 256))
  (Q (.int .i64 3) w)
  (∃ (I2 : List Value → World → Prop) (mu3 : List Value → World → Nat),
  I2 [.int .i64 0] w ∧
  ∀ (_ : Env) (n4 : Int) (w1 : World), I2 [.int .i64 n4] w1 →
  cond (decide (n4 < (((l1 : Nat) : Int))))
  ((0 ≤ (n4 : Int) ∧ (n4 : Int) < ((l1 : Nat) : Int)) ∧
  nn a1 (fun (q5 : Addr) =>
  ∃ (a6 : Option Addr) (l6 : Nat) (c6 : Nat), w1.cell? (Addr.add q5 (Int.toNat n4)) = some ((.slice a6 l6 c6 : Value)) ∧
  cond (decide ((((l6 : Nat) : Int)) > 4096))
  (Q (.int .i64 5) w1)
  (inI (n4 + 1) ∧
  I2 [.int .i64 (n4 + 1)] w1 ∧ mu3 [.int .i64 (n4 + 1)] w1 < mu3 [.int .i64 n4] w1)))
  (Q (.int .i64 0) w1))
theorem C58 {a1 : Option Addr} {l1 : Nat} {c1 : Nat} {Q : Value → World → Prop} {w : World} (h : L58 a1 l1 c1 Q w) : CallR Tryz.prog 58 [.slice a1 l1 c1] w Q :=
  fun_calls (A := A58) mixed Tryz.func58 (c := (Tryz.f58.body).getD .skip) rfl (by kernel_rfl) (Eq.mp (by kernel_rfl) h)

/-- millrace/millraceref04.New -/
def A159 : Ann := ⟨[(6, [(6, .one (.int .i64))])], [], [], [], [(9, [0, 1, 2, 3, 4, 5, 6, 7, 8, 9, 10, 11], 12, [13, 14, 15])], []⟩
def L159 (a1 : Option Addr) (l1 : Nat) (c1 : Nat) (Q : Value → World → Prop) (w : World) : Prop :=
  CallR Tryz.prog 58 [.slice a1 l1 c1] w (fun (r3 : Value) (w1 : World) =>
  ∃ (n2 : Int), r3 = .int .i64 n2 ∧
  cond (n2 != 0)
  (Q (.tuple #[.pointer none, .int .i64 n2]) w1)
  (let w2 := World.alloc w1 (Obj.cells #[.slice none 0 0, .slice none 0 0] 282);
  ∃ (I4 : List Value → World → Prop) (mu5 : List Value → World → Nat),
  I4 [.int .i64 0] w2 ∧
  ∀ (_ : Env) (n6 : Int) (w3 : World), I4 [.int .i64 n6] w3 →
  cond (decide (n6 < (((l1 : Nat) : Int))))
  (∃ (S7 : World → Prop), S7 (World.drew w3) ∧
  let w4 := World.drew w3;
  ∃ (a8 : Option Addr) (l8 : Nat) (c8 : Nat), (∀ wS : World, S7 wS → wS.cell? (Addr.mk w1.heap.size 0 none) = some ((.slice a8 l8 c8 : Value))) ∧
  (0 ≤ (n6 : Int) ∧ (n6 : Int) < ((l1 : Nat) : Int)) ∧
  nn a1 (fun (q9 : Addr) =>
  ∃ (a10 : Option Addr) (l10 : Nat) (c10 : Nat), (∀ wS : World, S7 wS → wS.cell? (Addr.add q9 (Int.toNat n6)) = some ((.slice a10 l10 c10 : Value))) ∧
  ∃ (a11 : Option Addr) (l11 : Nat) (c11 : Nat) (w5 : World), Sem.run Tryz.prog (Builtin.append_ #[40, 40] 40 #[.slice none 0 0, .slice a10 l10 c10]) w4 = .ok ((.slice a11 l11 c11 : Value)) w5 ∧
  S7 w5 ∧
  let w6 := World.alloc w5 (Obj.cells #[.slice a11 l11 c11] 40);
  S7 w6 ∧
  ∃ (a12 : Option Addr) (l12 : Nat) (c12 : Nat) (w7 : World), Sem.run Tryz.prog (Builtin.append_ #[84, 84] 84 #[.slice a8 l8 c8, .slice (some (Addr.mk w5.heap.size 0 none)) 1 1]) w6 = .ok ((.slice a12 l12 c12 : Value)) w7 ∧
  stC (Addr.mk w1.heap.size 0 none) (.slice a12 l12 c12) w7 (fun (w8 : World) =>
  inI (n6 + 1) ∧
  I4 [.int .i64 (n6 + 1)] w8 ∧ mu5 [.int .i64 (n6 + 1)] w8 < mu5 [.int .i64 n6] w3)))
  (Q (.tuple #[.pointer (some (Addr.mk w1.heap.size 0 none)), .int .i64 0]) w3)))
theorem C159 {a1 : Option Addr} {l1 : Nat} {c1 : Nat} {Q : Value → World → Prop} {w : World} (h : L159 a1 l1 c1 Q w) : CallR Tryz.prog 159 [.slice a1 l1 c1] w Q :=
  fun_calls (A := A159) mixed Tryz.func159 (c := (Tryz.f159.body).getD .skip) rfl (by kernel_rfl) (Eq.mp (by kernel_rfl) h)

/-- (*millrace/millraceref04.Terminal).Read -/
def A171 : Ann := ⟨[], [], [], [(9, [0, 1, 2, 3, 4, 5, 6, 7, 8])], [], []⟩
def L171 (p1 : Option Addr) (n2 : Int) (Q : Value → World → Prop) (w : World) : Prop :=
  cond (decide (n2 < 1))
  (Q (.tuple #[.slice none 0 0, .int .i64 4]) w)
  (cond (decide (n2 > 1048576))
  (Q (.tuple #[.slice none 0 0, .int .i64 4]) w)
  (nn p1 (fun (q3 : Addr) =>
  ∃ (a4 : Option Addr) (l4 : Nat) (c4 : Nat), w.cell? q3 = some ((.slice a4 l4 c4 : Value)) ∧
  cond ((((l4 : Nat) : Int)) == 0)
  (Q (.tuple #[.slice none 0 0, .int .i64 0]) w)
  (nn p1 (fun (q5 : Addr) =>
  ∃ (a6 : Option Addr) (l6 : Nat) (c6 : Nat), w.cell? q5 = some ((.slice a6 l6 c6 : Value)) ∧
  (0 ≤ (0 : Int) ∧ (0 : Int) < ((l6 : Nat) : Int)) ∧
  nn a6 (fun (q7 : Addr) =>
  ∃ (a8 : Option Addr) (l8 : Nat) (c8 : Nat), w.cell? (Addr.add q7 (Int.toNat 0)) = some ((.slice a8 l8 c8 : Value)) ∧
  cond ((mn n2 (((l8 : Nat) : Int))) == (((l8 : Nat) : Int)))
  (nn p1 (fun (q9 : Addr) =>
  ∃ (a10 : Option Addr) (l10 : Nat) (c10 : Nat), w.cell? q9 = some ((.slice a10 l10 c10 : Value)) ∧
  (0 ≤ (1 : Int) ∧ (1 : Int) ≤ ((l10 : Nat) : Int)) ∧
  nn p1 (fun (q11 : Addr) =>
  stC q11 (.slice (adv a10 (Int.toNat 1) c10 1) (l10 - Int.toNat 1) (c10 - Int.toNat 1)) w (fun (w1 : World) =>
  (0 ≤ (mn n2 (((l8 : Nat) : Int)) : Int) ∧ (mn n2 (((l8 : Nat) : Int)) : Int) ≤ ((c8 : Nat) : Int)) ∧
  Q (.tuple #[.slice a8 (Int.toNat (mn n2 (((l8 : Nat) : Int)))) c8, .int .i64 0]) w1))))
  (let w2 := World.drew w;
  nn p1 (fun (q12 : Addr) =>
  ∃ (a13 : Option Addr) (l13 : Nat) (c13 : Nat), w2.cell? q12 = some ((.slice a13 l13 c13 : Value)) ∧
  (0 ≤ (mn n2 (((l8 : Nat) : Int)) : Int) ∧ (mn n2 (((l8 : Nat) : Int)) : Int) ≤ ((l8 : Nat) : Int)) ∧
  (0 ≤ (0 : Int) ∧ (0 : Int) < ((l13 : Nat) : Int)) ∧
  nn a13 (fun (q14 : Addr) =>
  stC (Addr.add q14 (Int.toNat 0)) (.slice (adv a8 (Int.toNat (mn n2 (((l8 : Nat) : Int)))) c8 1) (l8 - Int.toNat (mn n2 (((l8 : Nat) : Int)))) (c8 - Int.toNat (mn n2 (((l8 : Nat) : Int))))) w2 (fun (w3 : World) =>
  (0 ≤ (mn n2 (((l8 : Nat) : Int)) : Int) ∧ (mn n2 (((l8 : Nat) : Int)) : Int) ≤ ((c8 : Nat) : Int)) ∧
  Q (.tuple #[.slice a8 (Int.toNat (mn n2 (((l8 : Nat) : Int)))) c8, .int .i64 0]) w3))))))))))
theorem C171 {p1 : Option Addr} {n2 : Int} {Q : Value → World → Prop} {w : World} (h : L171 p1 n2 Q w) : CallR Tryz.prog 171 [.pointer p1, .int .i64 n2] w Q :=
  fun_calls (A := A171) mixed Tryz.func171 (c := (Tryz.f171.body).getD .skip) rfl (by kernel_rfl) (Eq.mp (by kernel_rfl) h)

/-- (*millrace/millraceref04.Terminal).Write -/
def A176 : Ann := ⟨[], [], [], [], [], []⟩
def L176 (p1 : Option Addr) (a2 : Option Addr) (l2 : Nat) (c2 : Nat) (Q : Value → World → Prop) (w : World) : Prop :=
  nn p1 (fun (q3 : Addr) =>
  ∃ (a4 : Option Addr) (l4 : Nat) (c4 : Nat), w.cell? (Addr.add q3 1) = some ((.slice a4 l4 c4 : Value)) ∧
  inI ((((l4 : Nat) : Int)) + (((l2 : Nat) : Int))) ∧
  cond (decide (((((l4 : Nat) : Int)) + (((l2 : Nat) : Int))) > 1048576))
  (Q (.int .i64 31) w)
  (nn p1 (fun (q5 : Addr) =>
  ∃ (a6 : Option Addr) (l6 : Nat) (c6 : Nat), w.cell? (Addr.add q5 1) = some ((.slice a6 l6 c6 : Value)) ∧
  ∃ (a7 : Option Addr) (l7 : Nat) (c7 : Nat) (w1 : World), Sem.run Tryz.prog (Builtin.append_ #[40, 40] 40 #[.slice a6 l6 c6, .slice a2 l2 c2]) w = .ok ((.slice a7 l7 c7 : Value)) w1 ∧
  nn p1 (fun (q8 : Addr) =>
  stC (Addr.add q8 1) (.slice a7 l7 c7) w1 (fun (w2 : World) =>
  Q (.int .i64 0) w2)))))
theorem C176 {p1 : Option Addr} {a2 : Option Addr} {l2 : Nat} {c2 : Nat} {Q : Value → World → Prop} {w : World} (h : L176 p1 a2 l2 c2 Q w) : CallR Tryz.prog 176 [.pointer p1, .slice a2 l2 c2] w Q :=
  fun_calls (A := A176) mixed Tryz.func176 (c := (Tryz.f176.body).getD .skip) rfl (by kernel_rfl) (Eq.mp (by kernel_rfl) h)

/-- (*millrace/millraceref05.Pipe).Leave -/
def A179 : Ann := ⟨[], [], [], [], [], []⟩
def L179 (p1 : Option Addr) (b2 : Bool) (Q : Value → World → Prop) (w : World) : Prop :=
  cond b2
  (nn p1 (fun (q3 : Addr) =>
  ∃ (n4 : Int), w.cell? (Addr.add q3 2) = some ((.int .i64 n4 : Value)) ∧
  cond (n4 == 0)
  (Q (.int .i64 51) w)
  (cond (!b2)
  (nn p1 (fun (q5 : Addr) =>
  ∃ (n6 : Int), w.cell? (Addr.add q5 1) = some ((.int .i64 n6 : Value)) ∧
  cond (n6 == 0)
  (Q (.int .i64 51) w)
  (cond b2
  (nn p1 (fun (q7 : Addr) =>
  ∃ (n8 : Int), w.cell? (Addr.add q7 2) = some ((.int .i64 n8 : Value)) ∧
  inI (n8 - 1) ∧
  nn p1 (fun (q9 : Addr) =>
  stC (Addr.add q9 2) (.int .i64 (n8 - 1)) w (fun (w1 : World) =>
  Q (.int .i64 0) w1))))
  (nn p1 (fun (q10 : Addr) =>
  ∃ (n11 : Int), w.cell? (Addr.add q10 1) = some ((.int .i64 n11 : Value)) ∧
  inI (n11 - 1) ∧
  nn p1 (fun (q12 : Addr) =>
  stC (Addr.add q12 1) (.int .i64 (n11 - 1)) w (fun (w2 : World) =>
  Q (.int .i64 0) w2)))))))
  (cond b2
  (nn p1 (fun (q13 : Addr) =>
  ∃ (n14 : Int), w.cell? (Addr.add q13 2) = some ((.int .i64 n14 : Value)) ∧
  inI (n14 - 1) ∧
  nn p1 (fun (q15 : Addr) =>
  stC (Addr.add q15 2) (.int .i64 (n14 - 1)) w (fun (w3 : World) =>
  Q (.int .i64 0) w3))))
  (nn p1 (fun (q16 : Addr) =>
  ∃ (n17 : Int), w.cell? (Addr.add q16 1) = some ((.int .i64 n17 : Value)) ∧
  inI (n17 - 1) ∧
  nn p1 (fun (q18 : Addr) =>
  stC (Addr.add q18 1) (.int .i64 (n17 - 1)) w (fun (w4 : World) =>
  Q (.int .i64 0) w4))))))))
  (cond (!b2)
  (nn p1 (fun (q19 : Addr) =>
  ∃ (n20 : Int), w.cell? (Addr.add q19 1) = some ((.int .i64 n20 : Value)) ∧
  cond (n20 == 0)
  (Q (.int .i64 51) w)
  (cond b2
  (nn p1 (fun (q21 : Addr) =>
  ∃ (n22 : Int), w.cell? (Addr.add q21 2) = some ((.int .i64 n22 : Value)) ∧
  inI (n22 - 1) ∧
  nn p1 (fun (q23 : Addr) =>
  stC (Addr.add q23 2) (.int .i64 (n22 - 1)) w (fun (w5 : World) =>
  Q (.int .i64 0) w5))))
  (nn p1 (fun (q24 : Addr) =>
  ∃ (n25 : Int), w.cell? (Addr.add q24 1) = some ((.int .i64 n25 : Value)) ∧
  inI (n25 - 1) ∧
  nn p1 (fun (q26 : Addr) =>
  stC (Addr.add q26 1) (.int .i64 (n25 - 1)) w (fun (w6 : World) =>
  Q (.int .i64 0) w6)))))))
  (cond b2
  (nn p1 (fun (q27 : Addr) =>
  ∃ (n28 : Int), w.cell? (Addr.add q27 2) = some ((.int .i64 n28 : Value)) ∧
  inI (n28 - 1) ∧
  nn p1 (fun (q29 : Addr) =>
  stC (Addr.add q29 2) (.int .i64 (n28 - 1)) w (fun (w7 : World) =>
  Q (.int .i64 0) w7))))
  (nn p1 (fun (q30 : Addr) =>
  ∃ (n31 : Int), w.cell? (Addr.add q30 1) = some ((.int .i64 n31 : Value)) ∧
  inI (n31 - 1) ∧
  nn p1 (fun (q32 : Addr) =>
  stC (Addr.add q32 1) (.int .i64 (n31 - 1)) w (fun (w8 : World) =>
  Q (.int .i64 0) w8))))))
theorem C179 {p1 : Option Addr} {b2 : Bool} {Q : Value → World → Prop} {w : World} (h : L179 p1 b2 Q w) : CallR Tryz.prog 179 [.pointer p1, .bool b2] w Q :=
  fun_calls (A := A179) mixed Tryz.func179 (c := (Tryz.f179.body).getD .skip) rfl (by kernel_rfl) (Eq.mp (by kernel_rfl) h)

/-- (*millrace/millraceref05.Pipe).Read -/
def A172 : Ann := ⟨[], [], [], [], [], []⟩
def L172 (p1 : Option Addr) (n2 : Int) (Q : Value → World → Prop) (w : World) : Prop :=
  cond (decide (n2 < 1))
  (Q (.tuple #[.slice none 0 0, .int .i64 4]) w)
  (cond (decide (n2 > 1048576))
  (Q (.tuple #[.slice none 0 0, .int .i64 4]) w)
  (nn p1 (fun (q3 : Addr) =>
  ∃ (n4 : Int), w.cell? (Addr.add q3 1) = some ((.int .i64 n4 : Value)) ∧
  cond (n4 == 0)
  (Q (.tuple #[.slice none 0 0, .int .i64 51]) w)
  (nn p1 (fun (q5 : Addr) =>
  ∃ (a6 : Option Addr) (l6 : Nat) (c6 : Nat), w.cell? q5 = some ((.slice a6 l6 c6 : Value)) ∧
  cond ((((l6 : Nat) : Int)) == 0)
  (nn p1 (fun (q7 : Addr) =>
  ∃ (n8 : Int), w.cell? (Addr.add q7 2) = some ((.int .i64 n8 : Value)) ∧
  cond (decide (n8 > 0))
  (Q (.tuple #[.slice none 0 0, .int .i64 52]) w)
  (nn p1 (fun (q9 : Addr) =>
  ∃ (a10 : Option Addr) (l10 : Nat) (c10 : Nat), w.cell? q9 = some ((.slice a10 l10 c10 : Value)) ∧
  nn p1 (fun (q11 : Addr) =>
  ∃ (a12 : Option Addr) (l12 : Nat) (c12 : Nat), w.cell? q11 = some ((.slice a12 l12 c12 : Value)) ∧
  (0 ≤ (mn n2 (((l10 : Nat) : Int)) : Int) ∧ (mn n2 (((l10 : Nat) : Int)) : Int) ≤ ((c12 : Nat) : Int)) ∧
  nn p1 (fun (q13 : Addr) =>
  ∃ (a14 : Option Addr) (l14 : Nat) (c14 : Nat), w.cell? q13 = some ((.slice a14 l14 c14 : Value)) ∧
  (0 ≤ (mn n2 (((l10 : Nat) : Int)) : Int) ∧ (mn n2 (((l10 : Nat) : Int)) : Int) ≤ ((l14 : Nat) : Int)) ∧
  nn p1 (fun (q15 : Addr) =>
  stC q15 (.slice (adv a14 (Int.toNat (mn n2 (((l10 : Nat) : Int)))) c14 1) (l14 - Int.toNat (mn n2 (((l10 : Nat) : Int)))) (c14 - Int.toNat (mn n2 (((l10 : Nat) : Int))))) w (fun (w1 : World) =>
  Q (.tuple #[.slice a12 (Int.toNat (mn n2 (((l10 : Nat) : Int)))) c12, .int .i64 0]) w1))))))))
  (nn p1 (fun (q16 : Addr) =>
  ∃ (a17 : Option Addr) (l17 : Nat) (c17 : Nat), w.cell? q16 = some ((.slice a17 l17 c17 : Value)) ∧
  nn p1 (fun (q18 : Addr) =>
  ∃ (a19 : Option Addr) (l19 : Nat) (c19 : Nat), w.cell? q18 = some ((.slice a19 l19 c19 : Value)) ∧
  (0 ≤ (mn n2 (((l17 : Nat) : Int)) : Int) ∧ (mn n2 (((l17 : Nat) : Int)) : Int) ≤ ((c19 : Nat) : Int)) ∧
  nn p1 (fun (q20 : Addr) =>
  ∃ (a21 : Option Addr) (l21 : Nat) (c21 : Nat), w.cell? q20 = some ((.slice a21 l21 c21 : Value)) ∧
  (0 ≤ (mn n2 (((l17 : Nat) : Int)) : Int) ∧ (mn n2 (((l17 : Nat) : Int)) : Int) ≤ ((l21 : Nat) : Int)) ∧
  nn p1 (fun (q22 : Addr) =>
  stC q22 (.slice (adv a21 (Int.toNat (mn n2 (((l17 : Nat) : Int)))) c21 1) (l21 - Int.toNat (mn n2 (((l17 : Nat) : Int)))) (c21 - Int.toNat (mn n2 (((l17 : Nat) : Int))))) w (fun (w2 : World) =>
  Q (.tuple #[.slice a19 (Int.toNat (mn n2 (((l17 : Nat) : Int)))) c19, .int .i64 0]) w2)))))))))))
theorem C172 {p1 : Option Addr} {n2 : Int} {Q : Value → World → Prop} {w : World} (h : L172 p1 n2 Q w) : CallR Tryz.prog 172 [.pointer p1, .int .i64 n2] w Q :=
  fun_calls (A := A172) mixed Tryz.func172 (c := (Tryz.f172.body).getD .skip) rfl (by kernel_rfl) (Eq.mp (by kernel_rfl) h)

/-- (*millrace/millraceref05.Pipe).Write -/
def A175 : Ann := ⟨[], [(18, [(9, .one (.int .i64))])], [], [(19, [0, 1, 2, 3, 4, 5, 7, 8, 9, 6, 10, 11, 12, 13])], [], []⟩
def L175 (p1 : Option Addr) (a2 : Option Addr) (l2 : Nat) (c2 : Nat) (n3 : Int) (Q : Value → World → Prop) (w : World) : Prop :=
  nn p1 (fun (q4 : Addr) =>
  ∃ (a5 : Option Addr) (l5 : Nat) (c5 : Nat), w.cell? q4 = some ((.slice a5 l5 c5 : Value)) ∧
  inI ((4096 : Int) - (((l5 : Nat) : Int))) ∧
  ∃ (J6 : List Value → World → Prop),
  (cond (decide ((((l2 : Nat) : Int)) > 1048576))
  (Q (.tuple #[.int .i64 0, .int .i64 5]) w)
  (cond (decide (n3 < 1))
  (Q (.tuple #[.int .i64 0, .int .i64 4]) w)
  (cond (decide (n3 > 1048576))
  (Q (.tuple #[.int .i64 0, .int .i64 4]) w)
  (nn p1 (fun (q7 : Addr) =>
  ∃ (n8 : Int), w.cell? (Addr.add q7 2) = some ((.int .i64 n8 : Value)) ∧
  cond (n8 == 0)
  (Q (.tuple #[.int .i64 0, .int .i64 51]) w)
  (nn p1 (fun (q9 : Addr) =>
  ∃ (n10 : Int), w.cell? (Addr.add q9 1) = some ((.int .i64 n10 : Value)) ∧
  cond (n10 == 0)
  (Q (.tuple #[.int .i64 0, .int .i64 53]) w)
  (cond ((((l2 : Nat) : Int)) == 0)
  (Q (.tuple #[.int .i64 0, .int .i64 0]) w)
  (cond (decide ((((l2 : Nat) : Int)) ≤ 512))
  (cond (decide (((4096 : Int) - (((l5 : Nat) : Int))) < (((l2 : Nat) : Int))))
  (Q (.tuple #[.int .i64 0, .int .i64 52]) w)
  (cond (((4096 : Int) - (((l5 : Nat) : Int))) == 0)
  (Q (.tuple #[.int .i64 0, .int .i64 52]) w)
  (cond (decide ((((l2 : Nat) : Int)) ≤ 512))
  (J6 [.int .i64 (((l2 : Nat) : Int))] w)
  (J6 [.int .i64 (mn (mn (((l2 : Nat) : Int)) ((4096 : Int) - (((l5 : Nat) : Int)))) n3)] w))))
  (cond (((4096 : Int) - (((l5 : Nat) : Int))) == 0)
  (Q (.tuple #[.int .i64 0, .int .i64 52]) w)
  (cond (decide ((((l2 : Nat) : Int)) ≤ 512))
  (J6 [.int .i64 (((l2 : Nat) : Int))] w)
  (J6 [.int .i64 (mn (mn (((l2 : Nat) : Int)) ((4096 : Int) - (((l5 : Nat) : Int)))) n3)] w)))))))))))) ∧
  (∀ (_ : Env) (n11 : Int) (w1 : World), J6 [.int .i64 n11] w1 →
  let w2 := World.drew w1;
  nn p1 (fun (q12 : Addr) =>
  ∃ (a13 : Option Addr) (l13 : Nat) (c13 : Nat), w2.cell? q12 = some ((.slice a13 l13 c13 : Value)) ∧
  (0 ≤ (n11 : Int) ∧ (n11 : Int) ≤ ((c2 : Nat) : Int)) ∧
  ∃ (a14 : Option Addr) (l14 : Nat) (c14 : Nat) (w3 : World), Sem.run Tryz.prog (Builtin.append_ #[40, 40] 40 #[.slice none 0 0, .slice a13 l13 c13]) w2 = .ok ((.slice a14 l14 c14 : Value)) w3 ∧
  ∃ (a15 : Option Addr) (l15 : Nat) (c15 : Nat) (w4 : World), Sem.run Tryz.prog (Builtin.append_ #[40, 40] 40 #[.slice a14 l14 c14, .slice a2 (Int.toNat n11) c2]) w3 = .ok ((.slice a15 l15 c15 : Value)) w4 ∧
  nn p1 (fun (q16 : Addr) =>
  stC q16 (.slice a15 l15 c15) w4 (fun (w5 : World) =>
  Q (.tuple #[.int .i64 n11, .int .i64 0]) w5)))))
theorem C175 {p1 : Option Addr} {a2 : Option Addr} {l2 : Nat} {c2 : Nat} {n3 : Int} {Q : Value → World → Prop} {w : World} (h : L175 p1 a2 l2 c2 n3 Q w) : CallR Tryz.prog 175 [.pointer p1, .slice a2 l2 c2, .int .i64 n3] w Q :=
  fun_calls (A := A175) mixed Tryz.func175 (c := (Tryz.f175.body).getD .skip) rfl (by kernel_rfl) (Eq.mp (by kernel_rfl) h)

/-- (*millrace/millraceref05.Pipe).CanRead -/
def A169 : Ann := ⟨[], [], [], [], [], []⟩
def L169 (p1 : Option Addr) (Q : Value → World → Prop) (w : World) : Prop :=
  nn p1 (fun (q2 : Addr) =>
  ∃ (n3 : Int), w.cell? (Addr.add q2 1) = some ((.int .i64 n3 : Value)) ∧
  cond (decide (n3 > 0))
  (nn p1 (fun (q4 : Addr) =>
  ∃ (a5 : Option Addr) (l5 : Nat) (c5 : Nat), w.cell? q4 = some ((.slice a5 l5 c5 : Value)) ∧
  cond (decide ((((l5 : Nat) : Int)) > 0))
  (Q (.bool true) w)
  (nn p1 (fun (q6 : Addr) =>
  ∃ (n7 : Int), w.cell? (Addr.add q6 2) = some ((.int .i64 n7 : Value)) ∧
  Q (.bool (n7 == 0)) w))))
  (Q (.bool false) w))
theorem C169 {p1 : Option Addr} {Q : Value → World → Prop} {w : World} (h : L169 p1 Q w) : CallR Tryz.prog 169 [.pointer p1] w Q :=
  fun_calls (A := A169) mixed Tryz.func169 (c := (Tryz.f169.body).getD .skip) rfl (by kernel_rfl) (Eq.mp (by kernel_rfl) h)

/-- (*millrace/millraceref05.Pipe).CanWrite -/
def A173 : Ann := ⟨[], [], [], [], [], []⟩
def L173 (p1 : Option Addr) (n2 : Int) (Q : Value → World → Prop) (w : World) : Prop :=
  nn p1 (fun (q3 : Addr) =>
  ∃ (a4 : Option Addr) (l4 : Nat) (c4 : Nat), w.cell? q3 = some ((.slice a4 l4 c4 : Value)) ∧
  inI ((4096 : Int) - (((l4 : Nat) : Int))) ∧
  nn p1 (fun (q5 : Addr) =>
  ∃ (n6 : Int), w.cell? (Addr.add q5 2) = some ((.int .i64 n6 : Value)) ∧
  cond (decide (n6 > 0))
  (cond (decide (n2 ≥ 1))
  (cond (decide (n2 ≤ 1048576))
  (nn p1 (fun (q7 : Addr) =>
  ∃ (n8 : Int), w.cell? (Addr.add q7 1) = some ((.int .i64 n8 : Value)) ∧
  cond (n8 == 0)
  (Q (.bool true) w)
  (cond (decide (n2 ≤ 512))
  (cond (decide (((4096 : Int) - (((l4 : Nat) : Int))) ≥ n2))
  (Q (.bool true) w)
  (cond (decide (n2 > 512))
  (Q (.bool (decide (((4096 : Int) - (((l4 : Nat) : Int))) > 0))) w)
  (Q (.bool false) w)))
  (cond (decide (n2 > 512))
  (Q (.bool (decide (((4096 : Int) - (((l4 : Nat) : Int))) > 0))) w)
  (Q (.bool false) w)))))
  (Q (.bool false) w))
  (Q (.bool false) w))
  (Q (.bool false) w)))
theorem C173 {p1 : Option Addr} {n2 : Int} {Q : Value → World → Prop} {w : World} (h : L173 p1 n2 Q w) : CallR Tryz.prog 173 [.pointer p1, .int .i64 n2] w Q :=
  fun_calls (A := A173) mixed Tryz.func173 (c := (Tryz.f173.body).getD .skip) rfl (by kernel_rfl) (Eq.mp (by kernel_rfl) h)

/-- (millrace/millracelaw06.Setup).Page -/
def A10 : Ann := ⟨[], [], [], [], [(3, [0, 1, 2, 3, 4, 5, 6], 7, [8])], []⟩
def L10 (a1 : Option Addr) (l1 : Nat) (c1 : Nat) (a2 : Option Addr) (l2 : Nat) (c2 : Nat) (a3 : Option Addr) (l3 : Nat) (c3 : Nat) (Q : Value → World → Prop) (w : World) : Prop :=
  let w1 := World.alloc w (Obj.cells #[.slice a1 l1 c1, .slice a2 l2 c2, .slice a3 l3 c3] 26);
  ∃ (a4 : Option Addr) (l4 : Nat) (c4 : Nat), w1.cell? (Addr.mk w.heap.size 0 none) = some ((.slice a4 l4 c4 : Value)) ∧
  ∃ (a5 : Option Addr) (l5 : Nat) (c5 : Nat), w1.cell? (Addr.mk w.heap.size 1 none) = some ((.slice a5 l5 c5 : Value)) ∧
  ∃ (a6 : Option Addr) (l6 : Nat) (c6 : Nat), w1.cell? (Addr.mk w.heap.size 2 none) = some ((.slice a6 l6 c6 : Value)) ∧
  CallR Tryz.prog 9 [.slice a4 l4 c4, .slice a5 l5 c5, .slice a6 l6 c6] w1 (fun (r8 : Value) (w2 : World) =>
  ∃ (n7 : Int), r8 = .int .i64 n7 ∧
  cond (n7 != 0)
  (Q (.pointer none) w2)
  (∃ (S9 : World → Prop), S9 (World.drew w2) ∧
  let w3 := World.drew w2;
  ∃ (a10 : Option Addr) (l10 : Nat) (c10 : Nat), (∀ wS : World, S9 wS → wS.cell? (Addr.mk w.heap.size 0 none) = some ((.slice a10 l10 c10 : Value))) ∧
  ∃ (a11 : Option Addr) (l11 : Nat) (c11 : Nat), (∀ wS : World, S9 wS → wS.cell? (Addr.mk w.heap.size 1 none) = some ((.slice a11 l11 c11 : Value))) ∧
  ∃ (a12 : Option Addr) (l12 : Nat) (c12 : Nat), (∀ wS : World, S9 wS → wS.cell? (Addr.mk w.heap.size 2 none) = some ((.slice a12 l12 c12 : Value))) ∧
  CallR Tryz.prog 52 [.slice a12 l12 c12] w3 (fun (r14 : Value) (w4 : World) =>
  ∃ (a13 : Option Addr) (l13 : Nat) (c13 : Nat), r14 = .slice a13 l13 c13 ∧
  S9 w4 ∧
  CallR Tryz.prog 60 [.slice a10 l10 c10, .slice a11 l11 c11, .slice a13 l13 c13] w4 (fun (r16 : Value) (w5 : World) =>
  ∃ (p15 : Option Addr), r16 = .pointer p15 ∧
  Q (.pointer p15) w5))))
theorem C10 {a1 : Option Addr} {l1 : Nat} {c1 : Nat} {a2 : Option Addr} {l2 : Nat} {c2 : Nat} {a3 : Option Addr} {l3 : Nat} {c3 : Nat} {Q : Value → World → Prop} {w : World} (h : L10 a1 l1 c1 a2 l2 c2 a3 l3 c3 Q w) : CallR Tryz.prog 10 [.agg #[.slice a1 l1 c1, .slice a2 l2 c2, .slice a3 l3 c3]] w Q :=
  fun_calls (A := A10) mixed Tryz.func10 (c := (Tryz.f10.body).getD .skip) rfl (by kernel_rfl) (Eq.mp (by kernel_rfl) h)

/-- millrace/millracelaw06.does -/
def A13 : Ann := ⟨[], [], [], [], [(25, [0, 1, 2, 5, 6, 7, 3, 4], 8, [9, 10]), (26, [0, 1, 2, 5, 6, 7, 3, 4], 8, [9, 10])], []⟩
def L13 (p1 : Option Addr) (p2 : Option Addr) (n3 : Int) (s4 : ByteArray) (n5 : Int) (n6 : Int) (n7 : Int) (a8 : Option Addr) (l8 : Nat) (c8 : Nat) (Q : Value → World → Prop) (w : World) : Prop :=
  let w1 := World.alloc w (Obj.cells #[.int .i64 n3, .string s4, .int .i64 n5, .int .i64 n6, .int .i64 n7, .slice a8 l8 c8] 42);
  ∃ (n9 : Int), w1.cell? (Addr.mk w.heap.size 0 none) = some ((.int .i64 n9 : Value)) ∧
  cond (n9 == 0)
  (∃ (s10 : ByteArray), w1.cell? (Addr.mk w.heap.size 1 none) = some ((.string s10 : Value)) ∧
  ∃ (n11 : Int), w1.cell? (Addr.mk w.heap.size 2 none) = some ((.int .i64 n11 : Value)) ∧
  CallR Tryz.prog 30 [.pointer p1, .string s10, .int .i64 n11] w1 (fun (r14 : Value) (w2 : World) =>
  ∃ (n12 : Int) (n13 : Int), r14 = .tuple #[.int .i64 n12, .int .i64 n13] ∧
  ∃ (s15 : ByteArray), w2.cell? (Addr.mk w.heap.size 1 none) = some ((.string s15 : Value)) ∧
  ∃ (n16 : Int), w2.cell? (Addr.mk w.heap.size 2 none) = some ((.int .i64 n16 : Value)) ∧
  CallR Tryz.prog 31 [.pointer p2, .string s15, .int .i64 n16] w2 (fun (r19 : Value) (w3 : World) =>
  ∃ (n17 : Int) (n18 : Int), r19 = .tuple #[.int .i64 n17, .int .i64 n18] ∧
  cond (n12 == n17)
  (CallR Tryz.prog 11 [.int .i64 n13] w3 (fun (r21 : Value) (w4 : World) =>
  ∃ (n20 : Int), r21 = .int .i64 n20 ∧
  Q (.bool (n20 == n18)) w4))
  (Q (.bool false) w3))))
  (cond (n9 == 1)
  (CallR Tryz.prog 28 [.pointer p1] w1 (fun (r25 : Value) (w5 : World) =>
  ∃ (n22 : Int) (n23 : Int) (n24 : Int), r25 = .tuple #[.int .i64 n22, .int .i64 n23, .int .i64 n24] ∧
  CallR Tryz.prog 29 [.pointer p2] w5 (fun (r29 : Value) (w6 : World) =>
  ∃ (n26 : Int) (n27 : Int) (n28 : Int), r29 = .tuple #[.int .i64 n26, .int .i64 n27, .int .i64 n28] ∧
  cond (n22 == n26)
  (cond (n23 == n27)
  (CallR Tryz.prog 11 [.int .i64 n24] w6 (fun (r31 : Value) (w7 : World) =>
  ∃ (n30 : Int), r31 = .int .i64 n30 ∧
  Q (.bool (n30 == n28)) w7))
  (Q (.bool false) w6))
  (Q (.bool false) w6))))
  (cond (n9 == 2)
  (∃ (n32 : Int), w1.cell? (Addr.mk w.heap.size 2 none) = some ((.int .i64 n32 : Value)) ∧
  ∃ (n33 : Int), w1.cell? (Addr.mk w.heap.size 3 none) = some ((.int .i64 n33 : Value)) ∧
  CallR Tryz.prog 64 [.pointer p1, .int .i64 n32, .int .i64 n33] w1 (fun (r36 : Value) (w8 : World) =>
  ∃ (a34 : Option Addr) (l34 : Nat) (c34 : Nat) (n35 : Int), r36 = .tuple #[.slice a34 l34 c34, .int .i64 n35] ∧
  ∃ (n37 : Int), w8.cell? (Addr.mk w.heap.size 2 none) = some ((.int .i64 n37 : Value)) ∧
  ∃ (n38 : Int), w8.cell? (Addr.mk w.heap.size 3 none) = some ((.int .i64 n38 : Value)) ∧
  CallR Tryz.prog 65 [.pointer p2, .int .i64 n37, .int .i64 n38] w8 (fun (r41 : Value) (w9 : World) =>
  ∃ (a39 : Option Addr) (l39 : Nat) (c39 : Nat) (n40 : Int), r41 = .tuple #[.slice a39 l39 c39, .int .i64 n40] ∧
  CallR Tryz.prog 39 [.slice a34 l34 c34, .slice a39 l39 c39] w9 (fun (r43 : Value) (w10 : World) =>
  ∃ (b42 : Bool), r43 = .bool b42 ∧
  cond b42
  (CallR Tryz.prog 11 [.int .i64 n35] w10 (fun (r45 : Value) (w11 : World) =>
  ∃ (n44 : Int), r45 = .int .i64 n44 ∧
  Q (.bool (n44 == n40)) w11))
  (Q (.bool false) w10)))))
  (cond (n9 == 3)
  (∃ (a46 : Option Addr) (l46 : Nat) (c46 : Nat), w1.cell? (Addr.mk w.heap.size 5 none) = some ((.slice a46 l46 c46 : Value)) ∧
  CallR Tryz.prog 46 [.slice a46 l46 c46] w1 (fun (r48 : Value) (w12 : World) =>
  ∃ (a47 : Option Addr) (l47 : Nat) (c47 : Nat), r48 = .slice a47 l47 c47 ∧
  ∃ (n49 : Int), w12.cell? (Addr.mk w.heap.size 2 none) = some ((.int .i64 n49 : Value)) ∧
  CallR Tryz.prog 66 [.pointer p1, .int .i64 n49, .slice a47 l47 c47] w12 (fun (r52 : Value) (w13 : World) =>
  ∃ (n50 : Int) (n51 : Int), r52 = .tuple #[.int .i64 n50, .int .i64 n51] ∧
  ∃ (n53 : Int), w13.cell? (Addr.mk w.heap.size 2 none) = some ((.int .i64 n53 : Value)) ∧
  ∃ (a54 : Option Addr) (l54 : Nat) (c54 : Nat), w13.cell? (Addr.mk w.heap.size 5 none) = some ((.slice a54 l54 c54 : Value)) ∧
  CallR Tryz.prog 67 [.pointer p2, .int .i64 n53, .slice a54 l54 c54] w13 (fun (r57 : Value) (w14 : World) =>
  ∃ (n55 : Int) (n56 : Int), r57 = .tuple #[.int .i64 n55, .int .i64 n56] ∧
  CallR Tryz.prog 45 [.slice a47 l47 c47] w14 (fun (r58 : Value) (w15 : World) =>
  r58 = .tuple #[] ∧
  cond (n50 == n55)
  (CallR Tryz.prog 11 [.int .i64 n51] w15 (fun (r60 : Value) (w16 : World) =>
  ∃ (n59 : Int), r60 = .int .i64 n59 ∧
  Q (.bool (n59 == n56)) w16))
  (Q (.bool false) w15))))))
  (cond (n9 == 4)
  (∃ (n61 : Int), w1.cell? (Addr.mk w.heap.size 2 none) = some ((.int .i64 n61 : Value)) ∧
  ∃ (n62 : Int), w1.cell? (Addr.mk w.heap.size 3 none) = some ((.int .i64 n62 : Value)) ∧
  ∃ (n63 : Int), w1.cell? (Addr.mk w.heap.size 4 none) = some ((.int .i64 n63 : Value)) ∧
  CallR Tryz.prog 68 [.pointer p1, .int .i64 n61, .int .i64 n62, .int .i64 n63] w1 (fun (r66 : Value) (w17 : World) =>
  ∃ (n64 : Int) (n65 : Int), r66 = .tuple #[.int .i64 n64, .int .i64 n65] ∧
  ∃ (n67 : Int), w17.cell? (Addr.mk w.heap.size 2 none) = some ((.int .i64 n67 : Value)) ∧
  ∃ (n68 : Int), w17.cell? (Addr.mk w.heap.size 3 none) = some ((.int .i64 n68 : Value)) ∧
  ∃ (n69 : Int), w17.cell? (Addr.mk w.heap.size 4 none) = some ((.int .i64 n69 : Value)) ∧
  CallR Tryz.prog 69 [.pointer p2, .int .i64 n67, .int .i64 n68, .int .i64 n69] w17 (fun (r72 : Value) (w18 : World) =>
  ∃ (n70 : Int) (n71 : Int), r72 = .tuple #[.int .i64 n70, .int .i64 n71] ∧
  cond (n64 == n70)
  (CallR Tryz.prog 11 [.int .i64 n65] w18 (fun (r74 : Value) (w19 : World) =>
  ∃ (n73 : Int), r74 = .int .i64 n73 ∧
  Q (.bool (n73 == n71)) w19))
  (Q (.bool false) w18))))
  (cond (n9 == 5)
  (∃ (S75 : World → Prop), S75 (World.drew w1) ∧
  let w20 := World.drew w1;
  ∃ (n76 : Int), (∀ wS : World, S75 wS → wS.cell? (Addr.mk w.heap.size 2 none) = some ((.int .i64 n76 : Value))) ∧
  ∃ (n77 : Int), (∀ wS : World, S75 wS → wS.cell? (Addr.mk w.heap.size 2 none) = some ((.int .i64 n77 : Value))) ∧
  CallR Tryz.prog 70 [.pointer p1, .int .i64 n76] w20 (fun (r79 : Value) (w21 : World) =>
  ∃ (n78 : Int), r79 = .int .i64 n78 ∧
  S75 w21 ∧
  CallR Tryz.prog 11 [.int .i64 n78] w21 (fun (r81 : Value) (w22 : World) =>
  ∃ (n80 : Int), r81 = .int .i64 n80 ∧
  S75 w22 ∧
  CallR Tryz.prog 71 [.pointer p2, .int .i64 n77] w22 (fun (r83 : Value) (w23 : World) =>
  ∃ (n82 : Int), r83 = .int .i64 n82 ∧
  Q (.bool (n80 == n82)) w23))))
  (∃ (S84 : World → Prop), S84 (World.drew w1) ∧
  let w24 := World.drew w1;
  ∃ (n85 : Int), (∀ wS : World, S84 wS → wS.cell? (Addr.mk w.heap.size 2 none) = some ((.int .i64 n85 : Value))) ∧
  ∃ (n86 : Int), (∀ wS : World, S84 wS → wS.cell? (Addr.mk w.heap.size 2 none) = some ((.int .i64 n86 : Value))) ∧
  CallR Tryz.prog 72 [.pointer p1, .int .i64 n85] w24 (fun (r88 : Value) (w25 : World) =>
  ∃ (n87 : Int), r88 = .int .i64 n87 ∧
  S84 w25 ∧
  CallR Tryz.prog 11 [.int .i64 n87] w25 (fun (r90 : Value) (w26 : World) =>
  ∃ (n89 : Int), r90 = .int .i64 n89 ∧
  S84 w26 ∧
  CallR Tryz.prog 73 [.pointer p2, .int .i64 n86] w26 (fun (r92 : Value) (w27 : World) =>
  ∃ (n91 : Int), r92 = .int .i64 n91 ∧
  Q (.bool (n89 == n91)) w27)))))))))
theorem C13 {p1 : Option Addr} {p2 : Option Addr} {n3 : Int} {s4 : ByteArray} {n5 : Int} {n6 : Int} {n7 : Int} {a8 : Option Addr} {l8 : Nat} {c8 : Nat} {Q : Value → World → Prop} {w : World} (h : L13 p1 p2 n3 s4 n5 n6 n7 a8 l8 c8 Q w) : CallR Tryz.prog 13 [.pointer p1, .pointer p2, .agg #[.int .i64 n3, .string s4, .int .i64 n5, .int .i64 n6, .int .i64 n7, .slice a8 l8 c8]] w Q :=
  fun_calls (A := A13) mixed Tryz.func13 (c := (Tryz.f13.body).getD .skip) rfl (by kernel_rfl) (Eq.mp (by kernel_rfl) h)

/-- millrace/millracelaw06.Same -/
def A14 : Ann := ⟨[(6, [(8, .one (.int .i64))]), (12, [(11, .one (.int .i64))])], [], [], [], [(2, [0, 1, 2, 3, 4, 5, 6, 7, 8, 9, 10, 11, 12, 13, 14, 15, 17, 16, 18, 19, 20, 21, 22, 23, 25, 26, 27, 28, 29, 30, 31, 24], 32, [33, 34])], []⟩
def L14 (p1 : Option Addr) (p2 : Option Addr) (Q : Value → World → Prop) (w : World) : Prop :=
  CallR Tryz.prog 74 [.pointer p1] w (fun (r5 : Value) (w1 : World) =>
  ∃ (n3 : Int) (n4 : Int), r5 = .tuple #[.int .i64 n3, .int .i64 n4] ∧
  ∃ (S6 : World → Prop), S6 (World.drew w1) ∧
  let w2 := World.drew w1;
  nn p2 (fun (q7 : Addr) =>
  ∃ (n8 : Int), (∀ wS : World, S6 wS → wS.cell? (Addr.add q7 4) = some ((.int .i64 n8 : Value))) ∧
  cond (n3 != n8)
  (Q (.bool false) w2)
  (nn p2 (fun (q9 : Addr) =>
  ∃ (n10 : Int), (∀ wS : World, S6 wS → wS.cell? (Addr.add q9 5) = some ((.int .i64 n10 : Value))) ∧
  cond (n4 != n10)
  (Q (.bool false) w2)
  (CallR Tryz.prog 76 [.pointer p1] w2 (fun (r12 : Value) (w3 : World) =>
  ∃ (a11 : Option Addr) (l11 : Nat) (c11 : Nat), r12 = .slice a11 l11 c11 ∧
  S6 w3 ∧
  CallR Tryz.prog 77 [.pointer p2] w3 (fun (r14 : Value) (w4 : World) =>
  ∃ (a13 : Option Addr) (l13 : Nat) (c13 : Nat), r14 = .slice a13 l13 c13 ∧
  S6 w4 ∧
  CallR Tryz.prog 75 [.slice a11 l11 c11, .slice a13 l13 c13] w4 (fun (r16 : Value) (w5 : World) =>
  ∃ (b15 : Bool), r16 = .bool b15 ∧
  S6 w5 ∧
  cond (!b15)
  (Q (.bool false) w5)
  (nn p2 (fun (q17 : Addr) =>
  ∃ (p18 : Option Addr), (∀ wS : World, S6 wS → wS.cell? (Addr.add q17 3) = some ((.pointer p18 : Value))) ∧
  nn p18 (fun (q19 : Addr) =>
  ∃ (a20 : Option Addr) (l20 : Nat) (c20 : Nat), (∀ wS : World, S6 wS → wS.cell? q19 = some ((.slice a20 l20 c20 : Value))) ∧
  CallR Tryz.prog 79 [.pointer p1] w5 (fun (r22 : Value) (w6 : World) =>
  ∃ (a21 : Option Addr) (l21 : Nat) (c21 : Nat), r22 = .slice a21 l21 c21 ∧
  S6 w6 ∧
  CallR Tryz.prog 78 [.slice a21 l21 c21, .slice a20 l20 c20] w6 (fun (r24 : Value) (w7 : World) =>
  ∃ (b23 : Bool), r24 = .bool b23 ∧
  cond (!b23)
  (Q (.bool false) w7)
  (CallR Tryz.prog 80 [.pointer p2] w7 (fun (r26 : Value) (w8 : World) =>
  ∃ (a25 : Option Addr) (l25 : Nat) (c25 : Nat), r26 = .slice a25 l25 c25 ∧
  ∃ (I27 : List Value → World → Prop) (mu28 : List Value → World → Nat),
  I27 [.int .i64 0] w8 ∧
  ∀ (_ : Env) (n29 : Int) (w9 : World), I27 [.int .i64 n29] w9 →
  cond (decide (n29 < (((l25 : Nat) : Int))))
  ((0 ≤ (n29 : Int) ∧ (n29 : Int) < ((l25 : Nat) : Int)) ∧
  nn a25 (fun (q30 : Addr) =>
  ∃ (s31 : ByteArray), w9.cell? (Addr.add q30 (Int.toNat n29 * 2)) = some ((.string s31 : Value)) ∧
  CallR Tryz.prog 81 [.pointer p1, .string s31] w9 (fun (r34 : Value) (w10 : World) =>
  ∃ (a32 : Option Addr) (l32 : Nat) (c32 : Nat) (b33 : Bool), r34 = .tuple #[.slice a32 l32 c32, .bool b33] ∧
  cond (!b33)
  (Q (.bool false) w10)
  ((0 ≤ (n29 : Int) ∧ (n29 : Int) < ((l25 : Nat) : Int)) ∧
  nn a25 (fun (q35 : Addr) =>
  ∃ (a36 : Option Addr) (l36 : Nat) (c36 : Nat), w10.cell? (Addr.add (Addr.add q35 (Int.toNat n29 * 2)) 1) = some ((.slice a36 l36 c36 : Value)) ∧
  CallR Tryz.prog 39 [.slice a32 l32 c32, .slice a36 l36 c36] w10 (fun (r38 : Value) (w11 : World) =>
  ∃ (b37 : Bool), r38 = .bool b37 ∧
  cond (!b37)
  (Q (.bool false) w11)
  (inI (n29 + 1) ∧
  I27 [.int .i64 (n29 + 1)] w11 ∧ mu28 [.int .i64 (n29 + 1)] w11 < mu28 [.int .i64 n29] w9)))))))
  (∃ (I39 : List Value → World → Prop) (mu40 : List Value → World → Nat),
  I39 [.int .i64 0] w9 ∧
  ∀ (_ : Env) (n41 : Int) (w12 : World), I39 [.int .i64 n41] w12 →
  nn p2 (fun (q42 : Addr) =>
  ∃ (n43 : Int), w12.cell? (Addr.add q42 2) = some ((.int .i64 n43 : Value)) ∧
  inI (n43 + 1) ∧
  cond (decide (n41 < (n43 + 1)))
  (CallR Tryz.prog 82 [.pointer p1, .int .i64 n41] w12 (fun (r45 : Value) (w13 : World) =>
  ∃ (n44 : Int), r45 = .int .i64 n44 ∧
  CallR Tryz.prog 83 [.pointer p2, .int .i64 n41] w13 (fun (r47 : Value) (w14 : World) =>
  ∃ (n46 : Int), r47 = .int .i64 n46 ∧
  cond (n44 != n46)
  (Q (.bool false) w14)
  (CallR Tryz.prog 84 [.pointer p1, .int .i64 n41] w14 (fun (r49 : Value) (w15 : World) =>
  ∃ (b48 : Bool), r49 = .bool b48 ∧
  CallR Tryz.prog 85 [.pointer p2, .int .i64 n41] w15 (fun (r51 : Value) (w16 : World) =>
  ∃ (b50 : Bool), r51 = .bool b50 ∧
  cond (!(b48 == b50))
  (Q (.bool false) w16)
  (CallR Tryz.prog 86 [.pointer p1, .int .i64 n41, .int .i64 600] w16 (fun (r53 : Value) (w17 : World) =>
  ∃ (b52 : Bool), r53 = .bool b52 ∧
  CallR Tryz.prog 87 [.pointer p2, .int .i64 n41, .int .i64 600] w17 (fun (r55 : Value) (w18 : World) =>
  ∃ (b54 : Bool), r55 = .bool b54 ∧
  cond (!(b52 == b54))
  (Q (.bool false) w18)
  (CallR Tryz.prog 88 [.pointer p1, .int .i64 n41] w18 (fun (r57 : Value) (w19 : World) =>
  ∃ (a56 : Option Addr) (l56 : Nat) (c56 : Nat), r57 = .slice a56 l56 c56 ∧
  CallR Tryz.prog 89 [.pointer p2, .int .i64 n41] w19 (fun (r59 : Value) (w20 : World) =>
  ∃ (a58 : Option Addr) (l58 : Nat) (c58 : Nat), r59 = .slice a58 l58 c58 ∧
  CallR Tryz.prog 39 [.slice a56 l56 c56, .slice a58 l58 c58] w20 (fun (r61 : Value) (w21 : World) =>
  ∃ (b60 : Bool), r61 = .bool b60 ∧
  cond (!b60)
  (Q (.bool false) w21)
  (inI (n41 + 1) ∧
  I39 [.int .i64 (n41 + 1)] w21 ∧ mu40 [.int .i64 (n41 + 1)] w21 < mu40 [.int .i64 n41] w12))))))))))))))
  (Q (.bool true) w12))))))))))))))))))
theorem C14 {p1 : Option Addr} {p2 : Option Addr} {Q : Value → World → Prop} {w : World} (h : L14 p1 p2 Q w) : CallR Tryz.prog 14 [.pointer p1, .pointer p2] w Q :=
  fun_calls (A := A14) mixed Tryz.func14 (c := (Tryz.f14.body).getD .skip) rfl (by kernel_rfl) (Eq.mp (by kernel_rfl) h)

/-- millrace/millracelaw06.KernPlays -/
def A3 : Ann := ⟨[(8, [(10, .one (.int .i64))])], [], [], [], [], []⟩
def L3 (a1 : Option Addr) (l1 : Nat) (c1 : Nat) (a2 : Option Addr) (l2 : Nat) (c2 : Nat) (a3 : Option Addr) (l3 : Nat) (c3 : Nat) (a4 : Option Addr) (l4 : Nat) (c4 : Nat) (Q : Value → World → Prop) (w : World) : Prop :=
  let w1 := World.alloc w (Obj.cells #[.slice a1 l1 c1, .slice a2 l2 c2, .slice a3 l3 c3] 26);
  ∃ (a5 : Option Addr) (l5 : Nat) (c5 : Nat) (a6 : Option Addr) (l6 : Nat) (c6 : Nat) (a7 : Option Addr) (l7 : Nat) (c7 : Nat), w1.cell? (Addr.mk w.heap.size 0 none) = some ((.slice a5 l5 c5 : Value)) ∧ w1.cell? (Addr.mk w.heap.size 1 none) = some ((.slice a6 l6 c6 : Value)) ∧ w1.cell? (Addr.mk w.heap.size 2 none) = some ((.slice a7 l7 c7 : Value)) ∧ 
  CallR Tryz.prog 7 [.agg #[.slice a5 l5 c5, .slice a6 l6 c6, .slice a7 l7 c7]] w1 (fun (r11 : Value) (w2 : World) =>
  ∃ (a8 : Option Addr) (l8 : Nat) (c8 : Nat) (a9 : Option Addr) (l9 : Nat) (c9 : Nat) (a10 : Option Addr) (l10 : Nat) (c10 : Nat), r11 = .agg #[.slice a8 l8 c8, .slice a9 l9 c9, .slice a10 l10 c10] ∧
  let w3 := World.alloc w2 (Obj.cells #[.slice none 0 0, .slice none 0 0, .slice none 0 0] 28);
  stC (Addr.mk w2.heap.size 0 none) (.slice a8 l8 c8) w3 (fun (w4 : World) =>
  stC (Addr.mk w2.heap.size 1 none) (.slice a9 l9 c9) w4 (fun (w5 : World) =>
  stC (Addr.mk w2.heap.size 2 none) (.slice a10 l10 c10) w5 (fun (w6 : World) =>
  ∃ (a12 : Option Addr) (l12 : Nat) (c12 : Nat) (a13 : Option Addr) (l13 : Nat) (c13 : Nat) (a14 : Option Addr) (l14 : Nat) (c14 : Nat), w6.cell? (Addr.mk w2.heap.size 0 none) = some ((.slice a12 l12 c12 : Value)) ∧ w6.cell? (Addr.mk w2.heap.size 1 none) = some ((.slice a13 l13 c13 : Value)) ∧ w6.cell? (Addr.mk w2.heap.size 2 none) = some ((.slice a14 l14 c14 : Value)) ∧ 
  CallR Tryz.prog 8 [.agg #[.slice a12 l12 c12, .slice a13 l13 c13, .slice a14 l14 c14]] w6 (fun (r17 : Value) (w7 : World) =>
  ∃ (p15 : Option Addr) (n16 : Int), r17 = .tuple #[.pointer p15, .int .i64 n16] ∧
  ∃ (a18 : Option Addr) (l18 : Nat) (c18 : Nat), w7.cell? (Addr.mk w.heap.size 0 none) = some ((.slice a18 l18 c18 : Value)) ∧
  ∃ (a19 : Option Addr) (l19 : Nat) (c19 : Nat), w7.cell? (Addr.mk w.heap.size 1 none) = some ((.slice a19 l19 c19 : Value)) ∧
  ∃ (a20 : Option Addr) (l20 : Nat) (c20 : Nat), w7.cell? (Addr.mk w.heap.size 2 none) = some ((.slice a20 l20 c20 : Value)) ∧
  CallR Tryz.prog 9 [.slice a18 l18 c18, .slice a19 l19 c19, .slice a20 l20 c20] w7 (fun (r22 : Value) (w8 : World) =>
  ∃ (n21 : Int), r22 = .int .i64 n21 ∧
  ∃ (a23 : Option Addr) (l23 : Nat) (c23 : Nat) (a24 : Option Addr) (l24 : Nat) (c24 : Nat) (a25 : Option Addr) (l25 : Nat) (c25 : Nat), w8.cell? (Addr.mk w.heap.size 0 none) = some ((.slice a23 l23 c23 : Value)) ∧ w8.cell? (Addr.mk w.heap.size 1 none) = some ((.slice a24 l24 c24 : Value)) ∧ w8.cell? (Addr.mk w.heap.size 2 none) = some ((.slice a25 l25 c25 : Value)) ∧ 
  CallR Tryz.prog 10 [.agg #[.slice a23 l23 c23, .slice a24 l24 c24, .slice a25 l25 c25]] w8 (fun (r27 : Value) (w9 : World) =>
  ∃ (p26 : Option Addr), r27 = .pointer p26 ∧
  CallR Tryz.prog 11 [.int .i64 n16] w9 (fun (r29 : Value) (w10 : World) =>
  ∃ (n28 : Int), r29 = .int .i64 n28 ∧
  cond (n28 != n21)
  (Q (.bool false) w10)
  (∃ (a30 : Option Addr) (l30 : Nat) (c30 : Nat) (a31 : Option Addr) (l31 : Nat) (c31 : Nat) (a32 : Option Addr) (l32 : Nat) (c32 : Nat), w10.cell? (Addr.mk w2.heap.size 0 none) = some ((.slice a30 l30 c30 : Value)) ∧ w10.cell? (Addr.mk w2.heap.size 1 none) = some ((.slice a31 l31 c31 : Value)) ∧ w10.cell? (Addr.mk w2.heap.size 2 none) = some ((.slice a32 l32 c32 : Value)) ∧ 
  CallR Tryz.prog 12 [.agg #[.slice a30 l30 c30, .slice a31 l31 c31, .slice a32 l32 c32]] w10 (fun (r34 : Value) (w11 : World) =>
  ∃ (n33 : Int), r34 = .int .i64 n33 ∧
  CallR Tryz.prog 11 [.int .i64 n33] w11 (fun (r36 : Value) (w12 : World) =>
  ∃ (n35 : Int), r36 = .int .i64 n35 ∧
  cond (n35 != n21)
  (Q (.bool false) w12)
  (cond (!((Option.isNone p15) == (Option.isNone p26)))
  (Q (.bool false) w12)
  (∃ (I37 : List Value → World → Prop) (mu38 : List Value → World → Nat),
  I37 [.int .i64 0] w12 ∧
  ∀ (_ : Env) (n39 : Int) (w13 : World), I37 [.int .i64 n39] w13 →
  cond (!(Option.isNone p15))
  (cond (decide (n39 < (((l4 : Nat) : Int))))
  ((0 ≤ (n39 : Int) ∧ (n39 : Int) < ((l4 : Nat) : Int)) ∧
  nn a4 (fun (q40 : Addr) =>
  ∃ (n41 : Int) (s42 : ByteArray) (n43 : Int) (n44 : Int) (n45 : Int) (a46 : Option Addr) (l46 : Nat) (c46 : Nat), w13.cell? (Addr.add q40 (Int.toNat n39 * 6)) = some ((.int .i64 n41 : Value)) ∧ w13.cell? (Addr.add (Addr.add q40 (Int.toNat n39 * 6)) 1) = some ((.string s42 : Value)) ∧ w13.cell? (Addr.add (Addr.add q40 (Int.toNat n39 * 6)) 2) = some ((.int .i64 n43 : Value)) ∧ w13.cell? (Addr.add (Addr.add q40 (Int.toNat n39 * 6)) 3) = some ((.int .i64 n44 : Value)) ∧ w13.cell? (Addr.add (Addr.add q40 (Int.toNat n39 * 6)) 4) = some ((.int .i64 n45 : Value)) ∧ w13.cell? (Addr.add (Addr.add q40 (Int.toNat n39 * 6)) 5) = some ((.slice a46 l46 c46 : Value)) ∧ 
  CallR Tryz.prog 13 [.pointer p15, .pointer p26, .agg #[.int .i64 n41, .string s42, .int .i64 n43, .int .i64 n44, .int .i64 n45, .slice a46 l46 c46]] w13 (fun (r48 : Value) (w14 : World) =>
  ∃ (b47 : Bool), r48 = .bool b47 ∧
  cond (!b47)
  (Q (.bool false) w14)
  ((4 : Int) ≠ 0 ∧
  cond ((Int.tmod n39 (4 : Int)) == 3)
  (CallR Tryz.prog 14 [.pointer p15, .pointer p26] w14 (fun (r50 : Value) (w15 : World) =>
  ∃ (b49 : Bool), r50 = .bool b49 ∧
  cond (!b49)
  (Q (.bool false) w15)
  (inI (n39 + 1) ∧
  I37 [.int .i64 (n39 + 1)] w15 ∧ mu38 [.int .i64 (n39 + 1)] w15 < mu38 [.int .i64 n39] w13)))
  (inI (n39 + 1) ∧
  I37 [.int .i64 (n39 + 1)] w14 ∧ mu38 [.int .i64 (n39 + 1)] w14 < mu38 [.int .i64 n39] w13)))))
  (cond (Option.isNone p15)
  (CallR Tryz.prog 15 [] w13 (fun (r52 : Value) (w16 : World) =>
  ∃ (b51 : Bool), r52 = .bool b51 ∧
  Q (.bool b51) w16))
  (CallR Tryz.prog 14 [.pointer p15, .pointer p26] w13 (fun (r54 : Value) (w17 : World) =>
  ∃ (b53 : Bool), r54 = .bool b53 ∧
  cond b53
  (CallR Tryz.prog 15 [] w17 (fun (r56 : Value) (w18 : World) =>
  ∃ (b55 : Bool), r56 = .bool b55 ∧
  Q (.bool b55) w18))
  (Q (.bool false) w17)))))
  (cond (Option.isNone p15)
  (CallR Tryz.prog 15 [] w13 (fun (r58 : Value) (w19 : World) =>
  ∃ (b57 : Bool), r58 = .bool b57 ∧
  Q (.bool b57) w19))
  (CallR Tryz.prog 14 [.pointer p15, .pointer p26] w13 (fun (r60 : Value) (w20 : World) =>
  ∃ (b59 : Bool), r60 = .bool b59 ∧
  cond b59
  (CallR Tryz.prog 15 [] w20 (fun (r62 : Value) (w21 : World) =>
  ∃ (b61 : Bool), r62 = .bool b61 ∧
  Q (.bool b61) w21))
  (Q (.bool false) w20)))))))))))))))))
theorem C3 {a1 : Option Addr} {l1 : Nat} {c1 : Nat} {a2 : Option Addr} {l2 : Nat} {c2 : Nat} {a3 : Option Addr} {l3 : Nat} {c3 : Nat} {a4 : Option Addr} {l4 : Nat} {c4 : Nat} {Q : Value → World → Prop} {w : World} (h : L3 a1 l1 c1 a2 l2 c2 a3 l3 c3 a4 l4 c4 Q w) : CallR Tryz.prog 3 [.agg #[.slice a1 l1 c1, .slice a2 l2 c2, .slice a3 l3 c3], .slice a4 l4 c4] w Q :=
  fun_calls (A := A3) mixed Tryz.func3 (c := (Tryz.f3.body).getD .skip) rfl (by kernel_rfl) (Eq.mp (by kernel_rfl) h)

end Go.Proofs.YtpoaacnnhgebfaaGreat
