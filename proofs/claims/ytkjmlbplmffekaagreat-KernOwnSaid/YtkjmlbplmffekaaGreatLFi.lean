/-
  What some functions of the program ask of the world, printed by a program out of the loaded program; each text is held against the code by evaluation. Conditions: none.
-/
import Derived.Test.YtkjmlbplmffekaaGreatProg
import Derived.Test.YtkjmlbplmffekaaGreatLm
import Derived.Test.YtkjmlbplmffekaaGreatLX
set_option linter.unusedVariables false
set_option maxRecDepth 100000
namespace Go.Proofs.YtkjmlbplmffekaaGreat
open Go.Lw
/-- millrace/file.within -/
def A189 : Ann := ⟨[(2, [(7, .one (.int .i64))])], [], [], [], [], []⟩
def L189 (a1 : Option Addr) (l1 : Nat) (c1 : Nat) (Q : Value → World → Prop) (w : World) : Prop :=
  ∃ (I2 : List Value → World → Prop) (mu3 : List Value → World → Nat),
  I2 [.int .i64 0] w ∧
  ∀ (_ : Env) (n4 : Int) (w1 : World), I2 [.int .i64 n4] w1 →
  cond (decide (n4 < (((l1 : Nat) : Int))))
  ((0 ≤ (n4 : Int) ∧ (n4 : Int) < ((l1 : Nat) : Int)) ∧
  nn a1 (fun (q5 : Addr) =>
  ∃ (n6 : Int), w1.cell? (Addr.add q5 (Int.toNat n4)) = some ((.int .i64 n6 : Value)) ∧
  cond (decide (n6 < 0))
  (Q (.bool false) w1)
  (cond (decide (n6 > 1048576))
  (Q (.bool false) w1)
  (inI (n4 + 1) ∧
  I2 [.int .i64 (n4 + 1)] w1 ∧ mu3 [.int .i64 (n4 + 1)] w1 < mu3 [.int .i64 n4] w1))))
  (Q (.bool true) w1)
theorem C189 {a1 : Option Addr} {l1 : Nat} {c1 : Nat} {Q : Value → World → Prop} {w : World} (h : L189 a1 l1 c1 Q w) : CallR Tryz.prog 189 [.slice a1 l1 c1] w Q :=
  fun_calls (A := A189) mixed Tryz.func189 (c := (Tryz.f189.body).getD .skip) rfl (by kernel_rfl) (Eq.mp (by kernel_rfl) h)

/-- (*millrace/file.File).grow -/
def A190 : Ann := ⟨[], [], [], [(1, [0, 1, 2, 3, 4, 5, 6, 7, 8, 9, 10, 11, 12, 13, 14, 15])], [], []⟩
def L190 (p1 : Option Addr) (n2 : Int) (Q : Value → World → Prop) (w : World) : Prop :=
  nn p1 (fun (q3 : Addr) =>
  ∃ (a4 : Option Addr) (l4 : Nat) (c4 : Nat), w.cell? (Addr.add q3 1) = some ((.slice a4 l4 c4 : Value)) ∧
  cond (decide (n2 > (((l4 : Nat) : Int))))
  (let w1 := World.drew w;
  nn p1 (fun (q5 : Addr) =>
  ∃ (a6 : Option Addr) (l6 : Nat) (c6 : Nat), w1.cell? (Addr.add q5 1) = some ((.slice a6 l6 c6 : Value)) ∧
  nn p1 (fun (q7 : Addr) =>
  ∃ (a8 : Option Addr) (l8 : Nat) (c8 : Nat), w1.cell? (Addr.add q7 1) = some ((.slice a8 l8 c8 : Value)) ∧
  inI (n2 - (((l8 : Nat) : Int))) ∧
  ∃ (a9 : Option Addr) (l9 : Nat) (c9 : Nat) (w2 : World), Sem.run Tryz.prog (Builtin.append_ #[32, 3] 32 #[.slice a6 l6 c6, .int .i64 (n2 - (((l8 : Nat) : Int)))]) w1 = .ok ((.slice a9 l9 c9 : Value)) w2 ∧
  nn p1 (fun (q10 : Addr) =>
  stC (Addr.add q10 1) (.slice a9 l9 c9) w2 (fun (w3 : World) =>
  Q (.tuple #[]) w3)))))
  (Q (.tuple #[]) w))
theorem C190 {p1 : Option Addr} {n2 : Int} {Q : Value → World → Prop} {w : World} (h : L190 p1 n2 Q w) : CallR Tryz.prog 190 [.pointer p1, .int .i64 n2] w Q :=
  fun_calls (A := A190) mixed Tryz.func190 (c := (Tryz.f190.body).getD .skip) rfl (by kernel_rfl) (Eq.mp (by kernel_rfl) h)

/-- millrace/file.New -/
def A83 : Ann := ⟨[], [], [], [], [], []⟩
def L83 (a1 : Option Addr) (l1 : Nat) (c1 : Nat) (Q : Value → World → Prop) (w : World) : Prop :=
  cond (decide ((((l1 : Nat) : Int)) > 1048576))
  (Q (.tuple #[.pointer none, .int .i64 5]) w)
  (CallR Tryz.prog 185 [.slice a1 l1 c1] w (fun (r3 : Value) (w1 : World) =>
  ∃ (a2 : Option Addr) (l2 : Nat) (c2 : Nat), r3 = .slice a2 l2 c2 ∧
  let w2 := World.alloc w1 (Obj.cells #[.bool true, .slice a2 l2 c2] 293);
  Q (.tuple #[.pointer (some (Addr.mk w1.heap.size 0 none)), .int .i64 0]) w2))
theorem C83 {a1 : Option Addr} {l1 : Nat} {c1 : Nat} {Q : Value → World → Prop} {w : World} (h : L83 a1 l1 c1 Q w) : CallR Tryz.prog 83 [.slice a1 l1 c1] w Q :=
  fun_calls (A := A83) mixed Tryz.func83 (c := (Tryz.f83.body).getD .skip) rfl (by kernel_rfl) (Eq.mp (by kernel_rfl) h)

/-- (*millrace/file.File).WriteAt -/
def A292 : Ann := ⟨[], [], [], [], [], []⟩
def L292 (p1 : Option Addr) (n2 : Int) (a3 : Option Addr) (l3 : Nat) (c3 : Nat) (Q : Value → World → Prop) (w : World) : Prop :=
  cond (Option.isNone p1)
  (Q (.int .i64 2) w)
  (nn p1 (fun (q4 : Addr) =>
  ∃ (b5 : Bool), w.cell? q4 = some ((.bool b5 : Value)) ∧
  cond (!b5)
  (Q (.int .i64 2) w)
  (let w1 := World.alloc w (Obj.cells #[.int .i64 n2] 3);
  CallR Tryz.prog 189 [.slice (some (Addr.mk w.heap.size 0 none)) 1 1] w1 (fun (r7 : Value) (w2 : World) =>
  ∃ (b6 : Bool), r7 = .bool b6 ∧
  cond (!b6)
  (Q (.int .i64 4) w2)
  (inI ((1048576 : Int) - n2) ∧
  cond (decide ((((l3 : Nat) : Int)) > ((1048576 : Int) - n2)))
  (Q (.int .i64 31) w2)
  (cond ((((l3 : Nat) : Int)) == 0)
  (Q (.int .i64 0) w2)
  (inI (n2 + (((l3 : Nat) : Int))) ∧
  CallR Tryz.prog 190 [.pointer p1, .int .i64 (n2 + (((l3 : Nat) : Int)))] w2 (fun (r8 : Value) (w3 : World) =>
  r8 = .tuple #[] ∧
  nn p1 (fun (q9 : Addr) =>
  ∃ (a10 : Option Addr) (l10 : Nat) (c10 : Nat), w3.cell? (Addr.add q9 1) = some ((.slice a10 l10 c10 : Value)) ∧
  (0 ≤ (n2 : Int) ∧ (n2 : Int) ≤ ((l10 : Nat) : Int)) ∧
  ∃ (n11 : Int) (w4 : World), Sem.run Tryz.prog (Builtin.copy_ #[32, 32] 3 #[.slice (adv a10 (Int.toNat n2) c10 1) (l10 - Int.toNat n2) (c10 - Int.toNat n2), .slice a3 l3 c3]) w3 = .ok ((.int .i64 n11 : Value)) w4 ∧
  Q (.int .i64 0) w4)))))))))
theorem C292 {p1 : Option Addr} {n2 : Int} {a3 : Option Addr} {l3 : Nat} {c3 : Nat} {Q : Value → World → Prop} {w : World} (h : L292 p1 n2 a3 l3 c3 Q w) : CallR Tryz.prog 292 [.pointer p1, .int .i64 n2, .slice a3 l3 c3] w Q :=
  fun_calls (A := A292) mixed Tryz.func292 (c := (Tryz.f292.body).getD .skip) rfl (by kernel_rfl) (Eq.mp (by kernel_rfl) h)

/-- (*millrace/file.File).Size -/
def A95 : Ann := ⟨[], [], [], [], [], []⟩
def L95 (p1 : Option Addr) (Q : Value → World → Prop) (w : World) : Prop :=
  cond (Option.isNone p1)
  (Q (.int .i64 0) w)
  (nn p1 (fun (q2 : Addr) =>
  ∃ (a3 : Option Addr) (l3 : Nat) (c3 : Nat), w.cell? (Addr.add q2 1) = some ((.slice a3 l3 c3 : Value)) ∧
  Q (.int .i64 (((l3 : Nat) : Int))) w))
theorem C95 {p1 : Option Addr} {Q : Value → World → Prop} {w : World} (h : L95 p1 Q w) : CallR Tryz.prog 95 [.pointer p1] w Q :=
  fun_calls (A := A95) mixed Tryz.func95 (c := (Tryz.f95.body).getD .skip) rfl (by kernel_rfl) (Eq.mp (by kernel_rfl) h)

/-- (*millrace/file.File).ReadAt -/
def A290 : Ann := ⟨[], [], [], [(6, [0, 1, 2, 3, 4, 5, 6, 7, 8, 9, 10, 11, 12, 13, 14, 15, 16, 17])], [], []⟩
def L290 (p1 : Option Addr) (n2 : Int) (n3 : Int) (Q : Value → World → Prop) (w : World) : Prop :=
  cond (Option.isNone p1)
  (Q (.tuple #[.slice none 0 0, .int .i64 2]) w)
  (nn p1 (fun (q4 : Addr) =>
  ∃ (b5 : Bool), w.cell? q4 = some ((.bool b5 : Value)) ∧
  cond (!b5)
  (Q (.tuple #[.slice none 0 0, .int .i64 2]) w)
  (let w1 := World.alloc w (Obj.cells #[.int .i64 n2, .int .i64 n3] 3);
  CallR Tryz.prog 189 [.slice (some (Addr.mk w.heap.size 0 none)) 2 2] w1 (fun (r7 : Value) (w2 : World) =>
  ∃ (b6 : Bool), r7 = .bool b6 ∧
  cond (!b6)
  (Q (.tuple #[.slice none 0 0, .int .i64 4]) w2)
  (nn p1 (fun (q8 : Addr) =>
  ∃ (a9 : Option Addr) (l9 : Nat) (c9 : Nat), w2.cell? (Addr.add q8 1) = some ((.slice a9 l9 c9 : Value)) ∧
  let w3 := World.drew w2;
  nn p1 (fun (q10 : Addr) =>
  ∃ (a11 : Option Addr) (l11 : Nat) (c11 : Nat), w3.cell? (Addr.add q10 1) = some ((.slice a11 l11 c11 : Value)) ∧
  inI ((mn n2 (((l9 : Nat) : Int))) + n3) ∧
  nn p1 (fun (q12 : Addr) =>
  ∃ (a13 : Option Addr) (l13 : Nat) (c13 : Nat), w3.cell? (Addr.add q12 1) = some ((.slice a13 l13 c13 : Value)) ∧
  (0 ≤ (mn ((mn n2 (((l9 : Nat) : Int))) + n3) (((l13 : Nat) : Int)) : Int) ∧ (mn ((mn n2 (((l9 : Nat) : Int))) + n3) (((l13 : Nat) : Int)) : Int) ≤ ((c11 : Nat) : Int)) ∧
  (0 ≤ (mn n2 (((l9 : Nat) : Int)) : Int) ∧ (mn n2 (((l9 : Nat) : Int)) : Int) ≤ ((Int.toNat (mn ((mn n2 (((l9 : Nat) : Int))) + n3) (((l13 : Nat) : Int))) : Nat) : Int)) ∧
  CallR Tryz.prog 185 [.slice (adv a11 (Int.toNat (mn n2 (((l9 : Nat) : Int)))) c11 1) (Int.toNat (mn ((mn n2 (((l9 : Nat) : Int))) + n3) (((l13 : Nat) : Int))) - Int.toNat (mn n2 (((l9 : Nat) : Int)))) (c11 - Int.toNat (mn n2 (((l9 : Nat) : Int))))] w3 (fun (r15 : Value) (w4 : World) =>
  ∃ (a14 : Option Addr) (l14 : Nat) (c14 : Nat), r15 = .slice a14 l14 c14 ∧
  Q (.tuple #[.slice a14 l14 c14, .int .i64 0]) w4)))))))))
theorem C290 {p1 : Option Addr} {n2 : Int} {n3 : Int} {Q : Value → World → Prop} {w : World} (h : L290 p1 n2 n3 Q w) : CallR Tryz.prog 290 [.pointer p1, .int .i64 n2, .int .i64 n3] w Q :=
  fun_calls (A := A290) mixed Tryz.func290 (c := (Tryz.f290.body).getD .skip) rfl (by kernel_rfl) (Eq.mp (by kernel_rfl) h)

/-- (*millrace/file.File).Truncate -/
def A91 : Ann := ⟨[], [], [], [], [], []⟩
def L91 (p1 : Option Addr) (n2 : Int) (Q : Value → World → Prop) (w : World) : Prop :=
  cond (Option.isNone p1)
  (Q (.int .i64 2) w)
  (nn p1 (fun (q3 : Addr) =>
  ∃ (b4 : Bool), w.cell? q3 = some ((.bool b4 : Value)) ∧
  cond (!b4)
  (Q (.int .i64 2) w)
  (let w1 := World.alloc w (Obj.cells #[.int .i64 n2] 3);
  CallR Tryz.prog 189 [.slice (some (Addr.mk w.heap.size 0 none)) 1 1] w1 (fun (r6 : Value) (w2 : World) =>
  ∃ (b5 : Bool), r6 = .bool b5 ∧
  cond (!b5)
  (Q (.int .i64 4) w2)
  (CallR Tryz.prog 190 [.pointer p1, .int .i64 n2] w2 (fun (r7 : Value) (w3 : World) =>
  r7 = .tuple #[] ∧
  nn p1 (fun (q8 : Addr) =>
  ∃ (a9 : Option Addr) (l9 : Nat) (c9 : Nat), w3.cell? (Addr.add q8 1) = some ((.slice a9 l9 c9 : Value)) ∧
  (0 ≤ (n2 : Int) ∧ (n2 : Int) ≤ ((c9 : Nat) : Int)) ∧
  (0 ≤ (n2 : Int) ∧ (n2 : Int) ≤ ((Int.toNat n2 : Nat) : Int)) ∧
  nn p1 (fun (q10 : Addr) =>
  stC (Addr.add q10 1) (.slice a9 (Int.toNat n2) (Int.toNat n2)) w3 (fun (w4 : World) =>
  Q (.int .i64 0) w4)))))))))
theorem C91 {p1 : Option Addr} {n2 : Int} {Q : Value → World → Prop} {w : World} (h : L91 p1 n2 Q w) : CallR Tryz.prog 91 [.pointer p1, .int .i64 n2] w Q :=
  fun_calls (A := A91) mixed Tryz.func91 (c := (Tryz.f91.body).getD .skip) rfl (by kernel_rfl) (Eq.mp (by kernel_rfl) h)

/-- (*millrace/file.File).Bytes -/
def A97 : Ann := ⟨[], [], [], [], [], []⟩
def L97 (p1 : Option Addr) (Q : Value → World → Prop) (w : World) : Prop :=
  cond (Option.isNone p1)
  (Q (.slice none 0 0) w)
  (nn p1 (fun (q2 : Addr) =>
  ∃ (a3 : Option Addr) (l3 : Nat) (c3 : Nat), w.cell? (Addr.add q2 1) = some ((.slice a3 l3 c3 : Value)) ∧
  CallR Tryz.prog 185 [.slice a3 l3 c3] w (fun (r5 : Value) (w1 : World) =>
  ∃ (a4 : Option Addr) (l4 : Nat) (c4 : Nat), r5 = .slice a4 l4 c4 ∧
  Q (.slice a4 l4 c4) w1)))
theorem C97 {p1 : Option Addr} {Q : Value → World → Prop} {w : World} (h : L97 p1 Q w) : CallR Tryz.prog 97 [.pointer p1] w Q :=
  fun_calls (A := A97) mixed Tryz.func97 (c := (Tryz.f97.body).getD .skip) rfl (by kernel_rfl) (Eq.mp (by kernel_rfl) h)

end Go.Proofs.YtkjmlbplmffekaaGreat
