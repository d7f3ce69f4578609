/-
  What some functions of the program ask of the world, printed by a program out of the loaded program; each text is held against the code by evaluation. Conditions: none.
-/
import Derived.Test.YtpoaacnnhgebfaaGreatProg
import Derived.Test.YtpoaacnnhgebfaaGreatLm
import Derived.Test.YtpoaacnnhgebfaaGreatLX
set_option linter.unusedVariables false
set_option maxRecDepth 100000
namespace Go.Proofs.YtpoaacnnhgebfaaGreat
open Go.Lw
/-- millrace/faults.may -/
def A164 : Ann := ⟨[], [], [], [], [], []⟩
def L164 (n1 : Int) (n2 : Int) (Q : Value → World → Prop) (w : World) : Prop :=
  let w1 := World.alloc w (Obj.cells #[.int .i64 n1, .int .i64 n2] 188);
  ∃ (n3 : Int), w1.cell? (Addr.mk w.heap.size 0 none) = some ((.int .i64 n3 : Value)) ∧
  cond (n3 == 1)
  (∃ (n4 : Int), w1.cell? (Addr.mk w.heap.size 1 none) = some ((.int .i64 n4 : Value)) ∧
  cond (decide (n4 ≥ 1))
  (∃ (n5 : Int), w1.cell? (Addr.mk w.heap.size 1 none) = some ((.int .i64 n5 : Value)) ∧
  Q (.bool (decide (n5 ≤ 1048576))) w1)
  (Q (.bool false) w1))
  (cond (n3 == 0)
  (cond (n3 == 0)
  (∃ (n6 : Int), w1.cell? (Addr.mk w.heap.size 1 none) = some ((.int .i64 n6 : Value)) ∧
  Q (.bool (n6 == 0)) w1)
  (Q (.bool false) w1))
  (cond (n3 == 2)
  (cond (n3 == 2)
  (∃ (n7 : Int), w1.cell? (Addr.mk w.heap.size 1 none) = some ((.int .i64 n7 : Value)) ∧
  Q (.bool (n7 == 0)) w1)
  (Q (.bool false) w1))
  (cond (n3 == 3)
  (∃ (n8 : Int), w1.cell? (Addr.mk w.heap.size 1 none) = some ((.int .i64 n8 : Value)) ∧
  Q (.bool (n8 == 0)) w1)
  (Q (.bool false) w1))))
theorem C164 {n1 : Int} {n2 : Int} {Q : Value → World → Prop} {w : World} (h : L164 n1 n2 Q w) : CallR Tryz.prog 164 [.agg #[.int .i64 n1, .int .i64 n2]] w Q :=
  fun_calls (A := A164) mixed Tryz.func164 (c := (Tryz.f164.body).getD .skip) rfl (by kernel_rfl) (Eq.mp (by kernel_rfl) h)

/-- millrace/faults.Check -/
def A63 : Ann := ⟨[], [], [], [], [], []⟩
def L63 (a1 : Option Addr) (l1 : Nat) (c1 : Nat) (Q : Value → World → Prop) (w : World) : Prop :=
  cond (decide ((((l1 : Nat) : Int)) > 4096))
  (Q (.tuple #[.int .i64 3, .int .i64 0]) w)
  (CallR Tryz.prog 162 [.slice a1 l1 c1, .func (.func 163) #[] #[]] w (fun (r3 : Value) (w1 : World) =>
  ∃ (n2 : Int), r3 = .int .i64 n2 ∧
  cond (decide (n2 ≥ 0))
  (Q (.tuple #[.int .i64 21, .int .i64 n2]) w1)
  (Q (.tuple #[.int .i64 0, .int .i64 (((l1 : Nat) : Int))]) w1)))
theorem C63 {a1 : Option Addr} {l1 : Nat} {c1 : Nat} {Q : Value → World → Prop} {w : World} (h : L63 a1 l1 c1 Q w) : CallR Tryz.prog 63 [.slice a1 l1 c1] w Q :=
  fun_calls (A := A63) mixed Tryz.func63 (c := (Tryz.f63.body).getD .skip) rfl (by kernel_rfl) (Eq.mp (by kernel_rfl) h)

/-- millrace/faults.Check$1 -/
def A163 : Ann := ⟨[], [], [], [], [], []⟩
def L163 (n1 : Int) (n2 : Int) (Q : Value → World → Prop) (w : World) : Prop :=
  let w1 := World.alloc w (Obj.cells #[.int .i64 n1, .int .i64 n2] 188);
  ∃ (n3 : Int) (n4 : Int), w1.cell? (Addr.mk w.heap.size 0 none) = some ((.int .i64 n3 : Value)) ∧ w1.cell? (Addr.mk w.heap.size 1 none) = some ((.int .i64 n4 : Value)) ∧ 
  CallR Tryz.prog 164 [.agg #[.int .i64 n3, .int .i64 n4]] w1 (fun (r6 : Value) (w2 : World) =>
  ∃ (b5 : Bool), r6 = .bool b5 ∧
  Q (.bool (!b5)) w2)
theorem C163 {n1 : Int} {n2 : Int} {Q : Value → World → Prop} {w : World} (h : L163 n1 n2 Q w) : CallR Tryz.prog 163 [.agg #[.int .i64 n1, .int .i64 n2]] w Q :=
  fun_calls (A := A163) mixed Tryz.func163 (c := (Tryz.f163.body).getD .skip) rfl (by kernel_rfl) (Eq.mp (by kernel_rfl) h)

/-- millrace/faults.New -/
def A53 : Ann := ⟨[], [], [], [], [], []⟩
def L53 (a1 : Option Addr) (l1 : Nat) (c1 : Nat) (Q : Value → World → Prop) (w : World) : Prop :=
  CallR Tryz.prog 63 [.slice a1 l1 c1] w (fun (r4 : Value) (w1 : World) =>
  ∃ (n2 : Int) (n3 : Int), r4 = .tuple #[.int .i64 n2, .int .i64 n3] ∧
  cond (n2 != 0)
  (Q (.tuple #[.pointer none, .int .i64 n2]) w1)
  (CallR Tryz.prog 156 [.slice a1 l1 c1] w1 (fun (r6 : Value) (w2 : World) =>
  ∃ (a5 : Option Addr) (l5 : Nat) (c5 : Nat), r6 = .slice a5 l5 c5 ∧
  let w3 := World.alloc w2 (Obj.cells #[.bool true, .slice a5 l5 c5] 245);
  Q (.tuple #[.pointer (some (Addr.mk w2.heap.size 0 none)), .int .i64 0]) w3)))
theorem C53 {a1 : Option Addr} {l1 : Nat} {c1 : Nat} {Q : Value → World → Prop} {w : World} (h : L53 a1 l1 c1 Q w) : CallR Tryz.prog 53 [.slice a1 l1 c1] w Q :=
  fun_calls (A := A53) mixed Tryz.func53 (c := (Tryz.f53.body).getD .skip) rfl (by kernel_rfl) (Eq.mp (by kernel_rfl) h)

/-- (*millrace/faults.Plan).Next -/
def A167 : Ann := ⟨[], [(8, [])], [], [], [(7, [0, 1, 2, 3, 4, 5, 6, 7, 8, 9, 10, 11, 12, 13, 14], 15, [])], []⟩
def L167 (p1 : Option Addr) (n2 : Int) (Q : Value → World → Prop) (w : World) : Prop :=
  cond (Option.isNone p1)
  (Q (.tuple #[.int .i64 0, .int .i64 2]) w)
  (nn p1 (fun (q3 : Addr) =>
  ∃ (b4 : Bool), w.cell? q3 = some ((.bool b4 : Value)) ∧
  cond (!b4)
  (Q (.tuple #[.int .i64 0, .int .i64 2]) w)
  (cond (decide (n2 < 1))
  (Q (.tuple #[.int .i64 0, .int .i64 4]) w)
  (cond (decide (n2 > 1048576))
  (Q (.tuple #[.int .i64 0, .int .i64 4]) w)
  (let w1 := World.alloc w (Obj.cells #[.int .i64 0, .int .i64 0] 188);
  ∃ (J5 : List Value → World → Prop),
  (nn p1 (fun (q6 : Addr) =>
  ∃ (a7 : Option Addr) (l7 : Nat) (c7 : Nat), w1.cell? (Addr.add q6 1) = some ((.slice a7 l7 c7 : Value)) ∧
  cond (decide ((((l7 : Nat) : Int)) > 0))
  (∃ (S8 : World → Prop), S8 (World.drew w1) ∧
  let w2 := World.drew w1;
  nn p1 (fun (q9 : Addr) =>
  ∃ (a10 : Option Addr) (l10 : Nat) (c10 : Nat), (∀ wS : World, S8 wS → wS.cell? (Addr.add q9 1) = some ((.slice a10 l10 c10 : Value))) ∧
  (0 ≤ (0 : Int) ∧ (0 : Int) < ((l10 : Nat) : Int)) ∧
  nn a10 (fun (q11 : Addr) =>
  ∃ (n12 : Int) (n13 : Int), (∀ wS : World, S8 wS → wS.cell? (Addr.add q11 (Int.toNat 0 * 2)) = some ((.int .i64 n12 : Value)) ∧ wS.cell? (Addr.add (Addr.add q11 (Int.toNat 0 * 2)) 1) = some ((.int .i64 n13 : Value)) ∧ True) ∧
  nn p1 (fun (q14 : Addr) =>
  ∃ (a15 : Option Addr) (l15 : Nat) (c15 : Nat), (∀ wS : World, S8 wS → wS.cell? (Addr.add q14 1) = some ((.slice a15 l15 c15 : Value))) ∧
  (0 ≤ (1 : Int) ∧ (1 : Int) ≤ ((l15 : Nat) : Int)) ∧
  stC (Addr.mk w.heap.size 0 none) (.int .i64 n12) w2 (fun (w3 : World) =>
  stC (Addr.mk w.heap.size 1 none) (.int .i64 n13) w3 (fun (w4 : World) =>
  S8 w4 ∧
  nn p1 (fun (q16 : Addr) =>
  stC (Addr.add q16 1) (.slice (adv a15 (Int.toNat 1) c15 2) (l15 - Int.toNat 1) (c15 - Int.toNat 1)) w4 (fun (w5 : World) =>
  J5 [] w5))))))))
  (J5 [] w1))) ∧
  (∀ (_ : Env) (w6 : World), J5 [] w6 →
  ∃ (n17 : Int), w6.cell? (Addr.mk w.heap.size 0 none) = some ((.int .i64 n17 : Value)) ∧
  cond (n17 == 1)
  (∃ (n18 : Int), w6.cell? (Addr.mk w.heap.size 1 none) = some ((.int .i64 n18 : Value)) ∧
  Q (.tuple #[.int .i64 (mn n2 n18), .int .i64 0]) w6)
  (cond (n17 == 2)
  (Q (.tuple #[.int .i64 0, .int .i64 22]) w6)
  (cond (n17 == 3)
  (Q (.tuple #[.int .i64 0, .int .i64 23]) w6)
  (Q (.tuple #[.int .i64 n2, .int .i64 0]) w6)))))))))
theorem C167 {p1 : Option Addr} {n2 : Int} {Q : Value → World → Prop} {w : World} (h : L167 p1 n2 Q w) : CallR Tryz.prog 167 [.pointer p1, .int .i64 n2] w Q :=
  fun_calls (A := A167) mixed Tryz.func167 (c := (Tryz.f167.body).getD .skip) rfl (by kernel_rfl) (Eq.mp (by kernel_rfl) h)

/-- slices.IndexFunc[[]millrace/api.Fault,millrace/api.Fault] -/
def A162 : Ann := ⟨[(2, [(8, .one (.int .i64))])], [], [], [], [], []⟩
def L162 (a1 : Option Addr) (l1 : Nat) (c1 : Nat) (v2 : Value) (Q : Value → World → Prop) (w : World) : Prop :=
  ∃ (I3 : List Value → World → Prop) (mu4 : List Value → World → Nat),
  I3 [.int .i64 0] w ∧
  ∀ (_ : Env) (n5 : Int) (w1 : World), I3 [.int .i64 n5] w1 →
  cond (decide (n5 < (((l1 : Nat) : Int))))
  ((0 ≤ (n5 : Int) ∧ (n5 : Int) < ((l1 : Nat) : Int)) ∧
  nn a1 (fun (q6 : Addr) =>
  ∃ (n7 : Int) (n8 : Int), w1.cell? (Addr.add q6 (Int.toNat n5 * 2)) = some ((.int .i64 n7 : Value)) ∧ w1.cell? (Addr.add (Addr.add q6 (Int.toNat n5 * 2)) 1) = some ((.int .i64 n8 : Value)) ∧ 
  ∃ (k9 : FuncId) (xs10 : Array Value) (xs11 : Array Value), (v2 : Value) = .func (.func k9) xs10 xs11 ∧ bodyB Tryz.prog k9 = true ∧
  CallR Tryz.prog k9 (Array.toList xs10 ++ ([.agg #[.int .i64 n7, .int .i64 n8]] ++ Array.toList xs11)) w1 (fun (r13 : Value) (w2 : World) =>
  ∃ (b12 : Bool), r13 = .bool b12 ∧
  cond b12
  (Q (.int .i64 n5) w2)
  (inI (n5 + 1) ∧
  I3 [.int .i64 (n5 + 1)] w2 ∧ mu4 [.int .i64 (n5 + 1)] w2 < mu4 [.int .i64 n5] w1))))
  (Q (.int .i64 ((-1))) w1)
theorem C162 {a1 : Option Addr} {l1 : Nat} {c1 : Nat} {v2 : Value} {Q : Value → World → Prop} {w : World} (h : L162 a1 l1 c1 v2 Q w) : CallR Tryz.prog 162 [.slice a1 l1 c1, v2] w Q :=
  fun_calls (A := A162) mixed Tryz.func162 (c := (Tryz.f162.body).getD .skip) rfl (by kernel_rfl) (Eq.mp (by kernel_rfl) h)

/-- slices.Clone[[]millrace/api.Fault,millrace/api.Fault] -/
def A156 : Ann := ⟨[], [], [], [], [], []⟩
def L156 (a1 : Option Addr) (l1 : Nat) (c1 : Nat) (Q : Value → World → Prop) (w : World) : Prop :=
  cond (Option.isNone a1)
  (Q (.slice none 0 0) w)
  (let w1 := World.alloc w (Obj.cells #[] 188);
  ∃ (a2 : Option Addr) (l2 : Nat) (c2 : Nat) (w2 : World), Sem.run Tryz.prog (Builtin.append_ #[24, 24] 24 #[.slice (some (Addr.mk w.heap.size 0 none)) 0 0, .slice a1 l1 c1]) w1 = .ok ((.slice a2 l2 c2 : Value)) w2 ∧
  Q (.slice a2 l2 c2) w2)
theorem C156 {a1 : Option Addr} {l1 : Nat} {c1 : Nat} {Q : Value → World → Prop} {w : World} (h : L156 a1 l1 c1 Q w) : CallR Tryz.prog 156 [.slice a1 l1 c1] w Q :=
  fun_calls (A := A156) mixed Tryz.func156 (c := (Tryz.f156.body).getD .skip) rfl (by kernel_rfl) (Eq.mp (by kernel_rfl) h)

/-- millrace/file.within -/
def A195 : Ann := ⟨[(2, [(7, .one (.int .i64))])], [], [], [], [], []⟩
def L195 (a1 : Option Addr) (l1 : Nat) (c1 : Nat) (Q : Value → World → Prop) (w : World) : Prop :=
  ∃ (I2 : List Value → World → Prop) (mu3 : List Value → World → Nat),
  I2 [.int .i64 0] w ∧
  ∀ (_ : Env) (n4 : Int) (w1 : World), I2 [.int .i64 n4] w1 →
  cond (decide (n4 < (((l1 : Nat) : Int))))
  ((0 ≤ (n4 : Int) ∧ (n4 : Int) < ((l1 : Nat) : Int)) ∧
  nn a1 (fun (q5 : Addr) =>
  ∃ (n6 : Int), w1.cell? (Addr.add q5 (Int.toNat n4)) = some ((.int .i64 n6 : Value)) ∧
  cond (decide (n6 < 0))
  (Q (.bool false) w1)
  (cond (decide (n6 > 1048576))
  (Q (.bool false) w1)
  (inI (n4 + 1) ∧
  I2 [.int .i64 (n4 + 1)] w1 ∧ mu3 [.int .i64 (n4 + 1)] w1 < mu3 [.int .i64 n4] w1))))
  (Q (.bool true) w1)
theorem C195 {a1 : Option Addr} {l1 : Nat} {c1 : Nat} {Q : Value → World → Prop} {w : World} (h : L195 a1 l1 c1 Q w) : CallR Tryz.prog 195 [.slice a1 l1 c1] w Q :=
  fun_calls (A := A195) mixed Tryz.func195 (c := (Tryz.f195.body).getD .skip) rfl (by kernel_rfl) (Eq.mp (by kernel_rfl) h)

/-- (*millrace/file.File).grow -/
def A196 : Ann := ⟨[], [], [], [(1, [0, 1, 2, 3, 4, 5, 6, 7, 8, 9, 10, 11, 12, 13, 14, 15])], [], []⟩
def L196 (p1 : Option Addr) (n2 : Int) (Q : Value → World → Prop) (w : World) : Prop :=
  nn p1 (fun (q3 : Addr) =>
  ∃ (a4 : Option Addr) (l4 : Nat) (c4 : Nat), w.cell? (Addr.add q3 1) = some ((.slice a4 l4 c4 : Value)) ∧
  cond (decide (n2 > (((l4 : Nat) : Int))))
  (let w1 := World.drew w;
  nn p1 (fun (q5 : Addr) =>
  ∃ (a6 : Option Addr) (l6 : Nat) (c6 : Nat), w1.cell? (Addr.add q5 1) = some ((.slice a6 l6 c6 : Value)) ∧
  nn p1 (fun (q7 : Addr) =>
  ∃ (a8 : Option Addr) (l8 : Nat) (c8 : Nat), w1.cell? (Addr.add q7 1) = some ((.slice a8 l8 c8 : Value)) ∧
  inI (n2 - (((l8 : Nat) : Int))) ∧
  ∃ (a9 : Option Addr) (l9 : Nat) (c9 : Nat) (w2 : World), Sem.run Tryz.prog (Builtin.append_ #[40, 3] 40 #[.slice a6 l6 c6, .int .i64 (n2 - (((l8 : Nat) : Int)))]) w1 = .ok ((.slice a9 l9 c9 : Value)) w2 ∧
  nn p1 (fun (q10 : Addr) =>
  stC (Addr.add q10 1) (.slice a9 l9 c9) w2 (fun (w3 : World) =>
  Q (.tuple #[]) w3)))))
  (Q (.tuple #[]) w))
theorem C196 {p1 : Option Addr} {n2 : Int} {Q : Value → World → Prop} {w : World} (h : L196 p1 n2 Q w) : CallR Tryz.prog 196 [.pointer p1, .int .i64 n2] w Q :=
  fun_calls (A := A196) mixed Tryz.func196 (c := (Tryz.f196.body).getD .skip) rfl (by kernel_rfl) (Eq.mp (by kernel_rfl) h)

/-- millrace/file.New -/
def A54 : Ann := ⟨[], [], [], [], [], []⟩
def L54 (a1 : Option Addr) (l1 : Nat) (c1 : Nat) (Q : Value → World → Prop) (w : World) : Prop :=
  cond (decide ((((l1 : Nat) : Int)) > 1048576))
  (Q (.tuple #[.pointer none, .int .i64 5]) w)
  (CallR Tryz.prog 157 [.slice a1 l1 c1] w (fun (r3 : Value) (w1 : World) =>
  ∃ (a2 : Option Addr) (l2 : Nat) (c2 : Nat), r3 = .slice a2 l2 c2 ∧
  let w2 := World.alloc w1 (Obj.cells #[.bool true, .slice a2 l2 c2] 247);
  Q (.tuple #[.pointer (some (Addr.mk w1.heap.size 0 none)), .int .i64 0]) w2))
theorem C54 {a1 : Option Addr} {l1 : Nat} {c1 : Nat} {Q : Value → World → Prop} {w : World} (h : L54 a1 l1 c1 Q w) : CallR Tryz.prog 54 [.slice a1 l1 c1] w Q :=
  fun_calls (A := A54) mixed Tryz.func54 (c := (Tryz.f54.body).getD .skip) rfl (by kernel_rfl) (Eq.mp (by kernel_rfl) h)

/-- (*millrace/file.File).WriteAt -/
def A280 : Ann := ⟨[], [], [], [], [], []⟩
def L280 (p1 : Option Addr) (n2 : Int) (a3 : Option Addr) (l3 : Nat) (c3 : Nat) (Q : Value → World → Prop) (w : World) : Prop :=
  cond (Option.isNone p1)
  (Q (.int .i64 2) w)
  (nn p1 (fun (q4 : Addr) =>
  ∃ (b5 : Bool), w.cell? q4 = some ((.bool b5 : Value)) ∧
  cond (!b5)
  (Q (.int .i64 2) w)
  (let w1 := World.alloc w (Obj.cells #[.int .i64 n2] 3);
  CallR Tryz.prog 195 [.slice (some (Addr.mk w.heap.size 0 none)) 1 1] w1 (fun (r7 : Value) (w2 : World) =>
  ∃ (b6 : Bool), r7 = .bool b6 ∧
  cond (!b6)
  (Q (.int .i64 4) w2)
  (inI ((1048576 : Int) - n2) ∧
  cond (decide ((((l3 : Nat) : Int)) > ((1048576 : Int) - n2)))
  (Q (.int .i64 31) w2)
  (cond ((((l3 : Nat) : Int)) == 0)
  (Q (.int .i64 0) w2)
  (inI (n2 + (((l3 : Nat) : Int))) ∧
  CallR Tryz.prog 196 [.pointer p1, .int .i64 (n2 + (((l3 : Nat) : Int)))] w2 (fun (r8 : Value) (w3 : World) =>
  r8 = .tuple #[] ∧
  nn p1 (fun (q9 : Addr) =>
  ∃ (a10 : Option Addr) (l10 : Nat) (c10 : Nat), w3.cell? (Addr.add q9 1) = some ((.slice a10 l10 c10 : Value)) ∧
  (0 ≤ (n2 : Int) ∧ (n2 : Int) ≤ ((l10 : Nat) : Int)) ∧
  ∃ (n11 : Int) (w4 : World), Sem.run Tryz.prog (Builtin.copy_ #[40, 40] 3 #[.slice (adv a10 (Int.toNat n2) c10 1) (l10 - Int.toNat n2) (c10 - Int.toNat n2), .slice a3 l3 c3]) w3 = .ok ((.int .i64 n11 : Value)) w4 ∧
  Q (.int .i64 0) w4)))))))))
theorem C280 {p1 : Option Addr} {n2 : Int} {a3 : Option Addr} {l3 : Nat} {c3 : Nat} {Q : Value → World → Prop} {w : World} (h : L280 p1 n2 a3 l3 c3 Q w) : CallR Tryz.prog 280 [.pointer p1, .int .i64 n2, .slice a3 l3 c3] w Q :=
  fun_calls (A := A280) mixed Tryz.func280 (c := (Tryz.f280.body).getD .skip) rfl (by kernel_rfl) (Eq.mp (by kernel_rfl) h)

/-- (*millrace/file.File).Size -/
def A178 : Ann := ⟨[], [], [], [], [], []⟩
def L178 (p1 : Option Addr) (Q : Value → World → Prop) (w : World) : Prop :=
  cond (Option.isNone p1)
  (Q (.int .i64 0) w)
  (nn p1 (fun (q2 : Addr) =>
  ∃ (a3 : Option Addr) (l3 : Nat) (c3 : Nat), w.cell? (Addr.add q2 1) = some ((.slice a3 l3 c3 : Value)) ∧
  Q (.int .i64 (((l3 : Nat) : Int))) w))
theorem C178 {p1 : Option Addr} {Q : Value → World → Prop} {w : World} (h : L178 p1 Q w) : CallR Tryz.prog 178 [.pointer p1] w Q :=
  fun_calls (A := A178) mixed Tryz.func178 (c := (Tryz.f178.body).getD .skip) rfl (by kernel_rfl) (Eq.mp (by kernel_rfl) h)

/-- (*millrace/file.File).ReadAt -/
def A278 : Ann := ⟨[], [], [], [(6, [0, 1, 2, 3, 4, 5, 6, 7, 8, 9, 10, 11, 12, 13, 14, 15, 16, 17])], [], []⟩
def L278 (p1 : Option Addr) (n2 : Int) (n3 : Int) (Q : Value → World → Prop) (w : World) : Prop :=
  cond (Option.isNone p1)
  (Q (.tuple #[.slice none 0 0, .int .i64 2]) w)
  (nn p1 (fun (q4 : Addr) =>
  ∃ (b5 : Bool), w.cell? q4 = some ((.bool b5 : Value)) ∧
  cond (!b5)
  (Q (.tuple #[.slice none 0 0, .int .i64 2]) w)
  (let w1 := World.alloc w (Obj.cells #[.int .i64 n2, .int .i64 n3] 3);
  CallR Tryz.prog 195 [.slice (some (Addr.mk w.heap.size 0 none)) 2 2] w1 (fun (r7 : Value) (w2 : World) =>
  ∃ (b6 : Bool), r7 = .bool b6 ∧
  cond (!b6)
  (Q (.tuple #[.slice none 0 0, .int .i64 4]) w2)
  (nn p1 (fun (q8 : Addr) =>
  ∃ (a9 : Option Addr) (l9 : Nat) (c9 : Nat), w2.cell? (Addr.add q8 1) = some ((.slice a9 l9 c9 : Value)) ∧
  let w3 := World.drew w2;
  nn p1 (fun (q10 : Addr) =>
  ∃ (a11 : Option Addr) (l11 : Nat) (c11 : Nat), w3.cell? (Addr.add q10 1) = some ((.slice a11 l11 c11 : Value)) ∧
  inI ((mn n2 (((l9 : Nat) : Int))) + n3) ∧
  nn p1 (fun (q12 : Addr) =>
  ∃ (a13 : Option Addr) (l13 : Nat) (c13 : Nat), w3.cell? (Addr.add q12 1) = some ((.slice a13 l13 c13 : Value)) ∧
  (0 ≤ (mn ((mn n2 (((l9 : Nat) : Int))) + n3) (((l13 : Nat) : Int)) : Int) ∧ (mn ((mn n2 (((l9 : Nat) : Int))) + n3) (((l13 : Nat) : Int)) : Int) ≤ ((c11 : Nat) : Int)) ∧
  (0 ≤ (mn n2 (((l9 : Nat) : Int)) : Int) ∧ (mn n2 (((l9 : Nat) : Int)) : Int) ≤ ((Int.toNat (mn ((mn n2 (((l9 : Nat) : Int))) + n3) (((l13 : Nat) : Int))) : Nat) : Int)) ∧
  CallR Tryz.prog 157 [.slice (adv a11 (Int.toNat (mn n2 (((l9 : Nat) : Int)))) c11 1) (Int.toNat (mn ((mn n2 (((l9 : Nat) : Int))) + n3) (((l13 : Nat) : Int))) - Int.toNat (mn n2 (((l9 : Nat) : Int)))) (c11 - Int.toNat (mn n2 (((l9 : Nat) : Int))))] w3 (fun (r15 : Value) (w4 : World) =>
  ∃ (a14 : Option Addr) (l14 : Nat) (c14 : Nat), r15 = .slice a14 l14 c14 ∧
  Q (.tuple #[.slice a14 l14 c14, .int .i64 0]) w4)))))))))
theorem C278 {p1 : Option Addr} {n2 : Int} {n3 : Int} {Q : Value → World → Prop} {w : World} (h : L278 p1 n2 n3 Q w) : CallR Tryz.prog 278 [.pointer p1, .int .i64 n2, .int .i64 n3] w Q :=
  fun_calls (A := A278) mixed Tryz.func278 (c := (Tryz.f278.body).getD .skip) rfl (by kernel_rfl) (Eq.mp (by kernel_rfl) h)

/-- (*millrace/file.File).Truncate -/
def A124 : Ann := ⟨[], [], [], [], [], []⟩
def L124 (p1 : Option Addr) (n2 : Int) (Q : Value → World → Prop) (w : World) : Prop :=
  cond (Option.isNone p1)
  (Q (.int .i64 2) w)
  (nn p1 (fun (q3 : Addr) =>
  ∃ (b4 : Bool), w.cell? q3 = some ((.bool b4 : Value)) ∧
  cond (!b4)
  (Q (.int .i64 2) w)
  (let w1 := World.alloc w (Obj.cells #[.int .i64 n2] 3);
  CallR Tryz.prog 195 [.slice (some (Addr.mk w.heap.size 0 none)) 1 1] w1 (fun (r6 : Value) (w2 : World) =>
  ∃ (b5 : Bool), r6 = .bool b5 ∧
  cond (!b5)
  (Q (.int .i64 4) w2)
  (CallR Tryz.prog 196 [.pointer p1, .int .i64 n2] w2 (fun (r7 : Value) (w3 : World) =>
  r7 = .tuple #[] ∧
  nn p1 (fun (q8 : Addr) =>
  ∃ (a9 : Option Addr) (l9 : Nat) (c9 : Nat), w3.cell? (Addr.add q8 1) = some ((.slice a9 l9 c9 : Value)) ∧
  (0 ≤ (n2 : Int) ∧ (n2 : Int) ≤ ((c9 : Nat) : Int)) ∧
  (0 ≤ (n2 : Int) ∧ (n2 : Int) ≤ ((Int.toNat n2 : Nat) : Int)) ∧
  nn p1 (fun (q10 : Addr) =>
  stC (Addr.add q10 1) (.slice a9 (Int.toNat n2) (Int.toNat n2)) w3 (fun (w4 : World) =>
  Q (.int .i64 0) w4)))))))))
theorem C124 {p1 : Option Addr} {n2 : Int} {Q : Value → World → Prop} {w : World} (h : L124 p1 n2 Q w) : CallR Tryz.prog 124 [.pointer p1, .int .i64 n2] w Q :=
  fun_calls (A := A124) mixed Tryz.func124 (c := (Tryz.f124.body).getD .skip) rfl (by kernel_rfl) (Eq.mp (by kernel_rfl) h)

/-- (*millrace/file.File).Bytes -/
def A181 : Ann := ⟨[], [], [], [], [], []⟩
def L181 (p1 : Option Addr) (Q : Value → World → Prop) (w : World) : Prop :=
  cond (Option.isNone p1)
  (Q (.slice none 0 0) w)
  (nn p1 (fun (q2 : Addr) =>
  ∃ (a3 : Option Addr) (l3 : Nat) (c3 : Nat), w.cell? (Addr.add q2 1) = some ((.slice a3 l3 c3 : Value)) ∧
  CallR Tryz.prog 157 [.slice a3 l3 c3] w (fun (r5 : Value) (w1 : World) =>
  ∃ (a4 : Option Addr) (l4 : Nat) (c4 : Nat), r5 = .slice a4 l4 c4 ∧
  Q (.slice a4 l4 c4) w1)))
theorem C181 {p1 : Option Addr} {Q : Value → World → Prop} {w : World} (h : L181 p1 Q w) : CallR Tryz.prog 181 [.pointer p1] w Q :=
  fun_calls (A := A181) mixed Tryz.func181 (c := (Tryz.f181.body).getD .skip) rfl (by kernel_rfl) (Eq.mp (by kernel_rfl) h)

/-- (*millrace/kpipe.Pipe).none -/
def A193 : Ann := ⟨[], [], [], [], [], []⟩
def L193 (p1 : Option Addr) (Q : Value → World → Prop) (w : World) : Prop :=
  cond (Option.isNone p1)
  (Q (.bool true) w)
  (nn p1 (fun (q2 : Addr) =>
  ∃ (b3 : Bool), w.cell? (Addr.add q2 4098) = some ((.bool b3 : Value)) ∧
  Q (.bool (!b3)) w))
theorem C193 {p1 : Option Addr} {Q : Value → World → Prop} {w : World} (h : L193 p1 Q w) : CallR Tryz.prog 193 [.pointer p1] w Q :=
  fun_calls (A := A193) mixed Tryz.func193 (c := (Tryz.f193.body).getD .skip) rfl (by kernel_rfl) (Eq.mp (by kernel_rfl) h)

/-- (*millrace/kpipe.ring).look -/
def A208 : Ann := ⟨[(3, [(11, .one (.int .i64))])], [], [], [(5, [0, 1, 2, 3, 4, 5, 6, 7, 8, 9, 10, 11, 12, 13, 14, 15])], [], []⟩
def L208 (p1 : Option Addr) (n2 : Int) (Q : Value → World → Prop) (w : World) : Prop :=
  ∃ (a3 : Option Addr) (l3 : Nat) (c3 : Nat) (w1 : World), Sem.run Tryz.prog (Instr.makeSlice 40 (.int .i64 n2) (.int .i64 n2)) w = .ok ((.slice a3 l3 c3 : Value)) w1 ∧
  ∃ (I4 : List Value → World → Prop) (mu5 : List Value → World → Nat),
  I4 [.int .i64 0] w1 ∧
  ∀ (_ : Env) (n6 : Int) (w2 : World), I4 [.int .i64 n6] w2 →
  cond (decide (n6 < (((l3 : Nat) : Int))))
  (let w3 := World.drew w2;
  nn p1 (fun (q7 : Addr) =>
  ∃ (n8 : Int), w3.cell? (Addr.add q7 4096) = some ((.int .i64 n8 : Value)) ∧
  inI (n8 + n6) ∧
  (4096 : Int) ≠ 0 ∧
  nn p1 (fun (q9 : Addr) =>
  (0 ≤ (Int.tmod (n8 + n6) (4096 : Int) : Int) ∧ (Int.tmod (n8 + n6) (4096 : Int) : Int) < ((4096 : Nat) : Int)) ∧
  ∃ (n10 : Int), w3.cell? (Addr.add q9 (Int.toNat (Int.tmod (n8 + n6) (4096 : Int)))) = some ((.int .u8 n10 : Value)) ∧
  (0 ≤ (n6 : Int) ∧ (n6 : Int) < ((l3 : Nat) : Int)) ∧
  nn a3 (fun (q11 : Addr) =>
  stC (Addr.add q11 (Int.toNat n6)) (.int .u8 n10) w3 (fun (w4 : World) =>
  inI (n6 + 1) ∧
  I4 [.int .i64 (n6 + 1)] w4 ∧ mu5 [.int .i64 (n6 + 1)] w4 < mu5 [.int .i64 n6] w2)))))
  (Q (.slice a3 l3 c3) w2)
theorem C208 {p1 : Option Addr} {n2 : Int} {Q : Value → World → Prop} {w : World} (h : L208 p1 n2 Q w) : CallR Tryz.prog 208 [.pointer p1, .int .i64 n2] w Q :=
  fun_calls (A := A208) mixed Tryz.func208 (c := (Tryz.f208.body).getD .skip) rfl (by kernel_rfl) (Eq.mp (by kernel_rfl) h)

/-- (*millrace/kpipe.ring).drop -/
def A255 : Ann := ⟨[], [], [], [], [], []⟩
def L255 (p1 : Option Addr) (n2 : Int) (Q : Value → World → Prop) (w : World) : Prop :=
  nn p1 (fun (q3 : Addr) =>
  ∃ (n4 : Int), w.cell? (Addr.add q3 4096) = some ((.int .i64 n4 : Value)) ∧
  inI (n4 + n2) ∧
  (4096 : Int) ≠ 0 ∧
  nn p1 (fun (q5 : Addr) =>
  stC (Addr.add q5 4096) (.int .i64 (Int.tmod (n4 + n2) (4096 : Int))) w (fun (w1 : World) =>
  nn p1 (fun (q6 : Addr) =>
  ∃ (n7 : Int), w1.cell? (Addr.add q6 4097) = some ((.int .i64 n7 : Value)) ∧
  inI (n7 - n2) ∧
  nn p1 (fun (q8 : Addr) =>
  stC (Addr.add q8 4097) (.int .i64 (n7 - n2)) w1 (fun (w2 : World) =>
  Q (.tuple #[]) w2))))))
theorem C255 {p1 : Option Addr} {n2 : Int} {Q : Value → World → Prop} {w : World} (h : L255 p1 n2 Q w) : CallR Tryz.prog 255 [.pointer p1, .int .i64 n2] w Q :=
  fun_calls (A := A255) mixed Tryz.func255 (c := (Tryz.f255.body).getD .skip) rfl (by kernel_rfl) (Eq.mp (by kernel_rfl) h)

/-- (*millrace/kpipe.ring).put -/
def A257 : Ann := ⟨[(1, [(8, .one (.int .i64))])], [], [], [(3, [0, 1, 2, 3, 4, 5, 6, 7, 8, 9, 10, 11, 12, 13, 14, 15])], [], []⟩
def L257 (p1 : Option Addr) (a2 : Option Addr) (l2 : Nat) (c2 : Nat) (Q : Value → World → Prop) (w : World) : Prop :=
  ∃ (I3 : List Value → World → Prop) (mu4 : List Value → World → Nat),
  I3 [.int .i64 0] w ∧
  ∀ (_ : Env) (n5 : Int) (w1 : World), I3 [.int .i64 n5] w1 →
  cond (decide (n5 < (((l2 : Nat) : Int))))
  ((0 ≤ (n5 : Int) ∧ (n5 : Int) < ((l2 : Nat) : Int)) ∧
  nn a2 (fun (q6 : Addr) =>
  ∃ (n7 : Int), w1.cell? (Addr.add q6 (Int.toNat n5)) = some ((.int .u8 n7 : Value)) ∧
  let w2 := World.drew w1;
  nn p1 (fun (q8 : Addr) =>
  ∃ (n9 : Int), w2.cell? (Addr.add q8 4096) = some ((.int .i64 n9 : Value)) ∧
  nn p1 (fun (q10 : Addr) =>
  ∃ (n11 : Int), w2.cell? (Addr.add q10 4097) = some ((.int .i64 n11 : Value)) ∧
  inI (n9 + n11) ∧
  (4096 : Int) ≠ 0 ∧
  nn p1 (fun (q12 : Addr) =>
  (0 ≤ (Int.tmod (n9 + n11) (4096 : Int) : Int) ∧ (Int.tmod (n9 + n11) (4096 : Int) : Int) < ((4096 : Nat) : Int)) ∧
  stC (Addr.add q12 (Int.toNat (Int.tmod (n9 + n11) (4096 : Int)))) (.int .u8 n7) w2 (fun (w3 : World) =>
  nn p1 (fun (q13 : Addr) =>
  ∃ (n14 : Int), w3.cell? (Addr.add q13 4097) = some ((.int .i64 n14 : Value)) ∧
  inI (n14 + 1) ∧
  nn p1 (fun (q15 : Addr) =>
  stC (Addr.add q15 4097) (.int .i64 (n14 + 1)) w3 (fun (w4 : World) =>
  inI (n5 + 1) ∧
  I3 [.int .i64 (n5 + 1)] w4 ∧ mu4 [.int .i64 (n5 + 1)] w4 < mu4 [.int .i64 n5] w1)))))))))
  (Q (.tuple #[]) w1)
theorem C257 {p1 : Option Addr} {a2 : Option Addr} {l2 : Nat} {c2 : Nat} {Q : Value → World → Prop} {w : World} (h : L257 p1 a2 l2 c2 Q w) : CallR Tryz.prog 257 [.pointer p1, .slice a2 l2 c2] w Q :=
  fun_calls (A := A257) mixed Tryz.func257 (c := (Tryz.f257.body).getD .skip) rfl (by kernel_rfl) (Eq.mp (by kernel_rfl) h)

/-- (*millrace/kpipe.ring).room -/
def A258 : Ann := ⟨[], [], [], [], [], []⟩
def L258 (p1 : Option Addr) (Q : Value → World → Prop) (w : World) : Prop :=
  nn p1 (fun (q2 : Addr) =>
  ∃ (n3 : Int), w.cell? (Addr.add q2 4097) = some ((.int .i64 n3 : Value)) ∧
  inI ((4096 : Int) - n3) ∧
  Q (.int .i64 ((4096 : Int) - n3)) w)
theorem C258 {p1 : Option Addr} {Q : Value → World → Prop} {w : World} (h : L258 p1 Q w) : CallR Tryz.prog 258 [.pointer p1] w Q :=
  fun_calls (A := A258) mixed Tryz.func258 (c := (Tryz.f258.body).getD .skip) rfl (by kernel_rfl) (Eq.mp (by kernel_rfl) h)

/-- millrace/kpipe.side -/
def A194 : Ann := ⟨[], [], [], [], [], []⟩
def L194 (b1 : Bool) (Q : Value → World → Prop) (w : World) : Prop :=
  cond b1
  (Q (.int .i64 1) w)
  (Q (.int .i64 0) w)
theorem C194 {b1 : Bool} {Q : Value → World → Prop} {w : World} (h : L194 b1 Q w) : CallR Tryz.prog 194 [.bool b1] w Q :=
  fun_calls (A := A194) mixed Tryz.func194 (c := (Tryz.f194.body).getD .skip) rfl (by kernel_rfl) (Eq.mp (by kernel_rfl) h)

/-- (*millrace/kpipe.Pipe).takes -/
def A256 : Ann := ⟨[], [], [], [], [], []⟩
def L256 (p1 : Option Addr) (n2 : Int) (Q : Value → World → Prop) (w : World) : Prop :=
  cond (decide (n2 ≤ 512))
  (nn p1 (fun (q3 : Addr) =>
  CallR Tryz.prog 258 [.pointer (some q3)] w (fun (r5 : Value) (w1 : World) =>
  ∃ (n4 : Int), r5 = .int .i64 n4 ∧
  cond (decide (n4 < n2))
  (Q (.int .i64 0) w1)
  (nn p1 (fun (q6 : Addr) =>
  CallR Tryz.prog 258 [.pointer (some q6)] w1 (fun (r8 : Value) (w2 : World) =>
  ∃ (n7 : Int), r8 = .int .i64 n7 ∧
  Q (.int .i64 (mn n2 n7)) w2))))))
  (nn p1 (fun (q9 : Addr) =>
  CallR Tryz.prog 258 [.pointer (some q9)] w (fun (r11 : Value) (w3 : World) =>
  ∃ (n10 : Int), r11 = .int .i64 n10 ∧
  Q (.int .i64 (mn n2 n10)) w3)))
theorem C256 {p1 : Option Addr} {n2 : Int} {Q : Value → World → Prop} {w : World} (h : L256 p1 n2 Q w) : CallR Tryz.prog 256 [.pointer p1, .int .i64 n2] w Q :=
  fun_calls (A := A256) mixed Tryz.func256 (c := (Tryz.f256.body).getD .skip) rfl (by kernel_rfl) (Eq.mp (by kernel_rfl) h)

/-- millrace/kpipe.New -/
def A119 : Ann := ⟨[], [], [], [], [], []⟩
def L119 (Q : Value → World → Prop) (w : World) : Prop :=
  let w1 := World.alloc w (Obj.cells ((Program.built Tryz.prog 294 [(1, .bool true)]).getD #[]) 294);
  Q (.pointer (some (Addr.mk w.heap.size 0 none))) w1
theorem C119 {Q : Value → World → Prop} {w : World} (h : L119 Q w) : CallR Tryz.prog 119 [] w Q :=
  fun_calls (A := A119) mixed Tryz.func119 (c := (Tryz.f119.body).getD .skip) rfl (by kernel_rfl) (Eq.mp (by kernel_rfl) h)

/-- (*millrace/kpipe.Pipe).Join -/
def A120 : Ann := ⟨[], [], [], [(3, [0, 1, 3, 4, 2, 5, 6, 7, 8]), (5, [0, 1, 3, 4, 8, 9, 2, 5, 6, 7, 10, 11])], [], []⟩
def L120 (p1 : Option Addr) (b2 : Bool) (Q : Value → World → Prop) (w : World) : Prop :=
  CallR Tryz.prog 193 [.pointer p1] w (fun (r4 : Value) (w1 : World) =>
  ∃ (b3 : Bool), r4 = .bool b3 ∧
  cond b3
  (Q (.int .i64 2) w1)
  (let w2 := World.drew w1;
  nn p1 (fun (q5 : Addr) =>
  CallR Tryz.prog 194 [.bool b2] w2 (fun (r7 : Value) (w3 : World) =>
  ∃ (n6 : Int), r7 = .int .i64 n6 ∧
  (0 ≤ (n6 : Int) ∧ (n6 : Int) < ((2 : Nat) : Int)) ∧
  ∃ (n8 : Int), w3.cell? (Addr.add (Addr.add q5 4099) (Int.toNat n6)) = some ((.int .i64 n8 : Value)) ∧
  cond (decide (n8 ≥ 1024))
  (Q (.int .i64 3) w3)
  (let w4 := World.drew w3;
  nn p1 (fun (q9 : Addr) =>
  nn p1 (fun (q10 : Addr) =>
  CallR Tryz.prog 194 [.bool b2] w4 (fun (r12 : Value) (w5 : World) =>
  ∃ (n11 : Int), r12 = .int .i64 n11 ∧
  (0 ≤ (n11 : Int) ∧ (n11 : Int) < ((2 : Nat) : Int)) ∧
  ∃ (n13 : Int), w5.cell? (Addr.add (Addr.add q9 4099) (Int.toNat n11)) = some ((.int .i64 n13 : Value)) ∧
  inI (n13 + 1) ∧
  (0 ≤ (n11 : Int) ∧ (n11 : Int) < ((2 : Nat) : Int)) ∧
  stC (Addr.add (Addr.add q10 4099) (Int.toNat n11)) (.int .i64 (n13 + 1)) w5 (fun (w6 : World) =>
  Q (.int .i64 0) w6)))))))))
theorem C120 {p1 : Option Addr} {b2 : Bool} {Q : Value → World → Prop} {w : World} (h : L120 p1 b2 Q w) : CallR Tryz.prog 120 [.pointer p1, .bool b2] w Q :=
  fun_calls (A := A120) mixed Tryz.func120 (c := (Tryz.f120.body).getD .skip) rfl (by kernel_rfl) (Eq.mp (by kernel_rfl) h)

/-- (*millrace/kpipe.Pipe).Leave -/
def A264 : Ann := ⟨[], [], [], [(3, [0, 1, 3, 4, 2, 5, 6, 7, 8]), (5, [0, 1, 3, 4, 8, 9, 2, 5, 6, 7, 10, 11])], [], []⟩
def L264 (p1 : Option Addr) (b2 : Bool) (Q : Value → World → Prop) (w : World) : Prop :=
  CallR Tryz.prog 193 [.pointer p1] w (fun (r4 : Value) (w1 : World) =>
  ∃ (b3 : Bool), r4 = .bool b3 ∧
  cond b3
  (Q (.int .i64 2) w1)
  (let w2 := World.drew w1;
  nn p1 (fun (q5 : Addr) =>
  CallR Tryz.prog 194 [.bool b2] w2 (fun (r7 : Value) (w3 : World) =>
  ∃ (n6 : Int), r7 = .int .i64 n6 ∧
  (0 ≤ (n6 : Int) ∧ (n6 : Int) < ((2 : Nat) : Int)) ∧
  ∃ (n8 : Int), w3.cell? (Addr.add (Addr.add q5 4099) (Int.toNat n6)) = some ((.int .i64 n8 : Value)) ∧
  cond (n8 == 0)
  (Q (.int .i64 51) w3)
  (let w4 := World.drew w3;
  nn p1 (fun (q9 : Addr) =>
  nn p1 (fun (q10 : Addr) =>
  CallR Tryz.prog 194 [.bool b2] w4 (fun (r12 : Value) (w5 : World) =>
  ∃ (n11 : Int), r12 = .int .i64 n11 ∧
  (0 ≤ (n11 : Int) ∧ (n11 : Int) < ((2 : Nat) : Int)) ∧
  ∃ (n13 : Int), w5.cell? (Addr.add (Addr.add q9 4099) (Int.toNat n11)) = some ((.int .i64 n13 : Value)) ∧
  inI (n13 - 1) ∧
  (0 ≤ (n11 : Int) ∧ (n11 : Int) < ((2 : Nat) : Int)) ∧
  stC (Addr.add (Addr.add q10 4099) (Int.toNat n11)) (.int .i64 (n13 - 1)) w5 (fun (w6 : World) =>
  Q (.int .i64 0) w6)))))))))
theorem C264 {p1 : Option Addr} {b2 : Bool} {Q : Value → World → Prop} {w : World} (h : L264 p1 b2 Q w) : CallR Tryz.prog 264 [.pointer p1, .bool b2] w Q :=
  fun_calls (A := A264) mixed Tryz.func264 (c := (Tryz.f264.body).getD .skip) rfl (by kernel_rfl) (Eq.mp (by kernel_rfl) h)

/-- (*millrace/kpipe.Pipe).Read -/
def A253 : Ann := ⟨[], [], [], [], [], []⟩
def L253 (p1 : Option Addr) (n2 : Int) (Q : Value → World → Prop) (w : World) : Prop :=
  CallR Tryz.prog 193 [.pointer p1] w (fun (r4 : Value) (w1 : World) =>
  ∃ (b3 : Bool), r4 = .bool b3 ∧
  cond b3
  (Q (.tuple #[.slice none 0 0, .int .i64 2]) w1)
  (cond (decide (n2 < 1))
  (Q (.tuple #[.slice none 0 0, .int .i64 4]) w1)
  (cond (decide (n2 > 1048576))
  (Q (.tuple #[.slice none 0 0, .int .i64 4]) w1)
  (nn p1 (fun (q5 : Addr) =>
  (0 ≤ (0 : Int) ∧ (0 : Int) < ((2 : Nat) : Int)) ∧
  ∃ (n6 : Int), w1.cell? (Addr.add (Addr.add q5 4099) (Int.toNat 0)) = some ((.int .i64 n6 : Value)) ∧
  cond (n6 == 0)
  (Q (.tuple #[.slice none 0 0, .int .i64 51]) w1)
  (CallR Tryz.prog 204 [.pointer p1] w1 (fun (r8 : Value) (w2 : World) =>
  ∃ (b7 : Bool), r8 = .bool b7 ∧
  cond (!b7)
  (Q (.tuple #[.slice none 0 0, .int .i64 52]) w2)
  (nn p1 (fun (q9 : Addr) =>
  ∃ (n10 : Int), w2.cell? (Addr.add q9 4097) = some ((.int .i64 n10 : Value)) ∧
  nn p1 (fun (q11 : Addr) =>
  CallR Tryz.prog 208 [.pointer (some q11), .int .i64 (mn n2 n10)] w2 (fun (r13 : Value) (w3 : World) =>
  ∃ (a12 : Option Addr) (l12 : Nat) (c12 : Nat), r13 = .slice a12 l12 c12 ∧
  nn p1 (fun (q14 : Addr) =>
  CallR Tryz.prog 255 [.pointer (some q14), .int .i64 (mn n2 n10)] w3 (fun (r15 : Value) (w4 : World) =>
  r15 = .tuple #[] ∧
  Q (.tuple #[.slice a12 l12 c12, .int .i64 0]) w4)))))))))))))
theorem C253 {p1 : Option Addr} {n2 : Int} {Q : Value → World → Prop} {w : World} (h : L253 p1 n2 Q w) : CallR Tryz.prog 253 [.pointer p1, .int .i64 n2] w Q :=
  fun_calls (A := A253) mixed Tryz.func253 (c := (Tryz.f253.body).getD .skip) rfl (by kernel_rfl) (Eq.mp (by kernel_rfl) h)

/-- (*millrace/kpipe.Pipe).Write -/
def A254 : Ann := ⟨[], [], [], [(18, [0, 1, 2, 3, 4, 5, 6])], [], []⟩
def L254 (p1 : Option Addr) (a2 : Option Addr) (l2 : Nat) (c2 : Nat) (n3 : Int) (Q : Value → World → Prop) (w : World) : Prop :=
  CallR Tryz.prog 193 [.pointer p1] w (fun (r5 : Value) (w1 : World) =>
  ∃ (b4 : Bool), r5 = .bool b4 ∧
  cond b4
  (Q (.tuple #[.int .i64 0, .int .i64 2]) w1)
  (cond (decide ((((l2 : Nat) : Int)) > 1048576))
  (Q (.tuple #[.int .i64 0, .int .i64 5]) w1)
  (cond (decide (n3 < 1))
  (Q (.tuple #[.int .i64 0, .int .i64 4]) w1)
  (cond (decide (n3 > 1048576))
  (Q (.tuple #[.int .i64 0, .int .i64 4]) w1)
  (nn p1 (fun (q6 : Addr) =>
  (0 ≤ (1 : Int) ∧ (1 : Int) < ((2 : Nat) : Int)) ∧
  ∃ (n7 : Int), w1.cell? (Addr.add (Addr.add q6 4099) (Int.toNat 1)) = some ((.int .i64 n7 : Value)) ∧
  cond (n7 == 0)
  (Q (.tuple #[.int .i64 0, .int .i64 51]) w1)
  (nn p1 (fun (q8 : Addr) =>
  (0 ≤ (0 : Int) ∧ (0 : Int) < ((2 : Nat) : Int)) ∧
  ∃ (n9 : Int), w1.cell? (Addr.add (Addr.add q8 4099) (Int.toNat 0)) = some ((.int .i64 n9 : Value)) ∧
  cond (n9 == 0)
  (Q (.tuple #[.int .i64 0, .int .i64 53]) w1)
  (cond ((((l2 : Nat) : Int)) == 0)
  (Q (.tuple #[.int .i64 0, .int .i64 0]) w1)
  (CallR Tryz.prog 256 [.pointer p1, .int .i64 (((l2 : Nat) : Int))] w1 (fun (r11 : Value) (w2 : World) =>
  ∃ (n10 : Int), r11 = .int .i64 n10 ∧
  cond (n10 == 0)
  (Q (.tuple #[.int .i64 0, .int .i64 52]) w2)
  (cond (decide ((((l2 : Nat) : Int)) > 512))
  (let w3 := World.drew w2;
  nn p1 (fun (q12 : Addr) =>
  (0 ≤ (mn n10 n3 : Int) ∧ (mn n10 n3 : Int) ≤ ((c2 : Nat) : Int)) ∧
  CallR Tryz.prog 257 [.pointer (some q12), .slice a2 (Int.toNat (mn n10 n3)) c2] w3 (fun (r13 : Value) (w4 : World) =>
  r13 = .tuple #[] ∧
  Q (.tuple #[.int .i64 (mn n10 n3), .int .i64 0]) w4)))
  (let w5 := World.drew w2;
  nn p1 (fun (q14 : Addr) =>
  (0 ≤ (n10 : Int) ∧ (n10 : Int) ≤ ((c2 : Nat) : Int)) ∧
  CallR Tryz.prog 257 [.pointer (some q14), .slice a2 (Int.toNat n10) c2] w5 (fun (r15 : Value) (w6 : World) =>
  r15 = .tuple #[] ∧
  Q (.tuple #[.int .i64 n10, .int .i64 0]) w6)))))))))))))))
theorem C254 {p1 : Option Addr} {a2 : Option Addr} {l2 : Nat} {c2 : Nat} {n3 : Int} {Q : Value → World → Prop} {w : World} (h : L254 p1 a2 l2 c2 n3 Q w) : CallR Tryz.prog 254 [.pointer p1, .slice a2 l2 c2, .int .i64 n3] w Q :=
  fun_calls (A := A254) mixed Tryz.func254 (c := (Tryz.f254.body).getD .skip) rfl (by kernel_rfl) (Eq.mp (by kernel_rfl) h)

/-- (*millrace/kpipe.Pipe).Held -/
def A184 : Ann := ⟨[], [], [], [(3, [0, 1, 2, 3, 4, 5, 6, 7, 8, 9])], [], []⟩
def L184 (p1 : Option Addr) (Q : Value → World → Prop) (w : World) : Prop :=
  CallR Tryz.prog 193 [.pointer p1] w (fun (r3 : Value) (w1 : World) =>
  ∃ (b2 : Bool), r3 = .bool b2 ∧
  cond b2
  (Q (.slice none 0 0) w1)
  (let w2 := World.drew w1;
  nn p1 (fun (q4 : Addr) =>
  nn p1 (fun (q5 : Addr) =>
  ∃ (n6 : Int), w2.cell? (Addr.add q5 4097) = some ((.int .i64 n6 : Value)) ∧
  CallR Tryz.prog 208 [.pointer (some q4), .int .i64 n6] w2 (fun (r8 : Value) (w3 : World) =>
  ∃ (a7 : Option Addr) (l7 : Nat) (c7 : Nat), r8 = .slice a7 l7 c7 ∧
  Q (.slice a7 l7 c7) w3)))))
theorem C184 {p1 : Option Addr} {Q : Value → World → Prop} {w : World} (h : L184 p1 Q w) : CallR Tryz.prog 184 [.pointer p1] w Q :=
  fun_calls (A := A184) mixed Tryz.func184 (c := (Tryz.f184.body).getD .skip) rfl (by kernel_rfl) (Eq.mp (by kernel_rfl) h)

/-- (*millrace/kpipe.Pipe).Ends -/
def A265 : Ann := ⟨[], [], [], [], [], []⟩
def L265 (p1 : Option Addr) (Q : Value → World → Prop) (w : World) : Prop :=
  CallR Tryz.prog 193 [.pointer p1] w (fun (r3 : Value) (w1 : World) =>
  ∃ (b2 : Bool), r3 = .bool b2 ∧
  cond b2
  (Q (.tuple #[.int .i64 0, .int .i64 0]) w1)
  (nn p1 (fun (q5 : Addr) =>
  (0 ≤ (0 : Int) ∧ (0 : Int) < ((2 : Nat) : Int)) ∧
  ∃ (n6 : Int), w1.cell? (Addr.add (Addr.add q5 4099) (Int.toNat 0)) = some ((.int .i64 n6 : Value)) ∧
  nn p1 (fun (q7 : Addr) =>
  (0 ≤ (1 : Int) ∧ (1 : Int) < ((2 : Nat) : Int)) ∧
  ∃ (n8 : Int), w1.cell? (Addr.add (Addr.add q7 4099) (Int.toNat 1)) = some ((.int .i64 n8 : Value)) ∧
  ∀ nd4 : Nat, let w2 := World.drewN w1 nd4;
  Q (.tuple #[.int .i64 n6, .int .i64 n8]) w2))))
theorem C265 {p1 : Option Addr} {Q : Value → World → Prop} {w : World} (h : L265 p1 Q w) : CallR Tryz.prog 265 [.pointer p1] w Q :=
  fun_calls (A := A265) mixed Tryz.func265 (c := (Tryz.f265.body).getD .skip) rfl (by kernel_rfl) (Eq.mp (by kernel_rfl) h)

/-- (*millrace/kpipe.Pipe).CanRead -/
def A204 : Ann := ⟨[], [], [], [], [], []⟩
def L204 (p1 : Option Addr) (Q : Value → World → Prop) (w : World) : Prop :=
  CallR Tryz.prog 193 [.pointer p1] w (fun (r3 : Value) (w1 : World) =>
  ∃ (b2 : Bool), r3 = .bool b2 ∧
  cond (!b2)
  (nn p1 (fun (q4 : Addr) =>
  (0 ≤ (0 : Int) ∧ (0 : Int) < ((2 : Nat) : Int)) ∧
  ∃ (n5 : Int), w1.cell? (Addr.add (Addr.add q4 4099) (Int.toNat 0)) = some ((.int .i64 n5 : Value)) ∧
  cond (decide (n5 > 0))
  (nn p1 (fun (q6 : Addr) =>
  ∃ (n7 : Int), w1.cell? (Addr.add q6 4097) = some ((.int .i64 n7 : Value)) ∧
  cond (decide (n7 > 0))
  (Q (.bool true) w1)
  (nn p1 (fun (q8 : Addr) =>
  (0 ≤ (1 : Int) ∧ (1 : Int) < ((2 : Nat) : Int)) ∧
  ∃ (n9 : Int), w1.cell? (Addr.add (Addr.add q8 4099) (Int.toNat 1)) = some ((.int .i64 n9 : Value)) ∧
  Q (.bool (n9 == 0)) w1))))
  (Q (.bool false) w1)))
  (Q (.bool false) w1))
theorem C204 {p1 : Option Addr} {Q : Value → World → Prop} {w : World} (h : L204 p1 Q w) : CallR Tryz.prog 204 [.pointer p1] w Q :=
  fun_calls (A := A204) mixed Tryz.func204 (c := (Tryz.f204.body).getD .skip) rfl (by kernel_rfl) (Eq.mp (by kernel_rfl) h)

/-- (*millrace/kpipe.Pipe).CanWrite -/
def A266 : Ann := ⟨[], [], [], [], [], []⟩
def L266 (p1 : Option Addr) (n2 : Int) (Q : Value → World → Prop) (w : World) : Prop :=
  CallR Tryz.prog 193 [.pointer p1] w (fun (r4 : Value) (w1 : World) =>
  ∃ (b3 : Bool), r4 = .bool b3 ∧
  cond (!b3)
  (nn p1 (fun (q5 : Addr) =>
  (0 ≤ (1 : Int) ∧ (1 : Int) < ((2 : Nat) : Int)) ∧
  ∃ (n6 : Int), w1.cell? (Addr.add (Addr.add q5 4099) (Int.toNat 1)) = some ((.int .i64 n6 : Value)) ∧
  cond (decide (n6 > 0))
  (cond (decide (n2 ≥ 1))
  (cond (decide (n2 ≤ 1048576))
  (nn p1 (fun (q7 : Addr) =>
  (0 ≤ (0 : Int) ∧ (0 : Int) < ((2 : Nat) : Int)) ∧
  ∃ (n8 : Int), w1.cell? (Addr.add (Addr.add q7 4099) (Int.toNat 0)) = some ((.int .i64 n8 : Value)) ∧
  cond (n8 == 0)
  (Q (.bool true) w1)
  (CallR Tryz.prog 256 [.pointer p1, .int .i64 n2] w1 (fun (r10 : Value) (w2 : World) =>
  ∃ (n9 : Int), r10 = .int .i64 n9 ∧
  Q (.bool (decide (n9 > 0))) w2))))
  (Q (.bool false) w1))
  (Q (.bool false) w1))
  (Q (.bool false) w1)))
  (Q (.bool false) w1))
theorem C266 {p1 : Option Addr} {n2 : Int} {Q : Value → World → Prop} {w : World} (h : L266 p1 n2 Q w) : CallR Tryz.prog 266 [.pointer p1, .int .i64 n2] w Q :=
  fun_calls (A := A266) mixed Tryz.func266 (c := (Tryz.f266.body).getD .skip) rfl (by kernel_rfl) (Eq.mp (by kernel_rfl) h)

/-- millrace/terminal.New -/
def A55 : Ann := ⟨[(5, [(14, .one (.int .i64))])], [], [], [], [(9, [0, 1, 2, 3, 4, 5, 6, 7], 8, [9, 10, 11])], []⟩
def L55 (a1 : Option Addr) (l1 : Nat) (c1 : Nat) (Q : Value → World → Prop) (w : World) : Prop :=
  cond (decide ((((l1 : Nat) : Int)) > 256))
  (Q (.tuple #[.pointer none, .int .i64 3]) w)
  (let w1 := World.alloc w (Obj.cells #[.bool true, .slice none 0 0, .int .i64 0, .slice none 0 0] 249);
  ∃ (I2 : List Value → World → Prop) (mu3 : List Value → World → Nat),
  I2 [.int .i64 0] w1 ∧
  ∀ (_ : Env) (n4 : Int) (w2 : World), I2 [.int .i64 n4] w2 →
  cond (decide (n4 < (((l1 : Nat) : Int))))
  ((0 ≤ (n4 : Int) ∧ (n4 : Int) < ((l1 : Nat) : Int)) ∧
  nn a1 (fun (q5 : Addr) =>
  ∃ (a6 : Option Addr) (l6 : Nat) (c6 : Nat), w2.cell? (Addr.add q5 (Int.toNat n4)) = some ((.slice a6 l6 c6 : Value)) ∧
  cond (decide ((((l6 : Nat) : Int)) > 4096))
  (Q (.tuple #[.pointer none, .int .i64 5]) w2)
  (∃ (S7 : World → Prop), S7 (World.drew w2) ∧
  let w3 := World.drew w2;
  ∃ (a8 : Option Addr) (l8 : Nat) (c8 : Nat), (∀ wS : World, S7 wS → wS.cell? (Addr.mk w.heap.size 1 none) = some ((.slice a8 l8 c8 : Value))) ∧
  CallR Tryz.prog 157 [.slice a6 l6 c6] w3 (fun (r10 : Value) (w4 : World) =>
  ∃ (a9 : Option Addr) (l9 : Nat) (c9 : Nat), r10 = .slice a9 l9 c9 ∧
  S7 w4 ∧
  let w5 := World.alloc w4 (Obj.cells #[.slice a9 l9 c9] 40);
  S7 w5 ∧
  ∃ (a11 : Option Addr) (l11 : Nat) (c11 : Nat) (w6 : World), Sem.run Tryz.prog (Builtin.append_ #[84, 84] 84 #[.slice a8 l8 c8, .slice (some (Addr.mk w4.heap.size 0 none)) 1 1]) w5 = .ok ((.slice a11 l11 c11 : Value)) w6 ∧
  stC (Addr.mk w.heap.size 1 none) (.slice a11 l11 c11) w6 (fun (w7 : World) =>
  inI (n4 + 1) ∧
  I2 [.int .i64 (n4 + 1)] w7 ∧ mu3 [.int .i64 (n4 + 1)] w7 < mu3 [.int .i64 n4] w2)))))
  (Q (.tuple #[.pointer (some (Addr.mk w.heap.size 0 none)), .int .i64 0]) w2))
theorem C55 {a1 : Option Addr} {l1 : Nat} {c1 : Nat} {Q : Value → World → Prop} {w : World} (h : L55 a1 l1 c1 Q w) : CallR Tryz.prog 55 [.slice a1 l1 c1] w Q :=
  fun_calls (A := A55) mixed Tryz.func55 (c := (Tryz.f55.body).getD .skip) rfl (by kernel_rfl) (Eq.mp (by kernel_rfl) h)

/-- (*millrace/terminal.Terminal).Read -/
def A251 : Ann := ⟨[], [], [], [], [], []⟩
def L251 (p1 : Option Addr) (n2 : Int) (Q : Value → World → Prop) (w : World) : Prop :=
  cond (Option.isNone p1)
  (Q (.tuple #[.slice none 0 0, .int .i64 2]) w)
  (nn p1 (fun (q3 : Addr) =>
  ∃ (b4 : Bool), w.cell? q3 = some ((.bool b4 : Value)) ∧
  cond (!b4)
  (Q (.tuple #[.slice none 0 0, .int .i64 2]) w)
  (cond (decide (n2 < 1))
  (Q (.tuple #[.slice none 0 0, .int .i64 4]) w)
  (cond (decide (n2 > 1048576))
  (Q (.tuple #[.slice none 0 0, .int .i64 4]) w)
  (nn p1 (fun (q5 : Addr) =>
  ∃ (a6 : Option Addr) (l6 : Nat) (c6 : Nat), w.cell? (Addr.add q5 1) = some ((.slice a6 l6 c6 : Value)) ∧
  cond ((((l6 : Nat) : Int)) == 0)
  (Q (.tuple #[.slice none 0 0, .int .i64 0]) w)
  (nn p1 (fun (q8 : Addr) =>
  ∃ (a9 : Option Addr) (l9 : Nat) (c9 : Nat), w.cell? (Addr.add q8 1) = some ((.slice a9 l9 c9 : Value)) ∧
  (0 ≤ (0 : Int) ∧ (0 : Int) < ((l9 : Nat) : Int)) ∧
  nn a9 (fun (q10 : Addr) =>
  ∃ (a11 : Option Addr) (l11 : Nat) (c11 : Nat), w.cell? (Addr.add q10 (Int.toNat 0)) = some ((.slice a11 l11 c11 : Value)) ∧
  nn p1 (fun (q12 : Addr) =>
  ∃ (n13 : Int), w.cell? (Addr.add q12 2) = some ((.int .i64 n13 : Value)) ∧
  (0 ≤ (n13 : Int) ∧ (n13 : Int) ≤ ((l11 : Nat) : Int)) ∧
  ∀ nd7 : Nat, let w1 := World.drewN w nd7;
  (0 ≤ (mn n2 (((l11 - Int.toNat n13 : Nat) : Int)) : Int) ∧ (mn n2 (((l11 - Int.toNat n13 : Nat) : Int)) : Int) ≤ ((c11 - Int.toNat n13 : Nat) : Int)) ∧
  nn p1 (fun (q14 : Addr) =>
  ∃ (n15 : Int), w1.cell? (Addr.add q14 2) = some ((.int .i64 n15 : Value)) ∧
  inI (n15 + (((Int.toNat (mn n2 (((l11 - Int.toNat n13 : Nat) : Int))) : Nat) : Int))) ∧
  nn p1 (fun (q16 : Addr) =>
  stC (Addr.add q16 2) (.int .i64 (n15 + (((Int.toNat (mn n2 (((l11 - Int.toNat n13 : Nat) : Int))) : Nat) : Int)))) w1 (fun (w2 : World) =>
  cond ((((Int.toNat (mn n2 (((l11 - Int.toNat n13 : Nat) : Int))) : Nat) : Int)) == (((l11 - Int.toNat n13 : Nat) : Int)))
  (nn p1 (fun (q17 : Addr) =>
  ∃ (a18 : Option Addr) (l18 : Nat) (c18 : Nat), w2.cell? (Addr.add q17 1) = some ((.slice a18 l18 c18 : Value)) ∧
  (0 ≤ (1 : Int) ∧ (1 : Int) ≤ ((l18 : Nat) : Int)) ∧
  nn p1 (fun (q19 : Addr) =>
  stC (Addr.add q19 1) (.slice (adv a18 (Int.toNat 1) c18 1) (l18 - Int.toNat 1) (c18 - Int.toNat 1)) w2 (fun (w3 : World) =>
  nn p1 (fun (q20 : Addr) =>
  stC (Addr.add q20 2) (.int .i64 0) w3 (fun (w4 : World) =>
  CallR Tryz.prog 157 [.slice (adv a11 (Int.toNat n13) c11 1) (Int.toNat (mn n2 (((l11 - Int.toNat n13 : Nat) : Int)))) (c11 - Int.toNat n13)] w4 (fun (r22 : Value) (w5 : World) =>
  ∃ (a21 : Option Addr) (l21 : Nat) (c21 : Nat), r22 = .slice a21 l21 c21 ∧
  Q (.tuple #[.slice a21 l21 c21, .int .i64 0]) w5)))))))
  (CallR Tryz.prog 157 [.slice (adv a11 (Int.toNat n13) c11 1) (Int.toNat (mn n2 (((l11 - Int.toNat n13 : Nat) : Int)))) (c11 - Int.toNat n13)] w2 (fun (r24 : Value) (w6 : World) =>
  ∃ (a23 : Option Addr) (l23 : Nat) (c23 : Nat), r24 = .slice a23 l23 c23 ∧
  Q (.tuple #[.slice a23 l23 c23, .int .i64 0]) w6)))))))))))))))
theorem C251 {p1 : Option Addr} {n2 : Int} {Q : Value → World → Prop} {w : World} (h : L251 p1 n2 Q w) : CallR Tryz.prog 251 [.pointer p1, .int .i64 n2] w Q :=
  fun_calls (A := A251) mixed Tryz.func251 (c := (Tryz.f251.body).getD .skip) rfl (by kernel_rfl) (Eq.mp (by kernel_rfl) h)

/-- (*millrace/terminal.Terminal).Write -/
def A252 : Ann := ⟨[], [], [], [], [], []⟩
def L252 (p1 : Option Addr) (a2 : Option Addr) (l2 : Nat) (c2 : Nat) (Q : Value → World → Prop) (w : World) : Prop :=
  cond (Option.isNone p1)
  (Q (.int .i64 2) w)
  (nn p1 (fun (q3 : Addr) =>
  ∃ (b4 : Bool), w.cell? q3 = some ((.bool b4 : Value)) ∧
  cond (!b4)
  (Q (.int .i64 2) w)
  (nn p1 (fun (q5 : Addr) =>
  ∃ (a6 : Option Addr) (l6 : Nat) (c6 : Nat), w.cell? (Addr.add q5 3) = some ((.slice a6 l6 c6 : Value)) ∧
  inI ((1048576 : Int) - (((l6 : Nat) : Int))) ∧
  cond (decide ((((l2 : Nat) : Int)) > ((1048576 : Int) - (((l6 : Nat) : Int)))))
  (Q (.int .i64 31) w)
  (nn p1 (fun (q7 : Addr) =>
  ∃ (a8 : Option Addr) (l8 : Nat) (c8 : Nat), w.cell? (Addr.add q7 3) = some ((.slice a8 l8 c8 : Value)) ∧
  ∃ (a9 : Option Addr) (l9 : Nat) (c9 : Nat) (w1 : World), Sem.run Tryz.prog (Builtin.append_ #[40, 40] 40 #[.slice a8 l8 c8, .slice a2 l2 c2]) w = .ok ((.slice a9 l9 c9 : Value)) w1 ∧
  nn p1 (fun (q10 : Addr) =>
  stC (Addr.add q10 3) (.slice a9 l9 c9) w1 (fun (w2 : World) =>
  Q (.int .i64 0) w2))))))))
theorem C252 {p1 : Option Addr} {a2 : Option Addr} {l2 : Nat} {c2 : Nat} {Q : Value → World → Prop} {w : World} (h : L252 p1 a2 l2 c2 Q w) : CallR Tryz.prog 252 [.pointer p1, .slice a2 l2 c2] w Q :=
  fun_calls (A := A252) mixed Tryz.func252 (c := (Tryz.f252.body).getD .skip) rfl (by kernel_rfl) (Eq.mp (by kernel_rfl) h)

/-- (*millrace/terminal.Terminal).Screen -/
def A183 : Ann := ⟨[], [], [], [], [], []⟩
def L183 (p1 : Option Addr) (Q : Value → World → Prop) (w : World) : Prop :=
  cond (Option.isNone p1)
  (Q (.slice none 0 0) w)
  (nn p1 (fun (q2 : Addr) =>
  ∃ (a3 : Option Addr) (l3 : Nat) (c3 : Nat), w.cell? (Addr.add q2 3) = some ((.slice a3 l3 c3 : Value)) ∧
  ∃ (a4 : Option Addr) (l4 : Nat) (c4 : Nat) (w1 : World), Sem.run Tryz.prog (Instr.makeSlice 40 (.int .i64 (((l3 : Nat) : Int))) (.int .i64 (((l3 : Nat) : Int)))) w = .ok ((.slice a4 l4 c4 : Value)) w1 ∧
  nn p1 (fun (q5 : Addr) =>
  ∃ (a6 : Option Addr) (l6 : Nat) (c6 : Nat), w1.cell? (Addr.add q5 3) = some ((.slice a6 l6 c6 : Value)) ∧
  ∃ (n7 : Int) (w2 : World), Sem.run Tryz.prog (Builtin.copy_ #[40, 40] 3 #[.slice a4 l4 c4, .slice a6 l6 c6]) w1 = .ok ((.int .i64 n7 : Value)) w2 ∧
  Q (.slice a4 l4 c4) w2)))
theorem C183 {p1 : Option Addr} {Q : Value → World → Prop} {w : World} (h : L183 p1 Q w) : CallR Tryz.prog 183 [.pointer p1] w Q :=
  fun_calls (A := A183) mixed Tryz.func183 (c := (Tryz.f183.body).getD .skip) rfl (by kernel_rfl) (Eq.mp (by kernel_rfl) h)

end Go.Proofs.YtpoaacnnhgebfaaGreat
