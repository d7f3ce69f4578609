/-
  What some functions of the program ask of the world, printed by a program out of the loaded program; each text is held against the code by evaluation. Conditions: none.
-/
import Derived.Test.YtkjmlbplmffekaaGreatProg
import Derived.Test.YtkjmlbplmffekaaGreatLm
import Derived.Test.YtkjmlbplmffekaaGreatLX
set_option linter.unusedVariables false
set_option maxRecDepth 100000
namespace Go.Proofs.YtkjmlbplmffekaaGreat
open Go.Lw
/-- millrace/faults.may -/
def A200 : Ann := ⟨[], [], [], [], [], []⟩
def L200 (n1 : Int) (n2 : Int) (Q : Value → World → Prop) (w : World) : Prop :=
  let w1 := World.alloc w (Obj.cells #[.int .i64 n1, .int .i64 n2] 82);
  ∃ (n3 : Int), w1.cell? (Addr.mk w.heap.size 0 none) = some ((.int .i64 n3 : Value)) ∧
  cond (n3 == 1)
  (∃ (n4 : Int), w1.cell? (Addr.mk w.heap.size 1 none) = some ((.int .i64 n4 : Value)) ∧
  cond (decide (n4 ≥ 1))
  (∃ (n5 : Int), w1.cell? (Addr.mk w.heap.size 1 none) = some ((.int .i64 n5 : Value)) ∧
  Q (.bool (decide (n5 ≤ 1048576))) w1)
  (Q (.bool false) w1))
  (cond (n3 == 0)
  (cond (n3 == 0)
  (∃ (n6 : Int), w1.cell? (Addr.mk w.heap.size 1 none) = some ((.int .i64 n6 : Value)) ∧
  Q (.bool (n6 == 0)) w1)
  (Q (.bool false) w1))
  (cond (n3 == 2)
  (cond (n3 == 2)
  (∃ (n7 : Int), w1.cell? (Addr.mk w.heap.size 1 none) = some ((.int .i64 n7 : Value)) ∧
  Q (.bool (n7 == 0)) w1)
  (Q (.bool false) w1))
  (cond (n3 == 3)
  (∃ (n8 : Int), w1.cell? (Addr.mk w.heap.size 1 none) = some ((.int .i64 n8 : Value)) ∧
  Q (.bool (n8 == 0)) w1)
  (Q (.bool false) w1))))
theorem C200 {n1 : Int} {n2 : Int} {Q : Value → World → Prop} {w : World} (h : L200 n1 n2 Q w) : CallR Tryz.prog 200 [.agg #[.int .i64 n1, .int .i64 n2]] w Q :=
  fun_calls (A := A200) mixed Tryz.func200 (c := (Tryz.f200.body).getD .skip) rfl (by kernel_rfl) (Eq.mp (by kernel_rfl) h)

/-- millrace/faults.Check -/
def A107 : Ann := ⟨[], [], [], [], [], []⟩
def L107 (a1 : Option Addr) (l1 : Nat) (c1 : Nat) (Q : Value → World → Prop) (w : World) : Prop :=
  cond (decide ((((l1 : Nat) : Int)) > 4096))
  (Q (.tuple #[.int .i64 3, .int .i64 0]) w)
  (CallR Tryz.prog 198 [.slice a1 l1 c1, .func (.func 199) #[] #[]] w (fun (r3 : Value) (w1 : World) =>
  ∃ (n2 : Int), r3 = .int .i64 n2 ∧
  cond (decide (n2 ≥ 0))
  (Q (.tuple #[.int .i64 21, .int .i64 n2]) w1)
  (Q (.tuple #[.int .i64 0, .int .i64 (((l1 : Nat) : Int))]) w1)))
theorem C107 {a1 : Option Addr} {l1 : Nat} {c1 : Nat} {Q : Value → World → Prop} {w : World} (h : L107 a1 l1 c1 Q w) : CallR Tryz.prog 107 [.slice a1 l1 c1] w Q :=
  fun_calls (A := A107) mixed Tryz.func107 (c := (Tryz.f107.body).getD .skip) rfl (by kernel_rfl) (Eq.mp (by kernel_rfl) h)

/-- millrace/faults.Check$1 -/
def A199 : Ann := ⟨[], [], [], [], [], []⟩
def L199 (n1 : Int) (n2 : Int) (Q : Value → World → Prop) (w : World) : Prop :=
  let w1 := World.alloc w (Obj.cells #[.int .i64 n1, .int .i64 n2] 82);
  ∃ (n3 : Int) (n4 : Int), w1.cell? (Addr.mk w.heap.size 0 none) = some ((.int .i64 n3 : Value)) ∧ w1.cell? (Addr.mk w.heap.size 1 none) = some ((.int .i64 n4 : Value)) ∧ 
  CallR Tryz.prog 200 [.agg #[.int .i64 n3, .int .i64 n4]] w1 (fun (r6 : Value) (w2 : World) =>
  ∃ (b5 : Bool), r6 = .bool b5 ∧
  Q (.bool (!b5)) w2)
theorem C199 {n1 : Int} {n2 : Int} {Q : Value → World → Prop} {w : World} (h : L199 n1 n2 Q w) : CallR Tryz.prog 199 [.agg #[.int .i64 n1, .int .i64 n2]] w Q :=
  fun_calls (A := A199) mixed Tryz.func199 (c := (Tryz.f199.body).getD .skip) rfl (by kernel_rfl) (Eq.mp (by kernel_rfl) h)

/-- millrace/faults.New -/
def A82 : Ann := ⟨[], [], [], [], [], []⟩
def L82 (a1 : Option Addr) (l1 : Nat) (c1 : Nat) (Q : Value → World → Prop) (w : World) : Prop :=
  CallR Tryz.prog 107 [.slice a1 l1 c1] w (fun (r4 : Value) (w1 : World) =>
  ∃ (n2 : Int) (n3 : Int), r4 = .tuple #[.int .i64 n2, .int .i64 n3] ∧
  cond (n2 != 0)
  (Q (.tuple #[.pointer none, .int .i64 n2]) w1)
  (CallR Tryz.prog 184 [.slice a1 l1 c1] w1 (fun (r6 : Value) (w2 : World) =>
  ∃ (a5 : Option Addr) (l5 : Nat) (c5 : Nat), r6 = .slice a5 l5 c5 ∧
  let w3 := World.alloc w2 (Obj.cells #[.bool true, .slice a5 l5 c5] 291);
  Q (.tuple #[.pointer (some (Addr.mk w2.heap.size 0 none)), .int .i64 0]) w3)))
theorem C82 {a1 : Option Addr} {l1 : Nat} {c1 : Nat} {Q : Value → World → Prop} {w : World} (h : L82 a1 l1 c1 Q w) : CallR Tryz.prog 82 [.slice a1 l1 c1] w Q :=
  fun_calls (A := A82) mixed Tryz.func82 (c := (Tryz.f82.body).getD .skip) rfl (by kernel_rfl) (Eq.mp (by kernel_rfl) h)

/-- (*millrace/faults.Plan).Next -/
def A94 : Ann := ⟨[], [(8, [])], [], [], [(7, [0, 1, 2, 3, 4, 5, 6, 7, 8, 9, 10, 11, 12, 13, 14], 15, [])], []⟩
def L94 (p1 : Option Addr) (n2 : Int) (Q : Value → World → Prop) (w : World) : Prop :=
  cond (Option.isNone p1)
  (Q (.tuple #[.int .i64 0, .int .i64 2]) w)
  (nn p1 (fun (q3 : Addr) =>
  ∃ (b4 : Bool), w.cell? q3 = some ((.bool b4 : Value)) ∧
  cond (!b4)
  (Q (.tuple #[.int .i64 0, .int .i64 2]) w)
  (cond (decide (n2 < 1))
  (Q (.tuple #[.int .i64 0, .int .i64 4]) w)
  (cond (decide (n2 > 1048576))
  (Q (.tuple #[.int .i64 0, .int .i64 4]) w)
  (let w1 := World.alloc w (Obj.cells #[.int .i64 0, .int .i64 0] 82);
  ∃ (J5 : List Value → World → Prop),
  (nn p1 (fun (q6 : Addr) =>
  ∃ (a7 : Option Addr) (l7 : Nat) (c7 : Nat), w1.cell? (Addr.add q6 1) = some ((.slice a7 l7 c7 : Value)) ∧
  cond (decide ((((l7 : Nat) : Int)) > 0))
  (∃ (S8 : World → Prop), S8 (World.drew w1) ∧
  let w2 := World.drew w1;
  nn p1 (fun (q9 : Addr) =>
  ∃ (a10 : Option Addr) (l10 : Nat) (c10 : Nat), (∀ wS : World, S8 wS → wS.cell? (Addr.add q9 1) = some ((.slice a10 l10 c10 : Value))) ∧
  (0 ≤ (0 : Int) ∧ (0 : Int) < ((l10 : Nat) : Int)) ∧
  nn a10 (fun (q11 : Addr) =>
  ∃ (n12 : Int) (n13 : Int), (∀ wS : World, S8 wS → wS.cell? (Addr.add q11 (Int.toNat 0 * 2)) = some ((.int .i64 n12 : Value)) ∧ wS.cell? (Addr.add (Addr.add q11 (Int.toNat 0 * 2)) 1) = some ((.int .i64 n13 : Value)) ∧ True) ∧
  nn p1 (fun (q14 : Addr) =>
  ∃ (a15 : Option Addr) (l15 : Nat) (c15 : Nat), (∀ wS : World, S8 wS → wS.cell? (Addr.add q14 1) = some ((.slice a15 l15 c15 : Value))) ∧
  (0 ≤ (1 : Int) ∧ (1 : Int) ≤ ((l15 : Nat) : Int)) ∧
  stC (Addr.mk w.heap.size 0 none) (.int .i64 n12) w2 (fun (w3 : World) =>
  stC (Addr.mk w.heap.size 1 none) (.int .i64 n13) w3 (fun (w4 : World) =>
  S8 w4 ∧
  nn p1 (fun (q16 : Addr) =>
  stC (Addr.add q16 1) (.slice (adv a15 (Int.toNat 1) c15 2) (l15 - Int.toNat 1) (c15 - Int.toNat 1)) w4 (fun (w5 : World) =>
  J5 [] w5))))))))
  (J5 [] w1))) ∧
  (∀ (_ : Env) (w6 : World), J5 [] w6 →
  ∃ (n17 : Int), w6.cell? (Addr.mk w.heap.size 0 none) = some ((.int .i64 n17 : Value)) ∧
  cond (n17 == 1)
  (∃ (n18 : Int), w6.cell? (Addr.mk w.heap.size 1 none) = some ((.int .i64 n18 : Value)) ∧
  Q (.tuple #[.int .i64 (mn n2 n18), .int .i64 0]) w6)
  (cond (n17 == 2)
  (Q (.tuple #[.int .i64 0, .int .i64 22]) w6)
  (cond (n17 == 3)
  (Q (.tuple #[.int .i64 0, .int .i64 23]) w6)
  (Q (.tuple #[.int .i64 n2, .int .i64 0]) w6)))))))))
theorem C94 {p1 : Option Addr} {n2 : Int} {Q : Value → World → Prop} {w : World} (h : L94 p1 n2 Q w) : CallR Tryz.prog 94 [.pointer p1, .int .i64 n2] w Q :=
  fun_calls (A := A94) mixed Tryz.func94 (c := (Tryz.f94.body).getD .skip) rfl (by kernel_rfl) (Eq.mp (by kernel_rfl) h)

/-- slices.IndexFunc[[]millrace/api.Fault,millrace/api.Fault] -/
def A198 : Ann := ⟨[(2, [(8, .one (.int .i64))])], [], [], [], [], []⟩
def L198 (a1 : Option Addr) (l1 : Nat) (c1 : Nat) (v2 : Value) (Q : Value → World → Prop) (w : World) : Prop :=
  ∃ (I3 : List Value → World → Prop) (mu4 : List Value → World → Nat),
  I3 [.int .i64 0] w ∧
  ∀ (_ : Env) (n5 : Int) (w1 : World), I3 [.int .i64 n5] w1 →
  cond (decide (n5 < (((l1 : Nat) : Int))))
  ((0 ≤ (n5 : Int) ∧ (n5 : Int) < ((l1 : Nat) : Int)) ∧
  nn a1 (fun (q6 : Addr) =>
  ∃ (n7 : Int) (n8 : Int), w1.cell? (Addr.add q6 (Int.toNat n5 * 2)) = some ((.int .i64 n7 : Value)) ∧ w1.cell? (Addr.add (Addr.add q6 (Int.toNat n5 * 2)) 1) = some ((.int .i64 n8 : Value)) ∧ 
  ∃ (k9 : FuncId) (xs10 : Array Value) (xs11 : Array Value), (v2 : Value) = .func (.func k9) xs10 xs11 ∧ bodyB Tryz.prog k9 = true ∧
  CallR Tryz.prog k9 (Array.toList xs10 ++ ([.agg #[.int .i64 n7, .int .i64 n8]] ++ Array.toList xs11)) w1 (fun (r13 : Value) (w2 : World) =>
  ∃ (b12 : Bool), r13 = .bool b12 ∧
  cond b12
  (Q (.int .i64 n5) w2)
  (inI (n5 + 1) ∧
  I3 [.int .i64 (n5 + 1)] w2 ∧ mu4 [.int .i64 (n5 + 1)] w2 < mu4 [.int .i64 n5] w1))))
  (Q (.int .i64 ((-1))) w1)
theorem C198 {a1 : Option Addr} {l1 : Nat} {c1 : Nat} {v2 : Value} {Q : Value → World → Prop} {w : World} (h : L198 a1 l1 c1 v2 Q w) : CallR Tryz.prog 198 [.slice a1 l1 c1, v2] w Q :=
  fun_calls (A := A198) mixed Tryz.func198 (c := (Tryz.f198.body).getD .skip) rfl (by kernel_rfl) (Eq.mp (by kernel_rfl) h)

/-- slices.Clone[[]millrace/api.Fault,millrace/api.Fault] -/
def A184 : Ann := ⟨[], [], [], [], [], []⟩
def L184 (a1 : Option Addr) (l1 : Nat) (c1 : Nat) (Q : Value → World → Prop) (w : World) : Prop :=
  cond (Option.isNone a1)
  (Q (.slice none 0 0) w)
  (let w1 := World.alloc w (Obj.cells #[] 82);
  ∃ (a2 : Option Addr) (l2 : Nat) (c2 : Nat) (w2 : World), Sem.run Tryz.prog (Builtin.append_ #[24, 24] 24 #[.slice (some (Addr.mk w.heap.size 0 none)) 0 0, .slice a1 l1 c1]) w1 = .ok ((.slice a2 l2 c2 : Value)) w2 ∧
  Q (.slice a2 l2 c2) w2)
theorem C184 {a1 : Option Addr} {l1 : Nat} {c1 : Nat} {Q : Value → World → Prop} {w : World} (h : L184 a1 l1 c1 Q w) : CallR Tryz.prog 184 [.slice a1 l1 c1] w Q :=
  fun_calls (A := A184) mixed Tryz.func184 (c := (Tryz.f184.body).getD .skip) rfl (by kernel_rfl) (Eq.mp (by kernel_rfl) h)

end Go.Proofs.YtkjmlbplmffekaaGreat
