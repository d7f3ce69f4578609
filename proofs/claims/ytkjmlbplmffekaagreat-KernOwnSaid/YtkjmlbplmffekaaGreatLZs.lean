/-
  What some functions of the program ask of the world, printed by a program out of the loaded program; each text is held against the code by evaluation. Conditions: none.
-/
import Derived.Test.YtkjmlbplmffekaaGreatProg
import Derived.Test.YtkjmlbplmffekaaGreatLm
import Derived.Test.YtkjmlbplmffekaaGreatLX
import Derived.Test.YtkjmlbplmffekaaGreatRfC
set_option linter.unusedVariables false
set_option maxRecDepth 100000
namespace Go.Proofs.YtkjmlbplmffekaaGreat
open Go.Lw
/-- millrace/millraceplain.SameNamed -/
def A24 : Ann := ⟨[(4, [(5, .one (.int .i64))])], [], [], [(6, [0, 1, 2, 3, 4, 5, 6, 7, 8, 9, 10, 11, 12, 13, 14, 15, 16, 17, 18, 19, 20, 21, 22, 23, 24])], [], []⟩
def L24 (a1 : Option Addr) (l1 : Nat) (c1 : Nat) (a2 : Option Addr) (l2 : Nat) (c2 : Nat) (Q : Value → World → Prop) (w : World) : Prop :=
  cond ((((l1 : Nat) : Int)) != (((l2 : Nat) : Int)))
  (Q (.bool false) w)
  (∃ (I3 : List Value → World → Prop) (mu4 : List Value → World → Nat),
  I3 [.int .i64 0] w ∧
  ∀ (_ : Env) (n5 : Int) (w1 : World), I3 [.int .i64 n5] w1 →
  cond (decide (n5 < (((l1 : Nat) : Int))))
  (let w2 := World.drew w1;
  (0 ≤ (n5 : Int) ∧ (n5 : Int) < ((l1 : Nat) : Int)) ∧
  nn a1 (fun (q6 : Addr) =>
  ∃ (s7 : ByteArray), w2.cell? (Addr.add q6 (Int.toNat n5 * 2)) = some ((.string s7 : Value)) ∧
  (0 ≤ (n5 : Int) ∧ (n5 : Int) < ((l2 : Nat) : Int)) ∧
  nn a2 (fun (q8 : Addr) =>
  ∃ (s9 : ByteArray), w2.cell? (Addr.add q8 (Int.toNat n5 * 2)) = some ((.string s9 : Value)) ∧
  cond (!(ByteArray.toList s7 == ByteArray.toList s9))
  (Q (.bool false) w2)
  ((0 ≤ (n5 : Int) ∧ (n5 : Int) < ((l1 : Nat) : Int)) ∧
  nn a1 (fun (q10 : Addr) =>
  ∃ (a11 : Option Addr) (l11 : Nat) (c11 : Nat), w2.cell? (Addr.add (Addr.add q10 (Int.toNat n5 * 2)) 1) = some ((.slice a11 l11 c11 : Value)) ∧
  (0 ≤ (n5 : Int) ∧ (n5 : Int) < ((l2 : Nat) : Int)) ∧
  nn a2 (fun (q12 : Addr) =>
  ∃ (a13 : Option Addr) (l13 : Nat) (c13 : Nat), w2.cell? (Addr.add (Addr.add q12 (Int.toNat n5 * 2)) 1) = some ((.slice a13 l13 c13 : Value)) ∧
  CallR Tryz.prog 21 [.slice a11 l11 c11, .slice a13 l13 c13] w2 (fun (r15 : Value) (w3 : World) =>
  ∃ (b14 : Bool), r15 = .bool b14 ∧
  cond (!b14)
  (Q (.bool false) w3)
  (inI (n5 + 1) ∧
  I3 [.int .i64 (n5 + 1)] w3 ∧ mu4 [.int .i64 (n5 + 1)] w3 < mu4 [.int .i64 n5] w1))))))))
  (Q (.bool true) w1))
theorem C24 {a1 : Option Addr} {l1 : Nat} {c1 : Nat} {a2 : Option Addr} {l2 : Nat} {c2 : Nat} {Q : Value → World → Prop} {w : World} (h : L24 a1 l1 c1 a2 l2 c2 Q w) : CallR Tryz.prog 24 [.slice a1 l1 c1, .slice a2 l2 c2] w Q :=
  fun_calls (A := A24) mixed Tryz.func24 (c := (Tryz.f24.body).getD .skip) rfl (by kernel_rfl) (Eq.mp (by kernel_rfl) h)

/-- millrace/millraceplain.SameFaults -/
def A28 : Ann := ⟨[(4, [(5, .one (.int .i64))])], [], [], [(6, [0, 1, 2, 3, 4, 5, 6, 7, 8])], [], []⟩
def L28 (a1 : Option Addr) (l1 : Nat) (c1 : Nat) (a2 : Option Addr) (l2 : Nat) (c2 : Nat) (Q : Value → World → Prop) (w : World) : Prop :=
  cond ((((l1 : Nat) : Int)) != (((l2 : Nat) : Int)))
  (Q (.bool false) w)
  (∃ (I3 : List Value → World → Prop) (mu4 : List Value → World → Nat),
  I3 [.int .i64 0] w ∧
  ∀ (_ : Env) (n5 : Int) (w1 : World), I3 [.int .i64 n5] w1 →
  cond (decide (n5 < (((l1 : Nat) : Int))))
  (let w2 := World.drew w1;
  (0 ≤ (n5 : Int) ∧ (n5 : Int) < ((l1 : Nat) : Int)) ∧
  nn a1 (fun (q6 : Addr) =>
  ∃ (n7 : Int) (n8 : Int), w2.cell? (Addr.add q6 (Int.toNat n5 * 2)) = some ((.int .i64 n7 : Value)) ∧ w2.cell? (Addr.add (Addr.add q6 (Int.toNat n5 * 2)) 1) = some ((.int .i64 n8 : Value)) ∧ 
  (0 ≤ (n5 : Int) ∧ (n5 : Int) < ((l2 : Nat) : Int)) ∧
  nn a2 (fun (q9 : Addr) =>
  ∃ (n10 : Int) (n11 : Int), w2.cell? (Addr.add q9 (Int.toNat n5 * 2)) = some ((.int .i64 n10 : Value)) ∧ w2.cell? (Addr.add (Addr.add q9 (Int.toNat n5 * 2)) 1) = some ((.int .i64 n11 : Value)) ∧ 
  ∃ (b12 : Bool) (w3 : World), Sem.run Tryz.prog (Sem.bind (eqGuard .neq 82 (.tmp 20) (.tmp 24) (.agg #[.int .i64 n7, .int .i64 n8]) (.agg #[.int .i64 n10, .int .i64 n11])) (fun _ => binOp .neq 82 (.agg #[.int .i64 n7, .int .i64 n8]) (.agg #[.int .i64 n10, .int .i64 n11]))) w2 = .ok ((.bool b12 : Value)) w3 ∧
  cond b12
  (Q (.bool false) w3)
  (inI (n5 + 1) ∧
  I3 [.int .i64 (n5 + 1)] w3 ∧ mu4 [.int .i64 (n5 + 1)] w3 < mu4 [.int .i64 n5] w1))))
  (Q (.bool true) w1))
theorem C28 {a1 : Option Addr} {l1 : Nat} {c1 : Nat} {a2 : Option Addr} {l2 : Nat} {c2 : Nat} {Q : Value → World → Prop} {w : World} (h : L28 a1 l1 c1 a2 l2 c2 Q w) : CallR Tryz.prog 28 [.slice a1 l1 c1, .slice a2 l2 c2] w Q :=
  fun_calls (A := A28) mixed Tryz.func28 (c := (Tryz.f28.body).getD .skip) rfl (by kernel_rfl) (Eq.mp (by kernel_rfl) h)

/-- (*millrace/kern.Kernel).Rest -/
def A27 : Ann := ⟨[], [], [], [], [], []⟩
def L27 (p1 : Option Addr) (Q : Value → World → Prop) (w : World) : Prop :=
  CallR Tryz.prog 87 [.pointer p1] w (fun (r3 : Value) (w1 : World) =>
  ∃ (b2 : Bool), r3 = .bool b2 ∧
  cond b2
  (Q (.slice none 0 0) w1)
  (nn p1 (fun (q4 : Addr) =>
  ∃ (p5 : Option Addr), w1.cell? (Addr.add q4 5) = some ((.pointer p5 : Value)) ∧
  CallR Tryz.prog 100 [.pointer p5] w1 (fun (r7 : Value) (w2 : World) =>
  ∃ (a6 : Option Addr) (l6 : Nat) (c6 : Nat), r7 = .slice a6 l6 c6 ∧
  Q (.slice a6 l6 c6) w2))))
theorem C27 {p1 : Option Addr} {Q : Value → World → Prop} {w : World} (h : L27 p1 Q w) : CallR Tryz.prog 27 [.pointer p1] w Q :=
  fun_calls (A := A27) mixed Tryz.func27 (c := (Tryz.f27.body).getD .skip) rfl (by kernel_rfl) (Eq.mp (by kernel_rfl) h)

/-- (*millrace/faults.Plan).Rest -/
def A100 : Ann := ⟨[], [], [], [], [], []⟩
def L100 (p1 : Option Addr) (Q : Value → World → Prop) (w : World) : Prop :=
  cond (Option.isNone p1)
  (Q (.slice none 0 0) w)
  (nn p1 (fun (q2 : Addr) =>
  ∃ (a3 : Option Addr) (l3 : Nat) (c3 : Nat), w.cell? (Addr.add q2 1) = some ((.slice a3 l3 c3 : Value)) ∧
  CallR Tryz.prog 184 [.slice a3 l3 c3] w (fun (r5 : Value) (w1 : World) =>
  ∃ (a4 : Option Addr) (l4 : Nat) (c4 : Nat), r5 = .slice a4 l4 c4 ∧
  Q (.slice a4 l4 c4) w1)))
theorem C100 {p1 : Option Addr} {Q : Value → World → Prop} {w : World} (h : L100 p1 Q w) : CallR Tryz.prog 100 [.pointer p1] w Q :=
  fun_calls (A := A100) mixed Tryz.func100 (c := (Tryz.f100.body).getD .skip) rfl (by kernel_rfl) (Eq.mp (by kernel_rfl) h)

/-- (*millrace/kern.Kernel).Calls -/
def A114 : Ann := ⟨[], [], [], [], [], []⟩
def L114 (p1 : Option Addr) (Q : Value → World → Prop) (w : World) : Prop :=
  CallR Tryz.prog 87 [.pointer p1] w (fun (r3 : Value) (w1 : World) =>
  ∃ (b2 : Bool), r3 = .bool b2 ∧
  cond b2
  (Q (.tuple #[.int .i64 0, .int .i64 0]) w1)
  (nn p1 (fun (q5 : Addr) =>
  (0 ≤ (0 : Int) ∧ (0 : Int) < ((2 : Nat) : Int)) ∧
  ∃ (n6 : Int), w1.cell? (Addr.add (Addr.add q5 6) (Int.toNat 0)) = some ((.int .i64 n6 : Value)) ∧
  nn p1 (fun (q7 : Addr) =>
  (0 ≤ (1 : Int) ∧ (1 : Int) < ((2 : Nat) : Int)) ∧
  ∃ (n8 : Int), w1.cell? (Addr.add (Addr.add q7 6) (Int.toNat 1)) = some ((.int .i64 n8 : Value)) ∧
  ∀ nd4 : Nat, let w2 := World.drewN w1 nd4;
  Q (.tuple #[.int .i64 n6, .int .i64 n8]) w2))))
theorem C114 {p1 : Option Addr} {Q : Value → World → Prop} {w : World} (h : L114 p1 Q w) : CallR Tryz.prog 114 [.pointer p1] w Q :=
  fun_calls (A := A114) mixed Tryz.func114 (c := (Tryz.f114.body).getD .skip) rfl (by kernel_rfl) (Eq.mp (by kernel_rfl) h)

/-- (*millrace/kern.Kernel).Screen -/
def A117 : Ann := ⟨[], [], [], [], [], []⟩
def L117 (p1 : Option Addr) (s2 : ByteArray) (Q : Value → World → Prop) (w : World) : Prop :=
  CallR Tryz.prog 87 [.pointer p1] w (fun (r4 : Value) (w1 : World) =>
  ∃ (b3 : Bool), r4 = .bool b3 ∧
  cond b3
  (Q (.tuple #[.slice none 0 0, .bool false]) w1)
  (nn p1 (fun (q5 : Addr) =>
  ∃ (m6 : Option Nat), w1.cell? (Addr.add q5 2) = some ((.map m6 : Value)) ∧
  ∃ (p7 : Option Addr) (b8 : Bool) (w2 : World), Sem.run Tryz.prog (Instr.lookup 68 (.map m6) (.string s2) true) w1 = .ok ((.tuple #[.pointer p7, .bool b8] : Value)) w2 ∧
  CallR Tryz.prog 212 [.pointer p7] w2 (fun (r10 : Value) (w3 : World) =>
  ∃ (a9 : Option Addr) (l9 : Nat) (c9 : Nat), r10 = .slice a9 l9 c9 ∧
  Q (.tuple #[.slice a9 l9 c9, .bool b8]) w3))))
theorem C117 {p1 : Option Addr} {s2 : ByteArray} {Q : Value → World → Prop} {w : World} (h : L117 p1 s2 Q w) : CallR Tryz.prog 117 [.pointer p1, .string s2] w Q :=
  fun_calls (A := A117) mixed Tryz.func117 (c := (Tryz.f117.body).getD .skip) rfl (by kernel_rfl) (Eq.mp (by kernel_rfl) h)

/-- (millrace/kern.Handle).Seek -/
def A15 : Ann := ⟨[], [], [], [], [], []⟩
def L15 (p1 : Option Addr) (n2 : Int) (n3 : Int) (n4 : Int) (Q : Value → World → Prop) (w : World) : Prop :=
  let w1 := World.alloc w (Obj.cells #[.pointer p1, .int .i64 n2] 31);
  ∃ (p5 : Option Addr), w1.cell? (Addr.mk w.heap.size 0 none) = some ((.pointer p5 : Value)) ∧
  ∃ (n6 : Int), w1.cell? (Addr.mk w.heap.size 1 none) = some ((.int .i64 n6 : Value)) ∧
  CallR Tryz.prog 23 [.pointer p5, .int .i64 n6, .int .i64 n3, .int .i64 n4] w1 (fun (r9 : Value) (w2 : World) =>
  ∃ (n7 : Int) (n8 : Int), r9 = .tuple #[.int .i64 n7, .int .i64 n8] ∧
  Q (.tuple #[.int .i64 n7, .int .i64 n8]) w2)
theorem C15 {p1 : Option Addr} {n2 : Int} {n3 : Int} {n4 : Int} {Q : Value → World → Prop} {w : World} (h : L15 p1 n2 n3 n4 Q w) : CallR Tryz.prog 15 [.agg #[.pointer p1, .int .i64 n2], .int .i64 n3, .int .i64 n4] w Q :=
  fun_calls (A := A15) mixed Tryz.func15 (c := (Tryz.f15.body).getD .skip) rfl (by kernel_rfl) (Eq.mp (by kernel_rfl) h)

end Go.Proofs.YtkjmlbplmffekaaGreat
