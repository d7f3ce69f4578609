/-
  What some functions of the program ask of the world, printed by a program out of the loaded program; each text is held against the code by evaluation. Conditions: none.
-/
import Derived.Test.YtkjmlbplmffekaaGreatProg
import Derived.Test.YtkjmlbplmffekaaGreatLm
import Derived.Test.YtkjmlbplmffekaaGreatLX
set_option linter.unusedVariables false
set_option maxRecDepth 100000
namespace Go.Proofs.YtkjmlbplmffekaaGreat
open Go.Lw
/-- (*millrace/kpipe.Pipe).none -/
def A194 : Ann := ⟨[], [], [], [], [], []⟩
def L194 (p1 : Option Addr) (Q : Value → World → Prop) (w : World) : Prop :=
  cond (Option.isNone p1)
  (Q (.bool true) w)
  (nn p1 (fun (q2 : Addr) =>
  ∃ (b3 : Bool), w.cell? (Addr.add q2 4098) = some ((.bool b3 : Value)) ∧
  Q (.bool (!b3)) w))
theorem C194 {p1 : Option Addr} {Q : Value → World → Prop} {w : World} (h : L194 p1 Q w) : CallR Tryz.prog 194 [.pointer p1] w Q :=
  fun_calls (A := A194) mixed Tryz.func194 (c := (Tryz.f194.body).getD .skip) rfl (by kernel_rfl) (Eq.mp (by kernel_rfl) h)

/-- (*millrace/kpipe.ring).look -/
def A246 : Ann := ⟨[(3, [(11, .one (.int .i64))])], [], [], [(5, [0, 1, 2, 3, 4, 5, 6, 7, 8, 9, 10, 11, 12, 13, 14, 15])], [], []⟩
def L246 (p1 : Option Addr) (n2 : Int) (Q : Value → World → Prop) (w : World) : Prop :=
  ∃ (a3 : Option Addr) (l3 : Nat) (c3 : Nat) (w1 : World), Sem.run Tryz.prog (Instr.makeSlice 32 (.int .i64 n2) (.int .i64 n2)) w = .ok ((.slice a3 l3 c3 : Value)) w1 ∧
  ∃ (I4 : List Value → World → Prop) (mu5 : List Value → World → Nat),
  I4 [.int .i64 0] w1 ∧
  ∀ (_ : Env) (n6 : Int) (w2 : World), I4 [.int .i64 n6] w2 →
  cond (decide (n6 < (((l3 : Nat) : Int))))
  (let w3 := World.drew w2;
  nn p1 (fun (q7 : Addr) =>
  ∃ (n8 : Int), w3.cell? (Addr.add q7 4096) = some ((.int .i64 n8 : Value)) ∧
  inI (n8 + n6) ∧
  (4096 : Int) ≠ 0 ∧
  nn p1 (fun (q9 : Addr) =>
  (0 ≤ (Int.tmod (n8 + n6) (4096 : Int) : Int) ∧ (Int.tmod (n8 + n6) (4096 : Int) : Int) < ((4096 : Nat) : Int)) ∧
  ∃ (n10 : Int), w3.cell? (Addr.add q9 (Int.toNat (Int.tmod (n8 + n6) (4096 : Int)))) = some ((.int .u8 n10 : Value)) ∧
  (0 ≤ (n6 : Int) ∧ (n6 : Int) < ((l3 : Nat) : Int)) ∧
  nn a3 (fun (q11 : Addr) =>
  stC (Addr.add q11 (Int.toNat n6)) (.int .u8 n10) w3 (fun (w4 : World) =>
  inI (n6 + 1) ∧
  I4 [.int .i64 (n6 + 1)] w4 ∧ mu5 [.int .i64 (n6 + 1)] w4 < mu5 [.int .i64 n6] w2)))))
  (Q (.slice a3 l3 c3) w2)
theorem C246 {p1 : Option Addr} {n2 : Int} {Q : Value → World → Prop} {w : World} (h : L246 p1 n2 Q w) : CallR Tryz.prog 246 [.pointer p1, .int .i64 n2] w Q :=
  fun_calls (A := A246) mixed Tryz.func246 (c := (Tryz.f246.body).getD .skip) rfl (by kernel_rfl) (Eq.mp (by kernel_rfl) h)

/-- (*millrace/kpipe.ring).drop -/
def A295 : Ann := ⟨[], [], [], [], [], []⟩
def L295 (p1 : Option Addr) (n2 : Int) (Q : Value → World → Prop) (w : World) : Prop :=
  nn p1 (fun (q3 : Addr) =>
  ∃ (n4 : Int), w.cell? (Addr.add q3 4096) = some ((.int .i64 n4 : Value)) ∧
  inI (n4 + n2) ∧
  (4096 : Int) ≠ 0 ∧
  nn p1 (fun (q5 : Addr) =>
  stC (Addr.add q5 4096) (.int .i64 (Int.tmod (n4 + n2) (4096 : Int))) w (fun (w1 : World) =>
  nn p1 (fun (q6 : Addr) =>
  ∃ (n7 : Int), w1.cell? (Addr.add q6 4097) = some ((.int .i64 n7 : Value)) ∧
  inI (n7 - n2) ∧
  nn p1 (fun (q8 : Addr) =>
  stC (Addr.add q8 4097) (.int .i64 (n7 - n2)) w1 (fun (w2 : World) =>
  Q (.tuple #[]) w2))))))
theorem C295 {p1 : Option Addr} {n2 : Int} {Q : Value → World → Prop} {w : World} (h : L295 p1 n2 Q w) : CallR Tryz.prog 295 [.pointer p1, .int .i64 n2] w Q :=
  fun_calls (A := A295) mixed Tryz.func295 (c := (Tryz.f295.body).getD .skip) rfl (by kernel_rfl) (Eq.mp (by kernel_rfl) h)

/-- (*millrace/kpipe.ring).put -/
def A297 : Ann := ⟨[(1, [(8, .one (.int .i64))])], [], [], [(3, [0, 1, 2, 3, 4, 5, 6, 7, 8, 9, 10, 11, 12, 13, 14, 15])], [], []⟩
def L297 (p1 : Option Addr) (a2 : Option Addr) (l2 : Nat) (c2 : Nat) (Q : Value → World → Prop) (w : World) : Prop :=
  ∃ (I3 : List Value → World → Prop) (mu4 : List Value → World → Nat),
  I3 [.int .i64 0] w ∧
  ∀ (_ : Env) (n5 : Int) (w1 : World), I3 [.int .i64 n5] w1 →
  cond (decide (n5 < (((l2 : Nat) : Int))))
  ((0 ≤ (n5 : Int) ∧ (n5 : Int) < ((l2 : Nat) : Int)) ∧
  nn a2 (fun (q6 : Addr) =>
  ∃ (n7 : Int), w1.cell? (Addr.add q6 (Int.toNat n5)) = some ((.int .u8 n7 : Value)) ∧
  let w2 := World.drew w1;
  nn p1 (fun (q8 : Addr) =>
  ∃ (n9 : Int), w2.cell? (Addr.add q8 4096) = some ((.int .i64 n9 : Value)) ∧
  nn p1 (fun (q10 : Addr) =>
  ∃ (n11 : Int), w2.cell? (Addr.add q10 4097) = some ((.int .i64 n11 : Value)) ∧
  inI (n9 + n11) ∧
  (4096 : Int) ≠ 0 ∧
  nn p1 (fun (q12 : Addr) =>
  (0 ≤ (Int.tmod (n9 + n11) (4096 : Int) : Int) ∧ (Int.tmod (n9 + n11) (4096 : Int) : Int) < ((4096 : Nat) : Int)) ∧
  stC (Addr.add q12 (Int.toNat (Int.tmod (n9 + n11) (4096 : Int)))) (.int .u8 n7) w2 (fun (w3 : World) =>
  nn p1 (fun (q13 : Addr) =>
  ∃ (n14 : Int), w3.cell? (Addr.add q13 4097) = some ((.int .i64 n14 : Value)) ∧
  inI (n14 + 1) ∧
  nn p1 (fun (q15 : Addr) =>
  stC (Addr.add q15 4097) (.int .i64 (n14 + 1)) w3 (fun (w4 : World) =>
  inI (n5 + 1) ∧
  I3 [.int .i64 (n5 + 1)] w4 ∧ mu4 [.int .i64 (n5 + 1)] w4 < mu4 [.int .i64 n5] w1)))))))))
  (Q (.tuple #[]) w1)
theorem C297 {p1 : Option Addr} {a2 : Option Addr} {l2 : Nat} {c2 : Nat} {Q : Value → World → Prop} {w : World} (h : L297 p1 a2 l2 c2 Q w) : CallR Tryz.prog 297 [.pointer p1, .slice a2 l2 c2] w Q :=
  fun_calls (A := A297) mixed Tryz.func297 (c := (Tryz.f297.body).getD .skip) rfl (by kernel_rfl) (Eq.mp (by kernel_rfl) h)

/-- (*millrace/kpipe.ring).room -/
def A298 : Ann := ⟨[], [], [], [], [], []⟩
def L298 (p1 : Option Addr) (Q : Value → World → Prop) (w : World) : Prop :=
  nn p1 (fun (q2 : Addr) =>
  ∃ (n3 : Int), w.cell? (Addr.add q2 4097) = some ((.int .i64 n3 : Value)) ∧
  inI ((4096 : Int) - n3) ∧
  Q (.int .i64 ((4096 : Int) - n3)) w)
theorem C298 {p1 : Option Addr} {Q : Value → World → Prop} {w : World} (h : L298 p1 Q w) : CallR Tryz.prog 298 [.pointer p1] w Q :=
  fun_calls (A := A298) mixed Tryz.func298 (c := (Tryz.f298.body).getD .skip) rfl (by kernel_rfl) (Eq.mp (by kernel_rfl) h)

/-- millrace/kpipe.side -/
def A195 : Ann := ⟨[], [], [], [], [], []⟩
def L195 (b1 : Bool) (Q : Value → World → Prop) (w : World) : Prop :=
  cond b1
  (Q (.int .i64 1) w)
  (Q (.int .i64 0) w)
theorem C195 {b1 : Bool} {Q : Value → World → Prop} {w : World} (h : L195 b1 Q w) : CallR Tryz.prog 195 [.bool b1] w Q :=
  fun_calls (A := A195) mixed Tryz.func195 (c := (Tryz.f195.body).getD .skip) rfl (by kernel_rfl) (Eq.mp (by kernel_rfl) h)

/-- (*millrace/kpipe.Pipe).takes -/
def A296 : Ann := ⟨[], [], [], [], [], []⟩
def L296 (p1 : Option Addr) (n2 : Int) (Q : Value → World → Prop) (w : World) : Prop :=
  cond (decide (n2 ≤ 512))
  (nn p1 (fun (q3 : Addr) =>
  CallR Tryz.prog 298 [.pointer (some q3)] w (fun (r5 : Value) (w1 : World) =>
  ∃ (n4 : Int), r5 = .int .i64 n4 ∧
  cond (decide (n4 < n2))
  (Q (.int .i64 0) w1)
  (nn p1 (fun (q6 : Addr) =>
  CallR Tryz.prog 298 [.pointer (some q6)] w1 (fun (r8 : Value) (w2 : World) =>
  ∃ (n7 : Int), r8 = .int .i64 n7 ∧
  Q (.int .i64 (mn n2 n7)) w2))))))
  (nn p1 (fun (q9 : Addr) =>
  CallR Tryz.prog 298 [.pointer (some q9)] w (fun (r11 : Value) (w3 : World) =>
  ∃ (n10 : Int), r11 = .int .i64 n10 ∧
  Q (.int .i64 (mn n2 n10)) w3)))
theorem C296 {p1 : Option Addr} {n2 : Int} {Q : Value → World → Prop} {w : World} (h : L296 p1 n2 Q w) : CallR Tryz.prog 296 [.pointer p1, .int .i64 n2] w Q :=
  fun_calls (A := A296) mixed Tryz.func296 (c := (Tryz.f296.body).getD .skip) rfl (by kernel_rfl) (Eq.mp (by kernel_rfl) h)

/-- millrace/kpipe.New -/
def A98 : Ann := ⟨[], [], [], [], [], []⟩
def L98 (Q : Value → World → Prop) (w : World) : Prop :=
  let w1 := World.alloc w (Obj.cells ((Program.built Tryz.prog 310 [(1, .bool true)]).getD #[]) 310);
  Q (.pointer (some (Addr.mk w.heap.size 0 none))) w1
theorem C98 {Q : Value → World → Prop} {w : World} (h : L98 Q w) : CallR Tryz.prog 98 [] w Q :=
  fun_calls (A := A98) mixed Tryz.func98 (c := (Tryz.f98.body).getD .skip) rfl (by kernel_rfl) (Eq.mp (by kernel_rfl) h)

/-- (*millrace/kpipe.Pipe).Join -/
def A99 : Ann := ⟨[], [], [], [(3, [0, 1, 3, 4, 2, 5, 6, 7, 8]), (5, [0, 1, 3, 4, 8, 9, 2, 5, 6, 7, 10, 11])], [], []⟩
def L99 (p1 : Option Addr) (b2 : Bool) (Q : Value → World → Prop) (w : World) : Prop :=
  CallR Tryz.prog 194 [.pointer p1] w (fun (r4 : Value) (w1 : World) =>
  ∃ (b3 : Bool), r4 = .bool b3 ∧
  cond b3
  (Q (.int .i64 2) w1)
  (let w2 := World.drew w1;
  nn p1 (fun (q5 : Addr) =>
  CallR Tryz.prog 195 [.bool b2] w2 (fun (r7 : Value) (w3 : World) =>
  ∃ (n6 : Int), r7 = .int .i64 n6 ∧
  (0 ≤ (n6 : Int) ∧ (n6 : Int) < ((2 : Nat) : Int)) ∧
  ∃ (n8 : Int), w3.cell? (Addr.add (Addr.add q5 4099) (Int.toNat n6)) = some ((.int .i64 n8 : Value)) ∧
  cond (decide (n8 ≥ 1024))
  (Q (.int .i64 3) w3)
  (let w4 := World.drew w3;
  nn p1 (fun (q9 : Addr) =>
  nn p1 (fun (q10 : Addr) =>
  CallR Tryz.prog 195 [.bool b2] w4 (fun (r12 : Value) (w5 : World) =>
  ∃ (n11 : Int), r12 = .int .i64 n11 ∧
  (0 ≤ (n11 : Int) ∧ (n11 : Int) < ((2 : Nat) : Int)) ∧
  ∃ (n13 : Int), w5.cell? (Addr.add (Addr.add q9 4099) (Int.toNat n11)) = some ((.int .i64 n13 : Value)) ∧
  inI (n13 + 1) ∧
  (0 ≤ (n11 : Int) ∧ (n11 : Int) < ((2 : Nat) : Int)) ∧
  stC (Addr.add (Addr.add q10 4099) (Int.toNat n11)) (.int .i64 (n13 + 1)) w5 (fun (w6 : World) =>
  Q (.int .i64 0) w6)))))))))
theorem C99 {p1 : Option Addr} {b2 : Bool} {Q : Value → World → Prop} {w : World} (h : L99 p1 b2 Q w) : CallR Tryz.prog 99 [.pointer p1, .bool b2] w Q :=
  fun_calls (A := A99) mixed Tryz.func99 (c := (Tryz.f99.body).getD .skip) rfl (by kernel_rfl) (Eq.mp (by kernel_rfl) h)

/-- (*millrace/kpipe.Pipe).Leave -/
def A304 : Ann := ⟨[], [], [], [(3, [0, 1, 3, 4, 2, 5, 6, 7, 8]), (5, [0, 1, 3, 4, 8, 9, 2, 5, 6, 7, 10, 11])], [], []⟩
def L304 (p1 : Option Addr) (b2 : Bool) (Q : Value → World → Prop) (w : World) : Prop :=
  CallR Tryz.prog 194 [.pointer p1] w (fun (r4 : Value) (w1 : World) =>
  ∃ (b3 : Bool), r4 = .bool b3 ∧
  cond b3
  (Q (.int .i64 2) w1)
  (let w2 := World.drew w1;
  nn p1 (fun (q5 : Addr) =>
  CallR Tryz.prog 195 [.bool b2] w2 (fun (r7 : Value) (w3 : World) =>
  ∃ (n6 : Int), r7 = .int .i64 n6 ∧
  (0 ≤ (n6 : Int) ∧ (n6 : Int) < ((2 : Nat) : Int)) ∧
  ∃ (n8 : Int), w3.cell? (Addr.add (Addr.add q5 4099) (Int.toNat n6)) = some ((.int .i64 n8 : Value)) ∧
  cond (n8 == 0)
  (Q (.int .i64 51) w3)
  (let w4 := World.drew w3;
  nn p1 (fun (q9 : Addr) =>
  nn p1 (fun (q10 : Addr) =>
  CallR Tryz.prog 195 [.bool b2] w4 (fun (r12 : Value) (w5 : World) =>
  ∃ (n11 : Int), r12 = .int .i64 n11 ∧
  (0 ≤ (n11 : Int) ∧ (n11 : Int) < ((2 : Nat) : Int)) ∧
  ∃ (n13 : Int), w5.cell? (Addr.add (Addr.add q9 4099) (Int.toNat n11)) = some ((.int .i64 n13 : Value)) ∧
  inI (n13 - 1) ∧
  (0 ≤ (n11 : Int) ∧ (n11 : Int) < ((2 : Nat) : Int)) ∧
  stC (Addr.add (Addr.add q10 4099) (Int.toNat n11)) (.int .i64 (n13 - 1)) w5 (fun (w6 : World) =>
  Q (.int .i64 0) w6)))))))))
theorem C304 {p1 : Option Addr} {b2 : Bool} {Q : Value → World → Prop} {w : World} (h : L304 p1 b2 Q w) : CallR Tryz.prog 304 [.pointer p1, .bool b2] w Q :=
  fun_calls (A := A304) mixed Tryz.func304 (c := (Tryz.f304.body).getD .skip) rfl (by kernel_rfl) (Eq.mp (by kernel_rfl) h)

/-- (*millrace/kpipe.Pipe).Read -/
def A293 : Ann := ⟨[], [], [], [], [], []⟩
def L293 (p1 : Option Addr) (n2 : Int) (Q : Value → World → Prop) (w : World) : Prop :=
  CallR Tryz.prog 194 [.pointer p1] w (fun (r4 : Value) (w1 : World) =>
  ∃ (b3 : Bool), r4 = .bool b3 ∧
  cond b3
  (Q (.tuple #[.slice none 0 0, .int .i64 2]) w1)
  (cond (decide (n2 < 1))
  (Q (.tuple #[.slice none 0 0, .int .i64 4]) w1)
  (cond (decide (n2 > 1048576))
  (Q (.tuple #[.slice none 0 0, .int .i64 4]) w1)
  (nn p1 (fun (q5 : Addr) =>
  (0 ≤ (0 : Int) ∧ (0 : Int) < ((2 : Nat) : Int)) ∧
  ∃ (n6 : Int), w1.cell? (Addr.add (Addr.add q5 4099) (Int.toNat 0)) = some ((.int .i64 n6 : Value)) ∧
  cond (n6 == 0)
  (Q (.tuple #[.slice none 0 0, .int .i64 51]) w1)
  (CallR Tryz.prog 191 [.pointer p1] w1 (fun (r8 : Value) (w2 : World) =>
  ∃ (b7 : Bool), r8 = .bool b7 ∧
  cond (!b7)
  (Q (.tuple #[.slice none 0 0, .int .i64 52]) w2)
  (nn p1 (fun (q9 : Addr) =>
  ∃ (n10 : Int), w2.cell? (Addr.add q9 4097) = some ((.int .i64 n10 : Value)) ∧
  nn p1 (fun (q11 : Addr) =>
  CallR Tryz.prog 246 [.pointer (some q11), .int .i64 (mn n2 n10)] w2 (fun (r13 : Value) (w3 : World) =>
  ∃ (a12 : Option Addr) (l12 : Nat) (c12 : Nat), r13 = .slice a12 l12 c12 ∧
  nn p1 (fun (q14 : Addr) =>
  CallR Tryz.prog 295 [.pointer (some q14), .int .i64 (mn n2 n10)] w3 (fun (r15 : Value) (w4 : World) =>
  r15 = .tuple #[] ∧
  Q (.tuple #[.slice a12 l12 c12, .int .i64 0]) w4)))))))))))))
theorem C293 {p1 : Option Addr} {n2 : Int} {Q : Value → World → Prop} {w : World} (h : L293 p1 n2 Q w) : CallR Tryz.prog 293 [.pointer p1, .int .i64 n2] w Q :=
  fun_calls (A := A293) mixed Tryz.func293 (c := (Tryz.f293.body).getD .skip) rfl (by kernel_rfl) (Eq.mp (by kernel_rfl) h)

/-- (*millrace/kpipe.Pipe).Write -/
def A294 : Ann := ⟨[], [], [], [(18, [0, 1, 2, 3, 4, 5, 6])], [], []⟩
def L294 (p1 : Option Addr) (a2 : Option Addr) (l2 : Nat) (c2 : Nat) (n3 : Int) (Q : Value → World → Prop) (w : World) : Prop :=
  CallR Tryz.prog 194 [.pointer p1] w (fun (r5 : Value) (w1 : World) =>
  ∃ (b4 : Bool), r5 = .bool b4 ∧
  cond b4
  (Q (.tuple #[.int .i64 0, .int .i64 2]) w1)
  (cond (decide ((((l2 : Nat) : Int)) > 1048576))
  (Q (.tuple #[.int .i64 0, .int .i64 5]) w1)
  (cond (decide (n3 < 1))
  (Q (.tuple #[.int .i64 0, .int .i64 4]) w1)
  (cond (decide (n3 > 1048576))
  (Q (.tuple #[.int .i64 0, .int .i64 4]) w1)
  (nn p1 (fun (q6 : Addr) =>
  (0 ≤ (1 : Int) ∧ (1 : Int) < ((2 : Nat) : Int)) ∧
  ∃ (n7 : Int), w1.cell? (Addr.add (Addr.add q6 4099) (Int.toNat 1)) = some ((.int .i64 n7 : Value)) ∧
  cond (n7 == 0)
  (Q (.tuple #[.int .i64 0, .int .i64 51]) w1)
  (nn p1 (fun (q8 : Addr) =>
  (0 ≤ (0 : Int) ∧ (0 : Int) < ((2 : Nat) : Int)) ∧
  ∃ (n9 : Int), w1.cell? (Addr.add (Addr.add q8 4099) (Int.toNat 0)) = some ((.int .i64 n9 : Value)) ∧
  cond (n9 == 0)
  (Q (.tuple #[.int .i64 0, .int .i64 53]) w1)
  (cond ((((l2 : Nat) : Int)) == 0)
  (Q (.tuple #[.int .i64 0, .int .i64 0]) w1)
  (CallR Tryz.prog 296 [.pointer p1, .int .i64 (((l2 : Nat) : Int))] w1 (fun (r11 : Value) (w2 : World) =>
  ∃ (n10 : Int), r11 = .int .i64 n10 ∧
  cond (n10 == 0)
  (Q (.tuple #[.int .i64 0, .int .i64 52]) w2)
  (cond (decide ((((l2 : Nat) : Int)) > 512))
  (let w3 := World.drew w2;
  nn p1 (fun (q12 : Addr) =>
  (0 ≤ (mn n10 n3 : Int) ∧ (mn n10 n3 : Int) ≤ ((c2 : Nat) : Int)) ∧
  CallR Tryz.prog 297 [.pointer (some q12), .slice a2 (Int.toNat (mn n10 n3)) c2] w3 (fun (r13 : Value) (w4 : World) =>
  r13 = .tuple #[] ∧
  Q (.tuple #[.int .i64 (mn n10 n3), .int .i64 0]) w4)))
  (let w5 := World.drew w2;
  nn p1 (fun (q14 : Addr) =>
  (0 ≤ (n10 : Int) ∧ (n10 : Int) ≤ ((c2 : Nat) : Int)) ∧
  CallR Tryz.prog 297 [.pointer (some q14), .slice a2 (Int.toNat n10) c2] w5 (fun (r15 : Value) (w6 : World) =>
  r15 = .tuple #[] ∧
  Q (.tuple #[.int .i64 n10, .int .i64 0]) w6)))))))))))))))
theorem C294 {p1 : Option Addr} {a2 : Option Addr} {l2 : Nat} {c2 : Nat} {n3 : Int} {Q : Value → World → Prop} {w : World} (h : L294 p1 a2 l2 c2 n3 Q w) : CallR Tryz.prog 294 [.pointer p1, .slice a2 l2 c2, .int .i64 n3] w Q :=
  fun_calls (A := A294) mixed Tryz.func294 (c := (Tryz.f294.body).getD .skip) rfl (by kernel_rfl) (Eq.mp (by kernel_rfl) h)

/-- (*millrace/kpipe.Pipe).Held -/
def A213 : Ann := ⟨[], [], [], [(3, [0, 1, 2, 3, 4, 5, 6, 7, 8, 9])], [], []⟩
def L213 (p1 : Option Addr) (Q : Value → World → Prop) (w : World) : Prop :=
  CallR Tryz.prog 194 [.pointer p1] w (fun (r3 : Value) (w1 : World) =>
  ∃ (b2 : Bool), r3 = .bool b2 ∧
  cond b2
  (Q (.slice none 0 0) w1)
  (let w2 := World.drew w1;
  nn p1 (fun (q4 : Addr) =>
  nn p1 (fun (q5 : Addr) =>
  ∃ (n6 : Int), w2.cell? (Addr.add q5 4097) = some ((.int .i64 n6 : Value)) ∧
  CallR Tryz.prog 246 [.pointer (some q4), .int .i64 n6] w2 (fun (r8 : Value) (w3 : World) =>
  ∃ (a7 : Option Addr) (l7 : Nat) (c7 : Nat), r8 = .slice a7 l7 c7 ∧
  Q (.slice a7 l7 c7) w3)))))
theorem C213 {p1 : Option Addr} {Q : Value → World → Prop} {w : World} (h : L213 p1 Q w) : CallR Tryz.prog 213 [.pointer p1] w Q :=
  fun_calls (A := A213) mixed Tryz.func213 (c := (Tryz.f213.body).getD .skip) rfl (by kernel_rfl) (Eq.mp (by kernel_rfl) h)

/-- (*millrace/kpipe.Pipe).Ends -/
def A305 : Ann := ⟨[], [], [], [], [], []⟩
def L305 (p1 : Option Addr) (Q : Value → World → Prop) (w : World) : Prop :=
  CallR Tryz.prog 194 [.pointer p1] w (fun (r3 : Value) (w1 : World) =>
  ∃ (b2 : Bool), r3 = .bool b2 ∧
  cond b2
  (Q (.tuple #[.int .i64 0, .int .i64 0]) w1)
  (nn p1 (fun (q5 : Addr) =>
  (0 ≤ (0 : Int) ∧ (0 : Int) < ((2 : Nat) : Int)) ∧
  ∃ (n6 : Int), w1.cell? (Addr.add (Addr.add q5 4099) (Int.toNat 0)) = some ((.int .i64 n6 : Value)) ∧
  nn p1 (fun (q7 : Addr) =>
  (0 ≤ (1 : Int) ∧ (1 : Int) < ((2 : Nat) : Int)) ∧
  ∃ (n8 : Int), w1.cell? (Addr.add (Addr.add q7 4099) (Int.toNat 1)) = some ((.int .i64 n8 : Value)) ∧
  ∀ nd4 : Nat, let w2 := World.drewN w1 nd4;
  Q (.tuple #[.int .i64 n6, .int .i64 n8]) w2))))
theorem C305 {p1 : Option Addr} {Q : Value → World → Prop} {w : World} (h : L305 p1 Q w) : CallR Tryz.prog 305 [.pointer p1] w Q :=
  fun_calls (A := A305) mixed Tryz.func305 (c := (Tryz.f305.body).getD .skip) rfl (by kernel_rfl) (Eq.mp (by kernel_rfl) h)

/-- (*millrace/kpipe.Pipe).CanRead -/
def A191 : Ann := ⟨[], [], [], [], [], []⟩
def L191 (p1 : Option Addr) (Q : Value → World → Prop) (w : World) : Prop :=
  CallR Tryz.prog 194 [.pointer p1] w (fun (r3 : Value) (w1 : World) =>
  ∃ (b2 : Bool), r3 = .bool b2 ∧
  cond (!b2)
  (nn p1 (fun (q4 : Addr) =>
  (0 ≤ (0 : Int) ∧ (0 : Int) < ((2 : Nat) : Int)) ∧
  ∃ (n5 : Int), w1.cell? (Addr.add (Addr.add q4 4099) (Int.toNat 0)) = some ((.int .i64 n5 : Value)) ∧
  cond (decide (n5 > 0))
  (nn p1 (fun (q6 : Addr) =>
  ∃ (n7 : Int), w1.cell? (Addr.add q6 4097) = some ((.int .i64 n7 : Value)) ∧
  cond (decide (n7 > 0))
  (Q (.bool true) w1)
  (nn p1 (fun (q8 : Addr) =>
  (0 ≤ (1 : Int) ∧ (1 : Int) < ((2 : Nat) : Int)) ∧
  ∃ (n9 : Int), w1.cell? (Addr.add (Addr.add q8 4099) (Int.toNat 1)) = some ((.int .i64 n9 : Value)) ∧
  Q (.bool (n9 == 0)) w1))))
  (Q (.bool false) w1)))
  (Q (.bool false) w1))
theorem C191 {p1 : Option Addr} {Q : Value → World → Prop} {w : World} (h : L191 p1 Q w) : CallR Tryz.prog 191 [.pointer p1] w Q :=
  fun_calls (A := A191) mixed Tryz.func191 (c := (Tryz.f191.body).getD .skip) rfl (by kernel_rfl) (Eq.mp (by kernel_rfl) h)

/-- (*millrace/kpipe.Pipe).CanWrite -/
def A306 : Ann := ⟨[], [], [], [], [], []⟩
def L306 (p1 : Option Addr) (n2 : Int) (Q : Value → World → Prop) (w : World) : Prop :=
  CallR Tryz.prog 194 [.pointer p1] w (fun (r4 : Value) (w1 : World) =>
  ∃ (b3 : Bool), r4 = .bool b3 ∧
  cond (!b3)
  (nn p1 (fun (q5 : Addr) =>
  (0 ≤ (1 : Int) ∧ (1 : Int) < ((2 : Nat) : Int)) ∧
  ∃ (n6 : Int), w1.cell? (Addr.add (Addr.add q5 4099) (Int.toNat 1)) = some ((.int .i64 n6 : Value)) ∧
  cond (decide (n6 > 0))
  (cond (decide (n2 ≥ 1))
  (cond (decide (n2 ≤ 1048576))
  (nn p1 (fun (q7 : Addr) =>
  (0 ≤ (0 : Int) ∧ (0 : Int) < ((2 : Nat) : Int)) ∧
  ∃ (n8 : Int), w1.cell? (Addr.add (Addr.add q7 4099) (Int.toNat 0)) = some ((.int .i64 n8 : Value)) ∧
  cond (n8 == 0)
  (Q (.bool true) w1)
  (CallR Tryz.prog 296 [.pointer p1, .int .i64 n2] w1 (fun (r10 : Value) (w2 : World) =>
  ∃ (n9 : Int), r10 = .int .i64 n9 ∧
  Q (.bool (decide (n9 > 0))) w2))))
  (Q (.bool false) w1))
  (Q (.bool false) w1))
  (Q (.bool false) w1)))
  (Q (.bool false) w1))
theorem C306 {p1 : Option Addr} {n2 : Int} {Q : Value → World → Prop} {w : World} (h : L306 p1 n2 Q w) : CallR Tryz.prog 306 [.pointer p1, .int .i64 n2] w Q :=
  fun_calls (A := A306) mixed Tryz.func306 (c := (Tryz.f306.body).getD .skip) rfl (by kernel_rfl) (Eq.mp (by kernel_rfl) h)

end Go.Proofs.YtkjmlbplmffekaaGreat
