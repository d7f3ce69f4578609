/-
  What some functions of the program ask of the world, printed by a program out of the loaded program; each text is held against the code by evaluation. Conditions: none.
-/
import Derived.Test.YtkjmlbplmffekaaGreatProg
import Derived.Test.YtkjmlbplmffekaaGreatLm
import Derived.Test.YtkjmlbplmffekaaGreatLX
import Derived.Test.YtkjmlbplmffekaaGreatRfC
set_option linter.unusedVariables false
set_option maxRecDepth 100000
namespace Go.Proofs.YtkjmlbplmffekaaGreat
open Go.Lw
/-- millrace/millraceplain.CopyLists -/
def A186 : Ann := ⟨[(3, [(3, .one (.slice)), (4, .one (.int .i64))])], [], [], [], [], []⟩
def L186 (a1 : Option Addr) (l1 : Nat) (c1 : Nat) (Q : Value → World → Prop) (w : World) : Prop :=
  ∃ (I2 : List Value → World → Prop) (mu3 : List Value → World → Nat),
  I2 [.slice none 0 0, .int .i64 0] w ∧
  ∀ (_ : Env) (a4 : Option Addr) (l4 : Nat) (c4 : Nat) (n5 : Int) (w1 : World), I2 [.slice a4 l4 c4, .int .i64 n5] w1 →
  cond (decide (n5 < (((l1 : Nat) : Int))))
  ((0 ≤ (n5 : Int) ∧ (n5 : Int) < ((l1 : Nat) : Int)) ∧
  nn a1 (fun (q6 : Addr) =>
  ∃ (a7 : Option Addr) (l7 : Nat) (c7 : Nat), w1.cell? (Addr.add q6 (Int.toNat n5)) = some ((.slice a7 l7 c7 : Value)) ∧
  CallR Tryz.prog 77 [.slice a7 l7 c7] w1 (fun (r9 : Value) (w2 : World) =>
  ∃ (a8 : Option Addr) (l8 : Nat) (c8 : Nat), r9 = .slice a8 l8 c8 ∧
  let w3 := World.alloc w2 (Obj.cells #[.slice a8 l8 c8] 32);
  ∃ (a10 : Option Addr) (l10 : Nat) (c10 : Nat) (w4 : World), Sem.run Tryz.prog (Builtin.append_ #[78, 78] 78 #[.slice a4 l4 c4, .slice (some (Addr.mk w2.heap.size 0 none)) 1 1]) w3 = .ok ((.slice a10 l10 c10 : Value)) w4 ∧
  inI (n5 + 1) ∧
  I2 [.slice a10 l10 c10, .int .i64 (n5 + 1)] w4 ∧ mu3 [.slice a10 l10 c10, .int .i64 (n5 + 1)] w4 < mu3 [.slice a4 l4 c4, .int .i64 n5] w1)))
  (Q (.slice a4 l4 c4) w1)
theorem C186 {a1 : Option Addr} {l1 : Nat} {c1 : Nat} {Q : Value → World → Prop} {w : World} (h : L186 a1 l1 c1 Q w) : CallR Tryz.prog 186 [.slice a1 l1 c1] w Q :=
  fun_calls (A := A186) mixed Tryz.func186 (c := (Tryz.f186.body).getD .skip) rfl (by kernel_rfl) (Eq.mp (by kernel_rfl) h)

/-- millrace/millraceplain.CopyNamed -/
def A35 : Ann := ⟨[(3, [(3, .one (.slice)), (4, .one (.int .i64))])], [], [], [], [(5, [0, 1, 2, 3, 4, 5, 6, 7, 8, 9, 10, 11, 12], 13, [14, 15])], []⟩
def L35 (a1 : Option Addr) (l1 : Nat) (c1 : Nat) (Q : Value → World → Prop) (w : World) : Prop :=
  ∃ (I2 : List Value → World → Prop) (mu3 : List Value → World → Nat),
  I2 [.slice none 0 0, .int .i64 0] w ∧
  ∀ (_ : Env) (a4 : Option Addr) (l4 : Nat) (c4 : Nat) (n5 : Int) (w1 : World), I2 [.slice a4 l4 c4, .int .i64 n5] w1 →
  cond (decide (n5 < (((l1 : Nat) : Int))))
  (∃ (S6 : World → Prop), S6 (World.drew w1) ∧
  let w2 := World.drew w1;
  (0 ≤ (n5 : Int) ∧ (n5 : Int) < ((l1 : Nat) : Int)) ∧
  nn a1 (fun (q7 : Addr) =>
  ∃ (s8 : ByteArray), (∀ wS : World, S6 wS → wS.cell? (Addr.add q7 (Int.toNat n5 * 2)) = some ((.string s8 : Value))) ∧
  (0 ≤ (n5 : Int) ∧ (n5 : Int) < ((l1 : Nat) : Int)) ∧
  nn a1 (fun (q9 : Addr) =>
  ∃ (a10 : Option Addr) (l10 : Nat) (c10 : Nat), (∀ wS : World, S6 wS → wS.cell? (Addr.add (Addr.add q9 (Int.toNat n5 * 2)) 1) = some ((.slice a10 l10 c10 : Value))) ∧
  CallR Tryz.prog 77 [.slice a10 l10 c10] w2 (fun (r12 : Value) (w3 : World) =>
  ∃ (a11 : Option Addr) (l11 : Nat) (c11 : Nat), r12 = .slice a11 l11 c11 ∧
  S6 w3 ∧
  let w4 := World.alloc w3 (Obj.cells #[.string s8, .slice a11 l11 c11] 77);
  ∃ (a13 : Option Addr) (l13 : Nat) (c13 : Nat) (w5 : World), Sem.run Tryz.prog (Builtin.append_ #[22, 22] 22 #[.slice a4 l4 c4, .slice (some (Addr.mk w3.heap.size 0 none)) 1 1]) w4 = .ok ((.slice a13 l13 c13 : Value)) w5 ∧
  inI (n5 + 1) ∧
  I2 [.slice a13 l13 c13, .int .i64 (n5 + 1)] w5 ∧ mu3 [.slice a13 l13 c13, .int .i64 (n5 + 1)] w5 < mu3 [.slice a4 l4 c4, .int .i64 n5] w1))))
  (Q (.slice a4 l4 c4) w1)
theorem C35 {a1 : Option Addr} {l1 : Nat} {c1 : Nat} {Q : Value → World → Prop} {w : World} (h : L35 a1 l1 c1 Q w) : CallR Tryz.prog 35 [.slice a1 l1 c1] w Q :=
  fun_calls (A := A35) mixed Tryz.func35 (c := (Tryz.f35.body).getD .skip) rfl (by kernel_rfl) (Eq.mp (by kernel_rfl) h)

/-- millrace/millraceplain.CopyTyped -/
def A85 : Ann := ⟨[(3, [(3, .one (.slice)), (4, .one (.int .i64))])], [], [], [], [(5, [0, 1, 2, 3, 4, 5, 6, 7, 8, 9, 10, 11, 12], 13, [14, 15])], []⟩
def L85 (a1 : Option Addr) (l1 : Nat) (c1 : Nat) (Q : Value → World → Prop) (w : World) : Prop :=
  ∃ (I2 : List Value → World → Prop) (mu3 : List Value → World → Nat),
  I2 [.slice none 0 0, .int .i64 0] w ∧
  ∀ (_ : Env) (a4 : Option Addr) (l4 : Nat) (c4 : Nat) (n5 : Int) (w1 : World), I2 [.slice a4 l4 c4, .int .i64 n5] w1 →
  cond (decide (n5 < (((l1 : Nat) : Int))))
  (∃ (S6 : World → Prop), S6 (World.drew w1) ∧
  let w2 := World.drew w1;
  (0 ≤ (n5 : Int) ∧ (n5 : Int) < ((l1 : Nat) : Int)) ∧
  nn a1 (fun (q7 : Addr) =>
  ∃ (s8 : ByteArray), (∀ wS : World, S6 wS → wS.cell? (Addr.add q7 (Int.toNat n5 * 2)) = some ((.string s8 : Value))) ∧
  (0 ≤ (n5 : Int) ∧ (n5 : Int) < ((l1 : Nat) : Int)) ∧
  nn a1 (fun (q9 : Addr) =>
  ∃ (a10 : Option Addr) (l10 : Nat) (c10 : Nat), (∀ wS : World, S6 wS → wS.cell? (Addr.add (Addr.add q9 (Int.toNat n5 * 2)) 1) = some ((.slice a10 l10 c10 : Value))) ∧
  CallR Tryz.prog 186 [.slice a10 l10 c10] w2 (fun (r12 : Value) (w3 : World) =>
  ∃ (a11 : Option Addr) (l11 : Nat) (c11 : Nat), r12 = .slice a11 l11 c11 ∧
  S6 w3 ∧
  let w4 := World.alloc w3 (Obj.cells #[.string s8, .slice a11 l11 c11] 80);
  ∃ (a13 : Option Addr) (l13 : Nat) (c13 : Nat) (w5 : World), Sem.run Tryz.prog (Builtin.append_ #[23, 23] 23 #[.slice a4 l4 c4, .slice (some (Addr.mk w3.heap.size 0 none)) 1 1]) w4 = .ok ((.slice a13 l13 c13 : Value)) w5 ∧
  inI (n5 + 1) ∧
  I2 [.slice a13 l13 c13, .int .i64 (n5 + 1)] w5 ∧ mu3 [.slice a13 l13 c13, .int .i64 (n5 + 1)] w5 < mu3 [.slice a4 l4 c4, .int .i64 n5] w1))))
  (Q (.slice a4 l4 c4) w1)
theorem C85 {a1 : Option Addr} {l1 : Nat} {c1 : Nat} {Q : Value → World → Prop} {w : World} (h : L85 a1 l1 c1 Q w) : CallR Tryz.prog 85 [.slice a1 l1 c1] w Q :=
  fun_calls (A := A85) mixed Tryz.func85 (c := (Tryz.f85.body).getD .skip) rfl (by kernel_rfl) (Eq.mp (by kernel_rfl) h)

/-- millrace/millraceplain.CopyFaults -/
def A86 : Ann := ⟨[], [], [], [], [], []⟩
def L86 (a1 : Option Addr) (l1 : Nat) (c1 : Nat) (Q : Value → World → Prop) (w : World) : Prop :=
  ∃ (a2 : Option Addr) (l2 : Nat) (c2 : Nat) (w1 : World), Sem.run Tryz.prog (Builtin.append_ #[24, 24] 24 #[.slice none 0 0, .slice a1 l1 c1]) w = .ok ((.slice a2 l2 c2 : Value)) w1 ∧
  Q (.slice a2 l2 c2) w1
theorem C86 {a1 : Option Addr} {l1 : Nat} {c1 : Nat} {Q : Value → World → Prop} {w : World} (h : L86 a1 l1 c1 Q w) : CallR Tryz.prog 86 [.slice a1 l1 c1] w Q :=
  fun_calls (A := A86) mixed Tryz.func86 (c := (Tryz.f86.body).getD .skip) rfl (by kernel_rfl) (Eq.mp (by kernel_rfl) h)

/-- (millrace/millracelaw06.Setup).Config -/
def A18 : Ann := ⟨[], [], [], [], [(1, [0, 1, 3, 4, 6, 7, 2, 5], 8, [9, 10])], []⟩
def L18 (a1 : Option Addr) (l1 : Nat) (c1 : Nat) (a2 : Option Addr) (l2 : Nat) (c2 : Nat) (a3 : Option Addr) (l3 : Nat) (c3 : Nat) (Q : Value → World → Prop) (w : World) : Prop :=
  let w1 := World.alloc w (Obj.cells #[.slice a1 l1 c1, .slice a2 l2 c2, .slice a3 l3 c3] 26);
  let w2 := World.alloc w1 (Obj.cells #[.slice none 0 0, .slice none 0 0, .slice none 0 0] 42);
  ∃ (S4 : World → Prop), S4 (World.drew w2) ∧
  let w3 := World.drew w2;
  ∃ (a5 : Option Addr) (l5 : Nat) (c5 : Nat), (∀ wS : World, S4 wS → wS.cell? (Addr.mk w.heap.size 0 none) = some ((.slice a5 l5 c5 : Value))) ∧
  ∃ (a6 : Option Addr) (l6 : Nat) (c6 : Nat), (∀ wS : World, S4 wS → wS.cell? (Addr.mk w.heap.size 1 none) = some ((.slice a6 l6 c6 : Value))) ∧
  ∃ (a7 : Option Addr) (l7 : Nat) (c7 : Nat), (∀ wS : World, S4 wS → wS.cell? (Addr.mk w.heap.size 2 none) = some ((.slice a7 l7 c7 : Value))) ∧
  CallR Tryz.prog 35 [.slice a5 l5 c5] w3 (fun (r9 : Value) (w4 : World) =>
  ∃ (a8 : Option Addr) (l8 : Nat) (c8 : Nat), r9 = .slice a8 l8 c8 ∧
  S4 w4 ∧
  CallR Tryz.prog 85 [.slice a6 l6 c6] w4 (fun (r11 : Value) (w5 : World) =>
  ∃ (a10 : Option Addr) (l10 : Nat) (c10 : Nat), r11 = .slice a10 l10 c10 ∧
  S4 w5 ∧
  CallR Tryz.prog 86 [.slice a7 l7 c7] w5 (fun (r13 : Value) (w6 : World) =>
  ∃ (a12 : Option Addr) (l12 : Nat) (c12 : Nat), r13 = .slice a12 l12 c12 ∧
  stC (Addr.mk w1.heap.size 0 none) (.slice a8 l8 c8) w6 (fun (w7 : World) =>
  stC (Addr.mk w1.heap.size 1 none) (.slice a10 l10 c10) w7 (fun (w8 : World) =>
  stC (Addr.mk w1.heap.size 2 none) (.slice a12 l12 c12) w8 (fun (w9 : World) =>
  ∃ (a14 : Option Addr) (l14 : Nat) (c14 : Nat) (a15 : Option Addr) (l15 : Nat) (c15 : Nat) (a16 : Option Addr) (l16 : Nat) (c16 : Nat), w9.cell? (Addr.mk w1.heap.size 0 none) = some ((.slice a14 l14 c14 : Value)) ∧ w9.cell? (Addr.mk w1.heap.size 1 none) = some ((.slice a15 l15 c15 : Value)) ∧ w9.cell? (Addr.mk w1.heap.size 2 none) = some ((.slice a16 l16 c16 : Value)) ∧ 
  Q (.agg #[.slice a14 l14 c14, .slice a15 l15 c15, .slice a16 l16 c16]) w9))))))
theorem C18 {a1 : Option Addr} {l1 : Nat} {c1 : Nat} {a2 : Option Addr} {l2 : Nat} {c2 : Nat} {a3 : Option Addr} {l3 : Nat} {c3 : Nat} {Q : Value → World → Prop} {w : World} (h : L18 a1 l1 c1 a2 l2 c2 a3 l3 c3 Q w) : CallR Tryz.prog 18 [.agg #[.slice a1 l1 c1, .slice a2 l2 c2, .slice a3 l3 c3]] w Q :=
  fun_calls (A := A18) mixed Tryz.func18 (c := (Tryz.f18.body).getD .skip) rfl (by kernel_rfl) (Eq.mp (by kernel_rfl) h)

end Go.Proofs.YtkjmlbplmffekaaGreat
