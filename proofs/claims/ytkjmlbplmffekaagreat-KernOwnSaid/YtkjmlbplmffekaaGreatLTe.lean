/-
  What some functions of the program ask of the world, printed by a program out of the loaded program; each text is held against the code by evaluation. Conditions: none.
-/
import Derived.Test.YtkjmlbplmffekaaGreatProg
import Derived.Test.YtkjmlbplmffekaaGreatLm
import Derived.Test.YtkjmlbplmffekaaGreatLX
set_option linter.unusedVariables false
set_option maxRecDepth 100000
namespace Go.Proofs.YtkjmlbplmffekaaGreat
open Go.Lw
/-- millrace/terminal.New -/
def A84 : Ann := ⟨[(5, [(14, .one (.int .i64))])], [], [], [], [(9, [0, 1, 2, 3, 4, 5, 6, 7], 8, [9, 10, 11])], []⟩
def L84 (a1 : Option Addr) (l1 : Nat) (c1 : Nat) (Q : Value → World → Prop) (w : World) : Prop :=
  cond (decide ((((l1 : Nat) : Int)) > 256))
  (Q (.tuple #[.pointer none, .int .i64 3]) w)
  (let w1 := World.alloc w (Obj.cells #[.bool true, .slice none 0 0, .int .i64 0, .slice none 0 0] 295);
  ∃ (I2 : List Value → World → Prop) (mu3 : List Value → World → Nat),
  I2 [.int .i64 0] w1 ∧
  ∀ (_ : Env) (n4 : Int) (w2 : World), I2 [.int .i64 n4] w2 →
  cond (decide (n4 < (((l1 : Nat) : Int))))
  ((0 ≤ (n4 : Int) ∧ (n4 : Int) < ((l1 : Nat) : Int)) ∧
  nn a1 (fun (q5 : Addr) =>
  ∃ (a6 : Option Addr) (l6 : Nat) (c6 : Nat), w2.cell? (Addr.add q5 (Int.toNat n4)) = some ((.slice a6 l6 c6 : Value)) ∧
  cond (decide ((((l6 : Nat) : Int)) > 4096))
  (Q (.tuple #[.pointer none, .int .i64 5]) w2)
  (∃ (S7 : World → Prop), S7 (World.drew w2) ∧
  let w3 := World.drew w2;
  ∃ (a8 : Option Addr) (l8 : Nat) (c8 : Nat), (∀ wS : World, S7 wS → wS.cell? (Addr.mk w.heap.size 1 none) = some ((.slice a8 l8 c8 : Value))) ∧
  CallR Tryz.prog 185 [.slice a6 l6 c6] w3 (fun (r10 : Value) (w4 : World) =>
  ∃ (a9 : Option Addr) (l9 : Nat) (c9 : Nat), r10 = .slice a9 l9 c9 ∧
  S7 w4 ∧
  let w5 := World.alloc w4 (Obj.cells #[.slice a9 l9 c9] 32);
  S7 w5 ∧
  ∃ (a11 : Option Addr) (l11 : Nat) (c11 : Nat) (w6 : World), Sem.run Tryz.prog (Builtin.append_ #[78, 78] 78 #[.slice a8 l8 c8, .slice (some (Addr.mk w4.heap.size 0 none)) 1 1]) w5 = .ok ((.slice a11 l11 c11 : Value)) w6 ∧
  stC (Addr.mk w.heap.size 1 none) (.slice a11 l11 c11) w6 (fun (w7 : World) =>
  inI (n4 + 1) ∧
  I2 [.int .i64 (n4 + 1)] w7 ∧ mu3 [.int .i64 (n4 + 1)] w7 < mu3 [.int .i64 n4] w2)))))
  (Q (.tuple #[.pointer (some (Addr.mk w.heap.size 0 none)), .int .i64 0]) w2))
theorem C84 {a1 : Option Addr} {l1 : Nat} {c1 : Nat} {Q : Value → World → Prop} {w : World} (h : L84 a1 l1 c1 Q w) : CallR Tryz.prog 84 [.slice a1 l1 c1] w Q :=
  fun_calls (A := A84) mixed Tryz.func84 (c := (Tryz.f84.body).getD .skip) rfl (by kernel_rfl) (Eq.mp (by kernel_rfl) h)

/-- (*millrace/terminal.Terminal).Read -/
def A278 : Ann := ⟨[], [], [], [], [], []⟩
def L278 (p1 : Option Addr) (n2 : Int) (Q : Value → World → Prop) (w : World) : Prop :=
  cond (Option.isNone p1)
  (Q (.tuple #[.slice none 0 0, .int .i64 2]) w)
  (nn p1 (fun (q3 : Addr) =>
  ∃ (b4 : Bool), w.cell? q3 = some ((.bool b4 : Value)) ∧
  cond (!b4)
  (Q (.tuple #[.slice none 0 0, .int .i64 2]) w)
  (cond (decide (n2 < 1))
  (Q (.tuple #[.slice none 0 0, .int .i64 4]) w)
  (cond (decide (n2 > 1048576))
  (Q (.tuple #[.slice none 0 0, .int .i64 4]) w)
  (nn p1 (fun (q5 : Addr) =>
  ∃ (a6 : Option Addr) (l6 : Nat) (c6 : Nat), w.cell? (Addr.add q5 1) = some ((.slice a6 l6 c6 : Value)) ∧
  cond ((((l6 : Nat) : Int)) == 0)
  (Q (.tuple #[.slice none 0 0, .int .i64 0]) w)
  (nn p1 (fun (q8 : Addr) =>
  ∃ (a9 : Option Addr) (l9 : Nat) (c9 : Nat), w.cell? (Addr.add q8 1) = some ((.slice a9 l9 c9 : Value)) ∧
  (0 ≤ (0 : Int) ∧ (0 : Int) < ((l9 : Nat) : Int)) ∧
  nn a9 (fun (q10 : Addr) =>
  ∃ (a11 : Option Addr) (l11 : Nat) (c11 : Nat), w.cell? (Addr.add q10 (Int.toNat 0)) = some ((.slice a11 l11 c11 : Value)) ∧
  nn p1 (fun (q12 : Addr) =>
  ∃ (n13 : Int), w.cell? (Addr.add q12 2) = some ((.int .i64 n13 : Value)) ∧
  (0 ≤ (n13 : Int) ∧ (n13 : Int) ≤ ((l11 : Nat) : Int)) ∧
  ∀ nd7 : Nat, let w1 := World.drewN w nd7;
  (0 ≤ (mn n2 (((l11 - Int.toNat n13 : Nat) : Int)) : Int) ∧ (mn n2 (((l11 - Int.toNat n13 : Nat) : Int)) : Int) ≤ ((c11 - Int.toNat n13 : Nat) : Int)) ∧
  nn p1 (fun (q14 : Addr) =>
  ∃ (n15 : Int), w1.cell? (Addr.add q14 2) = some ((.int .i64 n15 : Value)) ∧
  inI (n15 + (((Int.toNat (mn n2 (((l11 - Int.toNat n13 : Nat) : Int))) : Nat) : Int))) ∧
  nn p1 (fun (q16 : Addr) =>
  stC (Addr.add q16 2) (.int .i64 (n15 + (((Int.toNat (mn n2 (((l11 - Int.toNat n13 : Nat) : Int))) : Nat) : Int)))) w1 (fun (w2 : World) =>
  cond ((((Int.toNat (mn n2 (((l11 - Int.toNat n13 : Nat) : Int))) : Nat) : Int)) == (((l11 - Int.toNat n13 : Nat) : Int)))
  (nn p1 (fun (q17 : Addr) =>
  ∃ (a18 : Option Addr) (l18 : Nat) (c18 : Nat), w2.cell? (Addr.add q17 1) = some ((.slice a18 l18 c18 : Value)) ∧
  (0 ≤ (1 : Int) ∧ (1 : Int) ≤ ((l18 : Nat) : Int)) ∧
  nn p1 (fun (q19 : Addr) =>
  stC (Addr.add q19 1) (.slice (adv a18 (Int.toNat 1) c18 1) (l18 - Int.toNat 1) (c18 - Int.toNat 1)) w2 (fun (w3 : World) =>
  nn p1 (fun (q20 : Addr) =>
  stC (Addr.add q20 2) (.int .i64 0) w3 (fun (w4 : World) =>
  CallR Tryz.prog 185 [.slice (adv a11 (Int.toNat n13) c11 1) (Int.toNat (mn n2 (((l11 - Int.toNat n13 : Nat) : Int)))) (c11 - Int.toNat n13)] w4 (fun (r22 : Value) (w5 : World) =>
  ∃ (a21 : Option Addr) (l21 : Nat) (c21 : Nat), r22 = .slice a21 l21 c21 ∧
  Q (.tuple #[.slice a21 l21 c21, .int .i64 0]) w5)))))))
  (CallR Tryz.prog 185 [.slice (adv a11 (Int.toNat n13) c11 1) (Int.toNat (mn n2 (((l11 - Int.toNat n13 : Nat) : Int)))) (c11 - Int.toNat n13)] w2 (fun (r24 : Value) (w6 : World) =>
  ∃ (a23 : Option Addr) (l23 : Nat) (c23 : Nat), r24 = .slice a23 l23 c23 ∧
  Q (.tuple #[.slice a23 l23 c23, .int .i64 0]) w6)))))))))))))))
theorem C278 {p1 : Option Addr} {n2 : Int} {Q : Value → World → Prop} {w : World} (h : L278 p1 n2 Q w) : CallR Tryz.prog 278 [.pointer p1, .int .i64 n2] w Q :=
  fun_calls (A := A278) mixed Tryz.func278 (c := (Tryz.f278.body).getD .skip) rfl (by kernel_rfl) (Eq.mp (by kernel_rfl) h)

/-- (*millrace/terminal.Terminal).Write -/
def A279 : Ann := ⟨[], [], [], [], [], []⟩
def L279 (p1 : Option Addr) (a2 : Option Addr) (l2 : Nat) (c2 : Nat) (Q : Value → World → Prop) (w : World) : Prop :=
  cond (Option.isNone p1)
  (Q (.int .i64 2) w)
  (nn p1 (fun (q3 : Addr) =>
  ∃ (b4 : Bool), w.cell? q3 = some ((.bool b4 : Value)) ∧
  cond (!b4)
  (Q (.int .i64 2) w)
  (nn p1 (fun (q5 : Addr) =>
  ∃ (a6 : Option Addr) (l6 : Nat) (c6 : Nat), w.cell? (Addr.add q5 3) = some ((.slice a6 l6 c6 : Value)) ∧
  inI ((1048576 : Int) - (((l6 : Nat) : Int))) ∧
  cond (decide ((((l2 : Nat) : Int)) > ((1048576 : Int) - (((l6 : Nat) : Int)))))
  (Q (.int .i64 31) w)
  (nn p1 (fun (q7 : Addr) =>
  ∃ (a8 : Option Addr) (l8 : Nat) (c8 : Nat), w.cell? (Addr.add q7 3) = some ((.slice a8 l8 c8 : Value)) ∧
  ∃ (a9 : Option Addr) (l9 : Nat) (c9 : Nat) (w1 : World), Sem.run Tryz.prog (Builtin.append_ #[32, 32] 32 #[.slice a8 l8 c8, .slice a2 l2 c2]) w = .ok ((.slice a9 l9 c9 : Value)) w1 ∧
  nn p1 (fun (q10 : Addr) =>
  stC (Addr.add q10 3) (.slice a9 l9 c9) w1 (fun (w2 : World) =>
  Q (.int .i64 0) w2))))))))
theorem C279 {p1 : Option Addr} {a2 : Option Addr} {l2 : Nat} {c2 : Nat} {Q : Value → World → Prop} {w : World} (h : L279 p1 a2 l2 c2 Q w) : CallR Tryz.prog 279 [.pointer p1, .slice a2 l2 c2] w Q :=
  fun_calls (A := A279) mixed Tryz.func279 (c := (Tryz.f279.body).getD .skip) rfl (by kernel_rfl) (Eq.mp (by kernel_rfl) h)

/-- (*millrace/terminal.Terminal).Screen -/
def A212 : Ann := ⟨[], [], [], [], [], []⟩
def L212 (p1 : Option Addr) (Q : Value → World → Prop) (w : World) : Prop :=
  cond (Option.isNone p1)
  (Q (.slice none 0 0) w)
  (nn p1 (fun (q2 : Addr) =>
  ∃ (a3 : Option Addr) (l3 : Nat) (c3 : Nat), w.cell? (Addr.add q2 3) = some ((.slice a3 l3 c3 : Value)) ∧
  ∃ (a4 : Option Addr) (l4 : Nat) (c4 : Nat) (w1 : World), Sem.run Tryz.prog (Instr.makeSlice 32 (.int .i64 (((l3 : Nat) : Int))) (.int .i64 (((l3 : Nat) : Int)))) w = .ok ((.slice a4 l4 c4 : Value)) w1 ∧
  nn p1 (fun (q5 : Addr) =>
  ∃ (a6 : Option Addr) (l6 : Nat) (c6 : Nat), w1.cell? (Addr.add q5 3) = some ((.slice a6 l6 c6 : Value)) ∧
  ∃ (n7 : Int) (w2 : World), Sem.run Tryz.prog (Builtin.copy_ #[32, 32] 3 #[.slice a4 l4 c4, .slice a6 l6 c6]) w1 = .ok ((.int .i64 n7 : Value)) w2 ∧
  Q (.slice a4 l4 c4) w2)))
theorem C212 {p1 : Option Addr} {Q : Value → World → Prop} {w : World} (h : L212 p1 Q w) : CallR Tryz.prog 212 [.pointer p1] w Q :=
  fun_calls (A := A212) mixed Tryz.func212 (c := (Tryz.f212.body).getD .skip) rfl (by kernel_rfl) (Eq.mp (by kernel_rfl) h)

end Go.Proofs.YtkjmlbplmffekaaGreat
