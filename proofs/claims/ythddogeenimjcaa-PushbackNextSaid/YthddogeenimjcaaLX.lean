/-
  What some functions of the program ask of the world, printed by a program out of the loaded program; each text is held against the code by evaluation. Conditions: none.
-/
import Derived.Test.YthddogeenimjcaaProg
import Derived.Test.YthddogeenimjcaaLm
set_option linter.unusedVariables false
set_option maxRecDepth 100000
namespace Go.Proofs.Ythddogeenimjcaa
open Go.Lw
theorem mixed : Try.prog.follows .mixedOrders = true := by kernel_rfl
/-- bytes.Clone -/
def A38 : Ann := ⟨[], [], [], [], [], []⟩
def L38 (a1 : Option Addr) (l1 : Nat) (c1 : Nat) (Q : Value → World → Prop) (w : World) : Prop :=
  cond (Option.isNone a1)
  (Q (.slice none 0 0) w)
  (let w1 := World.alloc w (Obj.cells #[] 5);
  ∃ (a2 : Option Addr) (l2 : Nat) (c2 : Nat) (w2 : World), Sem.run Try.prog (Builtin.append_ #[22, 22] 22 #[.slice (some (Addr.mk w.heap.size 0 none)) 0 0, .slice a1 l1 c1]) w1 = .ok ((.slice a2 l2 c2 : Value)) w2 ∧
  Q (.slice a2 l2 c2) w2)
theorem C38 {a1 : Option Addr} {l1 : Nat} {c1 : Nat} {Q : Value → World → Prop} {w : World} (h : L38 a1 l1 c1 Q w) : CallR Try.prog 38 [.slice a1 l1 c1] w Q :=
  fun_calls (A := A38) mixed Try.func38 (c := (Try.f38.body).getD .skip) rfl (by kernel_rfl) (Eq.mp (by kernel_rfl) h)

/-- millrace/millraceplain.SameBytes -/
def A16 : Ann := ⟨[(4, [(5, .one (.int .i64))])], [], [], [], [], []⟩
def L16 (a1 : Option Addr) (l1 : Nat) (c1 : Nat) (a2 : Option Addr) (l2 : Nat) (c2 : Nat) (Q : Value → World → Prop) (w : World) : Prop :=
  cond ((((l1 : Nat) : Int)) != (((l2 : Nat) : Int)))
  (Q (.bool false) w)
  (∃ (I3 : List Value → World → Prop) (mu4 : List Value → World → Nat),
  I3 [.int .i64 0] w ∧
  ∀ (_ : Env) (n5 : Int) (w1 : World), I3 [.int .i64 n5] w1 →
  cond (decide (n5 < (((l1 : Nat) : Int))))
  ((0 ≤ (n5 : Int) ∧ (n5 : Int) < ((l1 : Nat) : Int)) ∧
  nn a1 (fun (q7 : Addr) =>
  ∃ (n8 : Int), w1.cell? (Addr.add q7 (Int.toNat n5)) = some ((.int .u8 n8 : Value)) ∧
  (0 ≤ (n5 : Int) ∧ (n5 : Int) < ((l2 : Nat) : Int)) ∧
  nn a2 (fun (q9 : Addr) =>
  ∃ (n10 : Int), w1.cell? (Addr.add q9 (Int.toNat n5)) = some ((.int .u8 n10 : Value)) ∧
  ∀ nd6 : Nat, let w2 := World.drewN w1 nd6;
  cond (n8 != n10)
  (Q (.bool false) w2)
  (inI (n5 + 1) ∧
  I3 [.int .i64 (n5 + 1)] w2 ∧ mu4 [.int .i64 (n5 + 1)] w2 < mu4 [.int .i64 n5] w1))))
  (Q (.bool true) w1))
theorem C16 {a1 : Option Addr} {l1 : Nat} {c1 : Nat} {a2 : Option Addr} {l2 : Nat} {c2 : Nat} {Q : Value → World → Prop} {w : World} (h : L16 a1 l1 c1 a2 l2 c2 Q w) : CallR Try.prog 16 [.slice a1 l1 c1, .slice a2 l2 c2] w Q :=
  fun_calls (A := A16) mixed Try.func16 (c := (Try.f16.body).getD .skip) rfl (by kernel_rfl) (Eq.mp (by kernel_rfl) h)

/-- millrace/millraceplain.CopyBytes -/
def A18 : Ann := ⟨[], [], [], [], [], []⟩
def L18 (a1 : Option Addr) (l1 : Nat) (c1 : Nat) (Q : Value → World → Prop) (w : World) : Prop :=
  ∃ (a2 : Option Addr) (l2 : Nat) (c2 : Nat) (w1 : World), Sem.run Try.prog (Builtin.append_ #[22, 22] 22 #[.slice none 0 0, .slice a1 l1 c1]) w = .ok ((.slice a2 l2 c2 : Value)) w1 ∧
  Q (.slice a2 l2 c2) w1
theorem C18 {a1 : Option Addr} {l1 : Nat} {c1 : Nat} {Q : Value → World → Prop} {w : World} (h : L18 a1 l1 c1 Q w) : CallR Try.prog 18 [.slice a1 l1 c1] w Q :=
  fun_calls (A := A18) mixed Try.func18 (c := (Try.f18.body).getD .skip) rfl (by kernel_rfl) (Eq.mp (by kernel_rfl) h)

/-- millrace/millraceplain.Spoil -/
def A19 : Ann := ⟨[(1, [(2, .one (.int .i64))])], [], [], [], [], []⟩
def L19 (a1 : Option Addr) (l1 : Nat) (c1 : Nat) (Q : Value → World → Prop) (w : World) : Prop :=
  ∃ (I2 : List Value → World → Prop) (mu3 : List Value → World → Nat),
  I2 [.int .i64 0] w ∧
  ∀ (_ : Env) (n4 : Int) (w1 : World), I2 [.int .i64 n4] w1 →
  cond (decide (n4 < (((l1 : Nat) : Int))))
  ((0 ≤ (n4 : Int) ∧ (n4 : Int) < ((l1 : Nat) : Int)) ∧
  nn a1 (fun (q5 : Addr) =>
  ∃ (n6 : Int), w1.cell? (Addr.add q5 (Int.toNat n4)) = some ((.int .u8 n6 : Value)) ∧
  (0 ≤ (n4 : Int) ∧ (n4 : Int) < ((l1 : Nat) : Int)) ∧
  nn a1 (fun (q7 : Addr) =>
  stC (Addr.add q7 (Int.toNat n4)) (.int .u8 (IntKind.wrap .u8 ↑(BitVec.ofInt (IntKind.bits .u8) n6 ^^^ BitVec.ofInt (IntKind.bits .u8) 85).toNat)) w1 (fun (w2 : World) =>
  inI (n4 + 1) ∧
  I2 [.int .i64 (n4 + 1)] w2 ∧ mu3 [.int .i64 (n4 + 1)] w2 < mu3 [.int .i64 n4] w1))))
  (Q (.tuple #[]) w1)
theorem C19 {a1 : Option Addr} {l1 : Nat} {c1 : Nat} {Q : Value → World → Prop} {w : World} (h : L19 a1 l1 c1 Q w) : CallR Try.prog 19 [.slice a1 l1 c1] w Q :=
  fun_calls (A := A19) mixed Try.func19 (c := (Try.f19.body).getD .skip) rfl (by kernel_rfl) (Eq.mp (by kernel_rfl) h)

end Go.Proofs.Ythddogeenimjcaa
