/-
  What some functions of the program ask of the world, printed by a program out of the loaded program; each text is held against the code by evaluation. Conditions: none.
-/
import Derived.Test.YtkjmlbplmffekaaProg
import Derived.Test.YtkjmlbplmffekaaLm
set_option linter.unusedVariables false
set_option maxRecDepth 100000
namespace Go.Proofs.Ytkjmlbplmffekaa
open Go.Lw
theorem mixed : Try.prog.follows .mixedOrders = true := by kernel_rfl
/-- bytes.Clone -/
def A53 : Ann := ⟨[], [], [], [], [], []⟩
def L53 (a1 : Option Addr) (l1 : Nat) (c1 : Nat) (Q : Value → World → Prop) (w : World) : Prop :=
  cond (Option.isNone a1)
  (Q (.slice none 0 0) w)
  (let w1 := World.alloc w (Obj.cells #[] 5);
  ∃ (a2 : Option Addr) (l2 : Nat) (c2 : Nat) (w2 : World), Sem.run Try.prog (Builtin.append_ #[36, 36] 36 #[.slice (some (Addr.mk w.heap.size 0 none)) 0 0, .slice a1 l1 c1]) w1 = .ok ((.slice a2 l2 c2 : Value)) w2 ∧
  Q (.slice a2 l2 c2) w2)
theorem C53 {a1 : Option Addr} {l1 : Nat} {c1 : Nat} {Q : Value → World → Prop} {w : World} (h : L53 a1 l1 c1 Q w) : CallR Try.prog 53 [.slice a1 l1 c1] w Q :=
  fun_calls (A := A53) mixed Try.func53 (c := (Try.f53.body).getD .skip) rfl (by kernel_rfl) (Eq.mp (by kernel_rfl) h)

/-- millrace/millraceplain.SameBytes -/
def A20 : Ann := ⟨[(4, [(5, .one (.int .i64))])], [], [], [], [], []⟩
def L20 (a1 : Option Addr) (l1 : Nat) (c1 : Nat) (a2 : Option Addr) (l2 : Nat) (c2 : Nat) (Q : Value → World → Prop) (w : World) : Prop :=
  cond ((((l1 : Nat) : Int)) != (((l2 : Nat) : Int)))
  (Q (.bool false) w)
  (∃ (I3 : List Value → World → Prop) (mu4 : List Value → World → Nat),
  I3 [.int .i64 0] w ∧
  ∀ (_ : Env) (n5 : Int) (w1 : World), I3 [.int .i64 n5] w1 →
  cond (decide (n5 < (((l1 : Nat) : Int))))
  ((0 ≤ (n5 : Int) ∧ (n5 : Int) < ((l1 : Nat) : Int)) ∧
  nn a1 (fun (q7 : Addr) =>
  ∃ (n8 : Int), w1.cell? (Addr.add q7 (Int.toNat n5)) = some ((.int .u8 n8 : Value)) ∧
  (0 ≤ (n5 : Int) ∧ (n5 : Int) < ((l2 : Nat) : Int)) ∧
  nn a2 (fun (q9 : Addr) =>
  ∃ (n10 : Int), w1.cell? (Addr.add q9 (Int.toNat n5)) = some ((.int .u8 n10 : Value)) ∧
  ∀ nd6 : Nat, let w2 := World.drewN w1 nd6;
  cond (n8 != n10)
  (Q (.bool false) w2)
  (inI (n5 + 1) ∧
  I3 [.int .i64 (n5 + 1)] w2 ∧ mu4 [.int .i64 (n5 + 1)] w2 < mu4 [.int .i64 n5] w1))))
  (Q (.bool true) w1))
theorem C20 {a1 : Option Addr} {l1 : Nat} {c1 : Nat} {a2 : Option Addr} {l2 : Nat} {c2 : Nat} {Q : Value → World → Prop} {w : World} (h : L20 a1 l1 c1 a2 l2 c2 Q w) : CallR Try.prog 20 [.slice a1 l1 c1, .slice a2 l2 c2] w Q :=
  fun_calls (A := A20) mixed Try.func20 (c := (Try.f20.body).getD .skip) rfl (by kernel_rfl) (Eq.mp (by kernel_rfl) h)

/-- millrace/millraceplain.CopyBytes -/
def A54 : Ann := ⟨[], [], [], [], [], []⟩
def L54 (a1 : Option Addr) (l1 : Nat) (c1 : Nat) (Q : Value → World → Prop) (w : World) : Prop :=
  ∃ (a2 : Option Addr) (l2 : Nat) (c2 : Nat) (w1 : World), Sem.run Try.prog (Builtin.append_ #[36, 36] 36 #[.slice none 0 0, .slice a1 l1 c1]) w = .ok ((.slice a2 l2 c2 : Value)) w1 ∧
  Q (.slice a2 l2 c2) w1
theorem C54 {a1 : Option Addr} {l1 : Nat} {c1 : Nat} {Q : Value → World → Prop} {w : World} (h : L54 a1 l1 c1 Q w) : CallR Try.prog 54 [.slice a1 l1 c1] w Q :=
  fun_calls (A := A54) mixed Try.func54 (c := (Try.f54.body).getD .skip) rfl (by kernel_rfl) (Eq.mp (by kernel_rfl) h)

end Go.Proofs.Ytkjmlbplmffekaa
