/-
  What some functions of the program ask of the world, printed by a program out of the loaded program; each text is held against the code by evaluation. Conditions: none.
-/
import Derived.Test.YtbiofmgebbdflaaProg
import Derived.Test.YtbiofmgebbdflaaLm
import Derived.Test.YtbiofmgebbdflaaLX
import Derived.Test.YtbiofmgebbdflaaRfC
set_option linter.unusedVariables false
set_option maxRecDepth 100000
namespace Go.Proofs.Ytbiofmgebbdflaa
open Go.Lw
/-- millrace/millracelaw08.RetryNobody -/
def A12 : Ann := ⟨[], [], [], [], []⟩
def L12 (n1 : Int) (a2 : Option Addr) (l2 : Nat) (c2 : Nat) (Q : Value → World → Prop) (w : World) : Prop :=
  CallR Try.prog 28 [] w (fun (r4 : Value) (w1 : World) =>
  ∃ (b3 : Bool), r4 = .bool b3 ∧
  cond (!b3)
  (Q (.bool false) w1)
  (CallR Try.prog 31 [.nilIface, .int .i64 n1] w1 (fun (r7 : Value) (w2 : World) =>
  ∃ (a5 : Option Addr) (l5 : Nat) (c5 : Nat) (n6 : Int), r7 = .tuple #[.slice a5 l5 c5, .int .i64 n6] ∧
  CallR Try.prog 58 [.nilIface, .int .i64 n1] w2 (fun (r10 : Value) (w3 : World) =>
  ∃ (a8 : Option Addr) (l8 : Nat) (c8 : Nat) (n9 : Int), r10 = .tuple #[.slice a8 l8 c8, .int .i64 n9] ∧
  CallR Try.prog 57 [.nilIface, .slice a2 l2 c2] w3 (fun (r13 : Value) (w4 : World) =>
  ∃ (n11 : Int) (n12 : Int), r13 = .tuple #[.int .i64 n11, .int .i64 n12] ∧
  CallR Try.prog 29 [.int .i64 n6] w4 (fun (r15 : Value) (w5 : World) =>
  ∃ (n14 : Int), r15 = .int .i64 n14 ∧
  cond (n14 != 2)
  (Q (.bool false) w5)
  (CallR Try.prog 29 [.int .i64 n9] w5 (fun (r17 : Value) (w6 : World) =>
  ∃ (n16 : Int), r17 = .int .i64 n16 ∧
  cond (n16 != 2)
  (Q (.bool false) w6)
  (CallR Try.prog 29 [.int .i64 n12] w6 (fun (r19 : Value) (w7 : World) =>
  ∃ (n18 : Int), r19 = .int .i64 n18 ∧
  cond (n18 != 2)
  (Q (.bool false) w7)
  (let w8 := World.alloc w7 (Obj.cells #[.slice none 0 0, .slice none 0 0, .int .i64 0] 94);
  CallR Try.prog 31 [.iface 91 (.pointer (some (Addr.mk w7.heap.size 0 none))), .int .i64 n1] w8 (fun (r22 : Value) (w9 : World) =>
  ∃ (a20 : Option Addr) (l20 : Nat) (c20 : Nat) (n21 : Int), r22 = .tuple #[.slice a20 l20 c20, .int .i64 n21] ∧
  CallR Try.prog 57 [.iface 91 (.pointer (some (Addr.mk w7.heap.size 0 none))), .slice none 0 0] w9 (fun (r25 : Value) (w10 : World) =>
  ∃ (n23 : Int) (n24 : Int), r25 = .tuple #[.int .i64 n23, .int .i64 n24] ∧
  CallR Try.prog 29 [.int .i64 n21] w10 (fun (r27 : Value) (w11 : World) =>
  ∃ (n26 : Int), r27 = .int .i64 n26 ∧
  cond (decide (n1 < 1))
  (cond ((n26 == 4) == true)
  (cond (n23 == 0)
  (CallR Try.prog 29 [.int .i64 n24] w11 (fun (r29 : Value) (w12 : World) =>
  ∃ (n28 : Int), r29 = .int .i64 n28 ∧
  Q (.bool (n28 == 0)) w12))
  (Q (.bool false) w11))
  (Q (.bool false) w11))
  (cond ((n26 == 4) == (decide (n1 > 1048576)))
  (cond (n23 == 0)
  (CallR Try.prog 29 [.int .i64 n24] w11 (fun (r31 : Value) (w13 : World) =>
  ∃ (n30 : Int), r31 = .int .i64 n30 ∧
  Q (.bool (n30 == 0)) w13))
  (Q (.bool false) w11))
  (Q (.bool false) w11))))))))))))))))
theorem C12 {n1 : Int} {a2 : Option Addr} {l2 : Nat} {c2 : Nat} {Q : Value → World → Prop} {w : World} (h : L12 n1 a2 l2 c2 Q w) : CallR Try.prog 12 [.int .i64 n1, .slice a2 l2 c2] w Q :=
  fun_calls (A := A12) mixed Try.func12 (c := (Try.f12.body).getD .skip) rfl (by kernel_rfl) (Eq.mp (by kernel_rfl) h)

end Go.Proofs.Ytbiofmgebbdflaa
