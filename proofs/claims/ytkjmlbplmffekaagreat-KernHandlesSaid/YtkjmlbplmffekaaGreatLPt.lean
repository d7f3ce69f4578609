/-
  What some functions of the program ask of the world, printed by a program out of the loaded program; each text is held against the code by evaluation. Conditions: none.
-/
import Derived.Test.YtkjmlbplmffekaaGreatProg
import Derived.Test.YtkjmlbplmffekaaGreatLm
import Derived.Test.YtkjmlbplmffekaaGreatLX
import Derived.Test.YtkjmlbplmffekaaGreatRfC
set_option linter.unusedVariables false
set_option maxRecDepth 100000
namespace Go.Proofs.YtkjmlbplmffekaaGreat
open Go.Lw
/-- millrace/retry.Put -/
def A66 : Ann := ⟨[(7, [(7, .one (.slice))])], [(13, [(39, .one (.bool))])], [], [(8, [0, 2, 4, 5, 6, 1, 3, 7, 8, 9, 10, 11, 12])], [], []⟩
def L66 (v1 : Value) (a2 : Option Addr) (l2 : Nat) (c2 : Nat) (Q : Value → World → Prop) (w : World) : Prop :=
  ∃ (b3 : Bool) (w1 : World), Sem.run Tryz.prog (Sem.bind (eqGuard .eql 141 (.tmp 11) (.const (.nilIface)) v1 .nilIface) (fun _ => binOp .eql 141 v1 .nilIface)) w = .ok ((.bool b3 : Value)) w1 ∧
  cond b3
  (Q (.tuple #[.int .i64 0, .int .i64 2]) w1)
  (cond (decide ((((l2 : Nat) : Int)) > 1048576))
  (Q (.tuple #[.int .i64 0, .int .i64 5]) w1)
  (let w2 := World.alloc w1 (Obj.cells #[.int .i64 0] 252);
  ∃ (I4 : List Value → World → Prop) (mu5 : List Value → World → Nat),
  I4 [.slice a2 l2 c2] w2 ∧
  ∀ (_ : Env) (a6 : Option Addr) (l6 : Nat) (c6 : Nat) (w3 : World), I4 [.slice a6 l6 c6] w3 →
  cond (decide ((((l6 : Nat) : Int)) > 0))
  (let w4 := World.drew w3;
  nilM Tryz.prog v1 "Write" ∧
  let w5 := World.alloc w4 (Obj.cells #[] 5);
  ∃ (a7 : Option Addr) (l7 : Nat) (c7 : Nat) (w6 : World), Sem.run Tryz.prog (Builtin.append_ #[32, 32] 32 #[.slice (some (Addr.mk w4.heap.size 0 none)) 0 0, .slice a6 l6 c6]) w5 = .ok ((.slice a7 l7 c7 : Value)) w6 ∧
  ∃ (f8 : FuncId) (xs9 : Array Value) (w7 : World), Sem.run Tryz.prog (callMethod v1 "Write" #[.slice a7 l7 c7]) w6 = .ok (.enter f8 xs9) w7 ∧
  CallR Tryz.prog f8 (Array.toList xs9) w7 (fun (r12 : Value) (w8 : World) =>
  ∃ (n10 : Int) (n11 : Int), r12 = .tuple #[.int .i64 n10, .int .i64 n11] ∧
  inI ((((l2 : Nat) : Int)) - (((l6 : Nat) : Int))) ∧
  ∃ (J13 : List Value → World → Prop),
  (CallR Tryz.prog 153 [.int .i64 n11] w8 (fun (r15 : Value) (w9 : World) =>
  ∃ (b14 : Bool), r15 = .bool b14 ∧
  cond b14
  (J13 [.bool b14] w9)
  (cond (n11 == 0)
  (J13 [.bool (n10 == 0)] w9)
  (J13 [.bool false] w9)))) ∧
  (∀ (_ : Env) (b16 : Bool) (w10 : World), J13 [.bool b16] w10 →
  cond b16
  (CallR Tryz.prog 154 [.pointer (some (Addr.mk w1.heap.size 0 none))] w10 (fun (r18 : Value) (w11 : World) =>
  ∃ (b17 : Bool), r18 = .bool b17 ∧
  cond b17
  (Q (.tuple #[.int .i64 ((((l2 : Nat) : Int)) - (((l6 : Nat) : Int))), .int .i64 81]) w11)
  (I4 [.slice a6 l6 c6] w11 ∧ mu5 [.slice a6 l6 c6] w11 < mu5 [.slice a6 l6 c6] w3)))
  (cond (n11 != 0)
  (Q (.tuple #[.int .i64 ((((l2 : Nat) : Int)) - (((l6 : Nat) : Int))), .int .i64 n11]) w10)
  (cond (decide (n10 < 0))
  (Q (.tuple #[.int .i64 ((((l2 : Nat) : Int)) - (((l6 : Nat) : Int))), .int .i64 82]) w10)
  (cond (decide (n10 > (((l6 : Nat) : Int))))
  (Q (.tuple #[.int .i64 ((((l2 : Nat) : Int)) - (((l6 : Nat) : Int))), .int .i64 82]) w10)
  ((0 ≤ (n10 : Int) ∧ (n10 : Int) ≤ ((l6 : Nat) : Int)) ∧
  stC (Addr.mk w1.heap.size 0 none) (.int .i64 0) w10 (fun (w12 : World) =>
  I4 [.slice (adv a6 (Int.toNat n10) c6 1) (l6 - Int.toNat n10) (c6 - Int.toNat n10)] w12 ∧ mu5 [.slice (adv a6 (Int.toNat n10) c6 1) (l6 - Int.toNat n10) (c6 - Int.toNat n10)] w12 < mu5 [.slice a6 l6 c6] w3))))))))
  (Q (.tuple #[.int .i64 (((l2 : Nat) : Int)), .int .i64 0]) w3)))
theorem C66 {v1 : Value} {a2 : Option Addr} {l2 : Nat} {c2 : Nat} {Q : Value → World → Prop} {w : World} (h : L66 v1 a2 l2 c2 Q w) : CallR Tryz.prog 66 [v1, .slice a2 l2 c2] w Q :=
  fun_calls (A := A66) mixed Tryz.func66 (c := (Tryz.f66.body).getD .skip) rfl (by kernel_rfl) (Eq.mp (by kernel_rfl) h)

end Go.Proofs.YtkjmlbplmffekaaGreat
