/-
  What some functions of the program ask of the world, printed by a program out of the loaded program; each text is held against the code by evaluation. Conditions: none.
-/
import Derived.Test.YtkjmlbplmffekaaGreatProg
import Derived.Test.YtkjmlbplmffekaaGreatLm
import Derived.Test.YtkjmlbplmffekaaGreatLX
import Derived.Test.YtkjmlbplmffekaaGreatRfC
set_option linter.unusedVariables false
set_option maxRecDepth 100000
namespace Go.Proofs.YtkjmlbplmffekaaGreat
open Go.Lw
/-- (*millrace/kern.Kernel).Files -/
def A25 : Ann := ⟨[(5, [(3, .one (.slice))]), (11, [(5, .one (.slice)), (27, .one (.int .i64))])], [], [], [], [], []⟩
def L25 (p1 : Option Addr) (Q : Value → World → Prop) (w : World) : Prop :=
  CallR Tryz.prog 87 [.pointer p1] w (fun (r3 : Value) (w1 : World) =>
  ∃ (b2 : Bool), r3 = .bool b2 ∧
  cond b2
  (Q (.slice none 0 0) w1)
  (nn p1 (fun (q4 : Addr) =>
  ∃ (m5 : Option Nat), w1.cell? (Addr.add q4 1) = some ((.map m5 : Value)) ∧
  ∃ (w2 : World), Sem.run Tryz.prog (Instr.range 67 (.map m5)) w1 = .ok (.pointer (some (Addr.mk w1.heap.size 0 none))) w2 ∧
  ∃ (I6 : List Value → World → Prop) (mu7 : List Value → World → Nat),
  I6 [.slice none 0 0] w2 ∧
  ∀ (_ : Env) (a8 : Option Addr) (l8 : Nat) (c8 : Nat) (w3 : World), I6 [.slice a8 l8 c8] w3 →
  (∃ (w4 : World), Sem.run Tryz.prog (Instr.next (.pointer (some (Addr.mk w1.heap.size 0 none))) false 0) w3 = .ok (.tuple #[.bool false]) w4 ∧
  CallR Tryz.prog 96 [.slice a8 l8 c8] w4 (fun (r11 : Value) (w6 : World) =>
  r11 = .tuple #[] ∧
  ∃ (I12 : List Value → World → Prop) (mu13 : List Value → World → Nat),
  I12 [.slice none 0 0, .int .i64 0] w6 ∧
  ∀ (_ : Env) (a14 : Option Addr) (l14 : Nat) (c14 : Nat) (n15 : Int) (w7 : World), I12 [.slice a14 l14 c14, .int .i64 n15] w7 →
  cond (decide (n15 < (((l8 : Nat) : Int))))
  ((0 ≤ (n15 : Int) ∧ (n15 : Int) < ((l8 : Nat) : Int)) ∧
  nn a8 (fun (q16 : Addr) =>
  ∃ (s17 : ByteArray), w7.cell? (Addr.add q16 (Int.toNat n15)) = some ((.string s17 : Value)) ∧
  nn p1 (fun (q18 : Addr) =>
  ∃ (m19 : Option Nat), w7.cell? (Addr.add q18 1) = some ((.map m19 : Value)) ∧
  ∃ (p20 : Option Addr) (w8 : World), Sem.run Tryz.prog (Instr.lookup 67 (.map m19) (.string s17) false) w7 = .ok ((.pointer p20 : Value)) w8 ∧
  CallR Tryz.prog 97 [.pointer p20] w8 (fun (r22 : Value) (w9 : World) =>
  ∃ (a21 : Option Addr) (l21 : Nat) (c21 : Nat), r22 = .slice a21 l21 c21 ∧
  let w10 := World.alloc w9 (Obj.cells #[.string s17, .slice a21 l21 c21] 77);
  ∃ (a23 : Option Addr) (l23 : Nat) (c23 : Nat) (w11 : World), Sem.run Tryz.prog (Builtin.append_ #[22, 22] 22 #[.slice a14 l14 c14, .slice (some (Addr.mk w9.heap.size 0 none)) 1 1]) w10 = .ok ((.slice a23 l23 c23 : Value)) w11 ∧
  inI (n15 + 1) ∧
  I12 [.slice a23 l23 c23, .int .i64 (n15 + 1)] w11 ∧ mu13 [.slice a23 l23 c23, .int .i64 (n15 + 1)] w11 < mu13 [.slice a14 l14 c14, .int .i64 n15] w7))))
  (Q (.slice a14 l14 c14) w7))) ∨
  (∃ (v9 : Value) (v10 : Value) (w5 : World), Sem.run Tryz.prog (Instr.next (.pointer (some (Addr.mk w1.heap.size 0 none))) false 0) w3 = .ok (.tuple #[.bool true, v9, v10]) w5 ∧
  ∃ (s24 : ByteArray) (v25 : Value) (w12 : World), Sem.run Tryz.prog (Instr.entry (.pointer (some (Addr.mk w1.heap.size 0 none)))) w5 = .ok (.tuple #[.string s24, v25]) w12 ∧
  let w13 := World.alloc w12 (Obj.cells #[.string s24] 9);
  ∃ (a26 : Option Addr) (l26 : Nat) (c26 : Nat) (w14 : World), Sem.run Tryz.prog (Builtin.append_ #[186, 186] 186 #[.slice a8 l8 c8, .slice (some (Addr.mk w12.heap.size 0 none)) 1 1]) w13 = .ok ((.slice a26 l26 c26 : Value)) w14 ∧
  I6 [.slice a26 l26 c26] w14 ∧ mu7 [.slice a26 l26 c26] w14 < mu7 [.slice a8 l8 c8] w3))))
theorem C25 {p1 : Option Addr} {Q : Value → World → Prop} {w : World} (h : L25 p1 Q w) : CallR Tryz.prog 25 [.pointer p1] w Q :=
  fun_calls (A := A25) mixed Tryz.func25 (c := (Tryz.f25.body).getD .skip) rfl (by kernel_rfl) (Eq.mp (by kernel_rfl) h)

end Go.Proofs.YtkjmlbplmffekaaGreat
