/-
  What some functions of the program ask of the world, printed by a program out of the loaded program; each text is held against the code by evaluation. Conditions: none.
-/
import Derived.Test.YtkjmlbplmffekaaGreatProg
import Derived.Test.YtkjmlbplmffekaaGreatLm
import Derived.Test.YtkjmlbplmffekaaGreatLX
import Derived.Test.YtkjmlbplmffekaaGreatRfC
set_option linter.unusedVariables false
set_option maxRecDepth 100000
namespace Go.Proofs.YtkjmlbplmffekaaGreat
open Go.Lw
/-- millrace/millracelaw08.num -/
def A57 : Ann := ⟨[], [], [], [], [], []⟩
def L57 (n1 : Int) (Q : Value → World → Prop) (w : World) : Prop :=
  Q (.int .i64 n1) w
theorem C57 {n1 : Int} {Q : Value → World → Prop} {w : World} (h : L57 n1 Q w) : CallR Tryz.prog 57 [.int .i64 n1] w Q :=
  fun_calls (A := A57) mixed Tryz.func57 (c := (Tryz.f57.body).getD .skip) rfl (by kernel_rfl) (Eq.mp (by kernel_rfl) h)

/-- millrace/retry.Some -/
def A62 : Ann := ⟨[(6, [])], [], [], [], [], []⟩
def L62 (v1 : Value) (n2 : Int) (Q : Value → World → Prop) (w : World) : Prop :=
  ∃ (b3 : Bool) (w1 : World), Sem.run Tryz.prog (Sem.bind (eqGuard .eql 141 (.tmp 9) (.const (.nilIface)) v1 .nilIface) (fun _ => binOp .eql 141 v1 .nilIface)) w = .ok ((.bool b3 : Value)) w1 ∧
  cond b3
  (Q (.tuple #[.slice none 0 0, .int .i64 2]) w1)
  (cond (decide (n2 < 1))
  (Q (.tuple #[.slice none 0 0, .int .i64 4]) w1)
  (cond (decide (n2 > 1048576))
  (Q (.tuple #[.slice none 0 0, .int .i64 4]) w1)
  (let w2 := World.alloc w1 (Obj.cells #[.int .i64 0] 252);
  ∃ (I4 : List Value → World → Prop) (mu5 : List Value → World → Nat),
  I4 [] w2 ∧
  ∀ (_ : Env) (w3 : World), I4 [] w3 →
  ∃ (f6 : FuncId) (xs7 : Array Value) (w4 : World), Sem.run Tryz.prog (callMethod v1 "Read" #[.int .i64 n2]) w3 = .ok (.enter f6 xs7) w4 ∧
  CallR Tryz.prog f6 (Array.toList xs7) w4 (fun (r10 : Value) (w5 : World) =>
  ∃ (a8 : Option Addr) (l8 : Nat) (c8 : Nat) (n9 : Int), r10 = .tuple #[.slice a8 l8 c8, .int .i64 n9] ∧
  CallR Tryz.prog 153 [.int .i64 n9] w5 (fun (r12 : Value) (w6 : World) =>
  ∃ (b11 : Bool), r12 = .bool b11 ∧
  cond b11
  (CallR Tryz.prog 154 [.pointer (some (Addr.mk w1.heap.size 0 none))] w6 (fun (r14 : Value) (w7 : World) =>
  ∃ (b13 : Bool), r14 = .bool b13 ∧
  cond b13
  (Q (.tuple #[.slice none 0 0, .int .i64 81]) w7)
  (I4 [] w7 ∧ mu5 [] w7 < mu5 [] w3)))
  (cond (n9 != 0)
  (Q (.tuple #[.slice none 0 0, .int .i64 n9]) w6)
  (cond (decide ((((l8 : Nat) : Int)) > n2))
  (Q (.tuple #[.slice none 0 0, .int .i64 82]) w6)
  (Q (.tuple #[.slice a8 l8 c8, .int .i64 0]) w6))))))))
theorem C62 {v1 : Value} {n2 : Int} {Q : Value → World → Prop} {w : World} (h : L62 v1 n2 Q w) : CallR Tryz.prog 62 [v1, .int .i64 n2] w Q :=
  fun_calls (A := A62) mixed Tryz.func62 (c := (Tryz.f62.body).getD .skip) rfl (by kernel_rfl) (Eq.mp (by kernel_rfl) h)

/-- (*millrace/retry.patience).out -/
def A154 : Ann := ⟨[], [], [], [], [], []⟩
def L154 (p1 : Option Addr) (Q : Value → World → Prop) (w : World) : Prop :=
  nn p1 (fun (q2 : Addr) =>
  ∃ (n3 : Int), w.cell? q2 = some ((.int .i64 n3 : Value)) ∧
  inI (n3 + 1) ∧
  nn p1 (fun (q4 : Addr) =>
  stC q4 (.int .i64 (n3 + 1)) w (fun (w1 : World) =>
  nn p1 (fun (q5 : Addr) =>
  ∃ (n6 : Int), w1.cell? q5 = some ((.int .i64 n6 : Value)) ∧
  Q (.bool (decide (n6 ≥ 8192))) w1))))
theorem C154 {p1 : Option Addr} {Q : Value → World → Prop} {w : World} (h : L154 p1 Q w) : CallR Tryz.prog 154 [.pointer p1] w Q :=
  fun_calls (A := A154) mixed Tryz.func154 (c := (Tryz.f154.body).getD .skip) rfl (by kernel_rfl) (Eq.mp (by kernel_rfl) h)

/-- millrace/retry.passing -/
def A153 : Ann := ⟨[], [], [], [], [], []⟩
def L153 (n1 : Int) (Q : Value → World → Prop) (w : World) : Prop :=
  cond (n1 == 22)
  (Q (.bool true) w)
  (Q (.bool (n1 == 23)) w)
theorem C153 {n1 : Int} {Q : Value → World → Prop} {w : World} (h : L153 n1 Q w) : CallR Tryz.prog 153 [.int .i64 n1] w Q :=
  fun_calls (A := A153) mixed Tryz.func153 (c := (Tryz.f153.body).getD .skip) rfl (by kernel_rfl) (Eq.mp (by kernel_rfl) h)

/-- millrace/retry.All -/
def A64 : Ann := ⟨[(3, [(6, .one (.slice)), (7, .one (.int .i64)), (8, .one (.slice))])], [], [], [], [], []⟩
def L64 (v1 : Value) (n2 : Int) (Q : Value → World → Prop) (w : World) : Prop :=
  CallR Tryz.prog 62 [v1, .int .i64 n2] w (fun (r5 : Value) (w1 : World) =>
  ∃ (a3 : Option Addr) (l3 : Nat) (c3 : Nat) (n4 : Int), r5 = .tuple #[.slice a3 l3 c3, .int .i64 n4] ∧
  let w2 := World.alloc w1 (Obj.cells #[] 5);
  ∃ (a6 : Option Addr) (l6 : Nat) (c6 : Nat) (w3 : World), Sem.run Tryz.prog (Builtin.append_ #[32, 32] 32 #[.slice (some (Addr.mk w1.heap.size 0 none)) 0 0, .slice a3 l3 c3]) w2 = .ok ((.slice a6 l6 c6 : Value)) w3 ∧
  ∃ (I7 : List Value → World → Prop) (mu8 : List Value → World → Nat),
  I7 [.slice a3 l3 c3, .int .i64 n4, .slice a6 l6 c6] w3 ∧
  ∀ (_ : Env) (a9 : Option Addr) (l9 : Nat) (c9 : Nat) (n10 : Int) (a11 : Option Addr) (l11 : Nat) (c11 : Nat) (w4 : World), I7 [.slice a9 l9 c9, .int .i64 n10, .slice a11 l11 c11] w4 →
  cond (n10 == 0)
  (cond (decide ((((l9 : Nat) : Int)) > 0))
  (cond (decide ((((l11 : Nat) : Int)) < n2))
  (inI (n2 - (((l11 : Nat) : Int))) ∧
  CallR Tryz.prog 62 [v1, .int .i64 (n2 - (((l11 : Nat) : Int)))] w4 (fun (r14 : Value) (w5 : World) =>
  ∃ (a12 : Option Addr) (l12 : Nat) (c12 : Nat) (n13 : Int), r14 = .tuple #[.slice a12 l12 c12, .int .i64 n13] ∧
  ∃ (a15 : Option Addr) (l15 : Nat) (c15 : Nat) (w6 : World), Sem.run Tryz.prog (Builtin.append_ #[32, 32] 32 #[.slice a11 l11 c11, .slice a12 l12 c12]) w5 = .ok ((.slice a15 l15 c15 : Value)) w6 ∧
  I7 [.slice a12 l12 c12, .int .i64 n13, .slice a15 l15 c15] w6 ∧ mu8 [.slice a12 l12 c12, .int .i64 n13, .slice a15 l15 c15] w6 < mu8 [.slice a9 l9 c9, .int .i64 n10, .slice a11 l11 c11] w4))
  (Q (.tuple #[.slice a11 l11 c11, .int .i64 n10]) w4))
  (Q (.tuple #[.slice a11 l11 c11, .int .i64 n10]) w4))
  (Q (.tuple #[.slice a11 l11 c11, .int .i64 n10]) w4))
theorem C64 {v1 : Value} {n2 : Int} {Q : Value → World → Prop} {w : World} (h : L64 v1 n2 Q w) : CallR Tryz.prog 64 [v1, .int .i64 n2] w Q :=
  fun_calls (A := A64) mixed Tryz.func64 (c := (Tryz.f64.body).getD .skip) rfl (by kernel_rfl) (Eq.mp (by kernel_rfl) h)

/-- millrace/millracelaw08.alive -/
def A58 : Ann := ⟨[], [], [], [], [], []⟩
def L58 (Q : Value → World → Prop) (w : World) : Prop :=
  let w1 := World.alloc w (Obj.cells #[.int .u8 104, .int .u8 101, .int .u8 108, .int .u8 108, .int .u8 111] 5);
  ∃ (a1 : Option Addr) (l1 : Nat) (c1 : Nat) (w2 : World), Sem.run Tryz.prog (convert 32 32 (.slice (some (Addr.mk w.heap.size 0 none)) 5 5)) w1 = .ok ((.slice a1 l1 c1 : Value)) w2 ∧
  let w3 := World.alloc w2 (Obj.cells #[.string (ByteArray.mk #[97]), .slice a1 l1 c1] 77);
  let w4 := World.alloc w3 (Obj.cells #[.int .i64 1, .int .i64 1, .int .i64 2, .int .i64 0, .int .i64 3, .int .i64 0, .int .i64 1, .int .i64 2] 82);
  CallR Tryz.prog 17 [.agg #[.slice (some (Addr.mk w2.heap.size 0 none)) 1 1, .slice none 0 0, .slice (some (Addr.mk w3.heap.size 0 none)) 4 4]] w4 (fun (r4 : Value) (w5 : World) =>
  ∃ (p2 : Option Addr) (n3 : Int), r4 = .tuple #[.pointer p2, .int .i64 n3] ∧
  CallR Tryz.prog 57 [.int .i64 n3] w5 (fun (r6 : Value) (w6 : World) =>
  ∃ (n5 : Int), r6 = .int .i64 n5 ∧
  cond (n5 != 0)
  (Q (.bool false) w6)
  (cond (Option.isNone p2)
  (Q (.bool false) w6)
  (CallR Tryz.prog 19 [.pointer p2, .string (ByteArray.mk #[97]), .int .i64 1] w6 (fun (r9 : Value) (w7 : World) =>
  ∃ (n7 : Int) (n8 : Int), r9 = .tuple #[.int .i64 n7, .int .i64 n8] ∧
  CallR Tryz.prog 64 [.iface 31 (.agg #[.pointer p2, .int .i64 n7]), .int .i64 5] w7 (fun (r12 : Value) (w8 : World) =>
  ∃ (a10 : Option Addr) (l10 : Nat) (c10 : Nat) (n11 : Int), r12 = .tuple #[.slice a10 l10 c10, .int .i64 n11] ∧
  CallR Tryz.prog 57 [.int .i64 n8] w8 (fun (r14 : Value) (w9 : World) =>
  ∃ (n13 : Int), r14 = .int .i64 n13 ∧
  CallR Tryz.prog 57 [.int .i64 n11] w9 (fun (r16 : Value) (w10 : World) =>
  ∃ (n15 : Int), r16 = .int .i64 n15 ∧
  inI (n13 + n15) ∧
  cond ((n13 + n15) == 0)
  (∃ (s17 : ByteArray) (w11 : World), Sem.run Tryz.prog (convert 32 9 (.slice a10 l10 c10)) w10 = .ok ((.string s17 : Value)) w11 ∧
  Q (.bool (ByteArray.toList s17 == ByteArray.toList (ByteArray.mk #[104, 101, 108, 108, 111]))) w11)
  (Q (.bool false) w10)))))))))
theorem C58 {Q : Value → World → Prop} {w : World} (h : L58 Q w) : CallR Tryz.prog 58 [] w Q :=
  fun_calls (A := A58) mixed Tryz.func58 (c := (Tryz.f58.body).getD .skip) rfl (by kernel_rfl) (Eq.mp (by kernel_rfl) h)

end Go.Proofs.YtkjmlbplmffekaaGreat
