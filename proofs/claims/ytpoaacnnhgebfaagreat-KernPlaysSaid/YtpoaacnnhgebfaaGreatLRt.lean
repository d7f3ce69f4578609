/-
  What some functions of the program ask of the world, printed by a program out of the loaded program; each text is held against the code by evaluation. Conditions: none.
-/
import Derived.Test.YtpoaacnnhgebfaaGreatProg
import Derived.Test.YtpoaacnnhgebfaaGreatLm
import Derived.Test.YtpoaacnnhgebfaaGreatLX
import Derived.Test.YtpoaacnnhgebfaaGreatRf
set_option linter.unusedVariables false
set_option maxRecDepth 100000
namespace Go.Proofs.YtpoaacnnhgebfaaGreat
open Go.Lw
/-- millrace/millracelaw08.num -/
def A26 : Ann := ⟨[], [], [], [], [], []⟩
def L26 (n1 : Int) (Q : Value → World → Prop) (w : World) : Prop :=
  Q (.int .i64 n1) w
theorem C26 {n1 : Int} {Q : Value → World → Prop} {w : World} (h : L26 n1 Q w) : CallR Tryz.prog 26 [.int .i64 n1] w Q :=
  fun_calls (A := A26) mixed Tryz.func26 (c := (Tryz.f26.body).getD .skip) rfl (by kernel_rfl) (Eq.mp (by kernel_rfl) h)

/-- millrace/retry.Some -/
def A33 : Ann := ⟨[(6, [])], [], [], [], [], []⟩
def L33 (v1 : Value) (n2 : Int) (Q : Value → World → Prop) (w : World) : Prop :=
  ∃ (b3 : Bool) (w1 : World), Sem.run Tryz.prog (Sem.bind (eqGuard .eql 94 (.tmp 9) (.const (.nilIface)) v1 .nilIface) (fun _ => binOp .eql 94 v1 .nilIface)) w = .ok ((.bool b3 : Value)) w1 ∧
  cond b3
  (Q (.tuple #[.slice none 0 0, .int .i64 2]) w1)
  (cond (decide (n2 < 1))
  (Q (.tuple #[.slice none 0 0, .int .i64 4]) w1)
  (cond (decide (n2 > 1048576))
  (Q (.tuple #[.slice none 0 0, .int .i64 4]) w1)
  (let w2 := World.alloc w1 (Obj.cells #[.int .i64 0] 218);
  ∃ (I4 : List Value → World → Prop) (mu5 : List Value → World → Nat),
  I4 [] w2 ∧
  ∀ (_ : Env) (w3 : World), I4 [] w3 →
  ∃ (f6 : FuncId) (xs7 : Array Value) (w4 : World), Sem.run Tryz.prog (callMethod v1 "Read" #[.int .i64 n2]) w3 = .ok (.enter f6 xs7) w4 ∧
  CallR Tryz.prog f6 (Array.toList xs7) w4 (fun (r10 : Value) (w5 : World) =>
  ∃ (a8 : Option Addr) (l8 : Nat) (c8 : Nat) (n9 : Int), r10 = .tuple #[.slice a8 l8 c8, .int .i64 n9] ∧
  CallR Tryz.prog 129 [.int .i64 n9] w5 (fun (r12 : Value) (w6 : World) =>
  ∃ (b11 : Bool), r12 = .bool b11 ∧
  cond b11
  (CallR Tryz.prog 130 [.pointer (some (Addr.mk w1.heap.size 0 none))] w6 (fun (r14 : Value) (w7 : World) =>
  ∃ (b13 : Bool), r14 = .bool b13 ∧
  cond b13
  (Q (.tuple #[.slice none 0 0, .int .i64 81]) w7)
  (I4 [] w7 ∧ mu5 [] w7 < mu5 [] w3)))
  (cond (n9 != 0)
  (Q (.tuple #[.slice none 0 0, .int .i64 n9]) w6)
  (cond (decide ((((l8 : Nat) : Int)) > n2))
  (Q (.tuple #[.slice none 0 0, .int .i64 82]) w6)
  (Q (.tuple #[.slice a8 l8 c8, .int .i64 0]) w6))))))))
theorem C33 {v1 : Value} {n2 : Int} {Q : Value → World → Prop} {w : World} (h : L33 v1 n2 Q w) : CallR Tryz.prog 33 [v1, .int .i64 n2] w Q :=
  fun_calls (A := A33) mixed Tryz.func33 (c := (Tryz.f33.body).getD .skip) rfl (by kernel_rfl) (Eq.mp (by kernel_rfl) h)

/-- (*millrace/retry.patience).out -/
def A130 : Ann := ⟨[], [], [], [], [], []⟩
def L130 (p1 : Option Addr) (Q : Value → World → Prop) (w : World) : Prop :=
  nn p1 (fun (q2 : Addr) =>
  ∃ (n3 : Int), w.cell? q2 = some ((.int .i64 n3 : Value)) ∧
  inI (n3 + 1) ∧
  nn p1 (fun (q4 : Addr) =>
  stC q4 (.int .i64 (n3 + 1)) w (fun (w1 : World) =>
  nn p1 (fun (q5 : Addr) =>
  ∃ (n6 : Int), w1.cell? q5 = some ((.int .i64 n6 : Value)) ∧
  Q (.bool (decide (n6 ≥ 8192))) w1))))
theorem C130 {p1 : Option Addr} {Q : Value → World → Prop} {w : World} (h : L130 p1 Q w) : CallR Tryz.prog 130 [.pointer p1] w Q :=
  fun_calls (A := A130) mixed Tryz.func130 (c := (Tryz.f130.body).getD .skip) rfl (by kernel_rfl) (Eq.mp (by kernel_rfl) h)

/-- millrace/retry.passing -/
def A129 : Ann := ⟨[], [], [], [], [], []⟩
def L129 (n1 : Int) (Q : Value → World → Prop) (w : World) : Prop :=
  cond (n1 == 22)
  (Q (.bool true) w)
  (Q (.bool (n1 == 23)) w)
theorem C129 {n1 : Int} {Q : Value → World → Prop} {w : World} (h : L129 n1 Q w) : CallR Tryz.prog 129 [.int .i64 n1] w Q :=
  fun_calls (A := A129) mixed Tryz.func129 (c := (Tryz.f129.body).getD .skip) rfl (by kernel_rfl) (Eq.mp (by kernel_rfl) h)

/-- millrace/retry.All -/
def A35 : Ann := ⟨[(3, [(6, .one (.slice)), (7, .one (.int .i64)), (8, .one (.slice))])], [], [], [], [], []⟩
def L35 (v1 : Value) (n2 : Int) (Q : Value → World → Prop) (w : World) : Prop :=
  CallR Tryz.prog 33 [v1, .int .i64 n2] w (fun (r5 : Value) (w1 : World) =>
  ∃ (a3 : Option Addr) (l3 : Nat) (c3 : Nat) (n4 : Int), r5 = .tuple #[.slice a3 l3 c3, .int .i64 n4] ∧
  let w2 := World.alloc w1 (Obj.cells #[] 5);
  ∃ (a6 : Option Addr) (l6 : Nat) (c6 : Nat) (w3 : World), Sem.run Tryz.prog (Builtin.append_ #[40, 40] 40 #[.slice (some (Addr.mk w1.heap.size 0 none)) 0 0, .slice a3 l3 c3]) w2 = .ok ((.slice a6 l6 c6 : Value)) w3 ∧
  ∃ (I7 : List Value → World → Prop) (mu8 : List Value → World → Nat),
  I7 [.slice a3 l3 c3, .int .i64 n4, .slice a6 l6 c6] w3 ∧
  ∀ (_ : Env) (a9 : Option Addr) (l9 : Nat) (c9 : Nat) (n10 : Int) (a11 : Option Addr) (l11 : Nat) (c11 : Nat) (w4 : World), I7 [.slice a9 l9 c9, .int .i64 n10, .slice a11 l11 c11] w4 →
  cond (n10 == 0)
  (cond (decide ((((l9 : Nat) : Int)) > 0))
  (cond (decide ((((l11 : Nat) : Int)) < n2))
  (inI (n2 - (((l11 : Nat) : Int))) ∧
  CallR Tryz.prog 33 [v1, .int .i64 (n2 - (((l11 : Nat) : Int)))] w4 (fun (r14 : Value) (w5 : World) =>
  ∃ (a12 : Option Addr) (l12 : Nat) (c12 : Nat) (n13 : Int), r14 = .tuple #[.slice a12 l12 c12, .int .i64 n13] ∧
  ∃ (a15 : Option Addr) (l15 : Nat) (c15 : Nat) (w6 : World), Sem.run Tryz.prog (Builtin.append_ #[40, 40] 40 #[.slice a11 l11 c11, .slice a12 l12 c12]) w5 = .ok ((.slice a15 l15 c15 : Value)) w6 ∧
  I7 [.slice a12 l12 c12, .int .i64 n13, .slice a15 l15 c15] w6 ∧ mu8 [.slice a12 l12 c12, .int .i64 n13, .slice a15 l15 c15] w6 < mu8 [.slice a9 l9 c9, .int .i64 n10, .slice a11 l11 c11] w4))
  (Q (.tuple #[.slice a11 l11 c11, .int .i64 n10]) w4))
  (Q (.tuple #[.slice a11 l11 c11, .int .i64 n10]) w4))
  (Q (.tuple #[.slice a11 l11 c11, .int .i64 n10]) w4))
theorem C35 {v1 : Value} {n2 : Int} {Q : Value → World → Prop} {w : World} (h : L35 v1 n2 Q w) : CallR Tryz.prog 35 [v1, .int .i64 n2] w Q :=
  fun_calls (A := A35) mixed Tryz.func35 (c := (Tryz.f35.body).getD .skip) rfl (by kernel_rfl) (Eq.mp (by kernel_rfl) h)

/-- millrace/millracelaw08.alive -/
def A27 : Ann := ⟨[], [], [], [], [], []⟩
def L27 (Q : Value → World → Prop) (w : World) : Prop :=
  let w1 := World.alloc w (Obj.cells #[.int .u8 104, .int .u8 101, .int .u8 108, .int .u8 108, .int .u8 111] 5);
  ∃ (a1 : Option Addr) (l1 : Nat) (c1 : Nat) (w2 : World), Sem.run Tryz.prog (convert 40 40 (.slice (some (Addr.mk w.heap.size 0 none)) 5 5)) w1 = .ok ((.slice a1 l1 c1 : Value)) w2 ∧
  let w3 := World.alloc w2 (Obj.cells #[.string (ByteArray.mk #[97]), .slice a1 l1 c1] 122);
  let w4 := World.alloc w3 (Obj.cells #[.int .i64 1, .int .i64 1, .int .i64 2, .int .i64 0, .int .i64 3, .int .i64 0, .int .i64 1, .int .i64 2] 188);
  CallR Tryz.prog 8 [.agg #[.slice (some (Addr.mk w2.heap.size 0 none)) 1 1, .slice none 0 0, .slice (some (Addr.mk w3.heap.size 0 none)) 4 4]] w4 (fun (r4 : Value) (w5 : World) =>
  ∃ (p2 : Option Addr) (n3 : Int), r4 = .tuple #[.pointer p2, .int .i64 n3] ∧
  CallR Tryz.prog 26 [.int .i64 n3] w5 (fun (r6 : Value) (w6 : World) =>
  ∃ (n5 : Int), r6 = .int .i64 n5 ∧
  cond (n5 != 0)
  (Q (.bool false) w6)
  (cond (Option.isNone p2)
  (Q (.bool false) w6)
  (CallR Tryz.prog 30 [.pointer p2, .string (ByteArray.mk #[97]), .int .i64 1] w6 (fun (r9 : Value) (w7 : World) =>
  ∃ (n7 : Int) (n8 : Int), r9 = .tuple #[.int .i64 n7, .int .i64 n8] ∧
  CallR Tryz.prog 35 [.iface 70 (.agg #[.pointer p2, .int .i64 n7]), .int .i64 5] w7 (fun (r12 : Value) (w8 : World) =>
  ∃ (a10 : Option Addr) (l10 : Nat) (c10 : Nat) (n11 : Int), r12 = .tuple #[.slice a10 l10 c10, .int .i64 n11] ∧
  CallR Tryz.prog 26 [.int .i64 n8] w8 (fun (r14 : Value) (w9 : World) =>
  ∃ (n13 : Int), r14 = .int .i64 n13 ∧
  CallR Tryz.prog 26 [.int .i64 n11] w9 (fun (r16 : Value) (w10 : World) =>
  ∃ (n15 : Int), r16 = .int .i64 n15 ∧
  inI (n13 + n15) ∧
  cond ((n13 + n15) == 0)
  (∃ (s17 : ByteArray) (w11 : World), Sem.run Tryz.prog (convert 40 9 (.slice a10 l10 c10)) w10 = .ok ((.string s17 : Value)) w11 ∧
  Q (.bool (ByteArray.toList s17 == ByteArray.toList (ByteArray.mk #[104, 101, 108, 108, 111]))) w11)
  (Q (.bool false) w10)))))))))
theorem C27 {Q : Value → World → Prop} {w : World} (h : L27 Q w) : CallR Tryz.prog 27 [] w Q :=
  fun_calls (A := A27) mixed Tryz.func27 (c := (Tryz.f27.body).getD .skip) rfl (by kernel_rfl) (Eq.mp (by kernel_rfl) h)

/-- millrace/retry.Put -/
def A37 : Ann := ⟨[(7, [(7, .one (.slice))])], [(13, [(39, .one (.bool))])], [], [(8, [0, 2, 4, 5, 6, 1, 3, 7, 8, 9, 10, 11, 12])], [], []⟩
def L37 (v1 : Value) (a2 : Option Addr) (l2 : Nat) (c2 : Nat) (Q : Value → World → Prop) (w : World) : Prop :=
  ∃ (b3 : Bool) (w1 : World), Sem.run Tryz.prog (Sem.bind (eqGuard .eql 94 (.tmp 11) (.const (.nilIface)) v1 .nilIface) (fun _ => binOp .eql 94 v1 .nilIface)) w = .ok ((.bool b3 : Value)) w1 ∧
  cond b3
  (Q (.tuple #[.int .i64 0, .int .i64 2]) w1)
  (cond (decide ((((l2 : Nat) : Int)) > 1048576))
  (Q (.tuple #[.int .i64 0, .int .i64 5]) w1)
  (let w2 := World.alloc w1 (Obj.cells #[.int .i64 0] 218);
  ∃ (I4 : List Value → World → Prop) (mu5 : List Value → World → Nat),
  I4 [.slice a2 l2 c2] w2 ∧
  ∀ (_ : Env) (a6 : Option Addr) (l6 : Nat) (c6 : Nat) (w3 : World), I4 [.slice a6 l6 c6] w3 →
  cond (decide ((((l6 : Nat) : Int)) > 0))
  (let w4 := World.drew w3;
  nilM Tryz.prog v1 "Write" ∧
  let w5 := World.alloc w4 (Obj.cells #[] 5);
  ∃ (a7 : Option Addr) (l7 : Nat) (c7 : Nat) (w6 : World), Sem.run Tryz.prog (Builtin.append_ #[40, 40] 40 #[.slice (some (Addr.mk w4.heap.size 0 none)) 0 0, .slice a6 l6 c6]) w5 = .ok ((.slice a7 l7 c7 : Value)) w6 ∧
  ∃ (f8 : FuncId) (xs9 : Array Value) (w7 : World), Sem.run Tryz.prog (callMethod v1 "Write" #[.slice a7 l7 c7]) w6 = .ok (.enter f8 xs9) w7 ∧
  CallR Tryz.prog f8 (Array.toList xs9) w7 (fun (r12 : Value) (w8 : World) =>
  ∃ (n10 : Int) (n11 : Int), r12 = .tuple #[.int .i64 n10, .int .i64 n11] ∧
  inI ((((l2 : Nat) : Int)) - (((l6 : Nat) : Int))) ∧
  ∃ (J13 : List Value → World → Prop),
  (CallR Tryz.prog 129 [.int .i64 n11] w8 (fun (r15 : Value) (w9 : World) =>
  ∃ (b14 : Bool), r15 = .bool b14 ∧
  cond b14
  (J13 [.bool b14] w9)
  (cond (n11 == 0)
  (J13 [.bool (n10 == 0)] w9)
  (J13 [.bool false] w9)))) ∧
  (∀ (_ : Env) (b16 : Bool) (w10 : World), J13 [.bool b16] w10 →
  cond b16
  (CallR Tryz.prog 130 [.pointer (some (Addr.mk w1.heap.size 0 none))] w10 (fun (r18 : Value) (w11 : World) =>
  ∃ (b17 : Bool), r18 = .bool b17 ∧
  cond b17
  (Q (.tuple #[.int .i64 ((((l2 : Nat) : Int)) - (((l6 : Nat) : Int))), .int .i64 81]) w11)
  (I4 [.slice a6 l6 c6] w11 ∧ mu5 [.slice a6 l6 c6] w11 < mu5 [.slice a6 l6 c6] w3)))
  (cond (n11 != 0)
  (Q (.tuple #[.int .i64 ((((l2 : Nat) : Int)) - (((l6 : Nat) : Int))), .int .i64 n11]) w10)
  (cond (decide (n10 < 0))
  (Q (.tuple #[.int .i64 ((((l2 : Nat) : Int)) - (((l6 : Nat) : Int))), .int .i64 82]) w10)
  (cond (decide (n10 > (((l6 : Nat) : Int))))
  (Q (.tuple #[.int .i64 ((((l2 : Nat) : Int)) - (((l6 : Nat) : Int))), .int .i64 82]) w10)
  ((0 ≤ (n10 : Int) ∧ (n10 : Int) ≤ ((l6 : Nat) : Int)) ∧
  stC (Addr.mk w1.heap.size 0 none) (.int .i64 0) w10 (fun (w12 : World) =>
  I4 [.slice (adv a6 (Int.toNat n10) c6 1) (l6 - Int.toNat n10) (c6 - Int.toNat n10)] w12 ∧ mu5 [.slice (adv a6 (Int.toNat n10) c6 1) (l6 - Int.toNat n10) (c6 - Int.toNat n10)] w12 < mu5 [.slice a6 l6 c6] w3))))))))
  (Q (.tuple #[.int .i64 (((l2 : Nat) : Int)), .int .i64 0]) w3)))
theorem C37 {v1 : Value} {a2 : Option Addr} {l2 : Nat} {c2 : Nat} {Q : Value → World → Prop} {w : World} (h : L37 v1 a2 l2 c2 Q w) : CallR Tryz.prog 37 [v1, .slice a2 l2 c2] w Q :=
  fun_calls (A := A37) mixed Tryz.func37 (c := (Tryz.f37.body).getD .skip) rfl (by kernel_rfl) (Eq.mp (by kernel_rfl) h)

/-- millrace/millraceplain.CopyLists -/
def A155 : Ann := ⟨[(3, [(3, .one (.slice)), (4, .one (.int .i64))])], [], [], [], [], []⟩
def L155 (a1 : Option Addr) (l1 : Nat) (c1 : Nat) (Q : Value → World → Prop) (w : World) : Prop :=
  ∃ (I2 : List Value → World → Prop) (mu3 : List Value → World → Nat),
  I2 [.slice none 0 0, .int .i64 0] w ∧
  ∀ (_ : Env) (a4 : Option Addr) (l4 : Nat) (c4 : Nat) (n5 : Int) (w1 : World), I2 [.slice a4 l4 c4, .int .i64 n5] w1 →
  cond (decide (n5 < (((l1 : Nat) : Int))))
  ((0 ≤ (n5 : Int) ∧ (n5 : Int) < ((l1 : Nat) : Int)) ∧
  nn a1 (fun (q6 : Addr) =>
  ∃ (a7 : Option Addr) (l7 : Nat) (c7 : Nat), w1.cell? (Addr.add q6 (Int.toNat n5)) = some ((.slice a7 l7 c7 : Value)) ∧
  CallR Tryz.prog 46 [.slice a7 l7 c7] w1 (fun (r9 : Value) (w2 : World) =>
  ∃ (a8 : Option Addr) (l8 : Nat) (c8 : Nat), r9 = .slice a8 l8 c8 ∧
  let w3 := World.alloc w2 (Obj.cells #[.slice a8 l8 c8] 40);
  ∃ (a10 : Option Addr) (l10 : Nat) (c10 : Nat) (w4 : World), Sem.run Tryz.prog (Builtin.append_ #[84, 84] 84 #[.slice a4 l4 c4, .slice (some (Addr.mk w2.heap.size 0 none)) 1 1]) w3 = .ok ((.slice a10 l10 c10 : Value)) w4 ∧
  inI (n5 + 1) ∧
  I2 [.slice a10 l10 c10, .int .i64 (n5 + 1)] w4 ∧ mu3 [.slice a10 l10 c10, .int .i64 (n5 + 1)] w4 < mu3 [.slice a4 l4 c4, .int .i64 n5] w1)))
  (Q (.slice a4 l4 c4) w1)
theorem C155 {a1 : Option Addr} {l1 : Nat} {c1 : Nat} {Q : Value → World → Prop} {w : World} (h : L155 a1 l1 c1 Q w) : CallR Tryz.prog 155 [.slice a1 l1 c1] w Q :=
  fun_calls (A := A155) mixed Tryz.func155 (c := (Tryz.f155.body).getD .skip) rfl (by kernel_rfl) (Eq.mp (by kernel_rfl) h)

/-- millrace/millraceplain.CopyNamed -/
def A50 : Ann := ⟨[(3, [(3, .one (.slice)), (4, .one (.int .i64))])], [], [], [], [(5, [0, 1, 2, 3, 4, 5, 6, 7, 8, 9, 10, 11, 12], 13, [14, 15])], []⟩
def L50 (a1 : Option Addr) (l1 : Nat) (c1 : Nat) (Q : Value → World → Prop) (w : World) : Prop :=
  ∃ (I2 : List Value → World → Prop) (mu3 : List Value → World → Nat),
  I2 [.slice none 0 0, .int .i64 0] w ∧
  ∀ (_ : Env) (a4 : Option Addr) (l4 : Nat) (c4 : Nat) (n5 : Int) (w1 : World), I2 [.slice a4 l4 c4, .int .i64 n5] w1 →
  cond (decide (n5 < (((l1 : Nat) : Int))))
  (∃ (S6 : World → Prop), S6 (World.drew w1) ∧
  let w2 := World.drew w1;
  (0 ≤ (n5 : Int) ∧ (n5 : Int) < ((l1 : Nat) : Int)) ∧
  nn a1 (fun (q7 : Addr) =>
  ∃ (s8 : ByteArray), (∀ wS : World, S6 wS → wS.cell? (Addr.add q7 (Int.toNat n5 * 2)) = some ((.string s8 : Value))) ∧
  (0 ≤ (n5 : Int) ∧ (n5 : Int) < ((l1 : Nat) : Int)) ∧
  nn a1 (fun (q9 : Addr) =>
  ∃ (a10 : Option Addr) (l10 : Nat) (c10 : Nat), (∀ wS : World, S6 wS → wS.cell? (Addr.add (Addr.add q9 (Int.toNat n5 * 2)) 1) = some ((.slice a10 l10 c10 : Value))) ∧
  CallR Tryz.prog 46 [.slice a10 l10 c10] w2 (fun (r12 : Value) (w3 : World) =>
  ∃ (a11 : Option Addr) (l11 : Nat) (c11 : Nat), r12 = .slice a11 l11 c11 ∧
  S6 w3 ∧
  let w4 := World.alloc w3 (Obj.cells #[.string s8, .slice a11 l11 c11] 122);
  ∃ (a13 : Option Addr) (l13 : Nat) (c13 : Nat) (w5 : World), Sem.run Tryz.prog (Builtin.append_ #[22, 22] 22 #[.slice a4 l4 c4, .slice (some (Addr.mk w3.heap.size 0 none)) 1 1]) w4 = .ok ((.slice a13 l13 c13 : Value)) w5 ∧
  inI (n5 + 1) ∧
  I2 [.slice a13 l13 c13, .int .i64 (n5 + 1)] w5 ∧ mu3 [.slice a13 l13 c13, .int .i64 (n5 + 1)] w5 < mu3 [.slice a4 l4 c4, .int .i64 n5] w1))))
  (Q (.slice a4 l4 c4) w1)
theorem C50 {a1 : Option Addr} {l1 : Nat} {c1 : Nat} {Q : Value → World → Prop} {w : World} (h : L50 a1 l1 c1 Q w) : CallR Tryz.prog 50 [.slice a1 l1 c1] w Q :=
  fun_calls (A := A50) mixed Tryz.func50 (c := (Tryz.f50.body).getD .skip) rfl (by kernel_rfl) (Eq.mp (by kernel_rfl) h)

/-- millrace/millraceplain.CopyTyped -/
def A51 : Ann := ⟨[(3, [(3, .one (.slice)), (4, .one (.int .i64))])], [], [], [], [(5, [0, 1, 2, 3, 4, 5, 6, 7, 8, 9, 10, 11, 12], 13, [14, 15])], []⟩
def L51 (a1 : Option Addr) (l1 : Nat) (c1 : Nat) (Q : Value → World → Prop) (w : World) : Prop :=
  ∃ (I2 : List Value → World → Prop) (mu3 : List Value → World → Nat),
  I2 [.slice none 0 0, .int .i64 0] w ∧
  ∀ (_ : Env) (a4 : Option Addr) (l4 : Nat) (c4 : Nat) (n5 : Int) (w1 : World), I2 [.slice a4 l4 c4, .int .i64 n5] w1 →
  cond (decide (n5 < (((l1 : Nat) : Int))))
  (∃ (S6 : World → Prop), S6 (World.drew w1) ∧
  let w2 := World.drew w1;
  (0 ≤ (n5 : Int) ∧ (n5 : Int) < ((l1 : Nat) : Int)) ∧
  nn a1 (fun (q7 : Addr) =>
  ∃ (s8 : ByteArray), (∀ wS : World, S6 wS → wS.cell? (Addr.add q7 (Int.toNat n5 * 2)) = some ((.string s8 : Value))) ∧
  (0 ≤ (n5 : Int) ∧ (n5 : Int) < ((l1 : Nat) : Int)) ∧
  nn a1 (fun (q9 : Addr) =>
  ∃ (a10 : Option Addr) (l10 : Nat) (c10 : Nat), (∀ wS : World, S6 wS → wS.cell? (Addr.add (Addr.add q9 (Int.toNat n5 * 2)) 1) = some ((.slice a10 l10 c10 : Value))) ∧
  CallR Tryz.prog 155 [.slice a10 l10 c10] w2 (fun (r12 : Value) (w3 : World) =>
  ∃ (a11 : Option Addr) (l11 : Nat) (c11 : Nat), r12 = .slice a11 l11 c11 ∧
  S6 w3 ∧
  let w4 := World.alloc w3 (Obj.cells #[.string s8, .slice a11 l11 c11] 127);
  ∃ (a13 : Option Addr) (l13 : Nat) (c13 : Nat) (w5 : World), Sem.run Tryz.prog (Builtin.append_ #[23, 23] 23 #[.slice a4 l4 c4, .slice (some (Addr.mk w3.heap.size 0 none)) 1 1]) w4 = .ok ((.slice a13 l13 c13 : Value)) w5 ∧
  inI (n5 + 1) ∧
  I2 [.slice a13 l13 c13, .int .i64 (n5 + 1)] w5 ∧ mu3 [.slice a13 l13 c13, .int .i64 (n5 + 1)] w5 < mu3 [.slice a4 l4 c4, .int .i64 n5] w1))))
  (Q (.slice a4 l4 c4) w1)
theorem C51 {a1 : Option Addr} {l1 : Nat} {c1 : Nat} {Q : Value → World → Prop} {w : World} (h : L51 a1 l1 c1 Q w) : CallR Tryz.prog 51 [.slice a1 l1 c1] w Q :=
  fun_calls (A := A51) mixed Tryz.func51 (c := (Tryz.f51.body).getD .skip) rfl (by kernel_rfl) (Eq.mp (by kernel_rfl) h)

/-- millrace/millraceplain.CopyFaults -/
def A52 : Ann := ⟨[], [], [], [], [], []⟩
def L52 (a1 : Option Addr) (l1 : Nat) (c1 : Nat) (Q : Value → World → Prop) (w : World) : Prop :=
  ∃ (a2 : Option Addr) (l2 : Nat) (c2 : Nat) (w1 : World), Sem.run Tryz.prog (Builtin.append_ #[24, 24] 24 #[.slice none 0 0, .slice a1 l1 c1]) w = .ok ((.slice a2 l2 c2 : Value)) w1 ∧
  Q (.slice a2 l2 c2) w1
theorem C52 {a1 : Option Addr} {l1 : Nat} {c1 : Nat} {Q : Value → World → Prop} {w : World} (h : L52 a1 l1 c1 Q w) : CallR Tryz.prog 52 [.slice a1 l1 c1] w Q :=
  fun_calls (A := A52) mixed Tryz.func52 (c := (Tryz.f52.body).getD .skip) rfl (by kernel_rfl) (Eq.mp (by kernel_rfl) h)

/-- (millrace/millracelaw06.Setup).Config -/
def A7 : Ann := ⟨[], [], [], [], [(1, [0, 1, 3, 4, 6, 7, 2, 5], 8, [9, 10])], []⟩
def L7 (a1 : Option Addr) (l1 : Nat) (c1 : Nat) (a2 : Option Addr) (l2 : Nat) (c2 : Nat) (a3 : Option Addr) (l3 : Nat) (c3 : Nat) (Q : Value → World → Prop) (w : World) : Prop :=
  let w1 := World.alloc w (Obj.cells #[.slice a1 l1 c1, .slice a2 l2 c2, .slice a3 l3 c3] 26);
  let w2 := World.alloc w1 (Obj.cells #[.slice none 0 0, .slice none 0 0, .slice none 0 0] 28);
  ∃ (S4 : World → Prop), S4 (World.drew w2) ∧
  let w3 := World.drew w2;
  ∃ (a5 : Option Addr) (l5 : Nat) (c5 : Nat), (∀ wS : World, S4 wS → wS.cell? (Addr.mk w.heap.size 0 none) = some ((.slice a5 l5 c5 : Value))) ∧
  ∃ (a6 : Option Addr) (l6 : Nat) (c6 : Nat), (∀ wS : World, S4 wS → wS.cell? (Addr.mk w.heap.size 1 none) = some ((.slice a6 l6 c6 : Value))) ∧
  ∃ (a7 : Option Addr) (l7 : Nat) (c7 : Nat), (∀ wS : World, S4 wS → wS.cell? (Addr.mk w.heap.size 2 none) = some ((.slice a7 l7 c7 : Value))) ∧
  CallR Tryz.prog 50 [.slice a5 l5 c5] w3 (fun (r9 : Value) (w4 : World) =>
  ∃ (a8 : Option Addr) (l8 : Nat) (c8 : Nat), r9 = .slice a8 l8 c8 ∧
  S4 w4 ∧
  CallR Tryz.prog 51 [.slice a6 l6 c6] w4 (fun (r11 : Value) (w5 : World) =>
  ∃ (a10 : Option Addr) (l10 : Nat) (c10 : Nat), r11 = .slice a10 l10 c10 ∧
  S4 w5 ∧
  CallR Tryz.prog 52 [.slice a7 l7 c7] w5 (fun (r13 : Value) (w6 : World) =>
  ∃ (a12 : Option Addr) (l12 : Nat) (c12 : Nat), r13 = .slice a12 l12 c12 ∧
  stC (Addr.mk w1.heap.size 0 none) (.slice a8 l8 c8) w6 (fun (w7 : World) =>
  stC (Addr.mk w1.heap.size 1 none) (.slice a10 l10 c10) w7 (fun (w8 : World) =>
  stC (Addr.mk w1.heap.size 2 none) (.slice a12 l12 c12) w8 (fun (w9 : World) =>
  ∃ (a14 : Option Addr) (l14 : Nat) (c14 : Nat) (a15 : Option Addr) (l15 : Nat) (c15 : Nat) (a16 : Option Addr) (l16 : Nat) (c16 : Nat), w9.cell? (Addr.mk w1.heap.size 0 none) = some ((.slice a14 l14 c14 : Value)) ∧ w9.cell? (Addr.mk w1.heap.size 1 none) = some ((.slice a15 l15 c15 : Value)) ∧ w9.cell? (Addr.mk w1.heap.size 2 none) = some ((.slice a16 l16 c16 : Value)) ∧ 
  Q (.agg #[.slice a14 l14 c14, .slice a15 l15 c15, .slice a16 l16 c16]) w9))))))
theorem C7 {a1 : Option Addr} {l1 : Nat} {c1 : Nat} {a2 : Option Addr} {l2 : Nat} {c2 : Nat} {a3 : Option Addr} {l3 : Nat} {c3 : Nat} {Q : Value → World → Prop} {w : World} (h : L7 a1 l1 c1 a2 l2 c2 a3 l3 c3 Q w) : CallR Tryz.prog 7 [.agg #[.slice a1 l1 c1, .slice a2 l2 c2, .slice a3 l3 c3]] w Q :=
  fun_calls (A := A7) mixed Tryz.func7 (c := (Tryz.f7.body).getD .skip) rfl (by kernel_rfl) (Eq.mp (by kernel_rfl) h)

/-- millrace/millracelaw06.num -/
def A11 : Ann := ⟨[], [], [], [], [], []⟩
def L11 (n1 : Int) (Q : Value → World → Prop) (w : World) : Prop :=
  Q (.int .i64 n1) w
theorem C11 {n1 : Int} {Q : Value → World → Prop} {w : World} (h : L11 n1 Q w) : CallR Tryz.prog 11 [.int .i64 n1] w Q :=
  fun_calls (A := A11) mixed Tryz.func11 (c := (Tryz.f11.body).getD .skip) rfl (by kernel_rfl) (Eq.mp (by kernel_rfl) h)

/-- millrace/millracelaw06.hello -/
def A90 : Ann := ⟨[], [], [], [], [], []⟩
def L90 (Q : Value → World → Prop) (w : World) : Prop :=
  let w1 := World.alloc w (Obj.cells #[.int .u8 104, .int .u8 101, .int .u8 108, .int .u8 108, .int .u8 111] 5);
  ∃ (a1 : Option Addr) (l1 : Nat) (c1 : Nat) (w2 : World), Sem.run Tryz.prog (convert 40 40 (.slice (some (Addr.mk w.heap.size 0 none)) 5 5)) w1 = .ok ((.slice a1 l1 c1 : Value)) w2 ∧
  let w3 := World.alloc w2 (Obj.cells #[.string (ByteArray.mk #[97]), .slice a1 l1 c1] 122);
  let w4 := World.alloc w3 (Obj.cells #[.int .i64 1, .int .i64 2, .int .i64 2, .int .i64 0] 188);
  CallR Tryz.prog 8 [.agg #[.slice (some (Addr.mk w2.heap.size 0 none)) 1 1, .slice none 0 0, .slice (some (Addr.mk w3.heap.size 0 none)) 2 2]] w4 (fun (r4 : Value) (w5 : World) =>
  ∃ (p2 : Option Addr) (n3 : Int), r4 = .tuple #[.pointer p2, .int .i64 n3] ∧
  Q (.pointer p2) w5)
theorem C90 {Q : Value → World → Prop} {w : World} (h : L90 Q w) : CallR Tryz.prog 90 [] w Q :=
  fun_calls (A := A90) mixed Tryz.func90 (c := (Tryz.f90.body).getD .skip) rfl (by kernel_rfl) (Eq.mp (by kernel_rfl) h)

/-- millrace/millracelaw06.alive -/
def A15 : Ann := ⟨[], [], [], [], [], []⟩
def L15 (Q : Value → World → Prop) (w : World) : Prop :=
  CallR Tryz.prog 90 [] w (fun (r2 : Value) (w1 : World) =>
  ∃ (p1 : Option Addr), r2 = .pointer p1 ∧
  cond (Option.isNone p1)
  (Q (.bool false) w1)
  (CallR Tryz.prog 30 [.pointer p1, .string (ByteArray.mk #[97]), .int .i64 1] w1 (fun (r5 : Value) (w2 : World) =>
  ∃ (n3 : Int) (n4 : Int), r5 = .tuple #[.int .i64 n3, .int .i64 n4] ∧
  CallR Tryz.prog 64 [.pointer p1, .int .i64 n3, .int .i64 5] w2 (fun (r8 : Value) (w3 : World) =>
  ∃ (a6 : Option Addr) (l6 : Nat) (c6 : Nat) (n7 : Int), r8 = .tuple #[.slice a6 l6 c6, .int .i64 n7] ∧
  CallR Tryz.prog 64 [.pointer p1, .int .i64 n3, .int .i64 5] w3 (fun (r11 : Value) (w4 : World) =>
  ∃ (a9 : Option Addr) (l9 : Nat) (c9 : Nat) (n10 : Int), r11 = .tuple #[.slice a9 l9 c9, .int .i64 n10] ∧
  CallR Tryz.prog 64 [.pointer p1, .int .i64 n3, .int .i64 5] w4 (fun (r14 : Value) (w5 : World) =>
  ∃ (a12 : Option Addr) (l12 : Nat) (c12 : Nat) (n13 : Int), r14 = .tuple #[.slice a12 l12 c12, .int .i64 n13] ∧
  CallR Tryz.prog 30 [.pointer p1, .string (ByteArray.mk #[98]), .int .i64 1] w5 (fun (r17 : Value) (w6 : World) =>
  ∃ (n15 : Int) (n16 : Int), r17 = .tuple #[.int .i64 n15, .int .i64 n16] ∧
  CallR Tryz.prog 30 [.pointer p1, .string (ByteArray.mk #[98]), .int .i64 42] w6 (fun (r20 : Value) (w7 : World) =>
  ∃ (n18 : Int) (n19 : Int), r20 = .tuple #[.int .i64 n18, .int .i64 n19] ∧
  CallR Tryz.prog 30 [.pointer p1, .string (ByteArray.mk #[98]), .int .i64 42] w7 (fun (r23 : Value) (w8 : World) =>
  ∃ (n21 : Int) (n22 : Int), r23 = .tuple #[.int .i64 n21, .int .i64 n22] ∧
  CallR Tryz.prog 11 [.int .i64 n4] w8 (fun (r25 : Value) (w9 : World) =>
  ∃ (n24 : Int), r25 = .int .i64 n24 ∧
  CallR Tryz.prog 11 [.int .i64 n7] w9 (fun (r27 : Value) (w10 : World) =>
  ∃ (n26 : Int), r27 = .int .i64 n26 ∧
  inI (n24 + n26) ∧
  CallR Tryz.prog 11 [.int .i64 n13] w10 (fun (r29 : Value) (w11 : World) =>
  ∃ (n28 : Int), r29 = .int .i64 n28 ∧
  inI ((n24 + n26) + n28) ∧
  CallR Tryz.prog 11 [.int .i64 n19] w11 (fun (r31 : Value) (w12 : World) =>
  ∃ (n30 : Int), r31 = .int .i64 n30 ∧
  inI (((n24 + n26) + n28) + n30) ∧
  cond ((((n24 + n26) + n28) + n30) == 0)
  (cond (n3 == 1)
  (cond (n18 == 2)
  (∃ (s32 : ByteArray) (w13 : World), Sem.run Tryz.prog (convert 40 9 (.slice a6 l6 c6)) w12 = .ok ((.string s32 : Value)) w13 ∧
  cond (ByteArray.toList s32 == ByteArray.toList (ByteArray.mk #[104, 101]))
  (∃ (s33 : ByteArray) (w14 : World), Sem.run Tryz.prog (convert 40 9 (.slice a12 l12 c12)) w13 = .ok ((.string s33 : Value)) w14 ∧
  cond (ByteArray.toList s33 == ByteArray.toList (ByteArray.mk #[108, 108, 111]))
  (CallR Tryz.prog 11 [.int .i64 n10] w14 (fun (r35 : Value) (w15 : World) =>
  ∃ (n34 : Int), r35 = .int .i64 n34 ∧
  cond (n34 == 22)
  (CallR Tryz.prog 11 [.int .i64 n16] w15 (fun (r37 : Value) (w16 : World) =>
  ∃ (n36 : Int), r37 = .int .i64 n36 ∧
  cond (n36 == 62)
  (CallR Tryz.prog 11 [.int .i64 n22] w16 (fun (r39 : Value) (w17 : World) =>
  ∃ (n38 : Int), r39 = .int .i64 n38 ∧
  Q (.bool (n38 == 63)) w17))
  (Q (.bool false) w16)))
  (Q (.bool false) w15)))
  (Q (.bool false) w14))
  (Q (.bool false) w13))
  (Q (.bool false) w12))
  (Q (.bool false) w12))
  (Q (.bool false) w12))))))))))))))
theorem C15 {Q : Value → World → Prop} {w : World} (h : L15 Q w) : CallR Tryz.prog 15 [] w Q :=
  fun_calls (A := A15) mixed Tryz.func15 (c := (Tryz.f15.body).getD .skip) rfl (by kernel_rfl) (Eq.mp (by kernel_rfl) h)

/-- (*millrace/kern.Kernel).Files -/
def A76 : Ann := ⟨[(5, [(3, .one (.slice))]), (11, [(5, .one (.slice)), (27, .one (.int .i64))])], [], [], [], [], []⟩
def L76 (p1 : Option Addr) (Q : Value → World → Prop) (w : World) : Prop :=
  CallR Tryz.prog 118 [.pointer p1] w (fun (r3 : Value) (w1 : World) =>
  ∃ (b2 : Bool), r3 = .bool b2 ∧
  cond b2
  (Q (.slice none 0 0) w1)
  (nn p1 (fun (q4 : Addr) =>
  ∃ (m5 : Option Nat), w1.cell? (Addr.add q4 1) = some ((.map m5 : Value)) ∧
  ∃ (w2 : World), Sem.run Tryz.prog (Instr.range 112 (.map m5)) w1 = .ok (.pointer (some (Addr.mk w1.heap.size 0 none))) w2 ∧
  ∃ (I6 : List Value → World → Prop) (mu7 : List Value → World → Nat),
  I6 [.slice none 0 0] w2 ∧
  ∀ (_ : Env) (a8 : Option Addr) (l8 : Nat) (c8 : Nat) (w3 : World), I6 [.slice a8 l8 c8] w3 →
  (∃ (w4 : World), Sem.run Tryz.prog (Instr.next (.pointer (some (Addr.mk w1.heap.size 0 none))) false 0) w3 = .ok (.tuple #[.bool false]) w4 ∧
  CallR Tryz.prog 180 [.slice a8 l8 c8] w4 (fun (r11 : Value) (w6 : World) =>
  r11 = .tuple #[] ∧
  ∃ (I12 : List Value → World → Prop) (mu13 : List Value → World → Nat),
  I12 [.slice none 0 0, .int .i64 0] w6 ∧
  ∀ (_ : Env) (a14 : Option Addr) (l14 : Nat) (c14 : Nat) (n15 : Int) (w7 : World), I12 [.slice a14 l14 c14, .int .i64 n15] w7 →
  cond (decide (n15 < (((l8 : Nat) : Int))))
  ((0 ≤ (n15 : Int) ∧ (n15 : Int) < ((l8 : Nat) : Int)) ∧
  nn a8 (fun (q16 : Addr) =>
  ∃ (s17 : ByteArray), w7.cell? (Addr.add q16 (Int.toNat n15)) = some ((.string s17 : Value)) ∧
  nn p1 (fun (q18 : Addr) =>
  ∃ (m19 : Option Nat), w7.cell? (Addr.add q18 1) = some ((.map m19 : Value)) ∧
  ∃ (p20 : Option Addr) (w8 : World), Sem.run Tryz.prog (Instr.lookup 112 (.map m19) (.string s17) false) w7 = .ok ((.pointer p20 : Value)) w8 ∧
  CallR Tryz.prog 181 [.pointer p20] w8 (fun (r22 : Value) (w9 : World) =>
  ∃ (a21 : Option Addr) (l21 : Nat) (c21 : Nat), r22 = .slice a21 l21 c21 ∧
  let w10 := World.alloc w9 (Obj.cells #[.string s17, .slice a21 l21 c21] 122);
  ∃ (a23 : Option Addr) (l23 : Nat) (c23 : Nat) (w11 : World), Sem.run Tryz.prog (Builtin.append_ #[22, 22] 22 #[.slice a14 l14 c14, .slice (some (Addr.mk w9.heap.size 0 none)) 1 1]) w10 = .ok ((.slice a23 l23 c23 : Value)) w11 ∧
  inI (n15 + 1) ∧
  I12 [.slice a23 l23 c23, .int .i64 (n15 + 1)] w11 ∧ mu13 [.slice a23 l23 c23, .int .i64 (n15 + 1)] w11 < mu13 [.slice a14 l14 c14, .int .i64 n15] w7))))
  (Q (.slice a14 l14 c14) w7))) ∨
  (∃ (v9 : Value) (v10 : Value) (w5 : World), Sem.run Tryz.prog (Instr.next (.pointer (some (Addr.mk w1.heap.size 0 none))) false 0) w3 = .ok (.tuple #[.bool true, v9, v10]) w5 ∧
  ∃ (s24 : ByteArray) (v25 : Value) (w12 : World), Sem.run Tryz.prog (Instr.entry (.pointer (some (Addr.mk w1.heap.size 0 none)))) w5 = .ok (.tuple #[.string s24, v25]) w12 ∧
  let w13 := World.alloc w12 (Obj.cells #[.string s24] 9);
  ∃ (a26 : Option Addr) (l26 : Nat) (c26 : Nat) (w14 : World), Sem.run Tryz.prog (Builtin.append_ #[131, 131] 131 #[.slice a8 l8 c8, .slice (some (Addr.mk w12.heap.size 0 none)) 1 1]) w13 = .ok ((.slice a26 l26 c26 : Value)) w14 ∧
  I6 [.slice a26 l26 c26] w14 ∧ mu7 [.slice a26 l26 c26] w14 < mu7 [.slice a8 l8 c8] w3))))
theorem C76 {p1 : Option Addr} {Q : Value → World → Prop} {w : World} (h : L76 p1 Q w) : CallR Tryz.prog 76 [.pointer p1] w Q :=
  fun_calls (A := A76) mixed Tryz.func76 (c := (Tryz.f76.body).getD .skip) rfl (by kernel_rfl) (Eq.mp (by kernel_rfl) h)

/-- millrace/millraceplain.SameNamed -/
def A75 : Ann := ⟨[(4, [(5, .one (.int .i64))])], [], [], [(6, [0, 1, 2, 3, 4, 5, 6, 7, 8, 9, 10, 11, 12, 13, 14, 15, 16, 17, 18, 19, 20, 21, 22, 23, 24])], [], []⟩
def L75 (a1 : Option Addr) (l1 : Nat) (c1 : Nat) (a2 : Option Addr) (l2 : Nat) (c2 : Nat) (Q : Value → World → Prop) (w : World) : Prop :=
  cond ((((l1 : Nat) : Int)) != (((l2 : Nat) : Int)))
  (Q (.bool false) w)
  (∃ (I3 : List Value → World → Prop) (mu4 : List Value → World → Nat),
  I3 [.int .i64 0] w ∧
  ∀ (_ : Env) (n5 : Int) (w1 : World), I3 [.int .i64 n5] w1 →
  cond (decide (n5 < (((l1 : Nat) : Int))))
  (let w2 := World.drew w1;
  (0 ≤ (n5 : Int) ∧ (n5 : Int) < ((l1 : Nat) : Int)) ∧
  nn a1 (fun (q6 : Addr) =>
  ∃ (s7 : ByteArray), w2.cell? (Addr.add q6 (Int.toNat n5 * 2)) = some ((.string s7 : Value)) ∧
  (0 ≤ (n5 : Int) ∧ (n5 : Int) < ((l2 : Nat) : Int)) ∧
  nn a2 (fun (q8 : Addr) =>
  ∃ (s9 : ByteArray), w2.cell? (Addr.add q8 (Int.toNat n5 * 2)) = some ((.string s9 : Value)) ∧
  cond (!(ByteArray.toList s7 == ByteArray.toList s9))
  (Q (.bool false) w2)
  ((0 ≤ (n5 : Int) ∧ (n5 : Int) < ((l1 : Nat) : Int)) ∧
  nn a1 (fun (q10 : Addr) =>
  ∃ (a11 : Option Addr) (l11 : Nat) (c11 : Nat), w2.cell? (Addr.add (Addr.add q10 (Int.toNat n5 * 2)) 1) = some ((.slice a11 l11 c11 : Value)) ∧
  (0 ≤ (n5 : Int) ∧ (n5 : Int) < ((l2 : Nat) : Int)) ∧
  nn a2 (fun (q12 : Addr) =>
  ∃ (a13 : Option Addr) (l13 : Nat) (c13 : Nat), w2.cell? (Addr.add (Addr.add q12 (Int.toNat n5 * 2)) 1) = some ((.slice a13 l13 c13 : Value)) ∧
  CallR Tryz.prog 39 [.slice a11 l11 c11, .slice a13 l13 c13] w2 (fun (r15 : Value) (w3 : World) =>
  ∃ (b14 : Bool), r15 = .bool b14 ∧
  cond (!b14)
  (Q (.bool false) w3)
  (inI (n5 + 1) ∧
  I3 [.int .i64 (n5 + 1)] w3 ∧ mu4 [.int .i64 (n5 + 1)] w3 < mu4 [.int .i64 n5] w1))))))))
  (Q (.bool true) w1))
theorem C75 {a1 : Option Addr} {l1 : Nat} {c1 : Nat} {a2 : Option Addr} {l2 : Nat} {c2 : Nat} {Q : Value → World → Prop} {w : World} (h : L75 a1 l1 c1 a2 l2 c2 Q w) : CallR Tryz.prog 75 [.slice a1 l1 c1, .slice a2 l2 c2] w Q :=
  fun_calls (A := A75) mixed Tryz.func75 (c := (Tryz.f75.body).getD .skip) rfl (by kernel_rfl) (Eq.mp (by kernel_rfl) h)

/-- millrace/millraceplain.SameFaults -/
def A78 : Ann := ⟨[(4, [(5, .one (.int .i64))])], [], [], [(6, [0, 1, 2, 3, 4, 5, 6, 7, 8])], [], []⟩
def L78 (a1 : Option Addr) (l1 : Nat) (c1 : Nat) (a2 : Option Addr) (l2 : Nat) (c2 : Nat) (Q : Value → World → Prop) (w : World) : Prop :=
  cond ((((l1 : Nat) : Int)) != (((l2 : Nat) : Int)))
  (Q (.bool false) w)
  (∃ (I3 : List Value → World → Prop) (mu4 : List Value → World → Nat),
  I3 [.int .i64 0] w ∧
  ∀ (_ : Env) (n5 : Int) (w1 : World), I3 [.int .i64 n5] w1 →
  cond (decide (n5 < (((l1 : Nat) : Int))))
  (let w2 := World.drew w1;
  (0 ≤ (n5 : Int) ∧ (n5 : Int) < ((l1 : Nat) : Int)) ∧
  nn a1 (fun (q6 : Addr) =>
  ∃ (n7 : Int) (n8 : Int), w2.cell? (Addr.add q6 (Int.toNat n5 * 2)) = some ((.int .i64 n7 : Value)) ∧ w2.cell? (Addr.add (Addr.add q6 (Int.toNat n5 * 2)) 1) = some ((.int .i64 n8 : Value)) ∧ 
  (0 ≤ (n5 : Int) ∧ (n5 : Int) < ((l2 : Nat) : Int)) ∧
  nn a2 (fun (q9 : Addr) =>
  ∃ (n10 : Int) (n11 : Int), w2.cell? (Addr.add q9 (Int.toNat n5 * 2)) = some ((.int .i64 n10 : Value)) ∧ w2.cell? (Addr.add (Addr.add q9 (Int.toNat n5 * 2)) 1) = some ((.int .i64 n11 : Value)) ∧ 
  ∃ (b12 : Bool) (w3 : World), Sem.run Tryz.prog (Sem.bind (eqGuard .neq 188 (.tmp 20) (.tmp 24) (.agg #[.int .i64 n7, .int .i64 n8]) (.agg #[.int .i64 n10, .int .i64 n11])) (fun _ => binOp .neq 188 (.agg #[.int .i64 n7, .int .i64 n8]) (.agg #[.int .i64 n10, .int .i64 n11]))) w2 = .ok ((.bool b12 : Value)) w3 ∧
  cond b12
  (Q (.bool false) w3)
  (inI (n5 + 1) ∧
  I3 [.int .i64 (n5 + 1)] w3 ∧ mu4 [.int .i64 (n5 + 1)] w3 < mu4 [.int .i64 n5] w1))))
  (Q (.bool true) w1))
theorem C78 {a1 : Option Addr} {l1 : Nat} {c1 : Nat} {a2 : Option Addr} {l2 : Nat} {c2 : Nat} {Q : Value → World → Prop} {w : World} (h : L78 a1 l1 c1 a2 l2 c2 Q w) : CallR Tryz.prog 78 [.slice a1 l1 c1, .slice a2 l2 c2] w Q :=
  fun_calls (A := A78) mixed Tryz.func78 (c := (Tryz.f78.body).getD .skip) rfl (by kernel_rfl) (Eq.mp (by kernel_rfl) h)

/-- (*millrace/kern.Kernel).Rest -/
def A79 : Ann := ⟨[], [], [], [], [], []⟩
def L79 (p1 : Option Addr) (Q : Value → World → Prop) (w : World) : Prop :=
  CallR Tryz.prog 118 [.pointer p1] w (fun (r3 : Value) (w1 : World) =>
  ∃ (b2 : Bool), r3 = .bool b2 ∧
  cond b2
  (Q (.slice none 0 0) w1)
  (nn p1 (fun (q4 : Addr) =>
  ∃ (p5 : Option Addr), w1.cell? (Addr.add q4 5) = some ((.pointer p5 : Value)) ∧
  CallR Tryz.prog 182 [.pointer p5] w1 (fun (r7 : Value) (w2 : World) =>
  ∃ (a6 : Option Addr) (l6 : Nat) (c6 : Nat), r7 = .slice a6 l6 c6 ∧
  Q (.slice a6 l6 c6) w2))))
theorem C79 {p1 : Option Addr} {Q : Value → World → Prop} {w : World} (h : L79 p1 Q w) : CallR Tryz.prog 79 [.pointer p1] w Q :=
  fun_calls (A := A79) mixed Tryz.func79 (c := (Tryz.f79.body).getD .skip) rfl (by kernel_rfl) (Eq.mp (by kernel_rfl) h)

/-- (*millrace/faults.Plan).Rest -/
def A182 : Ann := ⟨[], [], [], [], [], []⟩
def L182 (p1 : Option Addr) (Q : Value → World → Prop) (w : World) : Prop :=
  cond (Option.isNone p1)
  (Q (.slice none 0 0) w)
  (nn p1 (fun (q2 : Addr) =>
  ∃ (a3 : Option Addr) (l3 : Nat) (c3 : Nat), w.cell? (Addr.add q2 1) = some ((.slice a3 l3 c3 : Value)) ∧
  CallR Tryz.prog 156 [.slice a3 l3 c3] w (fun (r5 : Value) (w1 : World) =>
  ∃ (a4 : Option Addr) (l4 : Nat) (c4 : Nat), r5 = .slice a4 l4 c4 ∧
  Q (.slice a4 l4 c4) w1)))
theorem C182 {p1 : Option Addr} {Q : Value → World → Prop} {w : World} (h : L182 p1 Q w) : CallR Tryz.prog 182 [.pointer p1] w Q :=
  fun_calls (A := A182) mixed Tryz.func182 (c := (Tryz.f182.body).getD .skip) rfl (by kernel_rfl) (Eq.mp (by kernel_rfl) h)

/-- (*millrace/kern.Kernel).Calls -/
def A74 : Ann := ⟨[], [], [], [], [], []⟩
def L74 (p1 : Option Addr) (Q : Value → World → Prop) (w : World) : Prop :=
  CallR Tryz.prog 118 [.pointer p1] w (fun (r3 : Value) (w1 : World) =>
  ∃ (b2 : Bool), r3 = .bool b2 ∧
  cond b2
  (Q (.tuple #[.int .i64 0, .int .i64 0]) w1)
  (nn p1 (fun (q5 : Addr) =>
  (0 ≤ (0 : Int) ∧ (0 : Int) < ((2 : Nat) : Int)) ∧
  ∃ (n6 : Int), w1.cell? (Addr.add (Addr.add q5 6) (Int.toNat 0)) = some ((.int .i64 n6 : Value)) ∧
  nn p1 (fun (q7 : Addr) =>
  (0 ≤ (1 : Int) ∧ (1 : Int) < ((2 : Nat) : Int)) ∧
  ∃ (n8 : Int), w1.cell? (Addr.add (Addr.add q7 6) (Int.toNat 1)) = some ((.int .i64 n8 : Value)) ∧
  ∀ nd4 : Nat, let w2 := World.drewN w1 nd4;
  Q (.tuple #[.int .i64 n6, .int .i64 n8]) w2))))
theorem C74 {p1 : Option Addr} {Q : Value → World → Prop} {w : World} (h : L74 p1 Q w) : CallR Tryz.prog 74 [.pointer p1] w Q :=
  fun_calls (A := A74) mixed Tryz.func74 (c := (Tryz.f74.body).getD .skip) rfl (by kernel_rfl) (Eq.mp (by kernel_rfl) h)

/-- (*millrace/kern.Kernel).Screen -/
def A81 : Ann := ⟨[], [], [], [], [], []⟩
def L81 (p1 : Option Addr) (s2 : ByteArray) (Q : Value → World → Prop) (w : World) : Prop :=
  CallR Tryz.prog 118 [.pointer p1] w (fun (r4 : Value) (w1 : World) =>
  ∃ (b3 : Bool), r4 = .bool b3 ∧
  cond b3
  (Q (.tuple #[.slice none 0 0, .bool false]) w1)
  (nn p1 (fun (q5 : Addr) =>
  ∃ (m6 : Option Nat), w1.cell? (Addr.add q5 2) = some ((.map m6 : Value)) ∧
  ∃ (p7 : Option Addr) (b8 : Bool) (w2 : World), Sem.run Tryz.prog (Instr.lookup 113 (.map m6) (.string s2) true) w1 = .ok ((.tuple #[.pointer p7, .bool b8] : Value)) w2 ∧
  CallR Tryz.prog 183 [.pointer p7] w2 (fun (r10 : Value) (w3 : World) =>
  ∃ (a9 : Option Addr) (l9 : Nat) (c9 : Nat), r10 = .slice a9 l9 c9 ∧
  Q (.tuple #[.slice a9 l9 c9, .bool b8]) w3))))
theorem C81 {p1 : Option Addr} {s2 : ByteArray} {Q : Value → World → Prop} {w : World} (h : L81 p1 s2 Q w) : CallR Tryz.prog 81 [.pointer p1, .string s2] w Q :=
  fun_calls (A := A81) mixed Tryz.func81 (c := (Tryz.f81.body).getD .skip) rfl (by kernel_rfl) (Eq.mp (by kernel_rfl) h)

/-- (millrace/kern.Handle).Seek -/
def A192 : Ann := ⟨[], [], [], [], [], []⟩
def L192 (p1 : Option Addr) (n2 : Int) (n3 : Int) (n4 : Int) (Q : Value → World → Prop) (w : World) : Prop :=
  let w1 := World.alloc w (Obj.cells #[.pointer p1, .int .i64 n2] 70);
  ∃ (p5 : Option Addr), w1.cell? (Addr.mk w.heap.size 0 none) = some ((.pointer p5 : Value)) ∧
  ∃ (n6 : Int), w1.cell? (Addr.mk w.heap.size 1 none) = some ((.int .i64 n6 : Value)) ∧
  CallR Tryz.prog 68 [.pointer p5, .int .i64 n6, .int .i64 n3, .int .i64 n4] w1 (fun (r9 : Value) (w2 : World) =>
  ∃ (n7 : Int) (n8 : Int), r9 = .tuple #[.int .i64 n7, .int .i64 n8] ∧
  Q (.tuple #[.int .i64 n7, .int .i64 n8]) w2)
theorem C192 {p1 : Option Addr} {n2 : Int} {n3 : Int} {n4 : Int} {Q : Value → World → Prop} {w : World} (h : L192 p1 n2 n3 n4 Q w) : CallR Tryz.prog 192 [.agg #[.pointer p1, .int .i64 n2], .int .i64 n3, .int .i64 n4] w Q :=
  fun_calls (A := A192) mixed Tryz.func192 (c := (Tryz.f192.body).getD .skip) rfl (by kernel_rfl) (Eq.mp (by kernel_rfl) h)

/-- slices.Sort[[]string,string] -/
def A180 : Ann := ⟨[], [], [], [], [], []⟩
def L180 (a1 : Option Addr) (l1 : Nat) (c1 : Nat) (Q : Value → World → Prop) (w : World) : Prop :=
  CallR Tryz.prog 207 [.int .u64 (IntKind.wrap .u64 (((l1 : Nat) : Int)))] w (fun (r3 : Value) (w1 : World) =>
  ∃ (n2 : Int), r3 = .int .i64 n2 ∧
  CallR Tryz.prog 206 [.slice a1 l1 c1, .int .i64 0, .int .i64 (((l1 : Nat) : Int)), .int .i64 n2] w1 (fun (r4 : Value) (w2 : World) =>
  r4 = .tuple #[] ∧
  Q (.tuple #[]) w2))
theorem C180 {a1 : Option Addr} {l1 : Nat} {c1 : Nat} {Q : Value → World → Prop} {w : World} (h : L180 a1 l1 c1 Q w) : CallR Tryz.prog 180 [.slice a1 l1 c1] w Q :=
  fun_calls (A := A180) mixed Tryz.func180 (c := (Tryz.f180.body).getD .skip) rfl (by kernel_rfl) (Eq.mp (by kernel_rfl) h)

/-- slices.pdqsortOrdered[string] -/
def A206 : Ann := ⟨[(2, [(1, .one (.int .i64)), (2, .one (.int .i64)), (3, .one (.int .i64)), (8, .one (.bool)), (9, .one (.bool))])], [(10, [(3, .one (.int .i64))]), (15, [(11, .one (.int .i64)), (12, .one (.int .i64))]), (17, [])], [], [(17, [0, 1, 2, 3, 4, 5, 6, 7, 8, 9, 10, 11, 12, 13, 14])], [], []⟩
def L206 (a1 : Option Addr) (l1 : Nat) (c1 : Nat) (n2 : Int) (n3 : Int) (n4 : Int) (Q : Value → World → Prop) (w : World) : Prop :=
  ∃ (I5 : List Value → World → Prop) (mu6 : List Value → World → Nat),
  I5 [.int .i64 n2, .int .i64 n3, .int .i64 n4, .bool true, .bool true] w ∧
  ∀ (_ : Env) (n7 : Int) (n8 : Int) (n9 : Int) (b10 : Bool) (b11 : Bool) (w1 : World), I5 [.int .i64 n7, .int .i64 n8, .int .i64 n9, .bool b10, .bool b11] w1 →
  inI (n8 - n7) ∧
  cond (decide ((n8 - n7) ≤ 12))
  (CallR Tryz.prog 211 [.slice a1 l1 c1, .int .i64 n7, .int .i64 n8] w1 (fun (r12 : Value) (w2 : World) =>
  r12 = .tuple #[] ∧
  Q (.tuple #[]) w2))
  (cond (n9 == 0)
  (CallR Tryz.prog 212 [.slice a1 l1 c1, .int .i64 n7, .int .i64 n8] w1 (fun (r13 : Value) (w3 : World) =>
  r13 = .tuple #[] ∧
  Q (.tuple #[]) w3))
  (∃ (J14 : List Value → World → Prop),
  (cond (!b10)
  (CallR Tryz.prog 213 [.slice a1 l1 c1, .int .i64 n7, .int .i64 n8] w1 (fun (r15 : Value) (w4 : World) =>
  r15 = .tuple #[] ∧
  inI (n9 - 1) ∧
  J14 [.int .i64 (n9 - 1)] w4))
  (J14 [.int .i64 n9] w1)) ∧
  (∀ (_ : Env) (n16 : Int) (w5 : World), J14 [.int .i64 n16] w5 →
  CallR Tryz.prog 214 [.slice a1 l1 c1, .int .i64 n7, .int .i64 n8] w5 (fun (r19 : Value) (w6 : World) =>
  ∃ (n17 : Int) (n18 : Int), r19 = .tuple #[.int .i64 n17, .int .i64 n18] ∧
  ∃ (J20 : List Value → World → Prop),
  (cond (n18 == 2)
  (CallR Tryz.prog 215 [.slice a1 l1 c1, .int .i64 n7, .int .i64 n8] w6 (fun (r21 : Value) (w7 : World) =>
  r21 = .tuple #[] ∧
  inI (n8 - 1) ∧
  inI (n17 - n7) ∧
  inI ((n8 - 1) - (n17 - n7)) ∧
  J20 [.int .i64 ((n8 - 1) - (n17 - n7)), .int .i64 1] w7))
  (J20 [.int .i64 n17, .int .i64 n18] w6)) ∧
  (∀ (_ : Env) (n22 : Int) (n23 : Int) (w8 : World), J20 [.int .i64 n22, .int .i64 n23] w8 →
  ∃ (J24 : List Value → World → Prop),
  (cond b10
  (cond b11
  (cond (n23 == 1)
  (CallR Tryz.prog 216 [.slice a1 l1 c1, .int .i64 n7, .int .i64 n8] w8 (fun (r26 : Value) (w9 : World) =>
  ∃ (b25 : Bool), r26 = .bool b25 ∧
  cond b25
  (Q (.tuple #[]) w9)
  (J24 [] w9)))
  (J24 [] w8))
  (J24 [] w8))
  (J24 [] w8)) ∧
  (∀ (_ : Env) (w10 : World), J24 [] w10 →
  let w11 := World.drew w10;
  cond (decide (n7 > 0))
  (inI (n7 - 1) ∧
  (0 ≤ (n7 - 1 : Int) ∧ (n7 - 1 : Int) < ((l1 : Nat) : Int)) ∧
  nn a1 (fun (q27 : Addr) =>
  ∃ (s28 : ByteArray), w11.cell? (Addr.add q27 (Int.toNat (n7 - 1))) = some ((.string s28 : Value)) ∧
  (0 ≤ (n22 : Int) ∧ (n22 : Int) < ((l1 : Nat) : Int)) ∧
  nn a1 (fun (q29 : Addr) =>
  ∃ (s30 : ByteArray), w11.cell? (Addr.add q29 (Int.toNat n22)) = some ((.string s30 : Value)) ∧
  CallR Tryz.prog 217 [.string s28, .string s30] w11 (fun (r32 : Value) (w12 : World) =>
  ∃ (b31 : Bool), r32 = .bool b31 ∧
  cond (!b31)
  (CallR Tryz.prog 218 [.slice a1 l1 c1, .int .i64 n7, .int .i64 n8, .int .i64 n22] w12 (fun (r34 : Value) (w13 : World) =>
  ∃ (n33 : Int), r34 = .int .i64 n33 ∧
  I5 [.int .i64 n33, .int .i64 n8, .int .i64 n16, .bool b10, .bool b11] w13 ∧ mu6 [.int .i64 n33, .int .i64 n8, .int .i64 n16, .bool b10, .bool b11] w13 < mu6 [.int .i64 n7, .int .i64 n8, .int .i64 n9, .bool b10, .bool b11] w1))
  (CallR Tryz.prog 219 [.slice a1 l1 c1, .int .i64 n7, .int .i64 n8, .int .i64 n22] w12 (fun (r37 : Value) (w14 : World) =>
  ∃ (n35 : Int) (b36 : Bool), r37 = .tuple #[.int .i64 n35, .bool b36] ∧
  inI (n35 - n7) ∧
  inI (n8 - n35) ∧
  (8 : Int) ≠ 0 ∧
  inI (Int.tdiv (n8 - n7) (8 : Int)) ∧
  cond (decide ((n35 - n7) < (n8 - n35)))
  (CallR Tryz.prog 206 [.slice a1 l1 c1, .int .i64 n7, .int .i64 n35, .int .i64 n16] w14 (fun (r38 : Value) (w15 : World) =>
  r38 = .tuple #[] ∧
  inI (n35 + 1) ∧
  I5 [.int .i64 (n35 + 1), .int .i64 n8, .int .i64 n16, .bool (decide ((n35 - n7) ≥ (Int.tdiv (n8 - n7) (8 : Int)))), .bool b36] w15 ∧ mu6 [.int .i64 (n35 + 1), .int .i64 n8, .int .i64 n16, .bool (decide ((n35 - n7) ≥ (Int.tdiv (n8 - n7) (8 : Int)))), .bool b36] w15 < mu6 [.int .i64 n7, .int .i64 n8, .int .i64 n9, .bool b10, .bool b11] w1))
  (inI (n35 + 1) ∧
  CallR Tryz.prog 206 [.slice a1 l1 c1, .int .i64 (n35 + 1), .int .i64 n8, .int .i64 n16] w14 (fun (r39 : Value) (w16 : World) =>
  r39 = .tuple #[] ∧
  I5 [.int .i64 n7, .int .i64 n35, .int .i64 n16, .bool (decide ((n8 - n35) ≥ (Int.tdiv (n8 - n7) (8 : Int)))), .bool b36] w16 ∧ mu6 [.int .i64 n7, .int .i64 n35, .int .i64 n16, .bool (decide ((n8 - n35) ≥ (Int.tdiv (n8 - n7) (8 : Int)))), .bool b36] w16 < mu6 [.int .i64 n7, .int .i64 n8, .int .i64 n9, .bool b10, .bool b11] w1))))))))
  (CallR Tryz.prog 219 [.slice a1 l1 c1, .int .i64 n7, .int .i64 n8, .int .i64 n22] w11 (fun (r42 : Value) (w17 : World) =>
  ∃ (n40 : Int) (b41 : Bool), r42 = .tuple #[.int .i64 n40, .bool b41] ∧
  inI (n40 - n7) ∧
  inI (n8 - n40) ∧
  (8 : Int) ≠ 0 ∧
  inI (Int.tdiv (n8 - n7) (8 : Int)) ∧
  cond (decide ((n40 - n7) < (n8 - n40)))
  (CallR Tryz.prog 206 [.slice a1 l1 c1, .int .i64 n7, .int .i64 n40, .int .i64 n16] w17 (fun (r43 : Value) (w18 : World) =>
  r43 = .tuple #[] ∧
  inI (n40 + 1) ∧
  I5 [.int .i64 (n40 + 1), .int .i64 n8, .int .i64 n16, .bool (decide ((n40 - n7) ≥ (Int.tdiv (n8 - n7) (8 : Int)))), .bool b41] w18 ∧ mu6 [.int .i64 (n40 + 1), .int .i64 n8, .int .i64 n16, .bool (decide ((n40 - n7) ≥ (Int.tdiv (n8 - n7) (8 : Int)))), .bool b41] w18 < mu6 [.int .i64 n7, .int .i64 n8, .int .i64 n9, .bool b10, .bool b11] w1))
  (inI (n40 + 1) ∧
  CallR Tryz.prog 206 [.slice a1 l1 c1, .int .i64 (n40 + 1), .int .i64 n8, .int .i64 n16] w17 (fun (r44 : Value) (w19 : World) =>
  r44 = .tuple #[] ∧
  I5 [.int .i64 n7, .int .i64 n40, .int .i64 n16, .bool (decide ((n8 - n40) ≥ (Int.tdiv (n8 - n7) (8 : Int)))), .bool b41] w19 ∧ mu6 [.int .i64 n7, .int .i64 n40, .int .i64 n16, .bool (decide ((n8 - n40) ≥ (Int.tdiv (n8 - n7) (8 : Int)))), .bool b41] w19 < mu6 [.int .i64 n7, .int .i64 n8, .int .i64 n9, .bool b10, .bool b11] w1))))))))))
theorem C206 {a1 : Option Addr} {l1 : Nat} {c1 : Nat} {n2 : Int} {n3 : Int} {n4 : Int} {Q : Value → World → Prop} {w : World} (h : L206 a1 l1 c1 n2 n3 n4 Q w) : CallR Tryz.prog 206 [.slice a1 l1 c1, .int .i64 n2, .int .i64 n3, .int .i64 n4] w Q :=
  fun_calls (A := A206) mixed Tryz.func206 (c := (Tryz.f206.body).getD .skip) rfl (by kernel_rfl) (Eq.mp (by kernel_rfl) h)

/-- slices.insertionSortOrdered[string] -/
def A211 : Ann := ⟨[(1, [(6, .one (.int .i64))]), (4, [(7, .one (.int .i64))])], [], [], [(4, [0, 1, 2, 3, 4, 5, 6, 7, 8, 9, 10, 11, 12, 13, 14]), (6, [0, 1, 2, 3, 4, 5, 6, 7, 8, 9, 10, 11, 12, 13, 14, 15, 16, 17])], [], []⟩
def L211 (a1 : Option Addr) (l1 : Nat) (c1 : Nat) (n2 : Int) (n3 : Int) (Q : Value → World → Prop) (w : World) : Prop :=
  inI (n2 + 1) ∧
  ∃ (I4 : List Value → World → Prop) (mu5 : List Value → World → Nat),
  I4 [.int .i64 (n2 + 1)] w ∧
  ∀ (_ : Env) (n6 : Int) (w1 : World), I4 [.int .i64 n6] w1 →
  cond (decide (n6 < n3))
  (∃ (I7 : List Value → World → Prop) (mu8 : List Value → World → Nat),
  I7 [.int .i64 n6] w1 ∧
  ∀ (_ : Env) (n9 : Int) (w2 : World), I7 [.int .i64 n9] w2 →
  let w3 := World.drew w2;
  cond (decide (n9 > n2))
  ((0 ≤ (n9 : Int) ∧ (n9 : Int) < ((l1 : Nat) : Int)) ∧
  nn a1 (fun (q10 : Addr) =>
  ∃ (s11 : ByteArray), w3.cell? (Addr.add q10 (Int.toNat n9)) = some ((.string s11 : Value)) ∧
  inI (n9 - 1) ∧
  (0 ≤ (n9 - 1 : Int) ∧ (n9 - 1 : Int) < ((l1 : Nat) : Int)) ∧
  nn a1 (fun (q12 : Addr) =>
  ∃ (s13 : ByteArray), w3.cell? (Addr.add q12 (Int.toNat (n9 - 1))) = some ((.string s13 : Value)) ∧
  CallR Tryz.prog 217 [.string s11, .string s13] w3 (fun (r15 : Value) (w4 : World) =>
  ∃ (b14 : Bool), r15 = .bool b14 ∧
  cond b14
  (let w5 := World.drew w4;
  inI (n9 - 1) ∧
  inI (n9 - 1) ∧
  (0 ≤ (n9 - 1 : Int) ∧ (n9 - 1 : Int) < ((l1 : Nat) : Int)) ∧
  nn a1 (fun (q16 : Addr) =>
  ∃ (s17 : ByteArray), w5.cell? (Addr.add q16 (Int.toNat (n9 - 1))) = some ((.string s17 : Value)) ∧
  (0 ≤ (n9 : Int) ∧ (n9 : Int) < ((l1 : Nat) : Int)) ∧
  nn a1 (fun (q18 : Addr) =>
  ∃ (s19 : ByteArray), w5.cell? (Addr.add q18 (Int.toNat n9)) = some ((.string s19 : Value)) ∧
  (0 ≤ (n9 : Int) ∧ (n9 : Int) < ((l1 : Nat) : Int)) ∧
  nn a1 (fun (q20 : Addr) =>
  stC (Addr.add q20 (Int.toNat n9)) (.string s17) w5 (fun (w6 : World) =>
  (0 ≤ (n9 - 1 : Int) ∧ (n9 - 1 : Int) < ((l1 : Nat) : Int)) ∧
  nn a1 (fun (q21 : Addr) =>
  stC (Addr.add q21 (Int.toNat (n9 - 1))) (.string s19) w6 (fun (w7 : World) =>
  inI (n9 - 1) ∧
  I7 [.int .i64 (n9 - 1)] w7 ∧ mu8 [.int .i64 (n9 - 1)] w7 < mu8 [.int .i64 n9] w2)))))))
  (inI (n6 + 1) ∧
  I4 [.int .i64 (n6 + 1)] w4 ∧ mu5 [.int .i64 (n6 + 1)] w4 < mu5 [.int .i64 n6] w1)))))
  (inI (n6 + 1) ∧
  I4 [.int .i64 (n6 + 1)] w3 ∧ mu5 [.int .i64 (n6 + 1)] w3 < mu5 [.int .i64 n6] w1))
  (Q (.tuple #[]) w1)
theorem C211 {a1 : Option Addr} {l1 : Nat} {c1 : Nat} {n2 : Int} {n3 : Int} {Q : Value → World → Prop} {w : World} (h : L211 a1 l1 c1 n2 n3 Q w) : CallR Tryz.prog 211 [.slice a1 l1 c1, .int .i64 n2, .int .i64 n3] w Q :=
  fun_calls (A := A211) mixed Tryz.func211 (c := (Tryz.f211.body).getD .skip) rfl (by kernel_rfl) (Eq.mp (by kernel_rfl) h)

end Go.Proofs.YtpoaacnnhgebfaaGreat
