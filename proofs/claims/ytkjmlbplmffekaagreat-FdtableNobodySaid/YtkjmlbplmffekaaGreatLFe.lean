/-
  What some functions of the program ask of the world, printed by a program out of the loaded program; each text is held against the code by evaluation. Conditions: none.
-/
import Derived.Test.YtkjmlbplmffekaaGreatProg
import Derived.Test.YtkjmlbplmffekaaGreatLm
import Derived.Test.YtkjmlbplmffekaaGreatLX
import Derived.Test.YtkjmlbplmffekaaGreatRfC
set_option linter.unusedVariables false
set_option maxRecDepth 100000
namespace Go.Proofs.YtkjmlbplmffekaaGreat
open Go.Lw
/-- millrace/millracelaw07.num -/
def A42 : Ann := ⟨[], [], [], [], [], []⟩
def L42 (n1 : Int) (Q : Value → World → Prop) (w : World) : Prop :=
  Q (.int .i64 n1) w
theorem C42 {n1 : Int} {Q : Value → World → Prop} {w : World} (h : L42 n1 Q w) : CallR Tryz.prog 42 [.int .i64 n1] w Q :=
  fun_calls (A := A42) mixed Tryz.func42 (c := (Tryz.f42.body).getD .skip) rfl (by kernel_rfl) (Eq.mp (by kernel_rfl) h)

/-- millrace/millraceplain.SameInts -/
def A51 : Ann := ⟨[(4, [(5, .one (.int .i64))])], [], [], [], [], []⟩
def L51 (a1 : Option Addr) (l1 : Nat) (c1 : Nat) (a2 : Option Addr) (l2 : Nat) (c2 : Nat) (Q : Value → World → Prop) (w : World) : Prop :=
  cond ((((l1 : Nat) : Int)) != (((l2 : Nat) : Int)))
  (Q (.bool false) w)
  (∃ (I3 : List Value → World → Prop) (mu4 : List Value → World → Nat),
  I3 [.int .i64 0] w ∧
  ∀ (_ : Env) (n5 : Int) (w1 : World), I3 [.int .i64 n5] w1 →
  cond (decide (n5 < (((l1 : Nat) : Int))))
  ((0 ≤ (n5 : Int) ∧ (n5 : Int) < ((l1 : Nat) : Int)) ∧
  nn a1 (fun (q7 : Addr) =>
  ∃ (n8 : Int), w1.cell? (Addr.add q7 (Int.toNat n5)) = some ((.int .i64 n8 : Value)) ∧
  (0 ≤ (n5 : Int) ∧ (n5 : Int) < ((l2 : Nat) : Int)) ∧
  nn a2 (fun (q9 : Addr) =>
  ∃ (n10 : Int), w1.cell? (Addr.add q9 (Int.toNat n5)) = some ((.int .i64 n10 : Value)) ∧
  ∀ nd6 : Nat, let w2 := World.drewN w1 nd6;
  cond (n8 != n10)
  (Q (.bool false) w2)
  (inI (n5 + 1) ∧
  I3 [.int .i64 (n5 + 1)] w2 ∧ mu4 [.int .i64 (n5 + 1)] w2 < mu4 [.int .i64 n5] w1))))
  (Q (.bool true) w1))
theorem C51 {a1 : Option Addr} {l1 : Nat} {c1 : Nat} {a2 : Option Addr} {l2 : Nat} {c2 : Nat} {Q : Value → World → Prop} {w : World} (h : L51 a1 l1 c1 a2 l2 c2 Q w) : CallR Tryz.prog 51 [.slice a1 l1 c1, .slice a2 l2 c2] w Q :=
  fun_calls (A := A51) mixed Tryz.func51 (c := (Tryz.f51.body).getD .skip) rfl (by kernel_rfl) (Eq.mp (by kernel_rfl) h)

/-- millrace/millracelaw07.alive -/
def A39 : Ann := ⟨[], [], [], [], [], []⟩
def L39 (Q : Value → World → Prop) (w : World) : Prop :=
  let w1 := World.alloc w (Obj.cells #[.string (ByteArray.mk #[97]), .slice none 0 0, .string (ByteArray.mk #[98]), .slice none 0 0] 77);
  CallR Tryz.prog 17 [.agg #[.slice (some (Addr.mk w.heap.size 0 none)) 2 2, .slice none 0 0, .slice none 0 0]] w1 (fun (r3 : Value) (w2 : World) =>
  ∃ (p1 : Option Addr) (n2 : Int), r3 = .tuple #[.pointer p1, .int .i64 n2] ∧
  CallR Tryz.prog 41 [.pointer p1] w2 (fun (r5 : Value) (w3 : World) =>
  ∃ (p4 : Option Addr), r5 = .pointer p4 ∧
  CallR Tryz.prog 42 [.int .i64 n2] w3 (fun (r7 : Value) (w4 : World) =>
  ∃ (n6 : Int), r7 = .int .i64 n6 ∧
  cond (n6 != 0)
  (Q (.bool false) w4)
  (cond (Option.isNone p4)
  (Q (.bool false) w4)
  (CallR Tryz.prog 43 [.pointer p4, .string (ByteArray.mk #[97]), .int .i64 1] w4 (fun (r10 : Value) (w5 : World) =>
  ∃ (n8 : Int) (n9 : Int), r10 = .tuple #[.int .i64 n8, .int .i64 n9] ∧
  CallR Tryz.prog 45 [.pointer p4, .int .i64 n8] w5 (fun (r13 : Value) (w6 : World) =>
  ∃ (n11 : Int) (n12 : Int), r13 = .tuple #[.int .i64 n11, .int .i64 n12] ∧
  CallR Tryz.prog 49 [.pointer p4, .int .i64 0] w6 (fun (r15 : Value) (w7 : World) =>
  ∃ (n14 : Int), r15 = .int .i64 n14 ∧
  CallR Tryz.prog 43 [.pointer p4, .string (ByteArray.mk #[98]), .int .i64 1] w7 (fun (r18 : Value) (w8 : World) =>
  ∃ (n16 : Int) (n17 : Int), r18 = .tuple #[.int .i64 n16, .int .i64 n17] ∧
  CallR Tryz.prog 50 [.pointer p4, .int .i64 n11, .int .i64 5] w8 (fun (r20 : Value) (w9 : World) =>
  ∃ (n19 : Int), r20 = .int .i64 n19 ∧
  CallR Tryz.prog 125 [.pointer p4, .int .i64 1, .bool true] w9 (fun (r22 : Value) (w10 : World) =>
  ∃ (n21 : Int), r22 = .int .i64 n21 ∧
  CallR Tryz.prog 53 [.pointer p4] w10 (fun (r24 : Value) (w11 : World) =>
  ∃ (p23 : Option Addr), r24 = .pointer p23 ∧
  CallR Tryz.prog 42 [.int .i64 n9] w11 (fun (r26 : Value) (w12 : World) =>
  ∃ (n25 : Int), r26 = .int .i64 n25 ∧
  CallR Tryz.prog 42 [.int .i64 n12] w12 (fun (r28 : Value) (w13 : World) =>
  ∃ (n27 : Int), r28 = .int .i64 n27 ∧
  inI (n25 + n27) ∧
  CallR Tryz.prog 42 [.int .i64 n14] w13 (fun (r30 : Value) (w14 : World) =>
  ∃ (n29 : Int), r30 = .int .i64 n29 ∧
  inI ((n25 + n27) + n29) ∧
  CallR Tryz.prog 42 [.int .i64 n17] w14 (fun (r32 : Value) (w15 : World) =>
  ∃ (n31 : Int), r32 = .int .i64 n31 ∧
  inI (((n25 + n27) + n29) + n31) ∧
  CallR Tryz.prog 42 [.int .i64 n19] w15 (fun (r34 : Value) (w16 : World) =>
  ∃ (n33 : Int), r34 = .int .i64 n33 ∧
  inI ((((n25 + n27) + n29) + n31) + n33) ∧
  CallR Tryz.prog 42 [.int .i64 n21] w16 (fun (r36 : Value) (w17 : World) =>
  ∃ (n35 : Int), r36 = .int .i64 n35 ∧
  inI (((((n25 + n27) + n29) + n31) + n33) + n35) ∧
  cond ((((((n25 + n27) + n29) + n31) + n33) + n35) == 0)
  (cond (n8 == 0)
  (cond (n11 == 1)
  (cond (n16 == 0)
  (cond (!(Option.isNone p23))
  (CallR Tryz.prog 47 [.pointer p23] w17 (fun (r38 : Value) (w18 : World) =>
  ∃ (a37 : Option Addr) (l37 : Nat) (c37 : Nat), r38 = .slice a37 l37 c37 ∧
  let w19 := World.alloc w18 (Obj.cells #[.int .i64 0, .int .i64 5] 3);
  CallR Tryz.prog 51 [.slice a37 l37 c37, .slice (some (Addr.mk w18.heap.size 0 none)) 2 2] w19 (fun (r40 : Value) (w20 : World) =>
  ∃ (b39 : Bool), r40 = .bool b39 ∧
  Q (.bool b39) w20)))
  (Q (.bool false) w17))
  (Q (.bool false) w17))
  (Q (.bool false) w17))
  (Q (.bool false) w17))
  (Q (.bool false) w17)))))))))))))))))))
theorem C39 {Q : Value → World → Prop} {w : World} (h : L39 Q w) : CallR Tryz.prog 39 [] w Q :=
  fun_calls (A := A39) mixed Tryz.func39 (c := (Tryz.f39.body).getD .skip) rfl (by kernel_rfl) (Eq.mp (by kernel_rfl) h)

end Go.Proofs.YtkjmlbplmffekaaGreat
