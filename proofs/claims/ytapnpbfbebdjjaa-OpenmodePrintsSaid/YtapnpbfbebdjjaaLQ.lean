/-
  What some functions of the program ask of the world, printed by a program out of the loaded program; each text is held against the code by evaluation. Conditions: none.
-/
import Derived.Test.YtapnpbfbebdjjaaProg
import Derived.Test.YtapnpbfbebdjjaaLm
import Derived.Test.YtapnpbfbebdjjaaLA
import Derived.Test.YtapnpbfbebdjjaaLO
import Derived.Test.YtapnpbfbebdjjaaLP
set_option linter.unusedVariables false
set_option maxRecDepth 100000
namespace Go.Proofs.Ytapnpbfbebdjjaa
open Go.Lw
/-- millrace/openmode.Check -/
def A44 : Ann := ⟨[], [], [], [], []⟩
def L44 (b1 : Bool) (b2 : Bool) (b3 : Bool) (b4 : Bool) (b5 : Bool) (b6 : Bool) (b7 : Bool) (b8 : Bool) (Q : Value → World → Prop) (w : World) : Prop :=
  let w1 := World.alloc w (Obj.cells #[.bool b1, .bool b2, .bool b3, .bool b4, .bool b5, .bool b6, .bool b7, .bool b8] 40);
  ∃ (b9 : Bool) (b10 : Bool) (b11 : Bool) (b12 : Bool) (b13 : Bool) (b14 : Bool) (b15 : Bool) (b16 : Bool), w1.cell? (Addr.mk w.heap.size 0 none) = some ((.bool b9 : Value)) ∧ w1.cell? (Addr.mk w.heap.size 1 none) = some ((.bool b10 : Value)) ∧ w1.cell? (Addr.mk w.heap.size 2 none) = some ((.bool b11 : Value)) ∧ w1.cell? (Addr.mk w.heap.size 3 none) = some ((.bool b12 : Value)) ∧ w1.cell? (Addr.mk w.heap.size 4 none) = some ((.bool b13 : Value)) ∧ w1.cell? (Addr.mk w.heap.size 5 none) = some ((.bool b14 : Value)) ∧ w1.cell? (Addr.mk w.heap.size 6 none) = some ((.bool b15 : Value)) ∧ w1.cell? (Addr.mk w.heap.size 7 none) = some ((.bool b16 : Value)) ∧ 
  CallR Try.prog 25 [.agg #[.bool b9, .bool b10, .bool b11, .bool b12, .bool b13, .bool b14, .bool b15, .bool b16]] w1 (fun (r19 : Value) (w2 : World) =>
  ∃ (s17 : ByteArray) (n18 : Int), r19 = .tuple #[.string s17, .int .i64 n18] ∧
  Q (.int .i64 n18) w2)
theorem C44 {b1 : Bool} {b2 : Bool} {b3 : Bool} {b4 : Bool} {b5 : Bool} {b6 : Bool} {b7 : Bool} {b8 : Bool} {Q : Value → World → Prop} {w : World} (h : L44 b1 b2 b3 b4 b5 b6 b7 b8 Q w) : CallR Try.prog 44 [.agg #[.bool b1, .bool b2, .bool b3, .bool b4, .bool b5, .bool b6, .bool b7, .bool b8]] w Q :=
  fun_calls (A := A44) mixed Try.func44 (c := (Try.f44.body).getD .skip) rfl (by kernel_rfl) (Eq.mp (by kernel_rfl) h)

/-- millrace/openmode.Flags -/
def A42 : Ann := ⟨[(6, [(5, .one (.int .i64)), (26, .one (.int .i64))])], [], [], [], []⟩
def L42 (b1 : Bool) (b2 : Bool) (b3 : Bool) (b4 : Bool) (b5 : Bool) (b6 : Bool) (b7 : Bool) (b8 : Bool) (Q : Value → World → Prop) (w : World) : Prop :=
  let w1 := World.alloc w (Obj.cells #[.bool b1, .bool b2, .bool b3, .bool b4, .bool b5, .bool b6, .bool b7, .bool b8] 40);
  ∃ (b9 : Bool) (b10 : Bool) (b11 : Bool) (b12 : Bool) (b13 : Bool) (b14 : Bool) (b15 : Bool) (b16 : Bool), w1.cell? (Addr.mk w.heap.size 0 none) = some ((.bool b9 : Value)) ∧ w1.cell? (Addr.mk w.heap.size 1 none) = some ((.bool b10 : Value)) ∧ w1.cell? (Addr.mk w.heap.size 2 none) = some ((.bool b11 : Value)) ∧ w1.cell? (Addr.mk w.heap.size 3 none) = some ((.bool b12 : Value)) ∧ w1.cell? (Addr.mk w.heap.size 4 none) = some ((.bool b13 : Value)) ∧ w1.cell? (Addr.mk w.heap.size 5 none) = some ((.bool b14 : Value)) ∧ w1.cell? (Addr.mk w.heap.size 6 none) = some ((.bool b15 : Value)) ∧ w1.cell? (Addr.mk w.heap.size 7 none) = some ((.bool b16 : Value)) ∧ 
  CallR Try.prog 44 [.agg #[.bool b9, .bool b10, .bool b11, .bool b12, .bool b13, .bool b14, .bool b15, .bool b16]] w1 (fun (r18 : Value) (w2 : World) =>
  ∃ (n17 : Int), r18 = .int .i64 n17 ∧
  cond (n17 != 0)
  (Q (.tuple #[.int .i64 0, .int .i64 n17]) w2)
  (∃ (b19 : Bool), w2.cell? (Addr.mk w.heap.size 0 none) = some ((.bool b19 : Value)) ∧
  ∃ (b20 : Bool), w2.cell? (Addr.mk w.heap.size 1 none) = some ((.bool b20 : Value)) ∧
  ∃ (b21 : Bool), w2.cell? (Addr.mk w.heap.size 2 none) = some ((.bool b21 : Value)) ∧
  ∃ (b22 : Bool), w2.cell? (Addr.mk w.heap.size 3 none) = some ((.bool b22 : Value)) ∧
  ∃ (b23 : Bool), w2.cell? (Addr.mk w.heap.size 4 none) = some ((.bool b23 : Value)) ∧
  ∃ (b24 : Bool), w2.cell? (Addr.mk w.heap.size 5 none) = some ((.bool b24 : Value)) ∧
  ∃ (I25 : List Value → World → Prop) (mu26 : List Value → World → Nat),
  I25 [.int .i64 0, .int .i64 0] w2 ∧
  ∀ (_ : Env) (n27 : Int) (n28 : Int) (w3 : World), I25 [.int .i64 n27, .int .i64 n28] w3 →
  cond (decide (n28 < 6))
  ((0 ≤ (n28 : Int) ∧ (n28 : Int) < ((6 : Nat) : Int)) ∧
  ∃ (b29 : Bool), (#[.bool b19, .bool b20, .bool b21, .bool b22, .bool b23, .bool b24] : Array Value)[Int.toNat n28]? = some (.bool b29) ∧
  cond b29
  (0 ≤ (n28 : Int) ∧
  inI (n28 + 1) ∧
  I25 [.int .i64 (IntKind.wrap .i64 ↑(BitVec.ofInt (IntKind.bits .i64) n27 ||| BitVec.ofInt (IntKind.bits .i64) (IntKind.wrap .i64 ((1 : Int) * 2 ^ (min (Int.toNat n28) (IntKind.bits .i64))))).toNat), .int .i64 (n28 + 1)] w3 ∧ mu26 [.int .i64 (IntKind.wrap .i64 ↑(BitVec.ofInt (IntKind.bits .i64) n27 ||| BitVec.ofInt (IntKind.bits .i64) (IntKind.wrap .i64 ((1 : Int) * 2 ^ (min (Int.toNat n28) (IntKind.bits .i64))))).toNat), .int .i64 (n28 + 1)] w3 < mu26 [.int .i64 n27, .int .i64 n28] w3)
  (inI (n28 + 1) ∧
  I25 [.int .i64 n27, .int .i64 (n28 + 1)] w3 ∧ mu26 [.int .i64 n27, .int .i64 (n28 + 1)] w3 < mu26 [.int .i64 n27, .int .i64 n28] w3))
  (Q (.tuple #[.int .i64 n27, .int .i64 0]) w3)))
theorem C42 {b1 : Bool} {b2 : Bool} {b3 : Bool} {b4 : Bool} {b5 : Bool} {b6 : Bool} {b7 : Bool} {b8 : Bool} {Q : Value → World → Prop} {w : World} (h : L42 b1 b2 b3 b4 b5 b6 b7 b8 Q w) : CallR Try.prog 42 [.agg #[.bool b1, .bool b2, .bool b3, .bool b4, .bool b5, .bool b6, .bool b7, .bool b8]] w Q :=
  fun_calls (A := A42) mixed Try.func42 (c := (Try.f42.body).getD .skip) rfl (by kernel_rfl) (Eq.mp (by kernel_rfl) h)

/-- millrace/millraceref09.letters -/
def A61 : Ann := ⟨[], [(6, [(3, .one (.str))]), (8, [(3, .one (.str))])], [], [], []⟩
def L61 (b1 : Bool) (b2 : Bool) (b3 : Bool) (b4 : Bool) (b5 : Bool) (b6 : Bool) (b7 : Bool) (b8 : Bool) (Q : Value → World → Prop) (w : World) : Prop :=
  let w1 := World.alloc w (Obj.cells #[.bool b1, .bool b2, .bool b3, .bool b4, .bool b5, .bool b6, .bool b7, .bool b8] 40);
  ∃ (J9 : List Value → World → Prop),
  (∃ (b10 : Bool), w1.cell? (Addr.mk w.heap.size 2 none) = some ((.bool b10 : Value)) ∧
  cond b10
  (J9 [.string (ByteArray.mk #[97])] w1)
  (∃ (b11 : Bool), w1.cell? (Addr.mk w.heap.size 3 none) = some ((.bool b11 : Value)) ∧
  cond b11
  (J9 [.string (ByteArray.mk #[119])] w1)
  (J9 [.string (ByteArray.mk #[114])] w1))) ∧
  (∀ (_ : Env) (s12 : ByteArray) (w2 : World), J9 [.string s12] w2 →
  ∃ (J13 : List Value → World → Prop),
  (∃ (b14 : Bool), w2.cell? (Addr.mk w.heap.size 0 none) = some ((.bool b14 : Value)) ∧
  cond b14
  (∃ (b15 : Bool), w2.cell? (Addr.mk w.heap.size 1 none) = some ((.bool b15 : Value)) ∧
  cond b15
  (ByteArray.size s12 + ByteArray.size (ByteArray.mk #[43]) ≤ 9223372036854775807 ∧
  J13 [.string (s12 ++ (ByteArray.mk #[43]))] w2)
  (J13 [.string s12] w2))
  (J13 [.string s12] w2)) ∧
  (∀ (_ : Env) (s16 : ByteArray) (w3 : World), J13 [.string s16] w3 →
  ∃ (b17 : Bool), w3.cell? (Addr.mk w.heap.size 6 none) = some ((.bool b17 : Value)) ∧
  cond b17
  (ByteArray.size s16 + ByteArray.size (ByteArray.mk #[98]) ≤ 9223372036854775807 ∧
  ∃ (b18 : Bool), w3.cell? (Addr.mk w.heap.size 5 none) = some ((.bool b18 : Value)) ∧
  cond b18
  (ByteArray.size (s16 ++ (ByteArray.mk #[98])) + ByteArray.size (ByteArray.mk #[120]) ≤ 9223372036854775807 ∧
  ∃ (b19 : Bool), w3.cell? (Addr.mk w.heap.size 7 none) = some ((.bool b19 : Value)) ∧
  cond b19
  (ByteArray.size ((s16 ++ (ByteArray.mk #[98])) ++ (ByteArray.mk #[120])) + ByteArray.size (ByteArray.mk #[101]) ≤ 9223372036854775807 ∧
  Q (.string (((s16 ++ (ByteArray.mk #[98])) ++ (ByteArray.mk #[120])) ++ (ByteArray.mk #[101]))) w3)
  (Q (.string ((s16 ++ (ByteArray.mk #[98])) ++ (ByteArray.mk #[120]))) w3))
  (∃ (b20 : Bool), w3.cell? (Addr.mk w.heap.size 7 none) = some ((.bool b20 : Value)) ∧
  cond b20
  (ByteArray.size (s16 ++ (ByteArray.mk #[98])) + ByteArray.size (ByteArray.mk #[101]) ≤ 9223372036854775807 ∧
  Q (.string ((s16 ++ (ByteArray.mk #[98])) ++ (ByteArray.mk #[101]))) w3)
  (Q (.string (s16 ++ (ByteArray.mk #[98]))) w3)))
  (∃ (b21 : Bool), w3.cell? (Addr.mk w.heap.size 5 none) = some ((.bool b21 : Value)) ∧
  cond b21
  (ByteArray.size s16 + ByteArray.size (ByteArray.mk #[120]) ≤ 9223372036854775807 ∧
  ∃ (b22 : Bool), w3.cell? (Addr.mk w.heap.size 7 none) = some ((.bool b22 : Value)) ∧
  cond b22
  (ByteArray.size (s16 ++ (ByteArray.mk #[120])) + ByteArray.size (ByteArray.mk #[101]) ≤ 9223372036854775807 ∧
  Q (.string ((s16 ++ (ByteArray.mk #[120])) ++ (ByteArray.mk #[101]))) w3)
  (Q (.string (s16 ++ (ByteArray.mk #[120]))) w3))
  (∃ (b23 : Bool), w3.cell? (Addr.mk w.heap.size 7 none) = some ((.bool b23 : Value)) ∧
  cond b23
  (ByteArray.size s16 + ByteArray.size (ByteArray.mk #[101]) ≤ 9223372036854775807 ∧
  Q (.string (s16 ++ (ByteArray.mk #[101]))) w3)
  (Q (.string s16) w3)))))
theorem C61 {b1 : Bool} {b2 : Bool} {b3 : Bool} {b4 : Bool} {b5 : Bool} {b6 : Bool} {b7 : Bool} {b8 : Bool} {Q : Value → World → Prop} {w : World} (h : L61 b1 b2 b3 b4 b5 b6 b7 b8 Q w) : CallR Try.prog 61 [.agg #[.bool b1, .bool b2, .bool b3, .bool b4, .bool b5, .bool b6, .bool b7, .bool b8]] w Q :=
  fun_calls (A := A61) mixed Try.func61 (c := (Try.f61.body).getD .skip) rfl (by kernel_rfl) (Eq.mp (by kernel_rfl) h)

/-- millrace/millraceref09.Check -/
def A45 : Ann := ⟨[], [], [], [], []⟩
def L45 (b1 : Bool) (b2 : Bool) (b3 : Bool) (b4 : Bool) (b5 : Bool) (b6 : Bool) (b7 : Bool) (b8 : Bool) (Q : Value → World → Prop) (w : World) : Prop :=
  let w1 := World.alloc w (Obj.cells #[.bool b1, .bool b2, .bool b3, .bool b4, .bool b5, .bool b6, .bool b7, .bool b8] 40);
  ∃ (b9 : Bool) (b10 : Bool) (b11 : Bool) (b12 : Bool) (b13 : Bool) (b14 : Bool) (b15 : Bool) (b16 : Bool), w1.cell? (Addr.mk w.heap.size 0 none) = some ((.bool b9 : Value)) ∧ w1.cell? (Addr.mk w.heap.size 1 none) = some ((.bool b10 : Value)) ∧ w1.cell? (Addr.mk w.heap.size 2 none) = some ((.bool b11 : Value)) ∧ w1.cell? (Addr.mk w.heap.size 3 none) = some ((.bool b12 : Value)) ∧ w1.cell? (Addr.mk w.heap.size 4 none) = some ((.bool b13 : Value)) ∧ w1.cell? (Addr.mk w.heap.size 5 none) = some ((.bool b14 : Value)) ∧ w1.cell? (Addr.mk w.heap.size 6 none) = some ((.bool b15 : Value)) ∧ w1.cell? (Addr.mk w.heap.size 7 none) = some ((.bool b16 : Value)) ∧ 
  CallR Try.prog 61 [.agg #[.bool b9, .bool b10, .bool b11, .bool b12, .bool b13, .bool b14, .bool b15, .bool b16]] w1 (fun (r18 : Value) (w2 : World) =>
  ∃ (s17 : ByteArray), r18 = .string s17 ∧
  CallR Try.prog 22 [.string s17] w2 (fun (r29 : Value) (w3 : World) =>
  ∃ (b19 : Bool) (b20 : Bool) (b21 : Bool) (b22 : Bool) (b23 : Bool) (b24 : Bool) (b25 : Bool) (b26 : Bool) (n27 : Int) (n28 : Int), r29 = .tuple #[.agg #[.bool b19, .bool b20, .bool b21, .bool b22, .bool b23, .bool b24, .bool b25, .bool b26], .int .i64 n27, .int .i64 n28] ∧
  let w4 := World.alloc w3 (Obj.cells #[.bool false, .bool false, .bool false, .bool false, .bool false, .bool false, .bool false, .bool false] 40);
  stC (Addr.mk w3.heap.size 0 none) (.bool b19) w4 (fun (w5 : World) =>
  stC (Addr.mk w3.heap.size 1 none) (.bool b20) w5 (fun (w6 : World) =>
  stC (Addr.mk w3.heap.size 2 none) (.bool b21) w6 (fun (w7 : World) =>
  stC (Addr.mk w3.heap.size 3 none) (.bool b22) w7 (fun (w8 : World) =>
  stC (Addr.mk w3.heap.size 4 none) (.bool b23) w8 (fun (w9 : World) =>
  stC (Addr.mk w3.heap.size 5 none) (.bool b24) w9 (fun (w10 : World) =>
  stC (Addr.mk w3.heap.size 6 none) (.bool b25) w10 (fun (w11 : World) =>
  stC (Addr.mk w3.heap.size 7 none) (.bool b26) w11 (fun (w12 : World) =>
  cond (n27 != 0)
  (Q (.int .i64 91) w12)
  (∃ (b30 : Bool) (b31 : Bool) (b32 : Bool) (b33 : Bool) (b34 : Bool) (b35 : Bool) (b36 : Bool) (b37 : Bool), w12.cell? (Addr.mk w3.heap.size 0 none) = some ((.bool b30 : Value)) ∧ w12.cell? (Addr.mk w3.heap.size 1 none) = some ((.bool b31 : Value)) ∧ w12.cell? (Addr.mk w3.heap.size 2 none) = some ((.bool b32 : Value)) ∧ w12.cell? (Addr.mk w3.heap.size 3 none) = some ((.bool b33 : Value)) ∧ w12.cell? (Addr.mk w3.heap.size 4 none) = some ((.bool b34 : Value)) ∧ w12.cell? (Addr.mk w3.heap.size 5 none) = some ((.bool b35 : Value)) ∧ w12.cell? (Addr.mk w3.heap.size 6 none) = some ((.bool b36 : Value)) ∧ w12.cell? (Addr.mk w3.heap.size 7 none) = some ((.bool b37 : Value)) ∧ 
  ∃ (b38 : Bool) (b39 : Bool) (b40 : Bool) (b41 : Bool) (b42 : Bool) (b43 : Bool) (b44 : Bool) (b45 : Bool), w12.cell? (Addr.mk w.heap.size 0 none) = some ((.bool b38 : Value)) ∧ w12.cell? (Addr.mk w.heap.size 1 none) = some ((.bool b39 : Value)) ∧ w12.cell? (Addr.mk w.heap.size 2 none) = some ((.bool b40 : Value)) ∧ w12.cell? (Addr.mk w.heap.size 3 none) = some ((.bool b41 : Value)) ∧ w12.cell? (Addr.mk w.heap.size 4 none) = some ((.bool b42 : Value)) ∧ w12.cell? (Addr.mk w.heap.size 5 none) = some ((.bool b43 : Value)) ∧ w12.cell? (Addr.mk w.heap.size 6 none) = some ((.bool b44 : Value)) ∧ w12.cell? (Addr.mk w.heap.size 7 none) = some ((.bool b45 : Value)) ∧ 
  ∃ (b46 : Bool) (w13 : World), Sem.run Try.prog (Sem.bind (eqGuard .neq 40 (.tmp 16) (.tmp 17) (.agg #[.bool b30, .bool b31, .bool b32, .bool b33, .bool b34, .bool b35, .bool b36, .bool b37]) (.agg #[.bool b38, .bool b39, .bool b40, .bool b41, .bool b42, .bool b43, .bool b44, .bool b45])) (fun _ => binOp .neq 40 (.agg #[.bool b30, .bool b31, .bool b32, .bool b33, .bool b34, .bool b35, .bool b36, .bool b37]) (.agg #[.bool b38, .bool b39, .bool b40, .bool b41, .bool b42, .bool b43, .bool b44, .bool b45]))) w12 = .ok ((.bool b46 : Value)) w13 ∧
  cond b46
  (Q (.int .i64 91) w13)
  (Q (.int .i64 0) w13))))))))))))
theorem C45 {b1 : Bool} {b2 : Bool} {b3 : Bool} {b4 : Bool} {b5 : Bool} {b6 : Bool} {b7 : Bool} {b8 : Bool} {Q : Value → World → Prop} {w : World} (h : L45 b1 b2 b3 b4 b5 b6 b7 b8 Q w) : CallR Try.prog 45 [.agg #[.bool b1, .bool b2, .bool b3, .bool b4, .bool b5, .bool b6, .bool b7, .bool b8]] w Q :=
  fun_calls (A := A45) mixed Try.func45 (c := (Try.f45.body).getD .skip) rfl (by kernel_rfl) (Eq.mp (by kernel_rfl) h)

/-- millrace/millraceref09.Print -/
def A41 : Ann := ⟨[], [], [], [], []⟩
def L41 (b1 : Bool) (b2 : Bool) (b3 : Bool) (b4 : Bool) (b5 : Bool) (b6 : Bool) (b7 : Bool) (b8 : Bool) (Q : Value → World → Prop) (w : World) : Prop :=
  let w1 := World.alloc w (Obj.cells #[.bool b1, .bool b2, .bool b3, .bool b4, .bool b5, .bool b6, .bool b7, .bool b8] 40);
  ∃ (b9 : Bool) (b10 : Bool) (b11 : Bool) (b12 : Bool) (b13 : Bool) (b14 : Bool) (b15 : Bool) (b16 : Bool), w1.cell? (Addr.mk w.heap.size 0 none) = some ((.bool b9 : Value)) ∧ w1.cell? (Addr.mk w.heap.size 1 none) = some ((.bool b10 : Value)) ∧ w1.cell? (Addr.mk w.heap.size 2 none) = some ((.bool b11 : Value)) ∧ w1.cell? (Addr.mk w.heap.size 3 none) = some ((.bool b12 : Value)) ∧ w1.cell? (Addr.mk w.heap.size 4 none) = some ((.bool b13 : Value)) ∧ w1.cell? (Addr.mk w.heap.size 5 none) = some ((.bool b14 : Value)) ∧ w1.cell? (Addr.mk w.heap.size 6 none) = some ((.bool b15 : Value)) ∧ w1.cell? (Addr.mk w.heap.size 7 none) = some ((.bool b16 : Value)) ∧ 
  CallR Try.prog 45 [.agg #[.bool b9, .bool b10, .bool b11, .bool b12, .bool b13, .bool b14, .bool b15, .bool b16]] w1 (fun (r18 : Value) (w2 : World) =>
  ∃ (n17 : Int), r18 = .int .i64 n17 ∧
  cond (n17 != 0)
  (Q (.tuple #[.string (ByteArray.mk #[]), .int .i64 91]) w2)
  (∃ (b19 : Bool) (b20 : Bool) (b21 : Bool) (b22 : Bool) (b23 : Bool) (b24 : Bool) (b25 : Bool) (b26 : Bool), w2.cell? (Addr.mk w.heap.size 0 none) = some ((.bool b19 : Value)) ∧ w2.cell? (Addr.mk w.heap.size 1 none) = some ((.bool b20 : Value)) ∧ w2.cell? (Addr.mk w.heap.size 2 none) = some ((.bool b21 : Value)) ∧ w2.cell? (Addr.mk w.heap.size 3 none) = some ((.bool b22 : Value)) ∧ w2.cell? (Addr.mk w.heap.size 4 none) = some ((.bool b23 : Value)) ∧ w2.cell? (Addr.mk w.heap.size 5 none) = some ((.bool b24 : Value)) ∧ w2.cell? (Addr.mk w.heap.size 6 none) = some ((.bool b25 : Value)) ∧ w2.cell? (Addr.mk w.heap.size 7 none) = some ((.bool b26 : Value)) ∧ 
  CallR Try.prog 61 [.agg #[.bool b19, .bool b20, .bool b21, .bool b22, .bool b23, .bool b24, .bool b25, .bool b26]] w2 (fun (r28 : Value) (w3 : World) =>
  ∃ (s27 : ByteArray), r28 = .string s27 ∧
  Q (.tuple #[.string s27, .int .i64 0]) w3)))
theorem C41 {b1 : Bool} {b2 : Bool} {b3 : Bool} {b4 : Bool} {b5 : Bool} {b6 : Bool} {b7 : Bool} {b8 : Bool} {Q : Value → World → Prop} {w : World} (h : L41 b1 b2 b3 b4 b5 b6 b7 b8 Q w) : CallR Try.prog 41 [.agg #[.bool b1, .bool b2, .bool b3, .bool b4, .bool b5, .bool b6, .bool b7, .bool b8]] w Q :=
  fun_calls (A := A41) mixed Try.func41 (c := (Try.f41.body).getD .skip) rfl (by kernel_rfl) (Eq.mp (by kernel_rfl) h)

/-- millrace/millraceref09.Flags -/
def A43 : Ann := ⟨[], [(6, [(4, .one (.int .i64))]), (8, [(4, .one (.int .i64))]), (10, [(4, .one (.int .i64))])], [], [], []⟩
def L43 (b1 : Bool) (b2 : Bool) (b3 : Bool) (b4 : Bool) (b5 : Bool) (b6 : Bool) (b7 : Bool) (b8 : Bool) (Q : Value → World → Prop) (w : World) : Prop :=
  let w1 := World.alloc w (Obj.cells #[.bool b1, .bool b2, .bool b3, .bool b4, .bool b5, .bool b6, .bool b7, .bool b8] 40);
  ∃ (b9 : Bool) (b10 : Bool) (b11 : Bool) (b12 : Bool) (b13 : Bool) (b14 : Bool) (b15 : Bool) (b16 : Bool), w1.cell? (Addr.mk w.heap.size 0 none) = some ((.bool b9 : Value)) ∧ w1.cell? (Addr.mk w.heap.size 1 none) = some ((.bool b10 : Value)) ∧ w1.cell? (Addr.mk w.heap.size 2 none) = some ((.bool b11 : Value)) ∧ w1.cell? (Addr.mk w.heap.size 3 none) = some ((.bool b12 : Value)) ∧ w1.cell? (Addr.mk w.heap.size 4 none) = some ((.bool b13 : Value)) ∧ w1.cell? (Addr.mk w.heap.size 5 none) = some ((.bool b14 : Value)) ∧ w1.cell? (Addr.mk w.heap.size 6 none) = some ((.bool b15 : Value)) ∧ w1.cell? (Addr.mk w.heap.size 7 none) = some ((.bool b16 : Value)) ∧ 
  CallR Try.prog 45 [.agg #[.bool b9, .bool b10, .bool b11, .bool b12, .bool b13, .bool b14, .bool b15, .bool b16]] w1 (fun (r18 : Value) (w2 : World) =>
  ∃ (n17 : Int), r18 = .int .i64 n17 ∧
  cond (n17 != 0)
  (Q (.tuple #[.int .i64 0, .int .i64 91]) w2)
  (∃ (J19 : List Value → World → Prop),
  (∃ (b20 : Bool), w2.cell? (Addr.mk w.heap.size 0 none) = some ((.bool b20 : Value)) ∧
  cond b20
  (inI ((0 : Int) + 1) ∧
  J19 [.int .i64 ((0 : Int) + 1)] w2)
  (J19 [.int .i64 0] w2)) ∧
  (∀ (_ : Env) (n21 : Int) (w3 : World), J19 [.int .i64 n21] w3 →
  ∃ (J22 : List Value → World → Prop),
  (∃ (b23 : Bool), w3.cell? (Addr.mk w.heap.size 1 none) = some ((.bool b23 : Value)) ∧
  cond b23
  (inI (n21 + 2) ∧
  J22 [.int .i64 (n21 + 2)] w3)
  (J22 [.int .i64 n21] w3)) ∧
  (∀ (_ : Env) (n24 : Int) (w4 : World), J22 [.int .i64 n24] w4 →
  ∃ (J25 : List Value → World → Prop),
  (∃ (b26 : Bool), w4.cell? (Addr.mk w.heap.size 2 none) = some ((.bool b26 : Value)) ∧
  cond b26
  (inI (n24 + 4) ∧
  J25 [.int .i64 (n24 + 4)] w4)
  (J25 [.int .i64 n24] w4)) ∧
  (∀ (_ : Env) (n27 : Int) (w5 : World), J25 [.int .i64 n27] w5 →
  ∃ (b28 : Bool), w5.cell? (Addr.mk w.heap.size 3 none) = some ((.bool b28 : Value)) ∧
  cond b28
  (inI (n27 + 8) ∧
  ∃ (b29 : Bool), w5.cell? (Addr.mk w.heap.size 4 none) = some ((.bool b29 : Value)) ∧
  cond b29
  (inI ((n27 + 8) + 16) ∧
  ∃ (b30 : Bool), w5.cell? (Addr.mk w.heap.size 5 none) = some ((.bool b30 : Value)) ∧
  cond b30
  (inI (((n27 + 8) + 16) + 32) ∧
  Q (.tuple #[.int .i64 (((n27 + 8) + 16) + 32), .int .i64 0]) w5)
  (Q (.tuple #[.int .i64 ((n27 + 8) + 16), .int .i64 0]) w5))
  (∃ (b31 : Bool), w5.cell? (Addr.mk w.heap.size 5 none) = some ((.bool b31 : Value)) ∧
  cond b31
  (inI ((n27 + 8) + 32) ∧
  Q (.tuple #[.int .i64 ((n27 + 8) + 32), .int .i64 0]) w5)
  (Q (.tuple #[.int .i64 (n27 + 8), .int .i64 0]) w5)))
  (∃ (b32 : Bool), w5.cell? (Addr.mk w.heap.size 4 none) = some ((.bool b32 : Value)) ∧
  cond b32
  (inI (n27 + 16) ∧
  ∃ (b33 : Bool), w5.cell? (Addr.mk w.heap.size 5 none) = some ((.bool b33 : Value)) ∧
  cond b33
  (inI ((n27 + 16) + 32) ∧
  Q (.tuple #[.int .i64 ((n27 + 16) + 32), .int .i64 0]) w5)
  (Q (.tuple #[.int .i64 (n27 + 16), .int .i64 0]) w5))
  (∃ (b34 : Bool), w5.cell? (Addr.mk w.heap.size 5 none) = some ((.bool b34 : Value)) ∧
  cond b34
  (inI (n27 + 32) ∧
  Q (.tuple #[.int .i64 (n27 + 32), .int .i64 0]) w5)
  (Q (.tuple #[.int .i64 n27, .int .i64 0]) w5))))))))
theorem C43 {b1 : Bool} {b2 : Bool} {b3 : Bool} {b4 : Bool} {b5 : Bool} {b6 : Bool} {b7 : Bool} {b8 : Bool} {Q : Value → World → Prop} {w : World} (h : L43 b1 b2 b3 b4 b5 b6 b7 b8 Q w) : CallR Try.prog 43 [.agg #[.bool b1, .bool b2, .bool b3, .bool b4, .bool b5, .bool b6, .bool b7, .bool b8]] w Q :=
  fun_calls (A := A43) mixed Try.func43 (c := (Try.f43.body).getD .skip) rfl (by kernel_rfl) (Eq.mp (by kernel_rfl) h)

/-- millrace/millracelaw09.OpenmodePrints -/
def A11 : Ann := ⟨[], [], [], [], [(5, [0, 3, 1, 2], 4, [5, 6, 7, 8, 9, 10, 11, 12, 14, 13, 15, 16, 17, 18, 19, 20, 21, 22, 23, 25, 24, 26, 27, 28, 29, 30, 31])]⟩
def L11 (b1 : Bool) (b2 : Bool) (b3 : Bool) (b4 : Bool) (b5 : Bool) (b6 : Bool) (b7 : Bool) (b8 : Bool) (Q : Value → World → Prop) (w : World) : Prop :=
  let w1 := World.alloc w (Obj.cells #[.bool b1, .bool b2, .bool b3, .bool b4, .bool b5, .bool b6, .bool b7, .bool b8] 40);
  ∃ (b9 : Bool) (b10 : Bool) (b11 : Bool) (b12 : Bool) (b13 : Bool) (b14 : Bool) (b15 : Bool) (b16 : Bool), w1.cell? (Addr.mk w.heap.size 0 none) = some ((.bool b9 : Value)) ∧ w1.cell? (Addr.mk w.heap.size 1 none) = some ((.bool b10 : Value)) ∧ w1.cell? (Addr.mk w.heap.size 2 none) = some ((.bool b11 : Value)) ∧ w1.cell? (Addr.mk w.heap.size 3 none) = some ((.bool b12 : Value)) ∧ w1.cell? (Addr.mk w.heap.size 4 none) = some ((.bool b13 : Value)) ∧ w1.cell? (Addr.mk w.heap.size 5 none) = some ((.bool b14 : Value)) ∧ w1.cell? (Addr.mk w.heap.size 6 none) = some ((.bool b15 : Value)) ∧ w1.cell? (Addr.mk w.heap.size 7 none) = some ((.bool b16 : Value)) ∧ 
  CallR Try.prog 25 [.agg #[.bool b9, .bool b10, .bool b11, .bool b12, .bool b13, .bool b14, .bool b15, .bool b16]] w1 (fun (r19 : Value) (w2 : World) =>
  ∃ (s17 : ByteArray) (n18 : Int), r19 = .tuple #[.string s17, .int .i64 n18] ∧
  ∃ (b20 : Bool) (b21 : Bool) (b22 : Bool) (b23 : Bool) (b24 : Bool) (b25 : Bool) (b26 : Bool) (b27 : Bool), w2.cell? (Addr.mk w.heap.size 0 none) = some ((.bool b20 : Value)) ∧ w2.cell? (Addr.mk w.heap.size 1 none) = some ((.bool b21 : Value)) ∧ w2.cell? (Addr.mk w.heap.size 2 none) = some ((.bool b22 : Value)) ∧ w2.cell? (Addr.mk w.heap.size 3 none) = some ((.bool b23 : Value)) ∧ w2.cell? (Addr.mk w.heap.size 4 none) = some ((.bool b24 : Value)) ∧ w2.cell? (Addr.mk w.heap.size 5 none) = some ((.bool b25 : Value)) ∧ w2.cell? (Addr.mk w.heap.size 6 none) = some ((.bool b26 : Value)) ∧ w2.cell? (Addr.mk w.heap.size 7 none) = some ((.bool b27 : Value)) ∧ 
  CallR Try.prog 41 [.agg #[.bool b20, .bool b21, .bool b22, .bool b23, .bool b24, .bool b25, .bool b26, .bool b27]] w2 (fun (r30 : Value) (w3 : World) =>
  ∃ (s28 : ByteArray) (n29 : Int), r30 = .tuple #[.string s28, .int .i64 n29] ∧
  ∃ (b31 : Bool) (b32 : Bool) (b33 : Bool) (b34 : Bool) (b35 : Bool) (b36 : Bool) (b37 : Bool) (b38 : Bool), w3.cell? (Addr.mk w.heap.size 0 none) = some ((.bool b31 : Value)) ∧ w3.cell? (Addr.mk w.heap.size 1 none) = some ((.bool b32 : Value)) ∧ w3.cell? (Addr.mk w.heap.size 2 none) = some ((.bool b33 : Value)) ∧ w3.cell? (Addr.mk w.heap.size 3 none) = some ((.bool b34 : Value)) ∧ w3.cell? (Addr.mk w.heap.size 4 none) = some ((.bool b35 : Value)) ∧ w3.cell? (Addr.mk w.heap.size 5 none) = some ((.bool b36 : Value)) ∧ w3.cell? (Addr.mk w.heap.size 6 none) = some ((.bool b37 : Value)) ∧ w3.cell? (Addr.mk w.heap.size 7 none) = some ((.bool b38 : Value)) ∧ 
  CallR Try.prog 42 [.agg #[.bool b31, .bool b32, .bool b33, .bool b34, .bool b35, .bool b36, .bool b37, .bool b38]] w3 (fun (r41 : Value) (w4 : World) =>
  ∃ (n39 : Int) (n40 : Int), r41 = .tuple #[.int .i64 n39, .int .i64 n40] ∧
  ∃ (b42 : Bool) (b43 : Bool) (b44 : Bool) (b45 : Bool) (b46 : Bool) (b47 : Bool) (b48 : Bool) (b49 : Bool), w4.cell? (Addr.mk w.heap.size 0 none) = some ((.bool b42 : Value)) ∧ w4.cell? (Addr.mk w.heap.size 1 none) = some ((.bool b43 : Value)) ∧ w4.cell? (Addr.mk w.heap.size 2 none) = some ((.bool b44 : Value)) ∧ w4.cell? (Addr.mk w.heap.size 3 none) = some ((.bool b45 : Value)) ∧ w4.cell? (Addr.mk w.heap.size 4 none) = some ((.bool b46 : Value)) ∧ w4.cell? (Addr.mk w.heap.size 5 none) = some ((.bool b47 : Value)) ∧ w4.cell? (Addr.mk w.heap.size 6 none) = some ((.bool b48 : Value)) ∧ w4.cell? (Addr.mk w.heap.size 7 none) = some ((.bool b49 : Value)) ∧ 
  CallR Try.prog 43 [.agg #[.bool b42, .bool b43, .bool b44, .bool b45, .bool b46, .bool b47, .bool b48, .bool b49]] w4 (fun (r52 : Value) (w5 : World) =>
  ∃ (n50 : Int) (n51 : Int), r52 = .tuple #[.int .i64 n50, .int .i64 n51] ∧
  ∃ (S53 : World → Prop), S53 (World.drew w5) ∧
  let w6 := World.drew w5;
  ∃ (b54 : Bool) (b55 : Bool) (b56 : Bool) (b57 : Bool) (b58 : Bool) (b59 : Bool) (b60 : Bool) (b61 : Bool), (∀ wS : World, S53 wS → wS.cell? (Addr.mk w.heap.size 0 none) = some ((.bool b54 : Value)) ∧ wS.cell? (Addr.mk w.heap.size 1 none) = some ((.bool b55 : Value)) ∧ wS.cell? (Addr.mk w.heap.size 2 none) = some ((.bool b56 : Value)) ∧ wS.cell? (Addr.mk w.heap.size 3 none) = some ((.bool b57 : Value)) ∧ wS.cell? (Addr.mk w.heap.size 4 none) = some ((.bool b58 : Value)) ∧ wS.cell? (Addr.mk w.heap.size 5 none) = some ((.bool b59 : Value)) ∧ wS.cell? (Addr.mk w.heap.size 6 none) = some ((.bool b60 : Value)) ∧ wS.cell? (Addr.mk w.heap.size 7 none) = some ((.bool b61 : Value)) ∧ True) ∧
  ∃ (b62 : Bool) (b63 : Bool) (b64 : Bool) (b65 : Bool) (b66 : Bool) (b67 : Bool) (b68 : Bool) (b69 : Bool), (∀ wS : World, S53 wS → wS.cell? (Addr.mk w.heap.size 0 none) = some ((.bool b62 : Value)) ∧ wS.cell? (Addr.mk w.heap.size 1 none) = some ((.bool b63 : Value)) ∧ wS.cell? (Addr.mk w.heap.size 2 none) = some ((.bool b64 : Value)) ∧ wS.cell? (Addr.mk w.heap.size 3 none) = some ((.bool b65 : Value)) ∧ wS.cell? (Addr.mk w.heap.size 4 none) = some ((.bool b66 : Value)) ∧ wS.cell? (Addr.mk w.heap.size 5 none) = some ((.bool b67 : Value)) ∧ wS.cell? (Addr.mk w.heap.size 6 none) = some ((.bool b68 : Value)) ∧ wS.cell? (Addr.mk w.heap.size 7 none) = some ((.bool b69 : Value)) ∧ True) ∧
  CallR Try.prog 44 [.agg #[.bool b54, .bool b55, .bool b56, .bool b57, .bool b58, .bool b59, .bool b60, .bool b61]] w6 (fun (r71 : Value) (w7 : World) =>
  ∃ (n70 : Int), r71 = .int .i64 n70 ∧
  S53 w7 ∧
  CallR Try.prog 23 [.int .i64 n70] w7 (fun (r73 : Value) (w8 : World) =>
  ∃ (n72 : Int), r73 = .int .i64 n72 ∧
  S53 w8 ∧
  CallR Try.prog 45 [.agg #[.bool b62, .bool b63, .bool b64, .bool b65, .bool b66, .bool b67, .bool b68, .bool b69]] w8 (fun (r75 : Value) (w9 : World) =>
  ∃ (n74 : Int), r75 = .int .i64 n74 ∧
  cond (n72 == n74)
  (cond (ByteArray.toList s17 == ByteArray.toList s28)
  (CallR Try.prog 23 [.int .i64 n18] w9 (fun (r77 : Value) (w10 : World) =>
  ∃ (n76 : Int), r77 = .int .i64 n76 ∧
  cond (n76 == n29)
  (cond (n39 == n50)
  (CallR Try.prog 23 [.int .i64 n40] w10 (fun (r79 : Value) (w11 : World) =>
  ∃ (n78 : Int), r79 = .int .i64 n78 ∧
  cond (n78 == n51)
  (CallR Try.prog 24 [] w11 (fun (r81 : Value) (w12 : World) =>
  ∃ (b80 : Bool), r81 = .bool b80 ∧
  Q (.bool b80) w12))
  (Q (.bool false) w11)))
  (Q (.bool false) w10))
  (Q (.bool false) w10)))
  (Q (.bool false) w9))
  (Q (.bool false) w9))))))))
theorem C11 {b1 : Bool} {b2 : Bool} {b3 : Bool} {b4 : Bool} {b5 : Bool} {b6 : Bool} {b7 : Bool} {b8 : Bool} {Q : Value → World → Prop} {w : World} (h : L11 b1 b2 b3 b4 b5 b6 b7 b8 Q w) : CallR Try.prog 11 [.agg #[.bool b1, .bool b2, .bool b3, .bool b4, .bool b5, .bool b6, .bool b7, .bool b8]] w Q :=
  fun_calls (A := A11) mixed Try.func11 (c := (Try.f11.body).getD .skip) rfl (by kernel_rfl) (Eq.mp (by kernel_rfl) h)

end Go.Proofs.Ytapnpbfbebdjjaa
