/-
  What some functions of the program ask of the world, printed by a program out of the loaded program; each text is held against the code by evaluation. Conditions: none.
-/
import Derived.Test.YtkjmlbplmffekaaGreatProg
import Derived.Test.YtkjmlbplmffekaaGreatLm
import Derived.Test.YtkjmlbplmffekaaGreatLX
import Derived.Test.YtkjmlbplmffekaaGreatRfC
set_option linter.unusedVariables false
set_option maxRecDepth 100000
namespace Go.Proofs.YtkjmlbplmffekaaGreat
open Go.Lw
/-- millrace/millracelaw06.num -/
def A16 : Ann := ⟨[], [], [], [], [], []⟩
def L16 (n1 : Int) (Q : Value → World → Prop) (w : World) : Prop :=
  Q (.int .i64 n1) w
theorem C16 {n1 : Int} {Q : Value → World → Prop} {w : World} (h : L16 n1 Q w) : CallR Tryz.prog 16 [.int .i64 n1] w Q :=
  fun_calls (A := A16) mixed Tryz.func16 (c := (Tryz.f16.body).getD .skip) rfl (by kernel_rfl) (Eq.mp (by kernel_rfl) h)

/-- millrace/millracelaw06.hello -/
def A81 : Ann := ⟨[], [], [], [], [], []⟩
def L81 (Q : Value → World → Prop) (w : World) : Prop :=
  let w1 := World.alloc w (Obj.cells #[.int .u8 104, .int .u8 101, .int .u8 108, .int .u8 108, .int .u8 111] 5);
  ∃ (a1 : Option Addr) (l1 : Nat) (c1 : Nat) (w2 : World), Sem.run Tryz.prog (convert 32 32 (.slice (some (Addr.mk w.heap.size 0 none)) 5 5)) w1 = .ok ((.slice a1 l1 c1 : Value)) w2 ∧
  let w3 := World.alloc w2 (Obj.cells #[.string (ByteArray.mk #[97]), .slice a1 l1 c1] 77);
  let w4 := World.alloc w3 (Obj.cells #[.int .i64 1, .int .i64 2, .int .i64 2, .int .i64 0] 82);
  CallR Tryz.prog 17 [.agg #[.slice (some (Addr.mk w2.heap.size 0 none)) 1 1, .slice none 0 0, .slice (some (Addr.mk w3.heap.size 0 none)) 2 2]] w4 (fun (r4 : Value) (w5 : World) =>
  ∃ (p2 : Option Addr) (n3 : Int), r4 = .tuple #[.pointer p2, .int .i64 n3] ∧
  Q (.pointer p2) w5)
theorem C81 {Q : Value → World → Prop} {w : World} (h : L81 Q w) : CallR Tryz.prog 81 [] w Q :=
  fun_calls (A := A81) mixed Tryz.func81 (c := (Tryz.f81.body).getD .skip) rfl (by kernel_rfl) (Eq.mp (by kernel_rfl) h)

/-- millrace/millracelaw06.alive -/
def A12 : Ann := ⟨[], [], [], [], [], []⟩
def L12 (Q : Value → World → Prop) (w : World) : Prop :=
  CallR Tryz.prog 81 [] w (fun (r2 : Value) (w1 : World) =>
  ∃ (p1 : Option Addr), r2 = .pointer p1 ∧
  cond (Option.isNone p1)
  (Q (.bool false) w1)
  (CallR Tryz.prog 19 [.pointer p1, .string (ByteArray.mk #[97]), .int .i64 1] w1 (fun (r5 : Value) (w2 : World) =>
  ∃ (n3 : Int) (n4 : Int), r5 = .tuple #[.int .i64 n3, .int .i64 n4] ∧
  CallR Tryz.prog 20 [.pointer p1, .int .i64 n3, .int .i64 5] w2 (fun (r8 : Value) (w3 : World) =>
  ∃ (a6 : Option Addr) (l6 : Nat) (c6 : Nat) (n7 : Int), r8 = .tuple #[.slice a6 l6 c6, .int .i64 n7] ∧
  CallR Tryz.prog 20 [.pointer p1, .int .i64 n3, .int .i64 5] w3 (fun (r11 : Value) (w4 : World) =>
  ∃ (a9 : Option Addr) (l9 : Nat) (c9 : Nat) (n10 : Int), r11 = .tuple #[.slice a9 l9 c9, .int .i64 n10] ∧
  CallR Tryz.prog 20 [.pointer p1, .int .i64 n3, .int .i64 5] w4 (fun (r14 : Value) (w5 : World) =>
  ∃ (a12 : Option Addr) (l12 : Nat) (c12 : Nat) (n13 : Int), r14 = .tuple #[.slice a12 l12 c12, .int .i64 n13] ∧
  CallR Tryz.prog 19 [.pointer p1, .string (ByteArray.mk #[98]), .int .i64 1] w5 (fun (r17 : Value) (w6 : World) =>
  ∃ (n15 : Int) (n16 : Int), r17 = .tuple #[.int .i64 n15, .int .i64 n16] ∧
  CallR Tryz.prog 19 [.pointer p1, .string (ByteArray.mk #[98]), .int .i64 42] w6 (fun (r20 : Value) (w7 : World) =>
  ∃ (n18 : Int) (n19 : Int), r20 = .tuple #[.int .i64 n18, .int .i64 n19] ∧
  CallR Tryz.prog 19 [.pointer p1, .string (ByteArray.mk #[98]), .int .i64 42] w7 (fun (r23 : Value) (w8 : World) =>
  ∃ (n21 : Int) (n22 : Int), r23 = .tuple #[.int .i64 n21, .int .i64 n22] ∧
  CallR Tryz.prog 16 [.int .i64 n4] w8 (fun (r25 : Value) (w9 : World) =>
  ∃ (n24 : Int), r25 = .int .i64 n24 ∧
  CallR Tryz.prog 16 [.int .i64 n7] w9 (fun (r27 : Value) (w10 : World) =>
  ∃ (n26 : Int), r27 = .int .i64 n26 ∧
  inI (n24 + n26) ∧
  CallR Tryz.prog 16 [.int .i64 n13] w10 (fun (r29 : Value) (w11 : World) =>
  ∃ (n28 : Int), r29 = .int .i64 n28 ∧
  inI ((n24 + n26) + n28) ∧
  CallR Tryz.prog 16 [.int .i64 n19] w11 (fun (r31 : Value) (w12 : World) =>
  ∃ (n30 : Int), r31 = .int .i64 n30 ∧
  inI (((n24 + n26) + n28) + n30) ∧
  cond ((((n24 + n26) + n28) + n30) == 0)
  (cond (n3 == 1)
  (cond (n18 == 2)
  (∃ (s32 : ByteArray) (w13 : World), Sem.run Tryz.prog (convert 32 9 (.slice a6 l6 c6)) w12 = .ok ((.string s32 : Value)) w13 ∧
  cond (ByteArray.toList s32 == ByteArray.toList (ByteArray.mk #[104, 101]))
  (∃ (s33 : ByteArray) (w14 : World), Sem.run Tryz.prog (convert 32 9 (.slice a12 l12 c12)) w13 = .ok ((.string s33 : Value)) w14 ∧
  cond (ByteArray.toList s33 == ByteArray.toList (ByteArray.mk #[108, 108, 111]))
  (CallR Tryz.prog 16 [.int .i64 n10] w14 (fun (r35 : Value) (w15 : World) =>
  ∃ (n34 : Int), r35 = .int .i64 n34 ∧
  cond (n34 == 22)
  (CallR Tryz.prog 16 [.int .i64 n16] w15 (fun (r37 : Value) (w16 : World) =>
  ∃ (n36 : Int), r37 = .int .i64 n36 ∧
  cond (n36 == 62)
  (CallR Tryz.prog 16 [.int .i64 n22] w16 (fun (r39 : Value) (w17 : World) =>
  ∃ (n38 : Int), r39 = .int .i64 n38 ∧
  Q (.bool (n38 == 63)) w17))
  (Q (.bool false) w16)))
  (Q (.bool false) w15)))
  (Q (.bool false) w14))
  (Q (.bool false) w13))
  (Q (.bool false) w12))
  (Q (.bool false) w12))
  (Q (.bool false) w12))))))))))))))
theorem C12 {Q : Value → World → Prop} {w : World} (h : L12 Q w) : CallR Tryz.prog 12 [] w Q :=
  fun_calls (A := A12) mixed Tryz.func12 (c := (Tryz.f12.body).getD .skip) rfl (by kernel_rfl) (Eq.mp (by kernel_rfl) h)

end Go.Proofs.YtkjmlbplmffekaaGreat
