/-
  What some functions of the program ask of the world, printed by a program out of the loaded program; each text is held against the code by evaluation. Conditions: none.
-/
import Derived.Test.YtapnpbfbebdjjaaProg
import Derived.Test.YtapnpbfbebdjjaaLm
import Derived.Test.YtapnpbfbebdjjaaLA
import Derived.Test.YtapnpbfbebdjjaaLO
set_option linter.unusedVariables false
set_option maxRecDepth 100000
namespace Go.Proofs.Ytapnpbfbebdjjaa
open Go.Lw
/-- millrace/openmode.Print -/
def A25 : Ann := ⟨[(2, []), (6, [(6, .one (.str)), (20, .one (.int .i64))])], [], [], [], []⟩
def L25 (b1 : Bool) (b2 : Bool) (b3 : Bool) (b4 : Bool) (b5 : Bool) (b6 : Bool) (b7 : Bool) (b8 : Bool) (Q : Value → World → Prop) (w : World) : Prop :=
  let w1 := World.alloc w (Obj.cells #[.bool b1, .bool b2, .bool b3, .bool b4, .bool b5, .bool b6, .bool b7, .bool b8] 40);
  ∃ (w2 : World), Sem.run Try.prog (Instr.range 9 (.string (ByteArray.mk #[114, 119, 97]))) w1 = .ok (.pointer (some (Addr.mk w1.heap.size 0 none))) w2 ∧
  ∃ (I9 : List Value → World → Prop) (mu10 : List Value → World → Nat),
  I9 [] w2 ∧
  ∀ (_ : Env) (w3 : World), I9 [] w3 →
  (∃ (w4 : World), Sem.run Try.prog (Instr.next (.pointer (some (Addr.mk w1.heap.size 0 none))) true 0) w3 = .ok (.tuple #[.bool false]) w4 ∧
  Q (.tuple #[.string (ByteArray.mk #[]), .int .i64 91]) w4) ∨
  (∃ (v11 : Value) (v12 : Value) (w5 : World), Sem.run Try.prog (Instr.next (.pointer (some (Addr.mk w1.heap.size 0 none))) true 0) w3 = .ok (.tuple #[.bool true, v11, v12]) w5 ∧
  ∃ (n13 : Int), v12 = (.int .i32 n13 : Value) ∧
  CallR Try.prog 58 [] w5 (fun (r15 : Value) (w6 : World) =>
  ∃ (a14 : Option Addr) (l14 : Nat) (c14 : Nat), r15 = .slice a14 l14 c14 ∧
  ∃ (I16 : List Value → World → Prop) (mu17 : List Value → World → Nat),
  I16 [.string (Utf8.encode n13), .int .i64 0] w6 ∧
  ∀ (_ : Env) (s18 : ByteArray) (n19 : Int) (w7 : World), I16 [.string s18, .int .i64 n19] w7 →
  cond (decide (n19 < (((l14 : Nat) : Int))))
  ((0 ≤ (n19 : Int) ∧ (n19 : Int) < ((l14 : Nat) : Int)) ∧
  nn a14 (fun (q20 : Addr) =>
  ∃ (n21 : Int) (v22 : Value) (v23 : Value), w7.cell? (Addr.add q20 (Int.toNat n19 * 3)) = some ((.int .u8 n21 : Value)) ∧ w7.cell? (Addr.add (Addr.add q20 (Int.toNat n19 * 3)) 1) = some v22 ∧ w7.cell? (Addr.add (Addr.add q20 (Int.toNat n19 * 3)) 2) = some v23 ∧ 
  let w8 := World.alloc w7 (Obj.cells #[.int .u8 0, .nilFunc, .nilFunc] 110);
  stC (Addr.mk w7.heap.size 0 none) (.int .u8 n21) w8 (fun (w9 : World) =>
  oneC v22 (stC (Addr.mk w7.heap.size 1 none) v22 w9 (fun (w10 : World) =>
  oneC v23 (stC (Addr.mk w7.heap.size 2 none) v23 w10 (fun (w11 : World) =>
  ∃ (v24 : Value), w11.cell? (Addr.mk w7.heap.size 1 none) = some v24 ∧
  ∃ (b25 : Bool) (b26 : Bool) (b27 : Bool) (b28 : Bool) (b29 : Bool) (b30 : Bool) (b31 : Bool) (b32 : Bool), w11.cell? (Addr.mk w.heap.size 0 none) = some ((.bool b25 : Value)) ∧ w11.cell? (Addr.mk w.heap.size 1 none) = some ((.bool b26 : Value)) ∧ w11.cell? (Addr.mk w.heap.size 2 none) = some ((.bool b27 : Value)) ∧ w11.cell? (Addr.mk w.heap.size 3 none) = some ((.bool b28 : Value)) ∧ w11.cell? (Addr.mk w.heap.size 4 none) = some ((.bool b29 : Value)) ∧ w11.cell? (Addr.mk w.heap.size 5 none) = some ((.bool b30 : Value)) ∧ w11.cell? (Addr.mk w.heap.size 6 none) = some ((.bool b31 : Value)) ∧ w11.cell? (Addr.mk w.heap.size 7 none) = some ((.bool b32 : Value)) ∧ 
  ∃ (k33 : FuncId) (xs34 : Array Value) (xs35 : Array Value), v24 = .func (.func k33) xs34 xs35 ∧ bodyB Try.prog k33 = true ∧
  CallR Try.prog k33 (Array.toList xs34 ++ ([.agg #[.bool b25, .bool b26, .bool b27, .bool b28, .bool b29, .bool b30, .bool b31, .bool b32]] ++ Array.toList xs35)) w11 (fun (r37 : Value) (w12 : World) =>
  ∃ (b36 : Bool), r37 = .bool b36 ∧
  cond b36
  (∃ (n38 : Int), w12.cell? (Addr.mk w7.heap.size 0 none) = some ((.int .u8 n38 : Value)) ∧
  ByteArray.size s18 + ByteArray.size (Utf8.encode (IntKind.wrap .i32 n38)) ≤ 9223372036854775807 ∧
  inI (n19 + 1) ∧
  I16 [.string (s18 ++ (Utf8.encode (IntKind.wrap .i32 n38))), .int .i64 (n19 + 1)] w12 ∧ mu17 [.string (s18 ++ (Utf8.encode (IntKind.wrap .i32 n38))), .int .i64 (n19 + 1)] w12 < mu17 [.string s18, .int .i64 n19] w7)
  (inI (n19 + 1) ∧
  I16 [.string s18, .int .i64 (n19 + 1)] w12 ∧ mu17 [.string s18, .int .i64 (n19 + 1)] w12 < mu17 [.string s18, .int .i64 n19] w7)))))))))
  (CallR Try.prog 21 [.string s18] w7 (fun (r49 : Value) (w13 : World) =>
  ∃ (b39 : Bool) (b40 : Bool) (b41 : Bool) (b42 : Bool) (b43 : Bool) (b44 : Bool) (b45 : Bool) (b46 : Bool) (n47 : Int) (n48 : Int), r49 = .tuple #[.agg #[.bool b39, .bool b40, .bool b41, .bool b42, .bool b43, .bool b44, .bool b45, .bool b46], .int .i64 n47, .int .i64 n48] ∧
  let w14 := World.alloc w13 (Obj.cells #[.bool false, .bool false, .bool false, .bool false, .bool false, .bool false, .bool false, .bool false] 40);
  stC (Addr.mk w13.heap.size 0 none) (.bool b39) w14 (fun (w15 : World) =>
  stC (Addr.mk w13.heap.size 1 none) (.bool b40) w15 (fun (w16 : World) =>
  stC (Addr.mk w13.heap.size 2 none) (.bool b41) w16 (fun (w17 : World) =>
  stC (Addr.mk w13.heap.size 3 none) (.bool b42) w17 (fun (w18 : World) =>
  stC (Addr.mk w13.heap.size 4 none) (.bool b43) w18 (fun (w19 : World) =>
  stC (Addr.mk w13.heap.size 5 none) (.bool b44) w19 (fun (w20 : World) =>
  stC (Addr.mk w13.heap.size 6 none) (.bool b45) w20 (fun (w21 : World) =>
  stC (Addr.mk w13.heap.size 7 none) (.bool b46) w21 (fun (w22 : World) =>
  cond (n47 == 0)
  (∃ (b50 : Bool) (b51 : Bool) (b52 : Bool) (b53 : Bool) (b54 : Bool) (b55 : Bool) (b56 : Bool) (b57 : Bool), w22.cell? (Addr.mk w13.heap.size 0 none) = some ((.bool b50 : Value)) ∧ w22.cell? (Addr.mk w13.heap.size 1 none) = some ((.bool b51 : Value)) ∧ w22.cell? (Addr.mk w13.heap.size 2 none) = some ((.bool b52 : Value)) ∧ w22.cell? (Addr.mk w13.heap.size 3 none) = some ((.bool b53 : Value)) ∧ w22.cell? (Addr.mk w13.heap.size 4 none) = some ((.bool b54 : Value)) ∧ w22.cell? (Addr.mk w13.heap.size 5 none) = some ((.bool b55 : Value)) ∧ w22.cell? (Addr.mk w13.heap.size 6 none) = some ((.bool b56 : Value)) ∧ w22.cell? (Addr.mk w13.heap.size 7 none) = some ((.bool b57 : Value)) ∧ 
  ∃ (b58 : Bool) (b59 : Bool) (b60 : Bool) (b61 : Bool) (b62 : Bool) (b63 : Bool) (b64 : Bool) (b65 : Bool), w22.cell? (Addr.mk w.heap.size 0 none) = some ((.bool b58 : Value)) ∧ w22.cell? (Addr.mk w.heap.size 1 none) = some ((.bool b59 : Value)) ∧ w22.cell? (Addr.mk w.heap.size 2 none) = some ((.bool b60 : Value)) ∧ w22.cell? (Addr.mk w.heap.size 3 none) = some ((.bool b61 : Value)) ∧ w22.cell? (Addr.mk w.heap.size 4 none) = some ((.bool b62 : Value)) ∧ w22.cell? (Addr.mk w.heap.size 5 none) = some ((.bool b63 : Value)) ∧ w22.cell? (Addr.mk w.heap.size 6 none) = some ((.bool b64 : Value)) ∧ w22.cell? (Addr.mk w.heap.size 7 none) = some ((.bool b65 : Value)) ∧ 
  ∃ (b66 : Bool) (w23 : World), Sem.run Try.prog (Sem.bind (eqGuard .eql 40 (.tmp 44) (.tmp 45) (.agg #[.bool b50, .bool b51, .bool b52, .bool b53, .bool b54, .bool b55, .bool b56, .bool b57]) (.agg #[.bool b58, .bool b59, .bool b60, .bool b61, .bool b62, .bool b63, .bool b64, .bool b65])) (fun _ => binOp .eql 40 (.agg #[.bool b50, .bool b51, .bool b52, .bool b53, .bool b54, .bool b55, .bool b56, .bool b57]) (.agg #[.bool b58, .bool b59, .bool b60, .bool b61, .bool b62, .bool b63, .bool b64, .bool b65]))) w22 = .ok ((.bool b66 : Value)) w23 ∧
  cond b66
  (Q (.tuple #[.string s18, .int .i64 0]) w23)
  (I9 [] w23 ∧ mu10 [] w23 < mu10 [] w3))
  (I9 [] w22 ∧ mu10 [] w22 < mu10 [] w3)))))))))))))
theorem C25 {b1 : Bool} {b2 : Bool} {b3 : Bool} {b4 : Bool} {b5 : Bool} {b6 : Bool} {b7 : Bool} {b8 : Bool} {Q : Value → World → Prop} {w : World} (h : L25 b1 b2 b3 b4 b5 b6 b7 b8 Q w) : CallR Try.prog 25 [.agg #[.bool b1, .bool b2, .bool b3, .bool b4, .bool b5, .bool b6, .bool b7, .bool b8]] w Q :=
  fun_calls (A := A25) mixed Try.func25 (c := (Try.f25.body).getD .skip) rfl (by kernel_rfl) (Eq.mp (by kernel_rfl) h)

/-- millrace/millracelaw09.alive -/
def A24 : Ann := ⟨[], [], [], [], []⟩
def L24 (Q : Value → World → Prop) (w : World) : Prop :=
  CallR Try.prog 21 [.string (ByteArray.mk #[114, 98, 43])] w (fun (r11 : Value) (w1 : World) =>
  ∃ (b1 : Bool) (b2 : Bool) (b3 : Bool) (b4 : Bool) (b5 : Bool) (b6 : Bool) (b7 : Bool) (b8 : Bool) (n9 : Int) (n10 : Int), r11 = .tuple #[.agg #[.bool b1, .bool b2, .bool b3, .bool b4, .bool b5, .bool b6, .bool b7, .bool b8], .int .i64 n9, .int .i64 n10] ∧
  let w2 := World.alloc w1 (Obj.cells #[.bool false, .bool false, .bool false, .bool false, .bool false, .bool false, .bool false, .bool false] 40);
  stC (Addr.mk w1.heap.size 0 none) (.bool b1) w2 (fun (w3 : World) =>
  stC (Addr.mk w1.heap.size 1 none) (.bool b2) w3 (fun (w4 : World) =>
  stC (Addr.mk w1.heap.size 2 none) (.bool b3) w4 (fun (w5 : World) =>
  stC (Addr.mk w1.heap.size 3 none) (.bool b4) w5 (fun (w6 : World) =>
  stC (Addr.mk w1.heap.size 4 none) (.bool b5) w6 (fun (w7 : World) =>
  stC (Addr.mk w1.heap.size 5 none) (.bool b6) w7 (fun (w8 : World) =>
  stC (Addr.mk w1.heap.size 6 none) (.bool b7) w8 (fun (w9 : World) =>
  stC (Addr.mk w1.heap.size 7 none) (.bool b8) w9 (fun (w10 : World) =>
  ∃ (b12 : Bool) (b13 : Bool) (b14 : Bool) (b15 : Bool) (b16 : Bool) (b17 : Bool) (b18 : Bool) (b19 : Bool), w10.cell? (Addr.mk w1.heap.size 0 none) = some ((.bool b12 : Value)) ∧ w10.cell? (Addr.mk w1.heap.size 1 none) = some ((.bool b13 : Value)) ∧ w10.cell? (Addr.mk w1.heap.size 2 none) = some ((.bool b14 : Value)) ∧ w10.cell? (Addr.mk w1.heap.size 3 none) = some ((.bool b15 : Value)) ∧ w10.cell? (Addr.mk w1.heap.size 4 none) = some ((.bool b16 : Value)) ∧ w10.cell? (Addr.mk w1.heap.size 5 none) = some ((.bool b17 : Value)) ∧ w10.cell? (Addr.mk w1.heap.size 6 none) = some ((.bool b18 : Value)) ∧ w10.cell? (Addr.mk w1.heap.size 7 none) = some ((.bool b19 : Value)) ∧ 
  CallR Try.prog 25 [.agg #[.bool b12, .bool b13, .bool b14, .bool b15, .bool b16, .bool b17, .bool b18, .bool b19]] w10 (fun (r22 : Value) (w11 : World) =>
  ∃ (s20 : ByteArray) (n21 : Int), r22 = .tuple #[.string s20, .int .i64 n21] ∧
  CallR Try.prog 21 [.string (ByteArray.mk #[114, 120])] w11 (fun (r33 : Value) (w12 : World) =>
  ∃ (b23 : Bool) (b24 : Bool) (b25 : Bool) (b26 : Bool) (b27 : Bool) (b28 : Bool) (b29 : Bool) (b30 : Bool) (n31 : Int) (n32 : Int), r33 = .tuple #[.agg #[.bool b23, .bool b24, .bool b25, .bool b26, .bool b27, .bool b28, .bool b29, .bool b30], .int .i64 n31, .int .i64 n32] ∧
  let w13 := World.alloc w12 (Obj.cells #[.bool false, .bool false, .bool false, .bool false, .bool false, .bool false, .bool false, .bool false] 40);
  stC (Addr.mk w12.heap.size 0 none) (.bool b23) w13 (fun (w14 : World) =>
  stC (Addr.mk w12.heap.size 1 none) (.bool b24) w14 (fun (w15 : World) =>
  stC (Addr.mk w12.heap.size 2 none) (.bool b25) w15 (fun (w16 : World) =>
  stC (Addr.mk w12.heap.size 3 none) (.bool b26) w16 (fun (w17 : World) =>
  stC (Addr.mk w12.heap.size 4 none) (.bool b27) w17 (fun (w18 : World) =>
  stC (Addr.mk w12.heap.size 5 none) (.bool b28) w18 (fun (w19 : World) =>
  stC (Addr.mk w12.heap.size 6 none) (.bool b29) w19 (fun (w20 : World) =>
  stC (Addr.mk w12.heap.size 7 none) (.bool b30) w20 (fun (w21 : World) =>
  CallR Try.prog 23 [.int .i64 n9] w21 (fun (r35 : Value) (w22 : World) =>
  ∃ (n34 : Int), r35 = .int .i64 n34 ∧
  CallR Try.prog 23 [.int .i64 n21] w22 (fun (r37 : Value) (w23 : World) =>
  ∃ (n36 : Int), r37 = .int .i64 n36 ∧
  inI (n34 + n36) ∧
  cond ((n34 + n36) == 0)
  (cond (n10 == 3)
  (∃ (b38 : Bool), w23.cell? (Addr.mk w1.heap.size 0 none) = some ((.bool b38 : Value)) ∧
  cond b38
  (∃ (b39 : Bool), w23.cell? (Addr.mk w1.heap.size 1 none) = some ((.bool b39 : Value)) ∧
  cond b39
  (∃ (b40 : Bool), w23.cell? (Addr.mk w1.heap.size 6 none) = some ((.bool b40 : Value)) ∧
  cond b40
  (cond (ByteArray.toList s20 == ByteArray.toList (ByteArray.mk #[114, 43, 98]))
  (CallR Try.prog 23 [.int .i64 n31] w23 (fun (r42 : Value) (w24 : World) =>
  ∃ (n41 : Int), r42 = .int .i64 n41 ∧
  cond (n41 == 91)
  (Q (.bool (n32 == 1)) w24)
  (Q (.bool false) w24)))
  (Q (.bool false) w23))
  (Q (.bool false) w23))
  (Q (.bool false) w23))
  (Q (.bool false) w23))
  (Q (.bool false) w23))
  (Q (.bool false) w23))))))))))))))))))))))
theorem C24 {Q : Value → World → Prop} {w : World} (h : L24 Q w) : CallR Try.prog 24 [] w Q :=
  fun_calls (A := A24) mixed Try.func24 (c := (Try.f24.body).getD .skip) rfl (by kernel_rfl) (Eq.mp (by kernel_rfl) h)

/-- millrace/millracelaw09.OpenmodeParses -/
def A5 : Ann := ⟨[], [], [], [], []⟩
def L5 (s1 : ByteArray) (Q : Value → World → Prop) (w : World) : Prop :=
  CallR Try.prog 21 [.string s1] w (fun (r12 : Value) (w1 : World) =>
  ∃ (b2 : Bool) (b3 : Bool) (b4 : Bool) (b5 : Bool) (b6 : Bool) (b7 : Bool) (b8 : Bool) (b9 : Bool) (n10 : Int) (n11 : Int), r12 = .tuple #[.agg #[.bool b2, .bool b3, .bool b4, .bool b5, .bool b6, .bool b7, .bool b8, .bool b9], .int .i64 n10, .int .i64 n11] ∧
  let w2 := World.alloc w1 (Obj.cells #[.bool false, .bool false, .bool false, .bool false, .bool false, .bool false, .bool false, .bool false] 40);
  stC (Addr.mk w1.heap.size 0 none) (.bool b2) w2 (fun (w3 : World) =>
  stC (Addr.mk w1.heap.size 1 none) (.bool b3) w3 (fun (w4 : World) =>
  stC (Addr.mk w1.heap.size 2 none) (.bool b4) w4 (fun (w5 : World) =>
  stC (Addr.mk w1.heap.size 3 none) (.bool b5) w5 (fun (w6 : World) =>
  stC (Addr.mk w1.heap.size 4 none) (.bool b6) w6 (fun (w7 : World) =>
  stC (Addr.mk w1.heap.size 5 none) (.bool b7) w7 (fun (w8 : World) =>
  stC (Addr.mk w1.heap.size 6 none) (.bool b8) w8 (fun (w9 : World) =>
  stC (Addr.mk w1.heap.size 7 none) (.bool b9) w9 (fun (w10 : World) =>
  CallR Try.prog 22 [.string s1] w10 (fun (r23 : Value) (w11 : World) =>
  ∃ (b13 : Bool) (b14 : Bool) (b15 : Bool) (b16 : Bool) (b17 : Bool) (b18 : Bool) (b19 : Bool) (b20 : Bool) (n21 : Int) (n22 : Int), r23 = .tuple #[.agg #[.bool b13, .bool b14, .bool b15, .bool b16, .bool b17, .bool b18, .bool b19, .bool b20], .int .i64 n21, .int .i64 n22] ∧
  let w12 := World.alloc w11 (Obj.cells #[.bool false, .bool false, .bool false, .bool false, .bool false, .bool false, .bool false, .bool false] 40);
  stC (Addr.mk w11.heap.size 0 none) (.bool b13) w12 (fun (w13 : World) =>
  stC (Addr.mk w11.heap.size 1 none) (.bool b14) w13 (fun (w14 : World) =>
  stC (Addr.mk w11.heap.size 2 none) (.bool b15) w14 (fun (w15 : World) =>
  stC (Addr.mk w11.heap.size 3 none) (.bool b16) w15 (fun (w16 : World) =>
  stC (Addr.mk w11.heap.size 4 none) (.bool b17) w16 (fun (w17 : World) =>
  stC (Addr.mk w11.heap.size 5 none) (.bool b18) w17 (fun (w18 : World) =>
  stC (Addr.mk w11.heap.size 6 none) (.bool b19) w18 (fun (w19 : World) =>
  stC (Addr.mk w11.heap.size 7 none) (.bool b20) w19 (fun (w20 : World) =>
  ∃ (b24 : Bool) (b25 : Bool) (b26 : Bool) (b27 : Bool) (b28 : Bool) (b29 : Bool) (b30 : Bool) (b31 : Bool), w20.cell? (Addr.mk w1.heap.size 0 none) = some ((.bool b24 : Value)) ∧ w20.cell? (Addr.mk w1.heap.size 1 none) = some ((.bool b25 : Value)) ∧ w20.cell? (Addr.mk w1.heap.size 2 none) = some ((.bool b26 : Value)) ∧ w20.cell? (Addr.mk w1.heap.size 3 none) = some ((.bool b27 : Value)) ∧ w20.cell? (Addr.mk w1.heap.size 4 none) = some ((.bool b28 : Value)) ∧ w20.cell? (Addr.mk w1.heap.size 5 none) = some ((.bool b29 : Value)) ∧ w20.cell? (Addr.mk w1.heap.size 6 none) = some ((.bool b30 : Value)) ∧ w20.cell? (Addr.mk w1.heap.size 7 none) = some ((.bool b31 : Value)) ∧ 
  ∃ (b32 : Bool) (b33 : Bool) (b34 : Bool) (b35 : Bool) (b36 : Bool) (b37 : Bool) (b38 : Bool) (b39 : Bool), w20.cell? (Addr.mk w11.heap.size 0 none) = some ((.bool b32 : Value)) ∧ w20.cell? (Addr.mk w11.heap.size 1 none) = some ((.bool b33 : Value)) ∧ w20.cell? (Addr.mk w11.heap.size 2 none) = some ((.bool b34 : Value)) ∧ w20.cell? (Addr.mk w11.heap.size 3 none) = some ((.bool b35 : Value)) ∧ w20.cell? (Addr.mk w11.heap.size 4 none) = some ((.bool b36 : Value)) ∧ w20.cell? (Addr.mk w11.heap.size 5 none) = some ((.bool b37 : Value)) ∧ w20.cell? (Addr.mk w11.heap.size 6 none) = some ((.bool b38 : Value)) ∧ w20.cell? (Addr.mk w11.heap.size 7 none) = some ((.bool b39 : Value)) ∧ 
  ∃ (b40 : Bool) (w21 : World), Sem.run Try.prog (Sem.bind (eqGuard .eql 40 (.tmp 21) (.tmp 22) (.agg #[.bool b24, .bool b25, .bool b26, .bool b27, .bool b28, .bool b29, .bool b30, .bool b31]) (.agg #[.bool b32, .bool b33, .bool b34, .bool b35, .bool b36, .bool b37, .bool b38, .bool b39])) (fun _ => binOp .eql 40 (.agg #[.bool b24, .bool b25, .bool b26, .bool b27, .bool b28, .bool b29, .bool b30, .bool b31]) (.agg #[.bool b32, .bool b33, .bool b34, .bool b35, .bool b36, .bool b37, .bool b38, .bool b39]))) w20 = .ok ((.bool b40 : Value)) w21 ∧
  cond b40
  (CallR Try.prog 23 [.int .i64 n10] w21 (fun (r42 : Value) (w22 : World) =>
  ∃ (n41 : Int), r42 = .int .i64 n41 ∧
  cond (n41 == n21)
  (cond (n11 == n22)
  (CallR Try.prog 24 [] w22 (fun (r44 : Value) (w23 : World) =>
  ∃ (b43 : Bool), r44 = .bool b43 ∧
  Q (.bool b43) w23))
  (Q (.bool false) w22))
  (Q (.bool false) w22)))
  (Q (.bool false) w21)))))))))))))))))))
theorem C5 {s1 : ByteArray} {Q : Value → World → Prop} {w : World} (h : L5 s1 Q w) : CallR Try.prog 5 [.string s1] w Q :=
  fun_calls (A := A5) mixed Try.func5 (c := (Try.f5.body).getD .skip) rfl (by kernel_rfl) (Eq.mp (by kernel_rfl) h)

end Go.Proofs.Ytapnpbfbebdjjaa
