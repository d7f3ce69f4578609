/-
  What some functions of the program ask of the world, printed by a program out of the loaded program; each text is held against the code by evaluation. Conditions: none.
-/
import Derived.Test.YtapnpbfbebdjjaaProg
import Derived.Test.YtapnpbfbebdjjaaLm
import Derived.Test.YtapnpbfbebdjjaaLA
import Derived.Test.YtapnpbfbebdjjaaLO
import Derived.Test.YtapnpbfbebdjjaaLP
set_option linter.unusedVariables false
set_option maxRecDepth 100000
namespace Go.Proofs.Ytapnpbfbebdjjaa
open Go.Lw
/-- millrace/millracelaw09.OpenmodeBack -/
def A6 : Ann := ⟨[(15, [(13, .one (.int .i64))]), (19, [(14, .one (.bool)), (15, .one (.int .i64))])], [(8, [])], [], [], []⟩
def L6 (b1 : Bool) (b2 : Bool) (b3 : Bool) (b4 : Bool) (b5 : Bool) (b6 : Bool) (b7 : Bool) (b8 : Bool) (s9 : ByteArray) (Q : Value → World → Prop) (w : World) : Prop :=
  let w1 := World.alloc w (Obj.cells #[.bool b1, .bool b2, .bool b3, .bool b4, .bool b5, .bool b6, .bool b7, .bool b8] 40);
  CallR Try.prog 24 [] w1 (fun (r11 : Value) (w2 : World) =>
  ∃ (b10 : Bool), r11 = .bool b10 ∧
  cond (!b10)
  (Q (.bool false) w2)
  (∃ (b12 : Bool) (b13 : Bool) (b14 : Bool) (b15 : Bool) (b16 : Bool) (b17 : Bool) (b18 : Bool) (b19 : Bool), w2.cell? (Addr.mk w.heap.size 0 none) = some ((.bool b12 : Value)) ∧ w2.cell? (Addr.mk w.heap.size 1 none) = some ((.bool b13 : Value)) ∧ w2.cell? (Addr.mk w.heap.size 2 none) = some ((.bool b14 : Value)) ∧ w2.cell? (Addr.mk w.heap.size 3 none) = some ((.bool b15 : Value)) ∧ w2.cell? (Addr.mk w.heap.size 4 none) = some ((.bool b16 : Value)) ∧ w2.cell? (Addr.mk w.heap.size 5 none) = some ((.bool b17 : Value)) ∧ w2.cell? (Addr.mk w.heap.size 6 none) = some ((.bool b18 : Value)) ∧ w2.cell? (Addr.mk w.heap.size 7 none) = some ((.bool b19 : Value)) ∧ 
  CallR Try.prog 25 [.agg #[.bool b12, .bool b13, .bool b14, .bool b15, .bool b16, .bool b17, .bool b18, .bool b19]] w2 (fun (r22 : Value) (w3 : World) =>
  ∃ (s20 : ByteArray) (n21 : Int), r22 = .tuple #[.string s20, .int .i64 n21] ∧
  ∃ (J23 : List Value → World → Prop),
  (CallR Try.prog 23 [.int .i64 n21] w3 (fun (r25 : Value) (w4 : World) =>
  ∃ (n24 : Int), r25 = .int .i64 n24 ∧
  cond (n24 == 0)
  (CallR Try.prog 21 [.string s20] w4 (fun (r36 : Value) (w5 : World) =>
  ∃ (b26 : Bool) (b27 : Bool) (b28 : Bool) (b29 : Bool) (b30 : Bool) (b31 : Bool) (b32 : Bool) (b33 : Bool) (n34 : Int) (n35 : Int), r36 = .tuple #[.agg #[.bool b26, .bool b27, .bool b28, .bool b29, .bool b30, .bool b31, .bool b32, .bool b33], .int .i64 n34, .int .i64 n35] ∧
  let w6 := World.alloc w5 (Obj.cells #[.bool false, .bool false, .bool false, .bool false, .bool false, .bool false, .bool false, .bool false] 40);
  stC (Addr.mk w5.heap.size 0 none) (.bool b26) w6 (fun (w7 : World) =>
  stC (Addr.mk w5.heap.size 1 none) (.bool b27) w7 (fun (w8 : World) =>
  stC (Addr.mk w5.heap.size 2 none) (.bool b28) w8 (fun (w9 : World) =>
  stC (Addr.mk w5.heap.size 3 none) (.bool b29) w9 (fun (w10 : World) =>
  stC (Addr.mk w5.heap.size 4 none) (.bool b30) w10 (fun (w11 : World) =>
  stC (Addr.mk w5.heap.size 5 none) (.bool b31) w11 (fun (w12 : World) =>
  stC (Addr.mk w5.heap.size 6 none) (.bool b32) w12 (fun (w13 : World) =>
  stC (Addr.mk w5.heap.size 7 none) (.bool b33) w13 (fun (w14 : World) =>
  CallR Try.prog 23 [.int .i64 n34] w14 (fun (r38 : Value) (w15 : World) =>
  ∃ (n37 : Int), r38 = .int .i64 n37 ∧
  cond (n37 != 0)
  (Q (.bool false) w15)
  (∃ (b39 : Bool) (b40 : Bool) (b41 : Bool) (b42 : Bool) (b43 : Bool) (b44 : Bool) (b45 : Bool) (b46 : Bool), w15.cell? (Addr.mk w5.heap.size 0 none) = some ((.bool b39 : Value)) ∧ w15.cell? (Addr.mk w5.heap.size 1 none) = some ((.bool b40 : Value)) ∧ w15.cell? (Addr.mk w5.heap.size 2 none) = some ((.bool b41 : Value)) ∧ w15.cell? (Addr.mk w5.heap.size 3 none) = some ((.bool b42 : Value)) ∧ w15.cell? (Addr.mk w5.heap.size 4 none) = some ((.bool b43 : Value)) ∧ w15.cell? (Addr.mk w5.heap.size 5 none) = some ((.bool b44 : Value)) ∧ w15.cell? (Addr.mk w5.heap.size 6 none) = some ((.bool b45 : Value)) ∧ w15.cell? (Addr.mk w5.heap.size 7 none) = some ((.bool b46 : Value)) ∧ 
  ∃ (b47 : Bool) (b48 : Bool) (b49 : Bool) (b50 : Bool) (b51 : Bool) (b52 : Bool) (b53 : Bool) (b54 : Bool), w15.cell? (Addr.mk w.heap.size 0 none) = some ((.bool b47 : Value)) ∧ w15.cell? (Addr.mk w.heap.size 1 none) = some ((.bool b48 : Value)) ∧ w15.cell? (Addr.mk w.heap.size 2 none) = some ((.bool b49 : Value)) ∧ w15.cell? (Addr.mk w.heap.size 3 none) = some ((.bool b50 : Value)) ∧ w15.cell? (Addr.mk w.heap.size 4 none) = some ((.bool b51 : Value)) ∧ w15.cell? (Addr.mk w.heap.size 5 none) = some ((.bool b52 : Value)) ∧ w15.cell? (Addr.mk w.heap.size 6 none) = some ((.bool b53 : Value)) ∧ w15.cell? (Addr.mk w.heap.size 7 none) = some ((.bool b54 : Value)) ∧ 
  ∃ (b55 : Bool) (w16 : World), Sem.run Try.prog (Sem.bind (eqGuard .neq 40 (.tmp 36) (.tmp 37) (.agg #[.bool b39, .bool b40, .bool b41, .bool b42, .bool b43, .bool b44, .bool b45, .bool b46]) (.agg #[.bool b47, .bool b48, .bool b49, .bool b50, .bool b51, .bool b52, .bool b53, .bool b54])) (fun _ => binOp .neq 40 (.agg #[.bool b39, .bool b40, .bool b41, .bool b42, .bool b43, .bool b44, .bool b45, .bool b46]) (.agg #[.bool b47, .bool b48, .bool b49, .bool b50, .bool b51, .bool b52, .bool b53, .bool b54]))) w15 = .ok ((.bool b55 : Value)) w16 ∧
  cond b55
  (Q (.bool false) w16)
  (cond (n35 != (((ByteArray.size s20 : Nat) : Int)))
  (Q (.bool false) w16)
  (J23 [] w16))))))))))))))
  (J23 [] w4))) ∧
  (∀ (_ : Env) (w17 : World), J23 [] w17 →
  CallR Try.prog 21 [.string s9] w17 (fun (r66 : Value) (w18 : World) =>
  ∃ (b56 : Bool) (b57 : Bool) (b58 : Bool) (b59 : Bool) (b60 : Bool) (b61 : Bool) (b62 : Bool) (b63 : Bool) (n64 : Int) (n65 : Int), r66 = .tuple #[.agg #[.bool b56, .bool b57, .bool b58, .bool b59, .bool b60, .bool b61, .bool b62, .bool b63], .int .i64 n64, .int .i64 n65] ∧
  let w19 := World.alloc w18 (Obj.cells #[.bool false, .bool false, .bool false, .bool false, .bool false, .bool false, .bool false, .bool false] 40);
  stC (Addr.mk w18.heap.size 0 none) (.bool b56) w19 (fun (w20 : World) =>
  stC (Addr.mk w18.heap.size 1 none) (.bool b57) w20 (fun (w21 : World) =>
  stC (Addr.mk w18.heap.size 2 none) (.bool b58) w21 (fun (w22 : World) =>
  stC (Addr.mk w18.heap.size 3 none) (.bool b59) w22 (fun (w23 : World) =>
  stC (Addr.mk w18.heap.size 4 none) (.bool b60) w23 (fun (w24 : World) =>
  stC (Addr.mk w18.heap.size 5 none) (.bool b61) w24 (fun (w25 : World) =>
  stC (Addr.mk w18.heap.size 6 none) (.bool b62) w25 (fun (w26 : World) =>
  stC (Addr.mk w18.heap.size 7 none) (.bool b63) w26 (fun (w27 : World) =>
  CallR Try.prog 23 [.int .i64 n64] w27 (fun (r68 : Value) (w28 : World) =>
  ∃ (n67 : Int), r68 = .int .i64 n67 ∧
  cond (n67 != 0)
  (∃ (b69 : Bool) (b70 : Bool) (b71 : Bool) (b72 : Bool) (b73 : Bool) (b74 : Bool) (b75 : Bool) (b76 : Bool), w28.cell? (Addr.mk w18.heap.size 0 none) = some ((.bool b69 : Value)) ∧ w28.cell? (Addr.mk w18.heap.size 1 none) = some ((.bool b70 : Value)) ∧ w28.cell? (Addr.mk w18.heap.size 2 none) = some ((.bool b71 : Value)) ∧ w28.cell? (Addr.mk w18.heap.size 3 none) = some ((.bool b72 : Value)) ∧ w28.cell? (Addr.mk w18.heap.size 4 none) = some ((.bool b73 : Value)) ∧ w28.cell? (Addr.mk w18.heap.size 5 none) = some ((.bool b74 : Value)) ∧ w28.cell? (Addr.mk w18.heap.size 6 none) = some ((.bool b75 : Value)) ∧ w28.cell? (Addr.mk w18.heap.size 7 none) = some ((.bool b76 : Value)) ∧ 
  ∃ (b77 : Bool) (w29 : World), Sem.run Try.prog (Sem.bind (eqGuard .eql 40 (.tmp 55) (.tmp 56) (.agg #[.bool b69, .bool b70, .bool b71, .bool b72, .bool b73, .bool b74, .bool b75, .bool b76]) (.agg #[.bool false, .bool false, .bool false, .bool false, .bool false, .bool false, .bool false, .bool false])) (fun _ => binOp .eql 40 (.agg #[.bool b69, .bool b70, .bool b71, .bool b72, .bool b73, .bool b74, .bool b75, .bool b76]) (.agg #[.bool false, .bool false, .bool false, .bool false, .bool false, .bool false, .bool false, .bool false]))) w28 = .ok ((.bool b77 : Value)) w29 ∧
  Q (.bool b77) w29)
  (∃ (b78 : Bool) (b79 : Bool) (b80 : Bool) (b81 : Bool) (b82 : Bool) (b83 : Bool) (b84 : Bool) (b85 : Bool), w28.cell? (Addr.mk w18.heap.size 0 none) = some ((.bool b78 : Value)) ∧ w28.cell? (Addr.mk w18.heap.size 1 none) = some ((.bool b79 : Value)) ∧ w28.cell? (Addr.mk w18.heap.size 2 none) = some ((.bool b80 : Value)) ∧ w28.cell? (Addr.mk w18.heap.size 3 none) = some ((.bool b81 : Value)) ∧ w28.cell? (Addr.mk w18.heap.size 4 none) = some ((.bool b82 : Value)) ∧ w28.cell? (Addr.mk w18.heap.size 5 none) = some ((.bool b83 : Value)) ∧ w28.cell? (Addr.mk w18.heap.size 6 none) = some ((.bool b84 : Value)) ∧ w28.cell? (Addr.mk w18.heap.size 7 none) = some ((.bool b85 : Value)) ∧ 
  CallR Try.prog 25 [.agg #[.bool b78, .bool b79, .bool b80, .bool b81, .bool b82, .bool b83, .bool b84, .bool b85]] w28 (fun (r88 : Value) (w30 : World) =>
  ∃ (s86 : ByteArray) (n87 : Int), r88 = .tuple #[.string s86, .int .i64 n87] ∧
  CallR Try.prog 23 [.int .i64 n87] w30 (fun (r90 : Value) (w31 : World) =>
  ∃ (n89 : Int), r90 = .int .i64 n89 ∧
  cond (n89 != 0)
  (Q (.bool false) w31)
  (cond ((((ByteArray.size s86 : Nat) : Int)) != (((ByteArray.size s9 : Nat) : Int)))
  (Q (.bool false) w31)
  (∃ (I91 : List Value → World → Prop) (mu92 : List Value → World → Nat),
  I91 [.int .i64 0] w31 ∧
  ∀ (_ : Env) (n93 : Int) (w32 : World), I91 [.int .i64 n93] w32 →
  cond (decide (n93 < (((ByteArray.size s9 : Nat) : Int))))
  (∃ (I94 : List Value → World → Prop) (mu95 : List Value → World → Nat),
  I94 [.bool false, .int .i64 0] w32 ∧
  ∀ (_ : Env) (b96 : Bool) (n97 : Int) (w33 : World), I94 [.bool b96, .int .i64 n97] w33 →
  cond (decide (n97 < (((ByteArray.size s86 : Nat) : Int))))
  (cond b96
  (∀ nd98 : Nat, let w34 := World.drewN w33 nd98;
  inI (n97 + 1) ∧
  I94 [.bool true, .int .i64 (n97 + 1)] w34 ∧ mu95 [.bool true, .int .i64 (n97 + 1)] w34 < mu95 [.bool b96, .int .i64 n97] w33)
  ((0 ≤ (n97 : Int) ∧ (n97 : Int) < ((ByteArray.size s86 : Nat) : Int)) ∧
  (0 ≤ (n93 : Int) ∧ (n93 : Int) < ((ByteArray.size s9 : Nat) : Int)) ∧
  ∀ nd98 : Nat, let w34 := World.drewN w33 nd98;
  inI (n97 + 1) ∧
  I94 [.bool ((byteAt s86 n97) == (byteAt s9 n93)), .int .i64 (n97 + 1)] w34 ∧ mu95 [.bool ((byteAt s86 n97) == (byteAt s9 n93)), .int .i64 (n97 + 1)] w34 < mu95 [.bool b96, .int .i64 n97] w33))
  (cond (!b96)
  (Q (.bool false) w33)
  (inI (n93 + 1) ∧
  I91 [.int .i64 (n93 + 1)] w33 ∧ mu92 [.int .i64 (n93 + 1)] w33 < mu92 [.int .i64 n93] w32)))
  (Q (.bool true) w32))))))))))))))))))))
theorem C6 {b1 : Bool} {b2 : Bool} {b3 : Bool} {b4 : Bool} {b5 : Bool} {b6 : Bool} {b7 : Bool} {b8 : Bool} {s9 : ByteArray} {Q : Value → World → Prop} {w : World} (h : L6 b1 b2 b3 b4 b5 b6 b7 b8 s9 Q w) : CallR Try.prog 6 [.agg #[.bool b1, .bool b2, .bool b3, .bool b4, .bool b5, .bool b6, .bool b7, .bool b8], .string s9] w Q :=
  fun_calls (A := A6) mixed Try.func6 (c := (Try.f6.body).getD .skip) rfl (by kernel_rfl) (Eq.mp (by kernel_rfl) h)

end Go.Proofs.Ytapnpbfbebdjjaa
