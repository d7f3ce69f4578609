/-
  What some functions of the program ask of the world, printed by a program out of the loaded program; each text is held against the code by evaluation. Conditions: none.
-/
import Derived.Test.YtkjmlbplmffekaaGreatProg
import Derived.Test.YtkjmlbplmffekaaGreatLm
import Derived.Test.YtkjmlbplmffekaaGreatLX
import Derived.Test.YtkjmlbplmffekaaGreatRfC
set_option linter.unusedVariables false
set_option maxRecDepth 100000
namespace Go.Proofs.YtkjmlbplmffekaaGreat
open Go.Lw
/-- slices.Sort[[]string,string] -/
def A96 : Ann := ⟨[], [], [], [], [], []⟩
def L96 (a1 : Option Addr) (l1 : Nat) (c1 : Nat) (Q : Value → World → Prop) (w : World) : Prop :=
  CallR Tryz.prog 193 [.int .u64 (IntKind.wrap .u64 (((l1 : Nat) : Int)))] w (fun (r3 : Value) (w1 : World) =>
  ∃ (n2 : Int), r3 = .int .i64 n2 ∧
  CallR Tryz.prog 192 [.slice a1 l1 c1, .int .i64 0, .int .i64 (((l1 : Nat) : Int)), .int .i64 n2] w1 (fun (r4 : Value) (w2 : World) =>
  r4 = .tuple #[] ∧
  Q (.tuple #[]) w2))
theorem C96 {a1 : Option Addr} {l1 : Nat} {c1 : Nat} {Q : Value → World → Prop} {w : World} (h : L96 a1 l1 c1 Q w) : CallR Tryz.prog 96 [.slice a1 l1 c1] w Q :=
  fun_calls (A := A96) mixed Tryz.func96 (c := (Tryz.f96.body).getD .skip) rfl (by kernel_rfl) (Eq.mp (by kernel_rfl) h)

/-- slices.pdqsortOrdered[string] -/
def A192 : Ann := ⟨[(2, [(1, .one (.int .i64)), (2, .one (.int .i64)), (3, .one (.int .i64)), (8, .one (.bool)), (9, .one (.bool))])], [(10, [(3, .one (.int .i64))]), (15, [(11, .one (.int .i64)), (12, .one (.int .i64))]), (17, [])], [], [(17, [0, 1, 2, 3, 4, 5, 6, 7, 8, 9, 10, 11, 12, 13, 14])], [], []⟩
def L192 (a1 : Option Addr) (l1 : Nat) (c1 : Nat) (n2 : Int) (n3 : Int) (n4 : Int) (Q : Value → World → Prop) (w : World) : Prop :=
  ∃ (I5 : List Value → World → Prop) (mu6 : List Value → World → Nat),
  I5 [.int .i64 n2, .int .i64 n3, .int .i64 n4, .bool true, .bool true] w ∧
  ∀ (_ : Env) (n7 : Int) (n8 : Int) (n9 : Int) (b10 : Bool) (b11 : Bool) (w1 : World), I5 [.int .i64 n7, .int .i64 n8, .int .i64 n9, .bool b10, .bool b11] w1 →
  inI (n8 - n7) ∧
  cond (decide ((n8 - n7) ≤ 12))
  (CallR Tryz.prog 234 [.slice a1 l1 c1, .int .i64 n7, .int .i64 n8] w1 (fun (r12 : Value) (w2 : World) =>
  r12 = .tuple #[] ∧
  Q (.tuple #[]) w2))
  (cond (n9 == 0)
  (CallR Tryz.prog 235 [.slice a1 l1 c1, .int .i64 n7, .int .i64 n8] w1 (fun (r13 : Value) (w3 : World) =>
  r13 = .tuple #[] ∧
  Q (.tuple #[]) w3))
  (∃ (J14 : List Value → World → Prop),
  (cond (!b10)
  (CallR Tryz.prog 236 [.slice a1 l1 c1, .int .i64 n7, .int .i64 n8] w1 (fun (r15 : Value) (w4 : World) =>
  r15 = .tuple #[] ∧
  inI (n9 - 1) ∧
  J14 [.int .i64 (n9 - 1)] w4))
  (J14 [.int .i64 n9] w1)) ∧
  (∀ (_ : Env) (n16 : Int) (w5 : World), J14 [.int .i64 n16] w5 →
  CallR Tryz.prog 237 [.slice a1 l1 c1, .int .i64 n7, .int .i64 n8] w5 (fun (r19 : Value) (w6 : World) =>
  ∃ (n17 : Int) (n18 : Int), r19 = .tuple #[.int .i64 n17, .int .i64 n18] ∧
  ∃ (J20 : List Value → World → Prop),
  (cond (n18 == 2)
  (CallR Tryz.prog 238 [.slice a1 l1 c1, .int .i64 n7, .int .i64 n8] w6 (fun (r21 : Value) (w7 : World) =>
  r21 = .tuple #[] ∧
  inI (n8 - 1) ∧
  inI (n17 - n7) ∧
  inI ((n8 - 1) - (n17 - n7)) ∧
  J20 [.int .i64 ((n8 - 1) - (n17 - n7)), .int .i64 1] w7))
  (J20 [.int .i64 n17, .int .i64 n18] w6)) ∧
  (∀ (_ : Env) (n22 : Int) (n23 : Int) (w8 : World), J20 [.int .i64 n22, .int .i64 n23] w8 →
  ∃ (J24 : List Value → World → Prop),
  (cond b10
  (cond b11
  (cond (n23 == 1)
  (CallR Tryz.prog 239 [.slice a1 l1 c1, .int .i64 n7, .int .i64 n8] w8 (fun (r26 : Value) (w9 : World) =>
  ∃ (b25 : Bool), r26 = .bool b25 ∧
  cond b25
  (Q (.tuple #[]) w9)
  (J24 [] w9)))
  (J24 [] w8))
  (J24 [] w8))
  (J24 [] w8)) ∧
  (∀ (_ : Env) (w10 : World), J24 [] w10 →
  let w11 := World.drew w10;
  cond (decide (n7 > 0))
  (inI (n7 - 1) ∧
  (0 ≤ (n7 - 1 : Int) ∧ (n7 - 1 : Int) < ((l1 : Nat) : Int)) ∧
  nn a1 (fun (q27 : Addr) =>
  ∃ (s28 : ByteArray), w11.cell? (Addr.add q27 (Int.toNat (n7 - 1))) = some ((.string s28 : Value)) ∧
  (0 ≤ (n22 : Int) ∧ (n22 : Int) < ((l1 : Nat) : Int)) ∧
  nn a1 (fun (q29 : Addr) =>
  ∃ (s30 : ByteArray), w11.cell? (Addr.add q29 (Int.toNat n22)) = some ((.string s30 : Value)) ∧
  CallR Tryz.prog 240 [.string s28, .string s30] w11 (fun (r32 : Value) (w12 : World) =>
  ∃ (b31 : Bool), r32 = .bool b31 ∧
  cond (!b31)
  (CallR Tryz.prog 241 [.slice a1 l1 c1, .int .i64 n7, .int .i64 n8, .int .i64 n22] w12 (fun (r34 : Value) (w13 : World) =>
  ∃ (n33 : Int), r34 = .int .i64 n33 ∧
  I5 [.int .i64 n33, .int .i64 n8, .int .i64 n16, .bool b10, .bool b11] w13 ∧ mu6 [.int .i64 n33, .int .i64 n8, .int .i64 n16, .bool b10, .bool b11] w13 < mu6 [.int .i64 n7, .int .i64 n8, .int .i64 n9, .bool b10, .bool b11] w1))
  (CallR Tryz.prog 242 [.slice a1 l1 c1, .int .i64 n7, .int .i64 n8, .int .i64 n22] w12 (fun (r37 : Value) (w14 : World) =>
  ∃ (n35 : Int) (b36 : Bool), r37 = .tuple #[.int .i64 n35, .bool b36] ∧
  inI (n35 - n7) ∧
  inI (n8 - n35) ∧
  (8 : Int) ≠ 0 ∧
  inI (Int.tdiv (n8 - n7) (8 : Int)) ∧
  cond (decide ((n35 - n7) < (n8 - n35)))
  (CallR Tryz.prog 192 [.slice a1 l1 c1, .int .i64 n7, .int .i64 n35, .int .i64 n16] w14 (fun (r38 : Value) (w15 : World) =>
  r38 = .tuple #[] ∧
  inI (n35 + 1) ∧
  I5 [.int .i64 (n35 + 1), .int .i64 n8, .int .i64 n16, .bool (decide ((n35 - n7) ≥ (Int.tdiv (n8 - n7) (8 : Int)))), .bool b36] w15 ∧ mu6 [.int .i64 (n35 + 1), .int .i64 n8, .int .i64 n16, .bool (decide ((n35 - n7) ≥ (Int.tdiv (n8 - n7) (8 : Int)))), .bool b36] w15 < mu6 [.int .i64 n7, .int .i64 n8, .int .i64 n9, .bool b10, .bool b11] w1))
  (inI (n35 + 1) ∧
  CallR Tryz.prog 192 [.slice a1 l1 c1, .int .i64 (n35 + 1), .int .i64 n8, .int .i64 n16] w14 (fun (r39 : Value) (w16 : World) =>
  r39 = .tuple #[] ∧
  I5 [.int .i64 n7, .int .i64 n35, .int .i64 n16, .bool (decide ((n8 - n35) ≥ (Int.tdiv (n8 - n7) (8 : Int)))), .bool b36] w16 ∧ mu6 [.int .i64 n7, .int .i64 n35, .int .i64 n16, .bool (decide ((n8 - n35) ≥ (Int.tdiv (n8 - n7) (8 : Int)))), .bool b36] w16 < mu6 [.int .i64 n7, .int .i64 n8, .int .i64 n9, .bool b10, .bool b11] w1))))))))
  (CallR Tryz.prog 242 [.slice a1 l1 c1, .int .i64 n7, .int .i64 n8, .int .i64 n22] w11 (fun (r42 : Value) (w17 : World) =>
  ∃ (n40 : Int) (b41 : Bool), r42 = .tuple #[.int .i64 n40, .bool b41] ∧
  inI (n40 - n7) ∧
  inI (n8 - n40) ∧
  (8 : Int) ≠ 0 ∧
  inI (Int.tdiv (n8 - n7) (8 : Int)) ∧
  cond (decide ((n40 - n7) < (n8 - n40)))
  (CallR Tryz.prog 192 [.slice a1 l1 c1, .int .i64 n7, .int .i64 n40, .int .i64 n16] w17 (fun (r43 : Value) (w18 : World) =>
  r43 = .tuple #[] ∧
  inI (n40 + 1) ∧
  I5 [.int .i64 (n40 + 1), .int .i64 n8, .int .i64 n16, .bool (decide ((n40 - n7) ≥ (Int.tdiv (n8 - n7) (8 : Int)))), .bool b41] w18 ∧ mu6 [.int .i64 (n40 + 1), .int .i64 n8, .int .i64 n16, .bool (decide ((n40 - n7) ≥ (Int.tdiv (n8 - n7) (8 : Int)))), .bool b41] w18 < mu6 [.int .i64 n7, .int .i64 n8, .int .i64 n9, .bool b10, .bool b11] w1))
  (inI (n40 + 1) ∧
  CallR Tryz.prog 192 [.slice a1 l1 c1, .int .i64 (n40 + 1), .int .i64 n8, .int .i64 n16] w17 (fun (r44 : Value) (w19 : World) =>
  r44 = .tuple #[] ∧
  I5 [.int .i64 n7, .int .i64 n40, .int .i64 n16, .bool (decide ((n8 - n40) ≥ (Int.tdiv (n8 - n7) (8 : Int)))), .bool b41] w19 ∧ mu6 [.int .i64 n7, .int .i64 n40, .int .i64 n16, .bool (decide ((n8 - n40) ≥ (Int.tdiv (n8 - n7) (8 : Int)))), .bool b41] w19 < mu6 [.int .i64 n7, .int .i64 n8, .int .i64 n9, .bool b10, .bool b11] w1))))))))))
theorem C192 {a1 : Option Addr} {l1 : Nat} {c1 : Nat} {n2 : Int} {n3 : Int} {n4 : Int} {Q : Value → World → Prop} {w : World} (h : L192 a1 l1 c1 n2 n3 n4 Q w) : CallR Tryz.prog 192 [.slice a1 l1 c1, .int .i64 n2, .int .i64 n3, .int .i64 n4] w Q :=
  fun_calls (A := A192) mixed Tryz.func192 (c := (Tryz.f192.body).getD .skip) rfl (by kernel_rfl) (Eq.mp (by kernel_rfl) h)

/-- slices.insertionSortOrdered[string] -/
def A234 : Ann := ⟨[(1, [(6, .one (.int .i64))]), (4, [(7, .one (.int .i64))])], [], [], [(4, [0, 1, 2, 3, 4, 5, 6, 7, 8, 9, 10, 11, 12, 13, 14]), (6, [0, 1, 2, 3, 4, 5, 6, 7, 8, 9, 10, 11, 12, 13, 14, 15, 16, 17])], [], []⟩
def L234 (a1 : Option Addr) (l1 : Nat) (c1 : Nat) (n2 : Int) (n3 : Int) (Q : Value → World → Prop) (w : World) : Prop :=
  inI (n2 + 1) ∧
  ∃ (I4 : List Value → World → Prop) (mu5 : List Value → World → Nat),
  I4 [.int .i64 (n2 + 1)] w ∧
  ∀ (_ : Env) (n6 : Int) (w1 : World), I4 [.int .i64 n6] w1 →
  cond (decide (n6 < n3))
  (∃ (I7 : List Value → World → Prop) (mu8 : List Value → World → Nat),
  I7 [.int .i64 n6] w1 ∧
  ∀ (_ : Env) (n9 : Int) (w2 : World), I7 [.int .i64 n9] w2 →
  let w3 := World.drew w2;
  cond (decide (n9 > n2))
  ((0 ≤ (n9 : Int) ∧ (n9 : Int) < ((l1 : Nat) : Int)) ∧
  nn a1 (fun (q10 : Addr) =>
  ∃ (s11 : ByteArray), w3.cell? (Addr.add q10 (Int.toNat n9)) = some ((.string s11 : Value)) ∧
  inI (n9 - 1) ∧
  (0 ≤ (n9 - 1 : Int) ∧ (n9 - 1 : Int) < ((l1 : Nat) : Int)) ∧
  nn a1 (fun (q12 : Addr) =>
  ∃ (s13 : ByteArray), w3.cell? (Addr.add q12 (Int.toNat (n9 - 1))) = some ((.string s13 : Value)) ∧
  CallR Tryz.prog 240 [.string s11, .string s13] w3 (fun (r15 : Value) (w4 : World) =>
  ∃ (b14 : Bool), r15 = .bool b14 ∧
  cond b14
  (let w5 := World.drew w4;
  inI (n9 - 1) ∧
  inI (n9 - 1) ∧
  (0 ≤ (n9 - 1 : Int) ∧ (n9 - 1 : Int) < ((l1 : Nat) : Int)) ∧
  nn a1 (fun (q16 : Addr) =>
  ∃ (s17 : ByteArray), w5.cell? (Addr.add q16 (Int.toNat (n9 - 1))) = some ((.string s17 : Value)) ∧
  (0 ≤ (n9 : Int) ∧ (n9 : Int) < ((l1 : Nat) : Int)) ∧
  nn a1 (fun (q18 : Addr) =>
  ∃ (s19 : ByteArray), w5.cell? (Addr.add q18 (Int.toNat n9)) = some ((.string s19 : Value)) ∧
  (0 ≤ (n9 : Int) ∧ (n9 : Int) < ((l1 : Nat) : Int)) ∧
  nn a1 (fun (q20 : Addr) =>
  stC (Addr.add q20 (Int.toNat n9)) (.string s17) w5 (fun (w6 : World) =>
  (0 ≤ (n9 - 1 : Int) ∧ (n9 - 1 : Int) < ((l1 : Nat) : Int)) ∧
  nn a1 (fun (q21 : Addr) =>
  stC (Addr.add q21 (Int.toNat (n9 - 1))) (.string s19) w6 (fun (w7 : World) =>
  inI (n9 - 1) ∧
  I7 [.int .i64 (n9 - 1)] w7 ∧ mu8 [.int .i64 (n9 - 1)] w7 < mu8 [.int .i64 n9] w2)))))))
  (inI (n6 + 1) ∧
  I4 [.int .i64 (n6 + 1)] w4 ∧ mu5 [.int .i64 (n6 + 1)] w4 < mu5 [.int .i64 n6] w1)))))
  (inI (n6 + 1) ∧
  I4 [.int .i64 (n6 + 1)] w3 ∧ mu5 [.int .i64 (n6 + 1)] w3 < mu5 [.int .i64 n6] w1))
  (Q (.tuple #[]) w1)
theorem C234 {a1 : Option Addr} {l1 : Nat} {c1 : Nat} {n2 : Int} {n3 : Int} {Q : Value → World → Prop} {w : World} (h : L234 a1 l1 c1 n2 n3 Q w) : CallR Tryz.prog 234 [.slice a1 l1 c1, .int .i64 n2, .int .i64 n3] w Q :=
  fun_calls (A := A234) mixed Tryz.func234 (c := (Tryz.f234.body).getD .skip) rfl (by kernel_rfl) (Eq.mp (by kernel_rfl) h)

end Go.Proofs.YtkjmlbplmffekaaGreat
