/-
  What some functions of the program ask of the world, printed by a program out of the loaded program; each text is held against the code by evaluation. Conditions: none.
-/
import Derived.Test.YtbiofmgebbdflaaProg
import Derived.Test.YtbiofmgebbdflaaLm
import Derived.Test.YtbiofmgebbdflaaLX
import Derived.Test.YtbiofmgebbdflaaRfC
set_option linter.unusedVariables false
set_option maxRecDepth 100000
namespace Go.Proofs.Ytbiofmgebbdflaa
open Go.Lw
/-- millrace/millracetop.num -/
def A17 : Ann := ⟨[], [], [], [], []⟩
def L17 (n1 : Int) (Q : Value → World → Prop) (w : World) : Prop :=
  Q (.int .i64 n1) w
theorem C17 {n1 : Int} {Q : Value → World → Prop} {w : World} (h : L17 n1 Q w) : CallR Try.prog 17 [.int .i64 n1] w Q :=
  fun_calls (A := A17) mixed Try.func17 (c := (Try.f17.body).getD .skip) rfl (by kernel_rfl) (Eq.mp (by kernel_rfl) h)

/-- millrace/millracetop.piped -/
def A15 : Ann := ⟨[], [], [], [], []⟩
def L15 (Q : Value → World → Prop) (w : World) : Prop :=
  CallR Try.prog 16 [.agg #[.slice none 0 0, .slice none 0 0, .slice none 0 0]] w (fun (r3 : Value) (w1 : World) =>
  ∃ (p1 : Option Addr) (n2 : Int), r3 = .tuple #[.pointer p1, .int .i64 n2] ∧
  CallR Try.prog 17 [.int .i64 n2] w1 (fun (r5 : Value) (w2 : World) =>
  ∃ (n4 : Int), r5 = .int .i64 n4 ∧
  cond (n4 != 0)
  (Q (.bool false) w2)
  (cond (Option.isNone p1)
  (Q (.bool false) w2)
  (CallR Try.prog 18 [.pointer p1] w2 (fun (r9 : Value) (w3 : World) =>
  ∃ (n6 : Int) (n7 : Int) (n8 : Int), r9 = .tuple #[.int .i64 n6, .int .i64 n7, .int .i64 n8] ∧
  let w4 := World.alloc w3 (Obj.cells #[.int .u8 97, .int .u8 98] 5);
  ∃ (a10 : Option Addr) (l10 : Nat) (c10 : Nat) (w5 : World), Sem.run Try.prog (convert 36 36 (.slice (some (Addr.mk w3.heap.size 0 none)) 2 2)) w4 = .ok ((.slice a10 l10 c10 : Value)) w5 ∧
  CallR Try.prog 20 [.pointer p1, .int .i64 n7, .slice a10 l10 c10] w5 (fun (r13 : Value) (w6 : World) =>
  ∃ (n11 : Int) (n12 : Int), r13 = .tuple #[.int .i64 n11, .int .i64 n12] ∧
  CallR Try.prog 19 [.pointer p1, .int .i64 n6, .int .i64 9] w6 (fun (r16 : Value) (w7 : World) =>
  ∃ (a14 : Option Addr) (l14 : Nat) (c14 : Nat) (n15 : Int), r16 = .tuple #[.slice a14 l14 c14, .int .i64 n15] ∧
  CallR Try.prog 17 [.int .i64 n8] w7 (fun (r18 : Value) (w8 : World) =>
  ∃ (n17 : Int), r18 = .int .i64 n17 ∧
  CallR Try.prog 17 [.int .i64 n12] w8 (fun (r20 : Value) (w9 : World) =>
  ∃ (n19 : Int), r20 = .int .i64 n19 ∧
  inI (n17 + n19) ∧
  CallR Try.prog 17 [.int .i64 n15] w9 (fun (r22 : Value) (w10 : World) =>
  ∃ (n21 : Int), r22 = .int .i64 n21 ∧
  inI ((n17 + n19) + n21) ∧
  cond (((n17 + n19) + n21) == 0)
  (cond (n11 == 2)
  (∃ (s23 : ByteArray) (w11 : World), Sem.run Try.prog (convert 36 9 (.slice a14 l14 c14)) w10 = .ok ((.string s23 : Value)) w11 ∧
  Q (.bool (ByteArray.toList s23 == ByteArray.toList (ByteArray.mk #[97, 98]))) w11)
  (Q (.bool false) w10))
  (Q (.bool false) w10)))))))))))
theorem C15 {Q : Value → World → Prop} {w : World} (h : L15 Q w) : CallR Try.prog 15 [] w Q :=
  fun_calls (A := A15) mixed Try.func15 (c := (Try.f15.body).getD .skip) rfl (by kernel_rfl) (Eq.mp (by kernel_rfl) h)

/-- millrace/millracetop.TopWhole -/
def A3 : Ann := ⟨[(11, [(10, .one (.slice)), (11, .one (.slice)), (12, .one (.int .i64))]), (18, [(16, .one (.int .i64))])], [], [], [], []⟩
def L3 (a1 : Option Addr) (l1 : Nat) (c1 : Nat) (a2 : Option Addr) (l2 : Nat) (c2 : Nat) (Q : Value → World → Prop) (w : World) : Prop :=
  CallR Try.prog 15 [] w (fun (r4 : Value) (w1 : World) =>
  ∃ (b3 : Bool), r4 = .bool b3 ∧
  cond (!b3)
  (Q (.bool false) w1)
  (CallR Try.prog 16 [.agg #[.slice none 0 0, .slice none 0 0, .slice a1 l1 c1]] w1 (fun (r7 : Value) (w2 : World) =>
  ∃ (p5 : Option Addr) (n6 : Int), r7 = .tuple #[.pointer p5, .int .i64 n6] ∧
  CallR Try.prog 17 [.int .i64 n6] w2 (fun (r9 : Value) (w3 : World) =>
  ∃ (n8 : Int), r9 = .int .i64 n8 ∧
  cond (n8 != 0)
  (Q (.bool (Option.isNone p5)) w3)
  (cond (Option.isNone p5)
  (Q (.bool (Option.isNone p5)) w3)
  (CallR Try.prog 18 [.pointer p5] w3 (fun (r13 : Value) (w4 : World) =>
  ∃ (n10 : Int) (n11 : Int) (n12 : Int), r13 = .tuple #[.int .i64 n10, .int .i64 n11, .int .i64 n12] ∧
  CallR Try.prog 17 [.int .i64 n12] w4 (fun (r15 : Value) (w5 : World) =>
  ∃ (n14 : Int), r15 = .int .i64 n14 ∧
  cond (n14 != 0)
  (Q (.bool false) w5)
  (∃ (I16 : List Value → World → Prop) (mu17 : List Value → World → Nat),
  I16 [.slice none 0 0, .slice none 0 0, .int .i64 0] w5 ∧
  ∀ (_ : Env) (a18 : Option Addr) (l18 : Nat) (c18 : Nat) (a19 : Option Addr) (l19 : Nat) (c19 : Nat) (n20 : Int) (w6 : World), I16 [.slice a18 l18 c18, .slice a19 l19 c19, .int .i64 n20] w6 →
  cond (decide (n20 < (((l2 : Nat) : Int))))
  ((0 ≤ (n20 : Int) ∧ (n20 : Int) < ((l2 : Nat) : Int)) ∧
  nn a2 (fun (q21 : Addr) =>
  ∃ (n22 : Int), w6.cell? (Addr.add q21 (Int.toNat n20 * 2)) = some ((.int .i64 n22 : Value)) ∧
  cond (decide (n22 < 0))
  ((0 ≤ (n20 : Int) ∧ (n20 : Int) < ((l2 : Nat) : Int)) ∧
  nn a2 (fun (q23 : Addr) =>
  ∃ (n24 : Int), w6.cell? (Addr.add (Addr.add q23 (Int.toNat n20 * 2)) 1) = some ((.int .i64 n24 : Value)) ∧
  (3000 : Int) ≠ 0 ∧
  inI ((Int.tmod n24 (3000 : Int)) + 3000) ∧
  (3000 : Int) ≠ 0 ∧
  CallR Try.prog 19 [.pointer p5, .int .i64 n10, .int .i64 (Int.tmod ((Int.tmod n24 (3000 : Int)) + 3000) (3000 : Int))] w6 (fun (r27 : Value) (w7 : World) =>
  ∃ (a25 : Option Addr) (l25 : Nat) (c25 : Nat) (n26 : Int), r27 = .tuple #[.slice a25 l25 c25, .int .i64 n26] ∧
  ∃ (a28 : Option Addr) (l28 : Nat) (c28 : Nat) (w8 : World), Sem.run Try.prog (Builtin.append_ #[36, 36] 36 #[.slice a19 l19 c19, .slice a25 l25 c25]) w7 = .ok ((.slice a28 l28 c28 : Value)) w8 ∧
  inI (n20 + 1) ∧
  I16 [.slice a18 l18 c18, .slice a28 l28 c28, .int .i64 (n20 + 1)] w8 ∧ mu17 [.slice a18 l18 c18, .slice a28 l28 c28, .int .i64 (n20 + 1)] w8 < mu17 [.slice a18 l18 c18, .slice a19 l19 c19, .int .i64 n20] w6)))
  ((0 ≤ (n20 : Int) ∧ (n20 : Int) < ((l2 : Nat) : Int)) ∧
  nn a2 (fun (q29 : Addr) =>
  ∃ (n30 : Int), w6.cell? (Addr.add (Addr.add q29 (Int.toNat n20 * 2)) 1) = some ((.int .i64 n30 : Value)) ∧
  (513 : Int) ≠ 0 ∧
  inI ((Int.tmod n30 (513 : Int)) + 513) ∧
  (513 : Int) ≠ 0 ∧
  ∃ (a31 : Option Addr) (l31 : Nat) (c31 : Nat) (w9 : World), Sem.run Try.prog (Instr.makeSlice 36 (.int .i64 (Int.tmod ((Int.tmod n30 (513 : Int)) + 513) (513 : Int))) (.int .i64 (Int.tmod ((Int.tmod n30 (513 : Int)) + 513) (513 : Int)))) w6 = .ok ((.slice a31 l31 c31 : Value)) w9 ∧
  ∃ (I32 : List Value → World → Prop) (mu33 : List Value → World → Nat),
  I32 [.int .i64 0] w9 ∧
  ∀ (_ : Env) (n34 : Int) (w10 : World), I32 [.int .i64 n34] w10 →
  cond (decide (n34 < (((l31 : Nat) : Int))))
  ((0 ≤ (n20 : Int) ∧ (n20 : Int) < ((l2 : Nat) : Int)) ∧
  nn a2 (fun (q35 : Addr) =>
  ∃ (n36 : Int), w10.cell? (Addr.add q35 (Int.toNat n20 * 2)) = some ((.int .i64 n36 : Value)) ∧
  (0 ≤ (n34 : Int) ∧ (n34 : Int) < ((l31 : Nat) : Int)) ∧
  nn a31 (fun (q37 : Addr) =>
  stC (Addr.add q37 (Int.toNat n34)) (.int .u8 (IntKind.wrap .u8 n36)) w10 (fun (w11 : World) =>
  inI (n34 + 1) ∧
  I32 [.int .i64 (n34 + 1)] w11 ∧ mu33 [.int .i64 (n34 + 1)] w11 < mu33 [.int .i64 n34] w10))))
  (CallR Try.prog 20 [.pointer p5, .int .i64 n11, .slice a31 l31 c31] w10 (fun (r40 : Value) (w12 : World) =>
  ∃ (n38 : Int) (n39 : Int), r40 = .tuple #[.int .i64 n38, .int .i64 n39] ∧
  CallR Try.prog 17 [.int .i64 n39] w12 (fun (r42 : Value) (w13 : World) =>
  ∃ (n41 : Int), r42 = .int .i64 n41 ∧
  cond (n41 == 0)
  (cond (n38 != (((l31 : Nat) : Int)))
  (Q (.bool false) w13)
  (CallR Try.prog 17 [.int .i64 n39] w13 (fun (r44 : Value) (w14 : World) =>
  ∃ (n43 : Int), r44 = .int .i64 n43 ∧
  cond (n43 != 0)
  (cond (n38 != 0)
  (Q (.bool false) w14)
  (CallR Try.prog 17 [.int .i64 n39] w14 (fun (r46 : Value) (w15 : World) =>
  ∃ (n45 : Int), r46 = .int .i64 n45 ∧
  cond (n45 == 0)
  (∃ (a47 : Option Addr) (l47 : Nat) (c47 : Nat) (w16 : World), Sem.run Try.prog (Builtin.append_ #[36, 36] 36 #[.slice a18 l18 c18, .slice a31 l31 c31]) w15 = .ok ((.slice a47 l47 c47 : Value)) w16 ∧
  inI (n20 + 1) ∧
  I16 [.slice a47 l47 c47, .slice a19 l19 c19, .int .i64 (n20 + 1)] w16 ∧ mu17 [.slice a47 l47 c47, .slice a19 l19 c19, .int .i64 (n20 + 1)] w16 < mu17 [.slice a18 l18 c18, .slice a19 l19 c19, .int .i64 n20] w6)
  (inI (n20 + 1) ∧
  I16 [.slice a18 l18 c18, .slice a19 l19 c19, .int .i64 (n20 + 1)] w15 ∧ mu17 [.slice a18 l18 c18, .slice a19 l19 c19, .int .i64 (n20 + 1)] w15 < mu17 [.slice a18 l18 c18, .slice a19 l19 c19, .int .i64 n20] w6))))
  (CallR Try.prog 17 [.int .i64 n39] w14 (fun (r49 : Value) (w17 : World) =>
  ∃ (n48 : Int), r49 = .int .i64 n48 ∧
  cond (n48 == 0)
  (∃ (a50 : Option Addr) (l50 : Nat) (c50 : Nat) (w18 : World), Sem.run Try.prog (Builtin.append_ #[36, 36] 36 #[.slice a18 l18 c18, .slice a31 l31 c31]) w17 = .ok ((.slice a50 l50 c50 : Value)) w18 ∧
  inI (n20 + 1) ∧
  I16 [.slice a50 l50 c50, .slice a19 l19 c19, .int .i64 (n20 + 1)] w18 ∧ mu17 [.slice a50 l50 c50, .slice a19 l19 c19, .int .i64 (n20 + 1)] w18 < mu17 [.slice a18 l18 c18, .slice a19 l19 c19, .int .i64 n20] w6)
  (inI (n20 + 1) ∧
  I16 [.slice a18 l18 c18, .slice a19 l19 c19, .int .i64 (n20 + 1)] w17 ∧ mu17 [.slice a18 l18 c18, .slice a19 l19 c19, .int .i64 (n20 + 1)] w17 < mu17 [.slice a18 l18 c18, .slice a19 l19 c19, .int .i64 n20] w6))))))
  (CallR Try.prog 17 [.int .i64 n39] w13 (fun (r52 : Value) (w19 : World) =>
  ∃ (n51 : Int), r52 = .int .i64 n51 ∧
  cond (n51 != 0)
  (cond (n38 != 0)
  (Q (.bool false) w19)
  (CallR Try.prog 17 [.int .i64 n39] w19 (fun (r54 : Value) (w20 : World) =>
  ∃ (n53 : Int), r54 = .int .i64 n53 ∧
  cond (n53 == 0)
  (∃ (a55 : Option Addr) (l55 : Nat) (c55 : Nat) (w21 : World), Sem.run Try.prog (Builtin.append_ #[36, 36] 36 #[.slice a18 l18 c18, .slice a31 l31 c31]) w20 = .ok ((.slice a55 l55 c55 : Value)) w21 ∧
  inI (n20 + 1) ∧
  I16 [.slice a55 l55 c55, .slice a19 l19 c19, .int .i64 (n20 + 1)] w21 ∧ mu17 [.slice a55 l55 c55, .slice a19 l19 c19, .int .i64 (n20 + 1)] w21 < mu17 [.slice a18 l18 c18, .slice a19 l19 c19, .int .i64 n20] w6)
  (inI (n20 + 1) ∧
  I16 [.slice a18 l18 c18, .slice a19 l19 c19, .int .i64 (n20 + 1)] w20 ∧ mu17 [.slice a18 l18 c18, .slice a19 l19 c19, .int .i64 (n20 + 1)] w20 < mu17 [.slice a18 l18 c18, .slice a19 l19 c19, .int .i64 n20] w6))))
  (CallR Try.prog 17 [.int .i64 n39] w19 (fun (r57 : Value) (w22 : World) =>
  ∃ (n56 : Int), r57 = .int .i64 n56 ∧
  cond (n56 == 0)
  (∃ (a58 : Option Addr) (l58 : Nat) (c58 : Nat) (w23 : World), Sem.run Try.prog (Builtin.append_ #[36, 36] 36 #[.slice a18 l18 c18, .slice a31 l31 c31]) w22 = .ok ((.slice a58 l58 c58 : Value)) w23 ∧
  inI (n20 + 1) ∧
  I16 [.slice a58 l58 c58, .slice a19 l19 c19, .int .i64 (n20 + 1)] w23 ∧ mu17 [.slice a58 l58 c58, .slice a19 l19 c19, .int .i64 (n20 + 1)] w23 < mu17 [.slice a18 l18 c18, .slice a19 l19 c19, .int .i64 n20] w6)
  (inI (n20 + 1) ∧
  I16 [.slice a18 l18 c18, .slice a19 l19 c19, .int .i64 (n20 + 1)] w22 ∧ mu17 [.slice a18 l18 c18, .slice a19 l19 c19, .int .i64 (n20 + 1)] w22 < mu17 [.slice a18 l18 c18, .slice a19 l19 c19, .int .i64 n20] w6))))))))))))
  (CallR Try.prog 21 [.pointer p5, .int .i64 n10] w6 (fun (r60 : Value) (w24 : World) =>
  ∃ (a59 : Option Addr) (l59 : Nat) (c59 : Nat), r60 = .slice a59 l59 c59 ∧
  cond (decide ((((l59 : Nat) : Int)) ≤ 4096))
  (∃ (a61 : Option Addr) (l61 : Nat) (c61 : Nat) (w25 : World), Sem.run Try.prog (Builtin.append_ #[36, 36] 36 #[.slice a19 l19 c19, .slice a59 l59 c59]) w24 = .ok ((.slice a61 l61 c61 : Value)) w25 ∧
  CallR Try.prog 22 [.slice a61 l61 c61, .slice a18 l18 c18] w25 (fun (r63 : Value) (w26 : World) =>
  ∃ (b62 : Bool), r63 = .bool b62 ∧
  Q (.bool b62) w26))
  (Q (.bool false) w24))))))))))))
theorem C3 {a1 : Option Addr} {l1 : Nat} {c1 : Nat} {a2 : Option Addr} {l2 : Nat} {c2 : Nat} {Q : Value → World → Prop} {w : World} (h : L3 a1 l1 c1 a2 l2 c2 Q w) : CallR Try.prog 3 [.slice a1 l1 c1, .slice a2 l2 c2] w Q :=
  fun_calls (A := A3) mixed Try.func3 (c := (Try.f3.body).getD .skip) rfl (by kernel_rfl) (Eq.mp (by kernel_rfl) h)

end Go.Proofs.Ytbiofmgebbdflaa
