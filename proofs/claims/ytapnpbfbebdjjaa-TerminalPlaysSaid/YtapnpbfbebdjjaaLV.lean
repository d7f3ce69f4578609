/-
  What some functions of the program ask of the world, printed by a program out of the loaded program; each text is held against the code by evaluation. Conditions: none.
-/
import Derived.Test.YtapnpbfbebdjjaaProg
import Derived.Test.YtapnpbfbebdjjaaLm
import Derived.Test.YtapnpbfbebdjjaaLA
import Derived.Test.YtapnpbfbebdjjaaLT
import Derived.Test.YtapnpbfbebdjjaaLU
set_option linter.unusedVariables false
set_option maxRecDepth 100000
namespace Go.Proofs.Ytapnpbfbebdjjaa
open Go.Lw
/-- millrace/millraceref04.Check -/
def A60 : Ann := ⟨[(4, [(3, .one (.int .i64))])], [], [], [], []⟩
def L60 (a1 : Option Addr) (l1 : Nat) (c1 : Nat) (Q : Value → World → Prop) (w : World) : Prop :=
  cond (decide ((((l1 : Nat) : Int)) > 256))
  (Q (.int .i64 3) w)
  (∃ (I2 : List Value → World → Prop) (mu3 : List Value → World → Nat),
  I2 [.int .i64 0] w ∧
  ∀ (_ : Env) (n4 : Int) (w1 : World), I2 [.int .i64 n4] w1 →
  cond (decide (n4 < (((l1 : Nat) : Int))))
  ((0 ≤ (n4 : Int) ∧ (n4 : Int) < ((l1 : Nat) : Int)) ∧
  nn a1 (fun (q5 : Addr) =>
  ∃ (a6 : Option Addr) (l6 : Nat) (c6 : Nat), w1.cell? (Addr.add q5 (Int.toNat n4)) = some ((.slice a6 l6 c6 : Value)) ∧
  cond (decide ((((l6 : Nat) : Int)) > 4096))
  (Q (.int .i64 5) w1)
  (inI (n4 + 1) ∧
  I2 [.int .i64 (n4 + 1)] w1 ∧ mu3 [.int .i64 (n4 + 1)] w1 < mu3 [.int .i64 n4] w1)))
  (Q (.int .i64 0) w1))
theorem C60 {a1 : Option Addr} {l1 : Nat} {c1 : Nat} {Q : Value → World → Prop} {w : World} (h : L60 a1 l1 c1 Q w) : CallR Try.prog 60 [.slice a1 l1 c1] w Q :=
  fun_calls (A := A60) mixed Try.func60 (c := (Try.f60.body).getD .skip) rfl (by kernel_rfl) (Eq.mp (by kernel_rfl) h)

/-- millrace/millraceref04.New -/
def A34 : Ann := ⟨[(6, [(6, .one (.int .i64))])], [], [], [], [(9, [0, 1, 2, 3, 4, 5, 6, 7, 8, 9, 10, 11], 12, [13, 14, 15])]⟩
def L34 (a1 : Option Addr) (l1 : Nat) (c1 : Nat) (Q : Value → World → Prop) (w : World) : Prop :=
  CallR Try.prog 60 [.slice a1 l1 c1] w (fun (r3 : Value) (w1 : World) =>
  ∃ (n2 : Int), r3 = .int .i64 n2 ∧
  cond (n2 != 0)
  (Q (.tuple #[.pointer none, .int .i64 n2]) w1)
  (let w2 := World.alloc w1 (Obj.cells #[.slice none 0 0, .slice none 0 0] 71);
  ∃ (I4 : List Value → World → Prop) (mu5 : List Value → World → Nat),
  I4 [.int .i64 0] w2 ∧
  ∀ (_ : Env) (n6 : Int) (w3 : World), I4 [.int .i64 n6] w3 →
  cond (decide (n6 < (((l1 : Nat) : Int))))
  (∃ (S7 : World → Prop), S7 (World.drew w3) ∧
  let w4 := World.drew w3;
  ∃ (a8 : Option Addr) (l8 : Nat) (c8 : Nat), (∀ wS : World, S7 wS → wS.cell? (Addr.mk w1.heap.size 0 none) = some ((.slice a8 l8 c8 : Value))) ∧
  (0 ≤ (n6 : Int) ∧ (n6 : Int) < ((l1 : Nat) : Int)) ∧
  nn a1 (fun (q9 : Addr) =>
  ∃ (a10 : Option Addr) (l10 : Nat) (c10 : Nat), (∀ wS : World, S7 wS → wS.cell? (Addr.add q9 (Int.toNat n6)) = some ((.slice a10 l10 c10 : Value))) ∧
  ∃ (a11 : Option Addr) (l11 : Nat) (c11 : Nat) (w5 : World), Sem.run Try.prog (Builtin.append_ #[22, 22] 22 #[.slice none 0 0, .slice a10 l10 c10]) w4 = .ok ((.slice a11 l11 c11 : Value)) w5 ∧
  S7 w5 ∧
  let w6 := World.alloc w5 (Obj.cells #[.slice a11 l11 c11] 22);
  S7 w6 ∧
  ∃ (a12 : Option Addr) (l12 : Nat) (c12 : Nat) (w7 : World), Sem.run Try.prog (Builtin.append_ #[49, 49] 49 #[.slice a8 l8 c8, .slice (some (Addr.mk w5.heap.size 0 none)) 1 1]) w6 = .ok ((.slice a12 l12 c12 : Value)) w7 ∧
  stC (Addr.mk w1.heap.size 0 none) (.slice a12 l12 c12) w7 (fun (w8 : World) =>
  inI (n6 + 1) ∧
  I4 [.int .i64 (n6 + 1)] w8 ∧ mu5 [.int .i64 (n6 + 1)] w8 < mu5 [.int .i64 n6] w3)))
  (Q (.tuple #[.pointer (some (Addr.mk w1.heap.size 0 none)), .int .i64 0]) w3)))
theorem C34 {a1 : Option Addr} {l1 : Nat} {c1 : Nat} {Q : Value → World → Prop} {w : World} (h : L34 a1 l1 c1 Q w) : CallR Try.prog 34 [.slice a1 l1 c1] w Q :=
  fun_calls (A := A34) mixed Try.func34 (c := (Try.f34.body).getD .skip) rfl (by kernel_rfl) (Eq.mp (by kernel_rfl) h)

/-- (*millrace/millraceref04.Terminal).Read -/
def A35 : Ann := ⟨[], [], [], [(9, [0, 1, 2, 3, 4, 5, 6, 7, 8])], []⟩
def L35 (p1 : Option Addr) (n2 : Int) (Q : Value → World → Prop) (w : World) : Prop :=
  cond (decide (n2 < 1))
  (Q (.tuple #[.slice none 0 0, .int .i64 4]) w)
  (cond (decide (n2 > 1048576))
  (Q (.tuple #[.slice none 0 0, .int .i64 4]) w)
  (nn p1 (fun (q3 : Addr) =>
  ∃ (a4 : Option Addr) (l4 : Nat) (c4 : Nat), w.cell? q3 = some ((.slice a4 l4 c4 : Value)) ∧
  cond ((((l4 : Nat) : Int)) == 0)
  (Q (.tuple #[.slice none 0 0, .int .i64 0]) w)
  (nn p1 (fun (q5 : Addr) =>
  ∃ (a6 : Option Addr) (l6 : Nat) (c6 : Nat), w.cell? q5 = some ((.slice a6 l6 c6 : Value)) ∧
  (0 ≤ (0 : Int) ∧ (0 : Int) < ((l6 : Nat) : Int)) ∧
  nn a6 (fun (q7 : Addr) =>
  ∃ (a8 : Option Addr) (l8 : Nat) (c8 : Nat), w.cell? (Addr.add q7 (Int.toNat 0)) = some ((.slice a8 l8 c8 : Value)) ∧
  cond ((mn n2 (((l8 : Nat) : Int))) == (((l8 : Nat) : Int)))
  (nn p1 (fun (q9 : Addr) =>
  ∃ (a10 : Option Addr) (l10 : Nat) (c10 : Nat), w.cell? q9 = some ((.slice a10 l10 c10 : Value)) ∧
  (0 ≤ (1 : Int) ∧ (1 : Int) ≤ ((l10 : Nat) : Int)) ∧
  nn p1 (fun (q11 : Addr) =>
  stC q11 (.slice (adv a10 (Int.toNat 1) c10 1) (l10 - Int.toNat 1) (c10 - Int.toNat 1)) w (fun (w1 : World) =>
  (0 ≤ (mn n2 (((l8 : Nat) : Int)) : Int) ∧ (mn n2 (((l8 : Nat) : Int)) : Int) ≤ ((c8 : Nat) : Int)) ∧
  Q (.tuple #[.slice a8 (Int.toNat (mn n2 (((l8 : Nat) : Int)))) c8, .int .i64 0]) w1))))
  (let w2 := World.drew w;
  nn p1 (fun (q12 : Addr) =>
  ∃ (a13 : Option Addr) (l13 : Nat) (c13 : Nat), w2.cell? q12 = some ((.slice a13 l13 c13 : Value)) ∧
  (0 ≤ (mn n2 (((l8 : Nat) : Int)) : Int) ∧ (mn n2 (((l8 : Nat) : Int)) : Int) ≤ ((l8 : Nat) : Int)) ∧
  (0 ≤ (0 : Int) ∧ (0 : Int) < ((l13 : Nat) : Int)) ∧
  nn a13 (fun (q14 : Addr) =>
  stC (Addr.add q14 (Int.toNat 0)) (.slice (adv a8 (Int.toNat (mn n2 (((l8 : Nat) : Int)))) c8 1) (l8 - Int.toNat (mn n2 (((l8 : Nat) : Int)))) (c8 - Int.toNat (mn n2 (((l8 : Nat) : Int))))) w2 (fun (w3 : World) =>
  (0 ≤ (mn n2 (((l8 : Nat) : Int)) : Int) ∧ (mn n2 (((l8 : Nat) : Int)) : Int) ≤ ((c8 : Nat) : Int)) ∧
  Q (.tuple #[.slice a8 (Int.toNat (mn n2 (((l8 : Nat) : Int)))) c8, .int .i64 0]) w3))))))))))
theorem C35 {p1 : Option Addr} {n2 : Int} {Q : Value → World → Prop} {w : World} (h : L35 p1 n2 Q w) : CallR Try.prog 35 [.pointer p1, .int .i64 n2] w Q :=
  fun_calls (A := A35) mixed Try.func35 (c := (Try.f35.body).getD .skip) rfl (by kernel_rfl) (Eq.mp (by kernel_rfl) h)

/-- (*millrace/millraceref04.Terminal).Write -/
def A37 : Ann := ⟨[], [], [], [], []⟩
def L37 (p1 : Option Addr) (a2 : Option Addr) (l2 : Nat) (c2 : Nat) (Q : Value → World → Prop) (w : World) : Prop :=
  nn p1 (fun (q3 : Addr) =>
  ∃ (a4 : Option Addr) (l4 : Nat) (c4 : Nat), w.cell? (Addr.add q3 1) = some ((.slice a4 l4 c4 : Value)) ∧
  inI ((((l4 : Nat) : Int)) + (((l2 : Nat) : Int))) ∧
  cond (decide (((((l4 : Nat) : Int)) + (((l2 : Nat) : Int))) > 1048576))
  (Q (.int .i64 31) w)
  (nn p1 (fun (q5 : Addr) =>
  ∃ (a6 : Option Addr) (l6 : Nat) (c6 : Nat), w.cell? (Addr.add q5 1) = some ((.slice a6 l6 c6 : Value)) ∧
  ∃ (a7 : Option Addr) (l7 : Nat) (c7 : Nat) (w1 : World), Sem.run Try.prog (Builtin.append_ #[22, 22] 22 #[.slice a6 l6 c6, .slice a2 l2 c2]) w = .ok ((.slice a7 l7 c7 : Value)) w1 ∧
  nn p1 (fun (q8 : Addr) =>
  stC (Addr.add q8 1) (.slice a7 l7 c7) w1 (fun (w2 : World) =>
  Q (.int .i64 0) w2)))))
theorem C37 {p1 : Option Addr} {a2 : Option Addr} {l2 : Nat} {c2 : Nat} {Q : Value → World → Prop} {w : World} (h : L37 p1 a2 l2 c2 Q w) : CallR Try.prog 37 [.pointer p1, .slice a2 l2 c2] w Q :=
  fun_calls (A := A37) mixed Try.func37 (c := (Try.f37.body).getD .skip) rfl (by kernel_rfl) (Eq.mp (by kernel_rfl) h)

/-- millrace/millracelaw04.TerminalPlays -/
def A9 : Ann := ⟨[(6, [(5, .one (.ptr)), (9, .one (.int .i64))])], [(24, [(5, .one (.ptr))])], [], [], [(15, [0, 1, 2, 3, 4, 5, 9, 10, 11, 12, 13, 14, 6, 7, 8], 15, [16]), (24, [0, 2, 3, 4, 5, 6, 1, 7, 8, 9, 11, 12, 13, 14, 10], 15, [16, 17])]⟩
def L9 (a1 : Option Addr) (l1 : Nat) (c1 : Nat) (a2 : Option Addr) (l2 : Nat) (c2 : Nat) (Q : Value → World → Prop) (w : World) : Prop :=
  CallR Try.prog 33 [.slice a1 l1 c1] w (fun (r4 : Value) (w1 : World) =>
  ∃ (a3 : Option Addr) (l3 : Nat) (c3 : Nat), r4 = .slice a3 l3 c3 ∧
  CallR Try.prog 27 [.slice a3 l3 c3] w1 (fun (r7 : Value) (w2 : World) =>
  ∃ (p5 : Option Addr) (n6 : Int), r7 = .tuple #[.pointer p5, .int .i64 n6] ∧
  CallR Try.prog 34 [.slice a1 l1 c1] w2 (fun (r10 : Value) (w3 : World) =>
  ∃ (p8 : Option Addr) (n9 : Int), r10 = .tuple #[.pointer p8, .int .i64 n9] ∧
  CallR Try.prog 28 [.int .i64 n6] w3 (fun (r12 : Value) (w4 : World) =>
  ∃ (n11 : Int), r12 = .int .i64 n11 ∧
  cond (n11 != n9)
  (Q (.bool false) w4)
  (cond (!((Option.isNone p5) == (Option.isNone p8)))
  (Q (.bool false) w4)
  (∃ (I13 : List Value → World → Prop) (mu14 : List Value → World → Nat),
  I13 [.pointer p5, .int .i64 0] w4 ∧
  ∀ (_ : Env) (p15 : Option Addr) (n16 : Int) (w5 : World), I13 [.pointer p15, .int .i64 n16] w5 →
  cond (!(Option.isNone p15))
  (cond (decide (n16 < (((l2 : Nat) : Int))))
  (∃ (J17 : List Value → World → Prop),
  ((0 ≤ (n16 : Int) ∧ (n16 : Int) < ((l2 : Nat) : Int)) ∧
  nn a2 (fun (q18 : Addr) =>
  ∃ (n19 : Int), w5.cell? (Addr.add q18 (Int.toNat n16 * 3)) = some ((.int .i64 n19 : Value)) ∧
  cond (n19 == 0)
  ((0 ≤ (n16 : Int) ∧ (n16 : Int) < ((l2 : Nat) : Int)) ∧
  nn a2 (fun (q20 : Addr) =>
  ∃ (n21 : Int), w5.cell? (Addr.add (Addr.add q20 (Int.toNat n16 * 3)) 1) = some ((.int .i64 n21 : Value)) ∧
  CallR Try.prog 30 [.pointer p15, .int .i64 n21] w5 (fun (r24 : Value) (w6 : World) =>
  ∃ (a22 : Option Addr) (l22 : Nat) (c22 : Nat) (n23 : Int), r24 = .tuple #[.slice a22 l22 c22, .int .i64 n23] ∧
  (0 ≤ (n16 : Int) ∧ (n16 : Int) < ((l2 : Nat) : Int)) ∧
  nn a2 (fun (q25 : Addr) =>
  ∃ (n26 : Int), w6.cell? (Addr.add (Addr.add q25 (Int.toNat n16 * 3)) 1) = some ((.int .i64 n26 : Value)) ∧
  CallR Try.prog 35 [.pointer p8, .int .i64 n26] w6 (fun (r29 : Value) (w7 : World) =>
  ∃ (a27 : Option Addr) (l27 : Nat) (c27 : Nat) (n28 : Int), r29 = .tuple #[.slice a27 l27 c27, .int .i64 n28] ∧
  CallR Try.prog 20 [.slice a22 l22 c22, .slice a27 l27 c27] w7 (fun (r31 : Value) (w8 : World) =>
  ∃ (b30 : Bool), r31 = .bool b30 ∧
  cond (!b30)
  (Q (.bool false) w8)
  (CallR Try.prog 28 [.int .i64 n23] w8 (fun (r33 : Value) (w9 : World) =>
  ∃ (n32 : Int), r33 = .int .i64 n32 ∧
  cond (n32 != n28)
  (Q (.bool false) w9)
  (J17 [.pointer p15] w9)))))))))
  (cond (n19 == 1)
  (∃ (S34 : World → Prop), S34 (World.drew w5) ∧
  let w10 := World.drew w5;
  (0 ≤ (n16 : Int) ∧ (n16 : Int) < ((l2 : Nat) : Int)) ∧
  nn a2 (fun (q35 : Addr) =>
  ∃ (a36 : Option Addr) (l36 : Nat) (c36 : Nat), (∀ wS : World, S34 wS → wS.cell? (Addr.add (Addr.add q35 (Int.toNat n16 * 3)) 2) = some ((.slice a36 l36 c36 : Value))) ∧
  (0 ≤ (n16 : Int) ∧ (n16 : Int) < ((l2 : Nat) : Int)) ∧
  nn a2 (fun (q37 : Addr) =>
  ∃ (a38 : Option Addr) (l38 : Nat) (c38 : Nat), (∀ wS : World, S34 wS → wS.cell? (Addr.add (Addr.add q37 (Int.toNat n16 * 3)) 2) = some ((.slice a38 l38 c38 : Value))) ∧
  CallR Try.prog 36 [.slice a36 l36 c36] w10 (fun (r40 : Value) (w11 : World) =>
  ∃ (a39 : Option Addr) (l39 : Nat) (c39 : Nat), r40 = .slice a39 l39 c39 ∧
  S34 w11 ∧
  CallR Try.prog 31 [.pointer p15, .slice a39 l39 c39] w11 (fun (r42 : Value) (w12 : World) =>
  ∃ (n41 : Int), r42 = .int .i64 n41 ∧
  S34 w12 ∧
  CallR Try.prog 28 [.int .i64 n41] w12 (fun (r44 : Value) (w13 : World) =>
  ∃ (n43 : Int), r44 = .int .i64 n43 ∧
  S34 w13 ∧
  CallR Try.prog 37 [.pointer p8, .slice a38 l38 c38] w13 (fun (r46 : Value) (w14 : World) =>
  ∃ (n45 : Int), r46 = .int .i64 n45 ∧
  cond (n43 != n45)
  (Q (.bool false) w14)
  (J17 [.pointer p15] w14))))))))
  (cond (n19 == 2)
  (CallR Try.prog 38 [.pointer p15] w5 (fun (r48 : Value) (w15 : World) =>
  ∃ (p47 : Option Addr), r48 = .pointer p47 ∧
  cond (Option.isNone p47)
  (Q (.bool false) w15)
  (CallR Try.prog 30 [.pointer p15, .int .i64 1] w15 (fun (r51 : Value) (w16 : World) =>
  ∃ (a49 : Option Addr) (l49 : Nat) (c49 : Nat) (n50 : Int), r51 = .tuple #[.slice a49 l49 c49, .int .i64 n50] ∧
  let w17 := World.alloc w16 (Obj.cells #[.int .u8 103, .int .u8 111, .int .u8 110, .int .u8 101] 5);
  ∃ (a52 : Option Addr) (l52 : Nat) (c52 : Nat) (w18 : World), Sem.run Try.prog (convert 22 22 (.slice (some (Addr.mk w16.heap.size 0 none)) 4 4)) w17 = .ok ((.slice a52 l52 c52 : Value)) w18 ∧
  CallR Try.prog 31 [.pointer p15, .slice a52 l52 c52] w18 (fun (r54 : Value) (w19 : World) =>
  ∃ (n53 : Int), r54 = .int .i64 n53 ∧
  J17 [.pointer p47] w19)))))
  (J17 [.pointer p15] w5))))) ∧
  (∀ (_ : Env) (p55 : Option Addr) (w20 : World), J17 [.pointer p55] w20 →
  ∃ (S56 : World → Prop), S56 (World.drew w20) ∧
  let w21 := World.drew w20;
  nn p8 (fun (q57 : Addr) =>
  ∃ (a58 : Option Addr) (l58 : Nat) (c58 : Nat), (∀ wS : World, S56 wS → wS.cell? q57 = some ((.slice a58 l58 c58 : Value))) ∧
  CallR Try.prog 29 [.pointer p55] w21 (fun (r60 : Value) (w22 : World) =>
  ∃ (n59 : Int), r60 = .int .i64 n59 ∧
  S56 w22 ∧
  cond (n59 != (((l58 : Nat) : Int)))
  (Q (.bool false) w22)
  (nn p8 (fun (q61 : Addr) =>
  ∃ (a62 : Option Addr) (l62 : Nat) (c62 : Nat), (∀ wS : World, S56 wS → wS.cell? (Addr.add q61 1) = some ((.slice a62 l62 c62 : Value))) ∧
  CallR Try.prog 32 [.pointer p55] w22 (fun (r64 : Value) (w23 : World) =>
  ∃ (a63 : Option Addr) (l63 : Nat) (c63 : Nat), r64 = .slice a63 l63 c63 ∧
  S56 w23 ∧
  CallR Try.prog 20 [.slice a63 l63 c63, .slice a62 l62 c62] w23 (fun (r66 : Value) (w24 : World) =>
  ∃ (b65 : Bool), r66 = .bool b65 ∧
  cond (!b65)
  (Q (.bool false) w24)
  (inI (n16 + 1) ∧
  I13 [.pointer p55, .int .i64 (n16 + 1)] w24 ∧ mu14 [.pointer p55, .int .i64 (n16 + 1)] w24 < mu14 [.pointer p15, .int .i64 n16] w5)))))))))
  (CallR Try.prog 26 [] w5 (fun (r68 : Value) (w25 : World) =>
  ∃ (b67 : Bool), r68 = .bool b67 ∧
  Q (.bool b67) w25)))
  (CallR Try.prog 26 [] w5 (fun (r70 : Value) (w26 : World) =>
  ∃ (b69 : Bool), r70 = .bool b69 ∧
  Q (.bool b69) w26))))))))
theorem C9 {a1 : Option Addr} {l1 : Nat} {c1 : Nat} {a2 : Option Addr} {l2 : Nat} {c2 : Nat} {Q : Value → World → Prop} {w : World} (h : L9 a1 l1 c1 a2 l2 c2 Q w) : CallR Try.prog 9 [.slice a1 l1 c1, .slice a2 l2 c2] w Q :=
  fun_calls (A := A9) mixed Try.func9 (c := (Try.f9.body).getD .skip) rfl (by kernel_rfl) (Eq.mp (by kernel_rfl) h)

end Go.Proofs.Ytapnpbfbebdjjaa
