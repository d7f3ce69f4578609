/-
  What some functions of the program ask of the world, printed by a program out of the loaded program; each text is held against the code by evaluation. Conditions: none.
-/
import Derived.Test.YtapnpbfbebdjjaaProg
import Derived.Test.YtapnpbfbebdjjaaLm
import Derived.Test.YtapnpbfbebdjjaaLA
import Derived.Test.YtapnpbfbebdjjaaLB
set_option linter.unusedVariables false
set_option maxRecDepth 100000
namespace Go.Proofs.Ytapnpbfbebdjjaa
open Go.Lw
/-- millrace/millraceref03.New -/
def A46 : Ann := ⟨[], [], [], []⟩
def L46 (a1 : Option Addr) (l1 : Nat) (c1 : Nat) (Q : Value → World → Prop) (w : World) : Prop :=
  cond (decide ((((l1 : Nat) : Int)) > 1048576))
  (Q (.tuple #[.pointer none, .int .i64 5]) w)
  (let w1 := World.alloc w (Obj.cells #[.slice none 0 0] 96);
  ∃ (a2 : Option Addr) (l2 : Nat) (c2 : Nat), w1.cell? (Addr.mk w.heap.size 0 none) = some ((.slice a2 l2 c2 : Value)) ∧
  ∃ (a3 : Option Addr) (l3 : Nat) (c3 : Nat) (w2 : World), Sem.run Try.prog (Builtin.append_ #[22, 22] 22 #[.slice a2 l2 c2, .slice a1 l1 c1]) w1 = .ok ((.slice a3 l3 c3 : Value)) w2 ∧
  stC (Addr.mk w.heap.size 0 none) (.slice a3 l3 c3) w2 (fun (w3 : World) =>
  Q (.tuple #[.pointer (some (Addr.mk w.heap.size 0 none)), .int .i64 0]) w3))
theorem C46 {a1 : Option Addr} {l1 : Nat} {c1 : Nat} {Q : Value → World → Prop} {w : World} (h : L46 a1 l1 c1 Q w) : CallR Try.prog 46 [.slice a1 l1 c1] w Q :=
  fun_calls (A := A46) mixed Try.func46 (c := (Try.f46.body).getD .skip) rfl (by kernel_rfl) (Eq.mp (by kernel_rfl) h)

/-- millrace/millraceref03.within -/
def A62 : Ann := ⟨[], [], [], []⟩
def L62 (n1 : Int) (Q : Value → World → Prop) (w : World) : Prop :=
  cond (decide (n1 ≥ 0))
  (Q (.bool (decide (n1 ≤ 1048576))) w)
  (Q (.bool false) w)
theorem C62 {n1 : Int} {Q : Value → World → Prop} {w : World} (h : L62 n1 Q w) : CallR Try.prog 62 [.int .i64 n1] w Q :=
  fun_calls (A := A62) mixed Try.func62 (c := (Try.f62.body).getD .skip) rfl (by kernel_rfl) (Eq.mp (by kernel_rfl) h)

/-- millrace/millraceref03.Piece -/
def A63 : Ann := ⟨[], [], [], []⟩
def L63 (a1 : Option Addr) (l1 : Nat) (c1 : Nat) (n2 : Int) (n3 : Int) (Q : Value → World → Prop) (w : World) : Prop :=
  cond (decide (n2 ≥ (((l1 : Nat) : Int))))
  (Q (.slice none 0 0) w)
  (inI ((((l1 : Nat) : Int)) - n2) ∧
  inI (n2 + (mn n3 ((((l1 : Nat) : Int)) - n2))) ∧
  (0 ≤ (n2 + (mn n3 ((((l1 : Nat) : Int)) - n2)) : Int) ∧ (n2 + (mn n3 ((((l1 : Nat) : Int)) - n2)) : Int) ≤ ((c1 : Nat) : Int)) ∧
  (0 ≤ (n2 : Int) ∧ (n2 : Int) ≤ ((Int.toNat (n2 + (mn n3 ((((l1 : Nat) : Int)) - n2))) : Nat) : Int)) ∧
  ∃ (a4 : Option Addr) (l4 : Nat) (c4 : Nat) (w1 : World), Sem.run Try.prog (Builtin.append_ #[22, 22] 22 #[.slice none 0 0, .slice (adv a1 (Int.toNat n2) c1 1) (Int.toNat (n2 + (mn n3 ((((l1 : Nat) : Int)) - n2))) - Int.toNat n2) (c1 - Int.toNat n2)]) w = .ok ((.slice a4 l4 c4 : Value)) w1 ∧
  Q (.slice a4 l4 c4) w1)
theorem C63 {a1 : Option Addr} {l1 : Nat} {c1 : Nat} {n2 : Int} {n3 : Int} {Q : Value → World → Prop} {w : World} (h : L63 a1 l1 c1 n2 n3 Q w) : CallR Try.prog 63 [.slice a1 l1 c1, .int .i64 n2, .int .i64 n3] w Q :=
  fun_calls (A := A63) mixed Try.func63 (c := (Try.f63.body).getD .skip) rfl (by kernel_rfl) (Eq.mp (by kernel_rfl) h)

/-- millrace/millraceref03.Lay -/
def A64 : Ann := ⟨[(1, [(0, .one (.slice))]), (4, [(0, .one (.slice)), (7, .one (.int .i64))])], [], [], []⟩
def L64 (a1 : Option Addr) (l1 : Nat) (c1 : Nat) (n2 : Int) (a3 : Option Addr) (l3 : Nat) (c3 : Nat) (Q : Value → World → Prop) (w : World) : Prop :=
  ∃ (I4 : List Value → World → Prop) (mu5 : List Value → World → Nat),
  I4 [.slice a1 l1 c1] w ∧
  ∀ (_ : Env) (a6 : Option Addr) (l6 : Nat) (c6 : Nat) (w1 : World), I4 [.slice a6 l6 c6] w1 →
  cond (decide ((((l6 : Nat) : Int)) < n2))
  (let w2 := World.alloc w1 (Obj.cells #[.int .u8 0] 5);
  ∃ (a7 : Option Addr) (l7 : Nat) (c7 : Nat) (w3 : World), Sem.run Try.prog (Builtin.append_ #[22, 22] 22 #[.slice a6 l6 c6, .slice (some (Addr.mk w1.heap.size 0 none)) 1 1]) w2 = .ok ((.slice a7 l7 c7 : Value)) w3 ∧
  I4 [.slice a7 l7 c7] w3 ∧ mu5 [.slice a7 l7 c7] w3 < mu5 [.slice a6 l6 c6] w1)
  (∃ (I8 : List Value → World → Prop) (mu9 : List Value → World → Nat),
  I8 [.slice a6 l6 c6, .int .i64 0] w1 ∧
  ∀ (_ : Env) (a10 : Option Addr) (l10 : Nat) (c10 : Nat) (n11 : Int) (w4 : World), I8 [.slice a10 l10 c10, .int .i64 n11] w4 →
  cond (decide (n11 < (((l3 : Nat) : Int))))
  (inI (n2 + n11) ∧
  cond (decide ((n2 + n11) < (((l10 : Nat) : Int))))
  (inI (n2 + n11) ∧
  (0 ≤ (n11 : Int) ∧ (n11 : Int) < ((l3 : Nat) : Int)) ∧
  nn a3 (fun (q12 : Addr) =>
  ∃ (n13 : Int), w4.cell? (Addr.add q12 (Int.toNat n11)) = some ((.int .u8 n13 : Value)) ∧
  (0 ≤ (n2 + n11 : Int) ∧ (n2 + n11 : Int) < ((l10 : Nat) : Int)) ∧
  nn a10 (fun (q14 : Addr) =>
  stC (Addr.add q14 (Int.toNat (n2 + n11))) (.int .u8 n13) w4 (fun (w5 : World) =>
  inI (n11 + 1) ∧
  I8 [.slice a10 l10 c10, .int .i64 (n11 + 1)] w5 ∧ mu9 [.slice a10 l10 c10, .int .i64 (n11 + 1)] w5 < mu9 [.slice a10 l10 c10, .int .i64 n11] w4))))
  ((0 ≤ (n11 : Int) ∧ (n11 : Int) < ((l3 : Nat) : Int)) ∧
  nn a3 (fun (q15 : Addr) =>
  ∃ (n16 : Int), w4.cell? (Addr.add q15 (Int.toNat n11)) = some ((.int .u8 n16 : Value)) ∧
  let w6 := World.alloc w4 (Obj.cells #[.int .u8 n16] 5);
  ∃ (a17 : Option Addr) (l17 : Nat) (c17 : Nat) (w7 : World), Sem.run Try.prog (Builtin.append_ #[22, 22] 22 #[.slice a10 l10 c10, .slice (some (Addr.mk w4.heap.size 0 none)) 1 1]) w6 = .ok ((.slice a17 l17 c17 : Value)) w7 ∧
  inI (n11 + 1) ∧
  I8 [.slice a17 l17 c17, .int .i64 (n11 + 1)] w7 ∧ mu9 [.slice a17 l17 c17, .int .i64 (n11 + 1)] w7 < mu9 [.slice a10 l10 c10, .int .i64 n11] w4)))
  (Q (.slice a10 l10 c10) w4))
theorem C64 {a1 : Option Addr} {l1 : Nat} {c1 : Nat} {n2 : Int} {a3 : Option Addr} {l3 : Nat} {c3 : Nat} {Q : Value → World → Prop} {w : World} (h : L64 a1 l1 c1 n2 a3 l3 c3 Q w) : CallR Try.prog 64 [.slice a1 l1 c1, .int .i64 n2, .slice a3 l3 c3] w Q :=
  fun_calls (A := A64) mixed Try.func64 (c := (Try.f64.body).getD .skip) rfl (by kernel_rfl) (Eq.mp (by kernel_rfl) h)

/-- (*millrace/millraceref03.File).ReadAt -/
def A47 : Ann := ⟨[], [], [], []⟩
def L47 (p1 : Option Addr) (n2 : Int) (n3 : Int) (Q : Value → World → Prop) (w : World) : Prop :=
  CallR Try.prog 62 [.int .i64 n2] w (fun (r5 : Value) (w1 : World) =>
  ∃ (b4 : Bool), r5 = .bool b4 ∧
  cond (!b4)
  (Q (.tuple #[.slice none 0 0, .int .i64 4]) w1)
  (CallR Try.prog 62 [.int .i64 n3] w1 (fun (r7 : Value) (w2 : World) =>
  ∃ (b6 : Bool), r7 = .bool b6 ∧
  cond (!b6)
  (Q (.tuple #[.slice none 0 0, .int .i64 4]) w2)
  (nn p1 (fun (q8 : Addr) =>
  ∃ (a9 : Option Addr) (l9 : Nat) (c9 : Nat), w2.cell? q8 = some ((.slice a9 l9 c9 : Value)) ∧
  CallR Try.prog 63 [.slice a9 l9 c9, .int .i64 n2, .int .i64 n3] w2 (fun (r11 : Value) (w3 : World) =>
  ∃ (a10 : Option Addr) (l10 : Nat) (c10 : Nat), r11 = .slice a10 l10 c10 ∧
  Q (.tuple #[.slice a10 l10 c10, .int .i64 0]) w3))))))
theorem C47 {p1 : Option Addr} {n2 : Int} {n3 : Int} {Q : Value → World → Prop} {w : World} (h : L47 p1 n2 n3 Q w) : CallR Try.prog 47 [.pointer p1, .int .i64 n2, .int .i64 n3] w Q :=
  fun_calls (A := A47) mixed Try.func47 (c := (Try.f47.body).getD .skip) rfl (by kernel_rfl) (Eq.mp (by kernel_rfl) h)

/-- (*millrace/millraceref03.File).WriteAt -/
def A48 : Ann := ⟨[], [], [], []⟩
def L48 (p1 : Option Addr) (n2 : Int) (a3 : Option Addr) (l3 : Nat) (c3 : Nat) (Q : Value → World → Prop) (w : World) : Prop :=
  CallR Try.prog 62 [.int .i64 n2] w (fun (r5 : Value) (w1 : World) =>
  ∃ (b4 : Bool), r5 = .bool b4 ∧
  cond (!b4)
  (Q (.int .i64 4) w1)
  (inI ((1048576 : Int) - n2) ∧
  cond (decide ((((l3 : Nat) : Int)) > ((1048576 : Int) - n2)))
  (Q (.int .i64 31) w1)
  (cond (decide ((((l3 : Nat) : Int)) > 0))
  (nn p1 (fun (q6 : Addr) =>
  ∃ (a7 : Option Addr) (l7 : Nat) (c7 : Nat), w1.cell? q6 = some ((.slice a7 l7 c7 : Value)) ∧
  CallR Try.prog 64 [.slice a7 l7 c7, .int .i64 n2, .slice a3 l3 c3] w1 (fun (r9 : Value) (w2 : World) =>
  ∃ (a8 : Option Addr) (l8 : Nat) (c8 : Nat), r9 = .slice a8 l8 c8 ∧
  nn p1 (fun (q10 : Addr) =>
  stC q10 (.slice a8 l8 c8) w2 (fun (w3 : World) =>
  Q (.int .i64 0) w3)))))
  (Q (.int .i64 0) w1))))
theorem C48 {p1 : Option Addr} {n2 : Int} {a3 : Option Addr} {l3 : Nat} {c3 : Nat} {Q : Value → World → Prop} {w : World} (h : L48 p1 n2 a3 l3 c3 Q w) : CallR Try.prog 48 [.pointer p1, .int .i64 n2, .slice a3 l3 c3] w Q :=
  fun_calls (A := A48) mixed Try.func48 (c := (Try.f48.body).getD .skip) rfl (by kernel_rfl) (Eq.mp (by kernel_rfl) h)

/-- (*millrace/millraceref03.File).Truncate -/
def A50 : Ann := ⟨[], [], [], []⟩
def L50 (p1 : Option Addr) (n2 : Int) (Q : Value → World → Prop) (w : World) : Prop :=
  CallR Try.prog 62 [.int .i64 n2] w (fun (r4 : Value) (w1 : World) =>
  ∃ (b3 : Bool), r4 = .bool b3 ∧
  cond (!b3)
  (Q (.int .i64 4) w1)
  (nn p1 (fun (q5 : Addr) =>
  ∃ (a6 : Option Addr) (l6 : Nat) (c6 : Nat), w1.cell? q5 = some ((.slice a6 l6 c6 : Value)) ∧
  cond (decide (n2 < (((l6 : Nat) : Int))))
  (nn p1 (fun (q7 : Addr) =>
  ∃ (a8 : Option Addr) (l8 : Nat) (c8 : Nat), w1.cell? q7 = some ((.slice a8 l8 c8 : Value)) ∧
  (0 ≤ (n2 : Int) ∧ (n2 : Int) ≤ ((c8 : Nat) : Int)) ∧
  nn p1 (fun (q9 : Addr) =>
  stC q9 (.slice a8 (Int.toNat n2) c8) w1 (fun (w2 : World) =>
  nn p1 (fun (q10 : Addr) =>
  ∃ (a11 : Option Addr) (l11 : Nat) (c11 : Nat), w2.cell? q10 = some ((.slice a11 l11 c11 : Value)) ∧
  CallR Try.prog 64 [.slice a11 l11 c11, .int .i64 n2, .slice none 0 0] w2 (fun (r13 : Value) (w3 : World) =>
  ∃ (a12 : Option Addr) (l12 : Nat) (c12 : Nat), r13 = .slice a12 l12 c12 ∧
  nn p1 (fun (q14 : Addr) =>
  stC q14 (.slice a12 l12 c12) w3 (fun (w4 : World) =>
  Q (.int .i64 0) w4))))))))
  (nn p1 (fun (q15 : Addr) =>
  ∃ (a16 : Option Addr) (l16 : Nat) (c16 : Nat), w1.cell? q15 = some ((.slice a16 l16 c16 : Value)) ∧
  CallR Try.prog 64 [.slice a16 l16 c16, .int .i64 n2, .slice none 0 0] w1 (fun (r18 : Value) (w5 : World) =>
  ∃ (a17 : Option Addr) (l17 : Nat) (c17 : Nat), r18 = .slice a17 l17 c17 ∧
  nn p1 (fun (q19 : Addr) =>
  stC q19 (.slice a17 l17 c17) w5 (fun (w6 : World) =>
  Q (.int .i64 0) w6))))))))
theorem C50 {p1 : Option Addr} {n2 : Int} {Q : Value → World → Prop} {w : World} (h : L50 p1 n2 Q w) : CallR Try.prog 50 [.pointer p1, .int .i64 n2] w Q :=
  fun_calls (A := A50) mixed Try.func50 (c := (Try.f50.body).getD .skip) rfl (by kernel_rfl) (Eq.mp (by kernel_rfl) h)

/-- millrace/millracelaw03.FilePlays -/
def A12 : Ann := ⟨[(6, [(5, .one (.ptr)), (9, .one (.int .i64))])], [(27, [(5, .one (.ptr))])], [(16, [0, 1, 2, 3, 4, 8, 9, 10, 11, 12, 5, 6, 7, 13, 14]), (19, [0, 1, 2, 5, 6, 7, 3, 4, 8, 9]), (27, [0, 2, 3, 4, 5, 6, 1, 7]), (29, [0, 1, 2, 3, 5, 6, 7, 8, 4, 9, 10, 11, 12, 13, 14])], []⟩
def L12 (a1 : Option Addr) (l1 : Nat) (c1 : Nat) (a2 : Option Addr) (l2 : Nat) (c2 : Nat) (Q : Value → World → Prop) (w : World) : Prop :=
  CallR Try.prog 36 [.slice a1 l1 c1] w (fun (r4 : Value) (w1 : World) =>
  ∃ (a3 : Option Addr) (l3 : Nat) (c3 : Nat), r4 = .slice a3 l3 c3 ∧
  CallR Try.prog 15 [.slice a3 l3 c3] w1 (fun (r7 : Value) (w2 : World) =>
  ∃ (p5 : Option Addr) (n6 : Int), r7 = .tuple #[.pointer p5, .int .i64 n6] ∧
  CallR Try.prog 46 [.slice a1 l1 c1] w2 (fun (r10 : Value) (w3 : World) =>
  ∃ (p8 : Option Addr) (n9 : Int), r10 = .tuple #[.pointer p8, .int .i64 n9] ∧
  CallR Try.prog 16 [.int .i64 n6] w3 (fun (r12 : Value) (w4 : World) =>
  ∃ (n11 : Int), r12 = .int .i64 n11 ∧
  cond (n11 != n9)
  (Q (.bool false) w4)
  (cond (!((Option.isNone p5) == (Option.isNone p8)))
  (Q (.bool false) w4)
  (∃ (I13 : List Value → World → Prop) (mu14 : List Value → World → Nat),
  I13 [.pointer p5, .int .i64 0] w4 ∧
  ∀ (_ : Env) (p15 : Option Addr) (n16 : Int) (w5 : World), I13 [.pointer p15, .int .i64 n16] w5 →
  cond (!(Option.isNone p15))
  (cond (decide (n16 < (((l2 : Nat) : Int))))
  ((0 ≤ (n16 : Int) ∧ (n16 : Int) < ((l2 : Nat) : Int)) ∧
  nn a2 (fun (q17 : Addr) =>
  ∃ (n18 : Int) (n19 : Int) (n20 : Int) (a21 : Option Addr) (l21 : Nat) (c21 : Nat), w5.cell? (Addr.add q17 (Int.toNat n16 * 4)) = some ((.int .i64 n18 : Value)) ∧ w5.cell? (Addr.add (Addr.add q17 (Int.toNat n16 * 4)) 1) = some ((.int .i64 n19 : Value)) ∧ w5.cell? (Addr.add (Addr.add q17 (Int.toNat n16 * 4)) 2) = some ((.int .i64 n20 : Value)) ∧ w5.cell? (Addr.add (Addr.add q17 (Int.toNat n16 * 4)) 3) = some ((.slice a21 l21 c21 : Value)) ∧ 
  let w6 := World.alloc w5 (Obj.cells #[.int .i64 0, .int .i64 0, .int .i64 0, .slice none 0 0] 31);
  stC (Addr.mk w5.heap.size 0 none) (.int .i64 n18) w6 (fun (w7 : World) =>
  stC (Addr.mk w5.heap.size 1 none) (.int .i64 n19) w7 (fun (w8 : World) =>
  stC (Addr.mk w5.heap.size 2 none) (.int .i64 n20) w8 (fun (w9 : World) =>
  stC (Addr.mk w5.heap.size 3 none) (.slice a21 l21 c21) w9 (fun (w10 : World) =>
  ∃ (J22 : List Value → World → Prop),
  (∃ (n23 : Int), w10.cell? (Addr.mk w5.heap.size 0 none) = some ((.int .i64 n23 : Value)) ∧
  cond (n23 == 0)
  (∃ (n24 : Int), w10.cell? (Addr.mk w5.heap.size 1 none) = some ((.int .i64 n24 : Value)) ∧
  ∃ (n25 : Int), w10.cell? (Addr.mk w5.heap.size 2 none) = some ((.int .i64 n25 : Value)) ∧
  CallR Try.prog 19 [.pointer p15, .int .i64 n24, .int .i64 n25] w10 (fun (r28 : Value) (w11 : World) =>
  ∃ (a26 : Option Addr) (l26 : Nat) (c26 : Nat) (n27 : Int), r28 = .tuple #[.slice a26 l26 c26, .int .i64 n27] ∧
  ∃ (n29 : Int), w11.cell? (Addr.mk w5.heap.size 1 none) = some ((.int .i64 n29 : Value)) ∧
  ∃ (n30 : Int), w11.cell? (Addr.mk w5.heap.size 2 none) = some ((.int .i64 n30 : Value)) ∧
  CallR Try.prog 47 [.pointer p8, .int .i64 n29, .int .i64 n30] w11 (fun (r33 : Value) (w12 : World) =>
  ∃ (a31 : Option Addr) (l31 : Nat) (c31 : Nat) (n32 : Int), r33 = .tuple #[.slice a31 l31 c31, .int .i64 n32] ∧
  CallR Try.prog 20 [.slice a26 l26 c26, .slice a31 l31 c31] w12 (fun (r35 : Value) (w13 : World) =>
  ∃ (b34 : Bool), r35 = .bool b34 ∧
  cond (!b34)
  (Q (.bool false) w13)
  (CallR Try.prog 16 [.int .i64 n27] w13 (fun (r37 : Value) (w14 : World) =>
  ∃ (n36 : Int), r37 = .int .i64 n36 ∧
  cond (n36 != n32)
  (Q (.bool false) w14)
  (J22 [.pointer p15] w14)))))))
  (cond (n23 == 1)
  (∃ (S38 : World → Prop), S38 (World.drew w10) ∧
  let w15 := World.drew w10;
  ∃ (n39 : Int), (∀ wS : World, S38 wS → wS.cell? (Addr.mk w5.heap.size 1 none) = some ((.int .i64 n39 : Value))) ∧
  ∃ (a40 : Option Addr) (l40 : Nat) (c40 : Nat), (∀ wS : World, S38 wS → wS.cell? (Addr.mk w5.heap.size 3 none) = some ((.slice a40 l40 c40 : Value))) ∧
  ∃ (n41 : Int), (∀ wS : World, S38 wS → wS.cell? (Addr.mk w5.heap.size 1 none) = some ((.int .i64 n41 : Value))) ∧
  ∃ (a42 : Option Addr) (l42 : Nat) (c42 : Nat), (∀ wS : World, S38 wS → wS.cell? (Addr.mk w5.heap.size 3 none) = some ((.slice a42 l42 c42 : Value))) ∧
  CallR Try.prog 36 [.slice a40 l40 c40] w15 (fun (r44 : Value) (w16 : World) =>
  ∃ (a43 : Option Addr) (l43 : Nat) (c43 : Nat), r44 = .slice a43 l43 c43 ∧
  S38 w16 ∧
  CallR Try.prog 17 [.pointer p15, .int .i64 n39, .slice a43 l43 c43] w16 (fun (r46 : Value) (w17 : World) =>
  ∃ (n45 : Int), r46 = .int .i64 n45 ∧
  S38 w17 ∧
  CallR Try.prog 16 [.int .i64 n45] w17 (fun (r48 : Value) (w18 : World) =>
  ∃ (n47 : Int), r48 = .int .i64 n47 ∧
  S38 w18 ∧
  CallR Try.prog 48 [.pointer p8, .int .i64 n41, .slice a42 l42 c42] w18 (fun (r50 : Value) (w19 : World) =>
  ∃ (n49 : Int), r50 = .int .i64 n49 ∧
  S38 w19 ∧
  cond (n47 != n49)
  (Q (.bool false) w19)
  (J22 [.pointer p15] w19))))))
  (cond (n23 == 2)
  (∃ (S51 : World → Prop), S51 (World.drew w10) ∧
  let w20 := World.drew w10;
  ∃ (n52 : Int), (∀ wS : World, S51 wS → wS.cell? (Addr.mk w5.heap.size 2 none) = some ((.int .i64 n52 : Value))) ∧
  ∃ (n53 : Int), (∀ wS : World, S51 wS → wS.cell? (Addr.mk w5.heap.size 2 none) = some ((.int .i64 n53 : Value))) ∧
  CallR Try.prog 49 [.pointer p15, .int .i64 n52] w20 (fun (r55 : Value) (w21 : World) =>
  ∃ (n54 : Int), r55 = .int .i64 n54 ∧
  S51 w21 ∧
  CallR Try.prog 16 [.int .i64 n54] w21 (fun (r57 : Value) (w22 : World) =>
  ∃ (n56 : Int), r57 = .int .i64 n56 ∧
  S51 w22 ∧
  CallR Try.prog 50 [.pointer p8, .int .i64 n53] w22 (fun (r59 : Value) (w23 : World) =>
  ∃ (n58 : Int), r59 = .int .i64 n58 ∧
  S51 w23 ∧
  cond (n56 != n58)
  (Q (.bool false) w23)
  (J22 [.pointer p15] w23)))))
  (cond (n23 == 3)
  (CallR Try.prog 51 [.pointer p15] w10 (fun (r61 : Value) (w24 : World) =>
  ∃ (p60 : Option Addr), r61 = .pointer p60 ∧
  cond (Option.isNone p60)
  (Q (.bool false) w24)
  (CallR Try.prog 49 [.pointer p15, .int .i64 0] w24 (fun (r63 : Value) (w25 : World) =>
  ∃ (n62 : Int), r63 = .int .i64 n62 ∧
  J22 [.pointer p60] w25))))
  (J22 [.pointer p15] w10))))) ∧
  (∀ (_ : Env) (p64 : Option Addr) (w26 : World), J22 [.pointer p64] w26 →
  ∃ (S65 : World → Prop), S65 (World.drew w26) ∧
  let w27 := World.drew w26;
  nn p8 (fun (q66 : Addr) =>
  ∃ (a67 : Option Addr) (l67 : Nat) (c67 : Nat), (∀ wS : World, S65 wS → wS.cell? q66 = some ((.slice a67 l67 c67 : Value))) ∧
  CallR Try.prog 18 [.pointer p64] w27 (fun (r69 : Value) (w28 : World) =>
  ∃ (n68 : Int), r69 = .int .i64 n68 ∧
  S65 w28 ∧
  cond (n68 != (((l67 : Nat) : Int)))
  (Q (.bool false) w28)
  (inI (n16 + 1) ∧
  I13 [.pointer p64, .int .i64 (n16 + 1)] w28 ∧ mu14 [.pointer p64, .int .i64 (n16 + 1)] w28 < mu14 [.pointer p15, .int .i64 n16] w5))))))))))
  (∃ (S70 : World → Prop), S70 (World.drew w5) ∧
  let w29 := World.drew w5;
  cond (Option.isNone p15)
  (CallR Try.prog 14 [] w29 (fun (r72 : Value) (w30 : World) =>
  ∃ (b71 : Bool), r72 = .bool b71 ∧
  S70 w30 ∧
  Q (.bool b71) w30))
  (nn p8 (fun (q73 : Addr) =>
  ∃ (a74 : Option Addr) (l74 : Nat) (c74 : Nat), (∀ wS : World, S70 wS → wS.cell? q73 = some ((.slice a74 l74 c74 : Value))) ∧
  CallR Try.prog 52 [.pointer p15] w29 (fun (r76 : Value) (w31 : World) =>
  ∃ (a75 : Option Addr) (l75 : Nat) (c75 : Nat), r76 = .slice a75 l75 c75 ∧
  S70 w31 ∧
  CallR Try.prog 20 [.slice a75 l75 c75, .slice a74 l74 c74] w31 (fun (r78 : Value) (w32 : World) =>
  ∃ (b77 : Bool), r78 = .bool b77 ∧
  S70 w32 ∧
  cond b77
  (CallR Try.prog 14 [] w32 (fun (r80 : Value) (w33 : World) =>
  ∃ (b79 : Bool), r80 = .bool b79 ∧
  S70 w33 ∧
  Q (.bool b79) w33))
  (Q (.bool false) w32)))))))
  (∃ (S81 : World → Prop), S81 (World.drew w5) ∧
  let w34 := World.drew w5;
  cond (Option.isNone p15)
  (CallR Try.prog 14 [] w34 (fun (r83 : Value) (w35 : World) =>
  ∃ (b82 : Bool), r83 = .bool b82 ∧
  S81 w35 ∧
  Q (.bool b82) w35))
  (nn p8 (fun (q84 : Addr) =>
  ∃ (a85 : Option Addr) (l85 : Nat) (c85 : Nat), (∀ wS : World, S81 wS → wS.cell? q84 = some ((.slice a85 l85 c85 : Value))) ∧
  CallR Try.prog 52 [.pointer p15] w34 (fun (r87 : Value) (w36 : World) =>
  ∃ (a86 : Option Addr) (l86 : Nat) (c86 : Nat), r87 = .slice a86 l86 c86 ∧
  S81 w36 ∧
  CallR Try.prog 20 [.slice a86 l86 c86, .slice a85 l85 c85] w36 (fun (r89 : Value) (w37 : World) =>
  ∃ (b88 : Bool), r89 = .bool b88 ∧
  S81 w37 ∧
  cond b88
  (CallR Try.prog 14 [] w37 (fun (r91 : Value) (w38 : World) =>
  ∃ (b90 : Bool), r91 = .bool b90 ∧
  S81 w38 ∧
  Q (.bool b90) w38))
  (Q (.bool false) w37))))))))))))
theorem C12 {a1 : Option Addr} {l1 : Nat} {c1 : Nat} {a2 : Option Addr} {l2 : Nat} {c2 : Nat} {Q : Value → World → Prop} {w : World} (h : L12 a1 l1 c1 a2 l2 c2 Q w) : CallR Try.prog 12 [.slice a1 l1 c1, .slice a2 l2 c2] w Q :=
  fun_calls (A := A12) mixed Try.func12 (c := (Try.f12.body).getD .skip) rfl (by kernel_rfl) (Eq.mp (by kernel_rfl) h)

/-- millrace/millracelaw03.nothing -/
def A53 : Ann := ⟨[], [], [], []⟩
def L53 (p1 : Option Addr) (Q : Value → World → Prop) (w : World) : Prop :=
  CallR Try.prog 19 [.pointer p1, .int .i64 0, .int .i64 1] w (fun (r4 : Value) (w1 : World) =>
  ∃ (a2 : Option Addr) (l2 : Nat) (c2 : Nat) (n3 : Int), r4 = .tuple #[.slice a2 l2 c2, .int .i64 n3] ∧
  CallR Try.prog 16 [.int .i64 n3] w1 (fun (r6 : Value) (w2 : World) =>
  ∃ (n5 : Int), r6 = .int .i64 n5 ∧
  cond (n5 == 2)
  (CallR Try.prog 17 [.pointer p1, .int .i64 0, .slice none 0 0] w2 (fun (r8 : Value) (w3 : World) =>
  ∃ (n7 : Int), r8 = .int .i64 n7 ∧
  CallR Try.prog 16 [.int .i64 n7] w3 (fun (r10 : Value) (w4 : World) =>
  ∃ (n9 : Int), r10 = .int .i64 n9 ∧
  cond (n9 == 2)
  (CallR Try.prog 49 [.pointer p1, .int .i64 0] w4 (fun (r12 : Value) (w5 : World) =>
  ∃ (n11 : Int), r12 = .int .i64 n11 ∧
  CallR Try.prog 16 [.int .i64 n11] w5 (fun (r14 : Value) (w6 : World) =>
  ∃ (n13 : Int), r14 = .int .i64 n13 ∧
  cond (n13 == 2)
  (CallR Try.prog 18 [.pointer p1] w6 (fun (r16 : Value) (w7 : World) =>
  ∃ (n15 : Int), r16 = .int .i64 n15 ∧
  cond (n15 == 0)
  (CallR Try.prog 52 [.pointer p1] w7 (fun (r18 : Value) (w8 : World) =>
  ∃ (a17 : Option Addr) (l17 : Nat) (c17 : Nat), r18 = .slice a17 l17 c17 ∧
  cond ((((l17 : Nat) : Int)) == 0)
  (CallR Try.prog 51 [.pointer p1] w8 (fun (r20 : Value) (w9 : World) =>
  ∃ (p19 : Option Addr), r20 = .pointer p19 ∧
  Q (.bool (Option.isNone p19)) w9))
  (Q (.bool false) w8)))
  (Q (.bool false) w7)))
  (Q (.bool false) w6))))
  (Q (.bool false) w4))))
  (Q (.bool false) w2)))
theorem C53 {p1 : Option Addr} {Q : Value → World → Prop} {w : World} (h : L53 p1 Q w) : CallR Try.prog 53 [.pointer p1] w Q :=
  fun_calls (A := A53) mixed Try.func53 (c := (Try.f53.body).getD .skip) rfl (by kernel_rfl) (Eq.mp (by kernel_rfl) h)

/-- millrace/millracelaw03.FileOwn -/
def A13 : Ann := ⟨[], [], [], []⟩
def L13 (a1 : Option Addr) (l1 : Nat) (c1 : Nat) (n2 : Int) (n3 : Int) (n4 : Int) (a5 : Option Addr) (l5 : Nat) (c5 : Nat) (Q : Value → World → Prop) (w : World) : Prop :=
  let w1 := World.alloc w (Obj.cells #[.int .i64 n2, .int .i64 n3, .int .i64 n4, .slice a5 l5 c5] 31);
  CallR Try.prog 14 [] w1 (fun (r7 : Value) (w2 : World) =>
  ∃ (b6 : Bool), r7 = .bool b6 ∧
  cond (!b6)
  (Q (.bool false) w2)
  (CallR Try.prog 53 [.pointer none] w2 (fun (r9 : Value) (w3 : World) =>
  ∃ (b8 : Bool), r9 = .bool b8 ∧
  cond (!b8)
  (Q (.bool false) w3)
  (let w4 := World.alloc w3 (Obj.cells #[.bool false, .slice none 0 0] 100);
  CallR Try.prog 53 [.pointer (some (Addr.mk w3.heap.size 0 none))] w4 (fun (r11 : Value) (w5 : World) =>
  ∃ (b10 : Bool), r11 = .bool b10 ∧
  cond (!b10)
  (Q (.bool false) w5)
  (CallR Try.prog 36 [.slice a1 l1 c1] w5 (fun (r13 : Value) (w6 : World) =>
  ∃ (a12 : Option Addr) (l12 : Nat) (c12 : Nat), r13 = .slice a12 l12 c12 ∧
  CallR Try.prog 15 [.slice a12 l12 c12] w6 (fun (r16 : Value) (w7 : World) =>
  ∃ (p14 : Option Addr) (n15 : Int), r16 = .tuple #[.pointer p14, .int .i64 n15] ∧
  CallR Try.prog 16 [.int .i64 n15] w7 (fun (r18 : Value) (w8 : World) =>
  ∃ (n17 : Int), r18 = .int .i64 n17 ∧
  cond (n17 != 0)
  (Q (.bool (Option.isNone p14)) w8)
  (cond (Option.isNone p14)
  (Q (.bool (Option.isNone p14)) w8)
  (CallR Try.prog 40 [.slice a12 l12 c12] w8 (fun (r19 : Value) (w9 : World) =>
  r19 = .tuple #[] ∧
  CallR Try.prog 19 [.pointer p14, .int .i64 0, .int .i64 (((l1 : Nat) : Int))] w9 (fun (r22 : Value) (w10 : World) =>
  ∃ (a20 : Option Addr) (l20 : Nat) (c20 : Nat) (n21 : Int), r22 = .tuple #[.slice a20 l20 c20, .int .i64 n21] ∧
  CallR Try.prog 40 [.slice a20 l20 c20] w10 (fun (r23 : Value) (w11 : World) =>
  r23 = .tuple #[] ∧
  CallR Try.prog 52 [.pointer p14] w11 (fun (r25 : Value) (w12 : World) =>
  ∃ (a24 : Option Addr) (l24 : Nat) (c24 : Nat), r25 = .slice a24 l24 c24 ∧
  CallR Try.prog 40 [.slice a24 l24 c24] w12 (fun (r26 : Value) (w13 : World) =>
  r26 = .tuple #[] ∧
  CallR Try.prog 52 [.pointer p14] w13 (fun (r28 : Value) (w14 : World) =>
  ∃ (a27 : Option Addr) (l27 : Nat) (c27 : Nat), r28 = .slice a27 l27 c27 ∧
  CallR Try.prog 20 [.slice a27 l27 c27, .slice a1 l1 c1] w14 (fun (r30 : Value) (w15 : World) =>
  ∃ (b29 : Bool), r30 = .bool b29 ∧
  cond (!b29)
  (Q (.bool false) w15)
  (∃ (a31 : Option Addr) (l31 : Nat) (c31 : Nat), w15.cell? (Addr.mk w.heap.size 3 none) = some ((.slice a31 l31 c31 : Value)) ∧
  CallR Try.prog 36 [.slice a31 l31 c31] w15 (fun (r33 : Value) (w16 : World) =>
  ∃ (a32 : Option Addr) (l32 : Nat) (c32 : Nat), r33 = .slice a32 l32 c32 ∧
  ∃ (n34 : Int), w16.cell? (Addr.mk w.heap.size 1 none) = some ((.int .i64 n34 : Value)) ∧
  CallR Try.prog 17 [.pointer p14, .int .i64 n34, .slice a32 l32 c32] w16 (fun (r36 : Value) (w17 : World) =>
  ∃ (n35 : Int), r36 = .int .i64 n35 ∧
  CallR Try.prog 52 [.pointer p14] w17 (fun (r38 : Value) (w18 : World) =>
  ∃ (a37 : Option Addr) (l37 : Nat) (c37 : Nat), r38 = .slice a37 l37 c37 ∧
  CallR Try.prog 40 [.slice a32 l32 c32] w18 (fun (r39 : Value) (w19 : World) =>
  r39 = .tuple #[] ∧
  CallR Try.prog 49 [.pointer p14, .int .i64 ((-1))] w19 (fun (r41 : Value) (w20 : World) =>
  ∃ (n40 : Int), r41 = .int .i64 n40 ∧
  let w21 := World.alloc w20 (Obj.cells #[.int .u8 1] 5);
  CallR Try.prog 17 [.pointer p14, .int .i64 ((-1)), .slice (some (Addr.mk w20.heap.size 0 none)) 1 1] w21 (fun (r43 : Value) (w22 : World) =>
  ∃ (n42 : Int), r43 = .int .i64 n42 ∧
  CallR Try.prog 16 [.int .i64 n40] w22 (fun (r45 : Value) (w23 : World) =>
  ∃ (n44 : Int), r45 = .int .i64 n44 ∧
  cond (n44 == 4)
  (CallR Try.prog 16 [.int .i64 n42] w23 (fun (r47 : Value) (w24 : World) =>
  ∃ (n46 : Int), r47 = .int .i64 n46 ∧
  cond (n46 == 4)
  (CallR Try.prog 52 [.pointer p14] w24 (fun (r49 : Value) (w25 : World) =>
  ∃ (a48 : Option Addr) (l48 : Nat) (c48 : Nat), r49 = .slice a48 l48 c48 ∧
  CallR Try.prog 20 [.slice a48 l48 c48, .slice a37 l37 c37] w25 (fun (r51 : Value) (w26 : World) =>
  ∃ (b50 : Bool), r51 = .bool b50 ∧
  cond b50
  (CallR Try.prog 16 [.int .i64 n35] w26 (fun (r53 : Value) (w27 : World) =>
  ∃ (n52 : Int), r53 = .int .i64 n52 ∧
  cond (n52 == 0)
  (Q (.bool true) w27)
  (CallR Try.prog 20 [.slice a37 l37 c37, .slice a1 l1 c1] w27 (fun (r55 : Value) (w28 : World) =>
  ∃ (b54 : Bool), r55 = .bool b54 ∧
  Q (.bool b54) w28))))
  (Q (.bool false) w26))))
  (Q (.bool false) w24)))
  (Q (.bool false) w23)))))))))))))))))))))))))))
theorem C13 {a1 : Option Addr} {l1 : Nat} {c1 : Nat} {n2 : Int} {n3 : Int} {n4 : Int} {a5 : Option Addr} {l5 : Nat} {c5 : Nat} {Q : Value → World → Prop} {w : World} (h : L13 a1 l1 c1 n2 n3 n4 a5 l5 c5 Q w) : CallR Try.prog 13 [.slice a1 l1 c1, .agg #[.int .i64 n2, .int .i64 n3, .int .i64 n4, .slice a5 l5 c5]] w Q :=
  fun_calls (A := A13) mixed Try.func13 (c := (Try.f13.body).getD .skip) rfl (by kernel_rfl) (Eq.mp (by kernel_rfl) h)

end Go.Proofs.Ytapnpbfbebdjjaa
