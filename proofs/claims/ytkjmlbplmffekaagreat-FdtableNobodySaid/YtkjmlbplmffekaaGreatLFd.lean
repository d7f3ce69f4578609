/-
  What some functions of the program ask of the world, printed by a program out of the loaded program; each text is held against the code by evaluation. Conditions: none.
-/
import Derived.Test.YtkjmlbplmffekaaGreatProg
import Derived.Test.YtkjmlbplmffekaaGreatLm
import Derived.Test.YtkjmlbplmffekaaGreatLX
import Derived.Test.YtkjmlbplmffekaaGreatRfC
set_option linter.unusedVariables false
set_option maxRecDepth 100000
namespace Go.Proofs.YtkjmlbplmffekaaGreat
open Go.Lw
/-- (*millrace/fdtable.Table).free -/
def A215 : Ann := ⟨[], [], [], [], [], []⟩
def L215 (p1 : Option Addr) (Q : Value → World → Prop) (w : World) : Prop :=
  let w1 := World.alloc w (Obj.cells #[.pointer p1] 89);
  Q (.func (.func 247) #[] #[.pointer (some (Addr.mk w.heap.size 0 none))]) w1
theorem C215 {p1 : Option Addr} {Q : Value → World → Prop} {w : World} (h : L215 p1 Q w) : CallR Tryz.prog 215 [.pointer p1] w Q :=
  fun_calls (A := A215) mixed Tryz.func215 (c := (Tryz.f215.body).getD .skip) rfl (by kernel_rfl) (Eq.mp (by kernel_rfl) h)

/-- (*millrace/fdtable.Table).free$1 -/
def A247 : Ann := ⟨[(1, [(9, .one (.int .i64))])], [], [], [], [], []⟩
def L247 (v1 : Value) (p2 : Option Addr) (Q : Value → World → Prop) (w : World) : Prop :=
  nn p2 (fun (q3 : Addr) =>
  ∃ (p4 : Option Addr), w.cell? q3 = some ((.pointer p4 : Value)) ∧
  nn p4 (fun (q5 : Addr) =>
  ∃ (vs6 : List Value), vs6.length = 128 ∧ (∀ i v, vs6[i]? = some v → w.cell? (Addr.add (Addr.add q5 1) i) = some v) ∧
  ∃ (I7 : List Value → World → Prop) (mu8 : List Value → World → Nat),
  I7 [.int .i64 0] w ∧
  ∀ (_ : Env) (n9 : Int) (w1 : World), I7 [.int .i64 n9] w1 →
  cond (decide (n9 < 64))
  ((0 ≤ (n9 : Int) ∧ (n9 : Int) < ((64 : Nat) : Int)) ∧
  ∃ (n10 : Int) (b11 : Bool), List.take 2 (List.drop (Int.toNat n9 * 2) (Array.toList (vs6).toArray)) = [.int .i64 n10, .bool b11] ∧
  let w2 := World.alloc w1 (Obj.cells #[.int .i64 0, .bool false] 92);
  stC (Addr.mk w1.heap.size 0 none) (.int .i64 n10) w2 (fun (w3 : World) =>
  stC (Addr.mk w1.heap.size 1 none) (.bool b11) w3 (fun (w4 : World) =>
  ∃ (n12 : Int), w4.cell? (Addr.mk w1.heap.size 0 none) = some ((.int .i64 n12 : Value)) ∧
  cond (n12 == 0)
  (∃ (l13 : Nat), v1 = .func (.yield l13) #[] #[] ∧ YieldR Tryz.prog l13 [.int .i64 n9] w4 (fun (b14 : Bool) (w5 : World) =>
  cond (!b14)
  (Q (.tuple #[]) w5)
  (inI (n9 + 1) ∧
  I7 [.int .i64 (n9 + 1)] w5 ∧ mu8 [.int .i64 (n9 + 1)] w5 < mu8 [.int .i64 n9] w1)))
  (inI (n9 + 1) ∧
  I7 [.int .i64 (n9 + 1)] w4 ∧ mu8 [.int .i64 (n9 + 1)] w4 < mu8 [.int .i64 n9] w1))))
  (Q (.tuple #[]) w1)))
theorem C247 {v1 : Value} {p2 : Option Addr} {Q : Value → World → Prop} {w : World} (h : L247 v1 p2 Q w) : CallR Tryz.prog 247 [v1, .pointer p2] w Q :=
  funI_calls (A := A247) Tryz.func247 (c := (Tryz.f247.body).getD .skip) rfl (by kernel_rfl) (Eq.mp (by kernel_rfl) h)

/-- (*millrace/fdtable.Table).some -/
def A133 : Ann := ⟨[], [], [], [], [], []⟩
def L133 (p1 : Option Addr) (n2 : Int) (Q : Value → World → Prop) (w : World) : Prop :=
  let w1 := World.alloc w (Obj.cells #[.int .i64 n2] 3);
  let w2 := World.alloc w1 (Obj.cells #[.slice none 0 0] 98);
  let w3 := World.alloc w2 (Obj.cells #[.slice none 0 0] 98);
  CallR Tryz.prog 215 [.pointer p1] w3 (fun (r4 : Value) (w4 : World) =>
  ∃ (v3 : Value), r4 = v3 ∧
  ∃ (gf8 : FuncId) (lb9 : Array Value) (xs10 : List (List Value)) (Kp11 T12 : Nat → Prop) (I13 Ix14 : Nat → World → Prop),
  v3 = .func (.func gf8) #[] lb9 ∧ bodyB Tryz.prog gf8 = true ∧ IterOK Tryz.prog gf8 (Array.toList lb9) xs10 Kp11 w4 ∧ (∀ z, Kp11 z → z < w4.heap.size) ∧ (∀ z, T12 z → ¬ Kp11 z ∧ z ≠ w4.heap.size ∧ z ≠ w4.heap.size + 1) ∧
  Steady w4.heap.size I13 ∧ Steady w4.heap.size Ix14 ∧ I13 0 w4 ∧
  (∀ (i6 : Nat) (x7 : List Value) (w5 : World), xs10[i6]? = some x7 → I13 i6 w5 → w4.heap.size + 2 ≤ w5.heap.size → List.length x7 = 1 ∧ ∃ (n5 : Int), x7 = [.int .i64 n5] ∧
  w5 = w5 ∧ ∀ (w6 : World), Kept (fun z => z = w4.heap.size + 1) w5 w6 →
  ∃ (a15 : Option Addr) (l15 : Nat) (c15 : Nat), w6.cell? (Addr.mk w2.heap.size 0 none) = some ((.slice a15 l15 c15 : Value)) ∧
  let w10 := World.alloc w6 (Obj.cells #[.int .i64 n5] 3);
  ∃ (a16 : Option Addr) (l16 : Nat) (c16 : Nat) (w11 : World), Sem.run Tryz.prog (Builtin.append_ #[98, 98] 98 #[.slice a15 l15 c15, .slice (some (Addr.mk w6.heap.size 0 none)) 1 1]) w10 = .ok ((.slice a16 l16 c16 : Value)) w11 ∧
  stC (Addr.mk w2.heap.size 0 none) (.slice a16 l16 c16) w11 (fun (w12 : World) =>
  ∃ (a17 : Option Addr) (l17 : Nat) (c17 : Nat), w12.cell? (Addr.mk w2.heap.size 0 none) = some ((.slice a17 l17 c17 : Value)) ∧
  ∃ (n18 : Int), w12.cell? (Addr.mk w.heap.size 0 none) = some ((.int .i64 n18 : Value)) ∧
  cond ((((l17 : Nat) : Int)) == n18)
  (∃ (a19 : Option Addr) (l19 : Nat) (c19 : Nat), w12.cell? (Addr.mk w2.heap.size 0 none) = some ((.slice a19 l19 c19 : Value)) ∧
  stC (Addr.mk w1.heap.size 0 none) (.slice a19 l19 c19) w12 (fun (w13 : World) =>
  Kept T12 w6 w13 ∧ Ix14 i6 w13))
  (Kept T12 w6 w12 ∧ I13 (i6 + 1) w12))) ∧
  (∀ (w7 : World), I13 (List.length xs10) w7 →
  stC (Addr.mk w1.heap.size 0 none) (.slice none 0 0) w7 (fun (w14 : World) =>
  Kept (fun z => z ≠ w4.heap.size) w7 w14 ∧ ∀ (w8 : World), Kept (fun z => z = w4.heap.size) w14 w8 →
  ∃ (a20 : Option Addr) (l20 : Nat) (c20 : Nat), w8.cell? (Addr.mk w1.heap.size 0 none) = some ((.slice a20 l20 c20 : Value)) ∧
  Q (.slice a20 l20 c20) w8)) ∧
  (∀ (i6 : Nat) (w7 : World), Ix14 i6 w7 → ∀ (w9 : World), Kept (fun z => z = w4.heap.size) w7 w9 →
  ∃ (a21 : Option Addr) (l21 : Nat) (c21 : Nat), w9.cell? (Addr.mk w1.heap.size 0 none) = some ((.slice a21 l21 c21 : Value)) ∧
  Q (.slice a21 l21 c21) w9))
theorem C133 {p1 : Option Addr} {n2 : Int} {Q : Value → World → Prop} {w : World} (h : L133 p1 n2 Q w) : CallR Tryz.prog 133 [.pointer p1, .int .i64 n2] w Q :=
  funRF (A := A133) (shs := [.one (.int .i64)]) mixed Tryz.func133 (c := (Tryz.f133.body).getD .skip) rfl (by kernel_rfl) (Eq.mp (by kernel_rfl) h)

/-- millrace/fdtable.New -/
def A41 : Ann := ⟨[], [], [], [], [], []⟩
def L41 (p1 : Option Addr) (Q : Value → World → Prop) (w : World) : Prop :=
  let w1 := World.alloc w (Obj.cells #[.pointer p1, .int .i64 0, .bool false, .int .i64 0, .bool false, .int .i64 0, .bool false, .int .i64 0, .bool false, .int .i64 0, .bool false, .int .i64 0, .bool false, .int .i64 0, .bool false, .int .i64 0, .bool false, .int .i64 0, .bool false, .int .i64 0, .bool false, .int .i64 0, .bool false, .int .i64 0, .bool false, .int .i64 0, .bool false, .int .i64 0, .bool false, .int .i64 0, .bool false, .int .i64 0, .bool false, .int .i64 0, .bool false, .int .i64 0, .bool false, .int .i64 0, .bool false, .int .i64 0, .bool false, .int .i64 0, .bool false, .int .i64 0, .bool false, .int .i64 0, .bool false, .int .i64 0, .bool false, .int .i64 0, .bool false, .int .i64 0, .bool false, .int .i64 0, .bool false, .int .i64 0, .bool false, .int .i64 0, .bool false, .int .i64 0, .bool false, .int .i64 0, .bool false, .int .i64 0, .bool false, .int .i64 0, .bool false, .int .i64 0, .bool false, .int .i64 0, .bool false, .int .i64 0, .bool false, .int .i64 0, .bool false, .int .i64 0, .bool false, .int .i64 0, .bool false, .int .i64 0, .bool false, .int .i64 0, .bool false, .int .i64 0, .bool false, .int .i64 0, .bool false, .int .i64 0, .bool false, .int .i64 0, .bool false, .int .i64 0, .bool false, .int .i64 0, .bool false, .int .i64 0, .bool false, .int .i64 0, .bool false, .int .i64 0, .bool false, .int .i64 0, .bool false, .int .i64 0, .bool false, .int .i64 0, .bool false, .int .i64 0, .bool false, .int .i64 0, .bool false, .int .i64 0, .bool false, .int .i64 0, .bool false, .int .i64 0, .bool false, .int .i64 0, .bool false, .int .i64 0, .bool false, .int .i64 0, .bool false, .int .i64 0, .bool false, .int .i64 0, .bool false, .int .i64 0, .bool false] 95);
  Q (.pointer (some (Addr.mk w.heap.size 0 none))) w1
theorem C41 {p1 : Option Addr} {Q : Value → World → Prop} {w : World} (h : L41 p1 Q w) : CallR Tryz.prog 41 [.pointer p1] w Q :=
  fun_calls (A := A41) mixed Tryz.func41 (c := (Tryz.f41.body).getD .skip) rfl (by kernel_rfl) (Eq.mp (by kernel_rfl) h)

/-- (*millrace/fdtable.Table).none -/
def A132 : Ann := ⟨[], [], [], [], [], []⟩
def L132 (p1 : Option Addr) (Q : Value → World → Prop) (w : World) : Prop :=
  cond (Option.isNone p1)
  (Q (.bool true) w)
  (nn p1 (fun (q2 : Addr) =>
  ∃ (p3 : Option Addr), w.cell? q2 = some ((.pointer p3 : Value)) ∧
  Q (.bool (Option.isNone p3)) w))
theorem C132 {p1 : Option Addr} {Q : Value → World → Prop} {w : World} (h : L132 p1 Q w) : CallR Tryz.prog 132 [.pointer p1] w Q :=
  fun_calls (A := A132) mixed Tryz.func132 (c := (Tryz.f132.body).getD .skip) rfl (by kernel_rfl) (Eq.mp (by kernel_rfl) h)

/-- (*millrace/fdtable.Table).at -/
def A134 : Ann := ⟨[], [], [], [], [], []⟩
def L134 (p1 : Option Addr) (n2 : Int) (Q : Value → World → Prop) (w : World) : Prop :=
  CallR Tryz.prog 132 [.pointer p1] w (fun (r4 : Value) (w1 : World) =>
  ∃ (b3 : Bool), r4 = .bool b3 ∧
  cond b3
  (Q (.tuple #[.pointer none, .int .i64 2]) w1)
  (cond (decide (n2 < 0))
  (Q (.tuple #[.pointer none, .int .i64 71]) w1)
  (cond (decide (n2 ≥ 64))
  (Q (.tuple #[.pointer none, .int .i64 71]) w1)
  (nn p1 (fun (q5 : Addr) =>
  (0 ≤ (n2 : Int) ∧ (n2 : Int) < ((64 : Nat) : Int)) ∧
  ∃ (n6 : Int), w1.cell? (Addr.add (Addr.add q5 1) (Int.toNat n2 * 2)) = some ((.int .i64 n6 : Value)) ∧
  cond (n6 == 0)
  (Q (.tuple #[.pointer none, .int .i64 71]) w1)
  (nn p1 (fun (q7 : Addr) =>
  (0 ≤ (n2 : Int) ∧ (n2 : Int) < ((64 : Nat) : Int)) ∧
  Q (.tuple #[.pointer (some (Addr.add (Addr.add q7 1) (Int.toNat n2 * 2))), .int .i64 0]) w1)))))))
theorem C134 {p1 : Option Addr} {n2 : Int} {Q : Value → World → Prop} {w : World} (h : L134 p1 n2 Q w) : CallR Tryz.prog 134 [.pointer p1, .int .i64 n2] w Q :=
  fun_calls (A := A134) mixed Tryz.func134 (c := (Tryz.f134.body).getD .skip) rfl (by kernel_rfl) (Eq.mp (by kernel_rfl) h)

/-- (*millrace/fdtable.Table).Open -/
def A43 : Ann := ⟨[], [], [], [(9, [0, 1, 2, 3, 4, 5, 6, 7, 8, 9])], [], []⟩
def L43 (p1 : Option Addr) (s2 : ByteArray) (n3 : Int) (Q : Value → World → Prop) (w : World) : Prop :=
  CallR Tryz.prog 132 [.pointer p1] w (fun (r5 : Value) (w1 : World) =>
  ∃ (b4 : Bool), r5 = .bool b4 ∧
  cond b4
  (Q (.tuple #[.int .i64 0, .int .i64 2]) w1)
  (CallR Tryz.prog 133 [.pointer p1, .int .i64 1] w1 (fun (r7 : Value) (w2 : World) =>
  ∃ (a6 : Option Addr) (l6 : Nat) (c6 : Nat), r7 = .slice a6 l6 c6 ∧
  cond (Option.isNone a6)
  (Q (.tuple #[.int .i64 0, .int .i64 31]) w2)
  (nn p1 (fun (q8 : Addr) =>
  ∃ (p9 : Option Addr), w2.cell? q8 = some ((.pointer p9 : Value)) ∧
  CallR Tryz.prog 19 [.pointer p9, .string s2, .int .i64 n3] w2 (fun (r12 : Value) (w3 : World) =>
  ∃ (n10 : Int) (n11 : Int), r12 = .tuple #[.int .i64 n10, .int .i64 n11] ∧
  cond (n11 != 0)
  (Q (.tuple #[.int .i64 0, .int .i64 n11]) w3)
  (let w4 := World.drew w3;
  (0 ≤ (0 : Int) ∧ (0 : Int) < ((l6 : Nat) : Int)) ∧
  nn a6 (fun (q13 : Addr) =>
  ∃ (n14 : Int), w4.cell? (Addr.add q13 (Int.toNat 0)) = some ((.int .i64 n14 : Value)) ∧
  nn p1 (fun (q15 : Addr) =>
  (0 ≤ (n14 : Int) ∧ (n14 : Int) < ((64 : Nat) : Int)) ∧
  stC (Addr.add (Addr.add q15 1) (Int.toNat n14 * 2)) (.int .i64 n10) w4 (fun (w5 : World) =>
  stC (Addr.add (Addr.add (Addr.add q15 1) (Int.toNat n14 * 2)) 1) (.bool false) w5 (fun (w6 : World) =>
  (0 ≤ (0 : Int) ∧ (0 : Int) < ((l6 : Nat) : Int)) ∧
  nn a6 (fun (q16 : Addr) =>
  ∃ (n17 : Int), w6.cell? (Addr.add q16 (Int.toNat 0)) = some ((.int .i64 n17 : Value)) ∧
  Q (.tuple #[.int .i64 n17, .int .i64 0]) w6))))))))))))
theorem C43 {p1 : Option Addr} {s2 : ByteArray} {n3 : Int} {Q : Value → World → Prop} {w : World} (h : L43 p1 s2 n3 Q w) : CallR Tryz.prog 43 [.pointer p1, .string s2, .int .i64 n3] w Q :=
  fun_calls (A := A43) mixed Tryz.func43 (c := (Tryz.f43.body).getD .skip) rfl (by kernel_rfl) (Eq.mp (by kernel_rfl) h)

/-- (*millrace/fdtable.Table).Pipe -/
def A44 : Ann := ⟨[], [], [], [(9, [0, 1, 2, 3, 4, 5, 6, 7, 8, 9, 10, 11, 12, 13, 14, 16, 17, 15, 18, 19])], [], []⟩
def L44 (p1 : Option Addr) (Q : Value → World → Prop) (w : World) : Prop :=
  CallR Tryz.prog 132 [.pointer p1] w (fun (r3 : Value) (w1 : World) =>
  ∃ (b2 : Bool), r3 = .bool b2 ∧
  cond b2
  (Q (.tuple #[.int .i64 0, .int .i64 0, .int .i64 2]) w1)
  (CallR Tryz.prog 133 [.pointer p1, .int .i64 2] w1 (fun (r5 : Value) (w2 : World) =>
  ∃ (a4 : Option Addr) (l4 : Nat) (c4 : Nat), r5 = .slice a4 l4 c4 ∧
  cond (Option.isNone a4)
  (Q (.tuple #[.int .i64 0, .int .i64 0, .int .i64 31]) w2)
  (nn p1 (fun (q6 : Addr) =>
  ∃ (p7 : Option Addr), w2.cell? q6 = some ((.pointer p7 : Value)) ∧
  CallR Tryz.prog 26 [.pointer p7] w2 (fun (r11 : Value) (w3 : World) =>
  ∃ (n8 : Int) (n9 : Int) (n10 : Int), r11 = .tuple #[.int .i64 n8, .int .i64 n9, .int .i64 n10] ∧
  cond (n10 != 0)
  (Q (.tuple #[.int .i64 0, .int .i64 0, .int .i64 n10]) w3)
  (let w4 := World.drew w3;
  (0 ≤ (0 : Int) ∧ (0 : Int) < ((l4 : Nat) : Int)) ∧
  nn a4 (fun (q12 : Addr) =>
  ∃ (n13 : Int), w4.cell? (Addr.add q12 (Int.toNat 0)) = some ((.int .i64 n13 : Value)) ∧
  (0 ≤ (1 : Int) ∧ (1 : Int) < ((l4 : Nat) : Int)) ∧
  nn a4 (fun (q14 : Addr) =>
  ∃ (n15 : Int), w4.cell? (Addr.add q14 (Int.toNat 1)) = some ((.int .i64 n15 : Value)) ∧
  nn p1 (fun (q16 : Addr) =>
  (0 ≤ (n13 : Int) ∧ (n13 : Int) < ((64 : Nat) : Int)) ∧
  nn p1 (fun (q17 : Addr) =>
  stC (Addr.add (Addr.add q16 1) (Int.toNat n13 * 2)) (.int .i64 n8) w4 (fun (w5 : World) =>
  stC (Addr.add (Addr.add (Addr.add q16 1) (Int.toNat n13 * 2)) 1) (.bool false) w5 (fun (w6 : World) =>
  (0 ≤ (n15 : Int) ∧ (n15 : Int) < ((64 : Nat) : Int)) ∧
  stC (Addr.add (Addr.add q17 1) (Int.toNat n15 * 2)) (.int .i64 n9) w6 (fun (w7 : World) =>
  stC (Addr.add (Addr.add (Addr.add q17 1) (Int.toNat n15 * 2)) 1) (.bool false) w7 (fun (w8 : World) =>
  (0 ≤ (0 : Int) ∧ (0 : Int) < ((l4 : Nat) : Int)) ∧
  nn a4 (fun (q19 : Addr) =>
  ∃ (n20 : Int), w8.cell? (Addr.add q19 (Int.toNat 0)) = some ((.int .i64 n20 : Value)) ∧
  (0 ≤ (1 : Int) ∧ (1 : Int) < ((l4 : Nat) : Int)) ∧
  nn a4 (fun (q21 : Addr) =>
  ∃ (n22 : Int), w8.cell? (Addr.add q21 (Int.toNat 1)) = some ((.int .i64 n22 : Value)) ∧
  ∀ nd18 : Nat, let w9 := World.drewN w8 nd18;
  Q (.tuple #[.int .i64 n20, .int .i64 n22, .int .i64 0]) w9)))))))))))))))))
theorem C44 {p1 : Option Addr} {Q : Value → World → Prop} {w : World} (h : L44 p1 Q w) : CallR Tryz.prog 44 [.pointer p1] w Q :=
  fun_calls (A := A44) mixed Tryz.func44 (c := (Tryz.f44.body).getD .skip) rfl (by kernel_rfl) (Eq.mp (by kernel_rfl) h)

/-- (*millrace/fdtable.Table).Install -/
def A48 : Ann := ⟨[], [], [], [(9, [0, 1, 2, 3, 4, 5, 6, 7, 8, 9])], [], []⟩
def L48 (p1 : Option Addr) (n2 : Int) (Q : Value → World → Prop) (w : World) : Prop :=
  CallR Tryz.prog 132 [.pointer p1] w (fun (r4 : Value) (w1 : World) =>
  ∃ (b3 : Bool), r4 = .bool b3 ∧
  cond b3
  (Q (.tuple #[.int .i64 0, .int .i64 2]) w1)
  (CallR Tryz.prog 133 [.pointer p1, .int .i64 1] w1 (fun (r6 : Value) (w2 : World) =>
  ∃ (a5 : Option Addr) (l5 : Nat) (c5 : Nat), r6 = .slice a5 l5 c5 ∧
  cond (Option.isNone a5)
  (Q (.tuple #[.int .i64 0, .int .i64 31]) w2)
  (nn p1 (fun (q7 : Addr) =>
  ∃ (p8 : Option Addr), w2.cell? q7 = some ((.pointer p8 : Value)) ∧
  CallR Tryz.prog 111 [.pointer p8, .int .i64 n2] w2 (fun (r10 : Value) (w3 : World) =>
  ∃ (n9 : Int), r10 = .int .i64 n9 ∧
  cond (n9 != 0)
  (Q (.tuple #[.int .i64 0, .int .i64 n9]) w3)
  (let w4 := World.drew w3;
  (0 ≤ (0 : Int) ∧ (0 : Int) < ((l5 : Nat) : Int)) ∧
  nn a5 (fun (q11 : Addr) =>
  ∃ (n12 : Int), w4.cell? (Addr.add q11 (Int.toNat 0)) = some ((.int .i64 n12 : Value)) ∧
  nn p1 (fun (q13 : Addr) =>
  (0 ≤ (n12 : Int) ∧ (n12 : Int) < ((64 : Nat) : Int)) ∧
  stC (Addr.add (Addr.add q13 1) (Int.toNat n12 * 2)) (.int .i64 n2) w4 (fun (w5 : World) =>
  stC (Addr.add (Addr.add (Addr.add q13 1) (Int.toNat n12 * 2)) 1) (.bool false) w5 (fun (w6 : World) =>
  (0 ≤ (0 : Int) ∧ (0 : Int) < ((l5 : Nat) : Int)) ∧
  nn a5 (fun (q14 : Addr) =>
  ∃ (n15 : Int), w6.cell? (Addr.add q14 (Int.toNat 0)) = some ((.int .i64 n15 : Value)) ∧
  Q (.tuple #[.int .i64 n15, .int .i64 0]) w6))))))))))))
theorem C48 {p1 : Option Addr} {n2 : Int} {Q : Value → World → Prop} {w : World} (h : L48 p1 n2 Q w) : CallR Tryz.prog 48 [.pointer p1, .int .i64 n2] w Q :=
  fun_calls (A := A48) mixed Tryz.func48 (c := (Tryz.f48.body).getD .skip) rfl (by kernel_rfl) (Eq.mp (by kernel_rfl) h)

/-- (*millrace/fdtable.Table).Close -/
def A49 : Ann := ⟨[], [], [], [(4, [0, 1, 2, 3, 4, 5, 6, 7, 8])], [], []⟩
def L49 (p1 : Option Addr) (n2 : Int) (Q : Value → World → Prop) (w : World) : Prop :=
  CallR Tryz.prog 134 [.pointer p1, .int .i64 n2] w (fun (r5 : Value) (w1 : World) =>
  ∃ (p3 : Option Addr) (n4 : Int), r5 = .tuple #[.pointer p3, .int .i64 n4] ∧
  cond (n4 != 0)
  (Q (.int .i64 n4) w1)
  (let w2 := World.drew w1;
  nn p1 (fun (q6 : Addr) =>
  ∃ (p7 : Option Addr), w2.cell? q6 = some ((.pointer p7 : Value)) ∧
  nn p3 (fun (q8 : Addr) =>
  ∃ (n9 : Int), w2.cell? q8 = some ((.int .i64 n9 : Value)) ∧
  CallR Tryz.prog 38 [.pointer p7, .int .i64 n9] w2 (fun (r11 : Value) (w3 : World) =>
  ∃ (n10 : Int), r11 = .int .i64 n10 ∧
  nn p3 (fun (q12 : Addr) =>
  stC q12 (.int .i64 0) w3 (fun (w4 : World) =>
  stC (Addr.add q12 1) (.bool false) w4 (fun (w5 : World) =>
  Q (.int .i64 0) w5))))))))
theorem C49 {p1 : Option Addr} {n2 : Int} {Q : Value → World → Prop} {w : World} (h : L49 p1 n2 Q w) : CallR Tryz.prog 49 [.pointer p1, .int .i64 n2] w Q :=
  fun_calls (A := A49) mixed Tryz.func49 (c := (Tryz.f49.body).getD .skip) rfl (by kernel_rfl) (Eq.mp (by kernel_rfl) h)

/-- (*millrace/fdtable.Table).Dup -/
def A45 : Ann := ⟨[], [], [], [], [], []⟩
def L45 (p1 : Option Addr) (n2 : Int) (Q : Value → World → Prop) (w : World) : Prop :=
  CallR Tryz.prog 134 [.pointer p1, .int .i64 n2] w (fun (r5 : Value) (w1 : World) =>
  ∃ (p3 : Option Addr) (n4 : Int), r5 = .tuple #[.pointer p3, .int .i64 n4] ∧
  cond (n4 != 0)
  (Q (.tuple #[.int .i64 0, .int .i64 n4]) w1)
  (nn p3 (fun (q6 : Addr) =>
  ∃ (n7 : Int), w1.cell? q6 = some ((.int .i64 n7 : Value)) ∧
  CallR Tryz.prog 48 [.pointer p1, .int .i64 n7] w1 (fun (r10 : Value) (w2 : World) =>
  ∃ (n8 : Int) (n9 : Int), r10 = .tuple #[.int .i64 n8, .int .i64 n9] ∧
  Q (.tuple #[.int .i64 n8, .int .i64 n9]) w2))))
theorem C45 {p1 : Option Addr} {n2 : Int} {Q : Value → World → Prop} {w : World} (h : L45 p1 n2 Q w) : CallR Tryz.prog 45 [.pointer p1, .int .i64 n2] w Q :=
  fun_calls (A := A45) mixed Tryz.func45 (c := (Tryz.f45.body).getD .skip) rfl (by kernel_rfl) (Eq.mp (by kernel_rfl) h)

/-- (*millrace/fdtable.Table).DupTo -/
def A50 : Ann := ⟨[], [], [], [(8, [0, 1, 2, 3, 4, 5, 6, 7, 8, 9]), (12, [0, 1, 2, 3, 4, 5, 6, 7, 8, 9, 10])], [], []⟩
def L50 (p1 : Option Addr) (n2 : Int) (n3 : Int) (Q : Value → World → Prop) (w : World) : Prop :=
  CallR Tryz.prog 134 [.pointer p1, .int .i64 n2] w (fun (r6 : Value) (w1 : World) =>
  ∃ (p4 : Option Addr) (n5 : Int), r6 = .tuple #[.pointer p4, .int .i64 n5] ∧
  cond (n5 != 0)
  (Q (.int .i64 n5) w1)
  (cond (decide (n3 < 0))
  (Q (.int .i64 71) w1)
  (cond (decide (n3 ≥ 64))
  (Q (.int .i64 71) w1)
  (cond (n3 == n2)
  (Q (.int .i64 0) w1)
  (let w2 := World.drew w1;
  nn p1 (fun (q7 : Addr) =>
  ∃ (p8 : Option Addr), w2.cell? q7 = some ((.pointer p8 : Value)) ∧
  nn p4 (fun (q9 : Addr) =>
  ∃ (n10 : Int), w2.cell? q9 = some ((.int .i64 n10 : Value)) ∧
  CallR Tryz.prog 111 [.pointer p8, .int .i64 n10] w2 (fun (r12 : Value) (w3 : World) =>
  ∃ (n11 : Int), r12 = .int .i64 n11 ∧
  cond (n11 != 0)
  (Q (.int .i64 n11) w3)
  (CallR Tryz.prog 49 [.pointer p1, .int .i64 n3] w3 (fun (r14 : Value) (w4 : World) =>
  ∃ (n13 : Int), r14 = .int .i64 n13 ∧
  let w5 := World.drew w4;
  nn p4 (fun (q15 : Addr) =>
  ∃ (n16 : Int), w5.cell? q15 = some ((.int .i64 n16 : Value)) ∧
  nn p1 (fun (q17 : Addr) =>
  (0 ≤ (n3 : Int) ∧ (n3 : Int) < ((64 : Nat) : Int)) ∧
  stC (Addr.add (Addr.add q17 1) (Int.toNat n3 * 2)) (.int .i64 n16) w5 (fun (w6 : World) =>
  stC (Addr.add (Addr.add (Addr.add q17 1) (Int.toNat n3 * 2)) 1) (.bool false) w6 (fun (w7 : World) =>
  Q (.int .i64 0) w7))))))))))))))
theorem C50 {p1 : Option Addr} {n2 : Int} {n3 : Int} {Q : Value → World → Prop} {w : World} (h : L50 p1 n2 n3 Q w) : CallR Tryz.prog 50 [.pointer p1, .int .i64 n2, .int .i64 n3] w Q :=
  fun_calls (A := A50) mixed Tryz.func50 (c := (Tryz.f50.body).getD .skip) rfl (by kernel_rfl) (Eq.mp (by kernel_rfl) h)

/-- (*millrace/fdtable.Table).Mark -/
def A125 : Ann := ⟨[], [], [], [], [], []⟩
def L125 (p1 : Option Addr) (n2 : Int) (b3 : Bool) (Q : Value → World → Prop) (w : World) : Prop :=
  CallR Tryz.prog 134 [.pointer p1, .int .i64 n2] w (fun (r6 : Value) (w1 : World) =>
  ∃ (p4 : Option Addr) (n5 : Int), r6 = .tuple #[.pointer p4, .int .i64 n5] ∧
  cond (n5 == 0)
  (nn p4 (fun (q7 : Addr) =>
  stC (Addr.add q7 1) (.bool b3) w1 (fun (w2 : World) =>
  Q (.int .i64 n5) w2)))
  (Q (.int .i64 n5) w1))
theorem C125 {p1 : Option Addr} {n2 : Int} {b3 : Bool} {Q : Value → World → Prop} {w : World} (h : L125 p1 n2 b3 Q w) : CallR Tryz.prog 125 [.pointer p1, .int .i64 n2, .bool b3] w Q :=
  fun_calls (A := A125) mixed Tryz.func125 (c := (Tryz.f125.body).getD .skip) rfl (by kernel_rfl) (Eq.mp (by kernel_rfl) h)

/-- (*millrace/fdtable.Table).Marked -/
def A126 : Ann := ⟨[], [], [], [], [], []⟩
def L126 (p1 : Option Addr) (n2 : Int) (Q : Value → World → Prop) (w : World) : Prop :=
  CallR Tryz.prog 134 [.pointer p1, .int .i64 n2] w (fun (r5 : Value) (w1 : World) =>
  ∃ (p3 : Option Addr) (n4 : Int), r5 = .tuple #[.pointer p3, .int .i64 n4] ∧
  cond (n4 != 0)
  (Q (.tuple #[.bool false, .int .i64 n4]) w1)
  (nn p3 (fun (q6 : Addr) =>
  ∃ (b7 : Bool), w1.cell? (Addr.add q6 1) = some ((.bool b7 : Value)) ∧
  Q (.tuple #[.bool b7, .int .i64 0]) w1)))
theorem C126 {p1 : Option Addr} {n2 : Int} {Q : Value → World → Prop} {w : World} (h : L126 p1 n2 Q w) : CallR Tryz.prog 126 [.pointer p1, .int .i64 n2] w Q :=
  fun_calls (A := A126) mixed Tryz.func126 (c := (Tryz.f126.body).getD .skip) rfl (by kernel_rfl) (Eq.mp (by kernel_rfl) h)

/-- (*millrace/fdtable.Table).Desc -/
def A127 : Ann := ⟨[], [], [], [], [], []⟩
def L127 (p1 : Option Addr) (n2 : Int) (Q : Value → World → Prop) (w : World) : Prop :=
  CallR Tryz.prog 134 [.pointer p1, .int .i64 n2] w (fun (r5 : Value) (w1 : World) =>
  ∃ (p3 : Option Addr) (n4 : Int), r5 = .tuple #[.pointer p3, .int .i64 n4] ∧
  cond (n4 != 0)
  (Q (.tuple #[.int .i64 0, .int .i64 n4]) w1)
  (nn p3 (fun (q6 : Addr) =>
  ∃ (n7 : Int), w1.cell? q6 = some ((.int .i64 n7 : Value)) ∧
  Q (.tuple #[.int .i64 n7, .int .i64 0]) w1)))
theorem C127 {p1 : Option Addr} {n2 : Int} {Q : Value → World → Prop} {w : World} (h : L127 p1 n2 Q w) : CallR Tryz.prog 127 [.pointer p1, .int .i64 n2] w Q :=
  fun_calls (A := A127) mixed Tryz.func127 (c := (Tryz.f127.body).getD .skip) rfl (by kernel_rfl) (Eq.mp (by kernel_rfl) h)

/-- (*millrace/fdtable.Table).handle -/
def A214 : Ann := ⟨[], [], [], [], [], []⟩
def L214 (p1 : Option Addr) (n2 : Int) (Q : Value → World → Prop) (w : World) : Prop :=
  let w1 := World.alloc w (Obj.cells #[.pointer none, .int .i64 0] 31);
  CallR Tryz.prog 127 [.pointer p1, .int .i64 n2] w1 (fun (r5 : Value) (w2 : World) =>
  ∃ (n3 : Int) (n4 : Int), r5 = .tuple #[.int .i64 n3, .int .i64 n4] ∧
  cond (n4 != 0)
  (stC (Addr.mk w.heap.size 0 none) (.pointer none) w2 (fun (w3 : World) =>
  stC (Addr.mk w.heap.size 1 none) (.int .i64 0) w3 (fun (w4 : World) =>
  ∃ (p6 : Option Addr) (n7 : Int), w4.cell? (Addr.mk w.heap.size 0 none) = some ((.pointer p6 : Value)) ∧ w4.cell? (Addr.mk w.heap.size 1 none) = some ((.int .i64 n7 : Value)) ∧ 
  Q (.tuple #[.agg #[.pointer p6, .int .i64 n7], .int .i64 n4]) w4)))
  (nn p1 (fun (q8 : Addr) =>
  ∃ (p9 : Option Addr), w2.cell? q8 = some ((.pointer p9 : Value)) ∧
  stC (Addr.mk w.heap.size 0 none) (.pointer p9) w2 (fun (w5 : World) =>
  stC (Addr.mk w.heap.size 1 none) (.int .i64 n3) w5 (fun (w6 : World) =>
  ∃ (p10 : Option Addr) (n11 : Int), w6.cell? (Addr.mk w.heap.size 0 none) = some ((.pointer p10 : Value)) ∧ w6.cell? (Addr.mk w.heap.size 1 none) = some ((.int .i64 n11 : Value)) ∧ 
  Q (.tuple #[.agg #[.pointer p10, .int .i64 n11], .int .i64 0]) w6)))))
theorem C214 {p1 : Option Addr} {n2 : Int} {Q : Value → World → Prop} {w : World} (h : L214 p1 n2 Q w) : CallR Tryz.prog 214 [.pointer p1, .int .i64 n2] w Q :=
  fun_calls (A := A214) mixed Tryz.func214 (c := (Tryz.f214.body).getD .skip) rfl (by kernel_rfl) (Eq.mp (by kernel_rfl) h)

/-- (*millrace/fdtable.Table).Read -/
def A128 : Ann := ⟨[], [], [], [], [], []⟩
def L128 (p1 : Option Addr) (n2 : Int) (n3 : Int) (Q : Value → World → Prop) (w : World) : Prop :=
  CallR Tryz.prog 214 [.pointer p1, .int .i64 n2] w (fun (r7 : Value) (w1 : World) =>
  ∃ (p4 : Option Addr) (n5 : Int) (n6 : Int), r7 = .tuple #[.agg #[.pointer p4, .int .i64 n5], .int .i64 n6] ∧
  let w2 := World.alloc w1 (Obj.cells #[.pointer none, .int .i64 0] 31);
  stC (Addr.mk w1.heap.size 0 none) (.pointer p4) w2 (fun (w3 : World) =>
  stC (Addr.mk w1.heap.size 1 none) (.int .i64 n5) w3 (fun (w4 : World) =>
  cond (n6 != 0)
  (Q (.tuple #[.slice none 0 0, .int .i64 n6]) w4)
  (∃ (p8 : Option Addr) (n9 : Int), w4.cell? (Addr.mk w1.heap.size 0 none) = some ((.pointer p8 : Value)) ∧ w4.cell? (Addr.mk w1.heap.size 1 none) = some ((.int .i64 n9 : Value)) ∧ 
  CallR Tryz.prog 13 [.agg #[.pointer p8, .int .i64 n9], .int .i64 n3] w4 (fun (r12 : Value) (w5 : World) =>
  ∃ (a10 : Option Addr) (l10 : Nat) (c10 : Nat) (n11 : Int), r12 = .tuple #[.slice a10 l10 c10, .int .i64 n11] ∧
  Q (.tuple #[.slice a10 l10 c10, .int .i64 n11]) w5)))))
theorem C128 {p1 : Option Addr} {n2 : Int} {n3 : Int} {Q : Value → World → Prop} {w : World} (h : L128 p1 n2 n3 Q w) : CallR Tryz.prog 128 [.pointer p1, .int .i64 n2, .int .i64 n3] w Q :=
  fun_calls (A := A128) mixed Tryz.func128 (c := (Tryz.f128.body).getD .skip) rfl (by kernel_rfl) (Eq.mp (by kernel_rfl) h)

/-- (*millrace/fdtable.Table).Write -/
def A129 : Ann := ⟨[], [], [], [], [], []⟩
def L129 (p1 : Option Addr) (n2 : Int) (a3 : Option Addr) (l3 : Nat) (c3 : Nat) (Q : Value → World → Prop) (w : World) : Prop :=
  CallR Tryz.prog 214 [.pointer p1, .int .i64 n2] w (fun (r7 : Value) (w1 : World) =>
  ∃ (p4 : Option Addr) (n5 : Int) (n6 : Int), r7 = .tuple #[.agg #[.pointer p4, .int .i64 n5], .int .i64 n6] ∧
  let w2 := World.alloc w1 (Obj.cells #[.pointer none, .int .i64 0] 31);
  stC (Addr.mk w1.heap.size 0 none) (.pointer p4) w2 (fun (w3 : World) =>
  stC (Addr.mk w1.heap.size 1 none) (.int .i64 n5) w3 (fun (w4 : World) =>
  cond (n6 != 0)
  (Q (.tuple #[.int .i64 0, .int .i64 n6]) w4)
  (∃ (p8 : Option Addr) (n9 : Int), w4.cell? (Addr.mk w1.heap.size 0 none) = some ((.pointer p8 : Value)) ∧ w4.cell? (Addr.mk w1.heap.size 1 none) = some ((.int .i64 n9 : Value)) ∧ 
  CallR Tryz.prog 14 [.agg #[.pointer p8, .int .i64 n9], .slice a3 l3 c3] w4 (fun (r12 : Value) (w5 : World) =>
  ∃ (n10 : Int) (n11 : Int), r12 = .tuple #[.int .i64 n10, .int .i64 n11] ∧
  Q (.tuple #[.int .i64 n10, .int .i64 n11]) w5)))))
theorem C129 {p1 : Option Addr} {n2 : Int} {a3 : Option Addr} {l3 : Nat} {c3 : Nat} {Q : Value → World → Prop} {w : World} (h : L129 p1 n2 a3 l3 c3 Q w) : CallR Tryz.prog 129 [.pointer p1, .int .i64 n2, .slice a3 l3 c3] w Q :=
  fun_calls (A := A129) mixed Tryz.func129 (c := (Tryz.f129.body).getD .skip) rfl (by kernel_rfl) (Eq.mp (by kernel_rfl) h)

/-- (*millrace/fdtable.Table).Seek -/
def A130 : Ann := ⟨[], [], [], [], [], []⟩
def L130 (p1 : Option Addr) (n2 : Int) (n3 : Int) (n4 : Int) (Q : Value → World → Prop) (w : World) : Prop :=
  CallR Tryz.prog 214 [.pointer p1, .int .i64 n2] w (fun (r8 : Value) (w1 : World) =>
  ∃ (p5 : Option Addr) (n6 : Int) (n7 : Int), r8 = .tuple #[.agg #[.pointer p5, .int .i64 n6], .int .i64 n7] ∧
  let w2 := World.alloc w1 (Obj.cells #[.pointer none, .int .i64 0] 31);
  stC (Addr.mk w1.heap.size 0 none) (.pointer p5) w2 (fun (w3 : World) =>
  stC (Addr.mk w1.heap.size 1 none) (.int .i64 n6) w3 (fun (w4 : World) =>
  cond (n7 != 0)
  (Q (.tuple #[.int .i64 0, .int .i64 n7]) w4)
  (∃ (p9 : Option Addr) (n10 : Int), w4.cell? (Addr.mk w1.heap.size 0 none) = some ((.pointer p9 : Value)) ∧ w4.cell? (Addr.mk w1.heap.size 1 none) = some ((.int .i64 n10 : Value)) ∧ 
  CallR Tryz.prog 15 [.agg #[.pointer p9, .int .i64 n10], .int .i64 n3, .int .i64 n4] w4 (fun (r13 : Value) (w5 : World) =>
  ∃ (n11 : Int) (n12 : Int), r13 = .tuple #[.int .i64 n11, .int .i64 n12] ∧
  Q (.tuple #[.int .i64 n11, .int .i64 n12]) w5)))))
theorem C130 {p1 : Option Addr} {n2 : Int} {n3 : Int} {n4 : Int} {Q : Value → World → Prop} {w : World} (h : L130 p1 n2 n3 n4 Q w) : CallR Tryz.prog 130 [.pointer p1, .int .i64 n2, .int .i64 n3, .int .i64 n4] w Q :=
  fun_calls (A := A130) mixed Tryz.func130 (c := (Tryz.f130.body).getD .skip) rfl (by kernel_rfl) (Eq.mp (by kernel_rfl) h)

/-- (*millrace/fdtable.Table).Fork -/
def A53 : Ann := ⟨[(5, [(17, .one (.int .i64))])], [], [], [(7, [0, 1, 2, 3, 4, 5, 6, 7, 8, 9, 10, 11, 12, 13, 14, 15, 16, 17]), (8, [0, 1, 2, 3, 4, 5, 6, 7, 8])], [], []⟩
def L53 (p1 : Option Addr) (Q : Value → World → Prop) (w : World) : Prop :=
  CallR Tryz.prog 132 [.pointer p1] w (fun (r3 : Value) (w1 : World) =>
  ∃ (b2 : Bool), r3 = .bool b2 ∧
  cond b2
  (Q (.pointer none) w1)
  (nn p1 (fun (q4 : Addr) =>
  ∃ (p5 : Option Addr), w1.cell? q4 = some ((.pointer p5 : Value)) ∧
  CallR Tryz.prog 41 [.pointer p5] w1 (fun (r7 : Value) (w2 : World) =>
  ∃ (p6 : Option Addr), r7 = .pointer p6 ∧
  nn p1 (fun (q8 : Addr) =>
  ∃ (vs9 : List Value), vs9.length = 128 ∧ (∀ i v, vs9[i]? = some v → w2.cell? (Addr.add (Addr.add q8 1) i) = some v) ∧
  ∃ (I10 : List Value → World → Prop) (mu11 : List Value → World → Nat),
  I10 [.int .i64 0] w2 ∧
  ∀ (_ : Env) (n12 : Int) (w3 : World), I10 [.int .i64 n12] w3 →
  cond (decide (n12 < 64))
  ((0 ≤ (n12 : Int) ∧ (n12 : Int) < ((64 : Nat) : Int)) ∧
  ∃ (n13 : Int) (b14 : Bool), List.take 2 (List.drop (Int.toNat n12 * 2) (Array.toList (vs9).toArray)) = [.int .i64 n13, .bool b14] ∧
  let w4 := World.alloc w3 (Obj.cells #[.int .i64 0, .bool false] 92);
  stC (Addr.mk w3.heap.size 0 none) (.int .i64 n13) w4 (fun (w5 : World) =>
  stC (Addr.mk w3.heap.size 1 none) (.bool b14) w5 (fun (w6 : World) =>
  let w7 := World.drew w6;
  ∃ (n15 : Int), w7.cell? (Addr.mk w3.heap.size 0 none) = some ((.int .i64 n15 : Value)) ∧
  cond (n15 != 0)
  (∃ (b16 : Bool), w7.cell? (Addr.mk w3.heap.size 1 none) = some ((.bool b16 : Value)) ∧
  cond (!b16)
  (nn p1 (fun (q17 : Addr) =>
  ∃ (p18 : Option Addr), w7.cell? q17 = some ((.pointer p18 : Value)) ∧
  ∃ (n19 : Int), w7.cell? (Addr.mk w3.heap.size 0 none) = some ((.int .i64 n19 : Value)) ∧
  CallR Tryz.prog 111 [.pointer p18, .int .i64 n19] w7 (fun (r21 : Value) (w8 : World) =>
  ∃ (n20 : Int), r21 = .int .i64 n20 ∧
  cond (n20 == 0)
  (let w9 := World.drew w8;
  ∃ (n22 : Int), w9.cell? (Addr.mk w3.heap.size 0 none) = some ((.int .i64 n22 : Value)) ∧
  nn p6 (fun (q23 : Addr) =>
  (0 ≤ (n12 : Int) ∧ (n12 : Int) < ((64 : Nat) : Int)) ∧
  stC (Addr.add (Addr.add q23 1) (Int.toNat n12 * 2)) (.int .i64 n22) w9 (fun (w10 : World) =>
  inI (n12 + 1) ∧
  I10 [.int .i64 (n12 + 1)] w10 ∧ mu11 [.int .i64 (n12 + 1)] w10 < mu11 [.int .i64 n12] w3)))
  (inI (n12 + 1) ∧
  I10 [.int .i64 (n12 + 1)] w8 ∧ mu11 [.int .i64 (n12 + 1)] w8 < mu11 [.int .i64 n12] w3))))
  (inI (n12 + 1) ∧
  I10 [.int .i64 (n12 + 1)] w7 ∧ mu11 [.int .i64 (n12 + 1)] w7 < mu11 [.int .i64 n12] w3))
  (inI (n12 + 1) ∧
  I10 [.int .i64 (n12 + 1)] w7 ∧ mu11 [.int .i64 (n12 + 1)] w7 < mu11 [.int .i64 n12] w3))))
  (Q (.pointer p6) w3))))))
theorem C53 {p1 : Option Addr} {Q : Value → World → Prop} {w : World} (h : L53 p1 Q w) : CallR Tryz.prog 53 [.pointer p1] w Q :=
  fun_calls (A := A53) mixed Tryz.func53 (c := (Tryz.f53.body).getD .skip) rfl (by kernel_rfl) (Eq.mp (by kernel_rfl) h)

/-- (*millrace/fdtable.Table).CloseAll -/
def A131 : Ann := ⟨[(1, [(7, .one (.int .i64))])], [], [], [], [], []⟩
def L131 (p1 : Option Addr) (Q : Value → World → Prop) (w : World) : Prop :=
  CallR Tryz.prog 47 [.pointer p1] w (fun (r3 : Value) (w1 : World) =>
  ∃ (a2 : Option Addr) (l2 : Nat) (c2 : Nat), r3 = .slice a2 l2 c2 ∧
  ∃ (I4 : List Value → World → Prop) (mu5 : List Value → World → Nat),
  I4 [.int .i64 0] w1 ∧
  ∀ (_ : Env) (n6 : Int) (w2 : World), I4 [.int .i64 n6] w2 →
  cond (decide (n6 < (((l2 : Nat) : Int))))
  ((0 ≤ (n6 : Int) ∧ (n6 : Int) < ((l2 : Nat) : Int)) ∧
  nn a2 (fun (q7 : Addr) =>
  ∃ (n8 : Int), w2.cell? (Addr.add q7 (Int.toNat n6)) = some ((.int .i64 n8 : Value)) ∧
  CallR Tryz.prog 49 [.pointer p1, .int .i64 n8] w2 (fun (r10 : Value) (w3 : World) =>
  ∃ (n9 : Int), r10 = .int .i64 n9 ∧
  inI (n6 + 1) ∧
  I4 [.int .i64 (n6 + 1)] w3 ∧ mu5 [.int .i64 (n6 + 1)] w3 < mu5 [.int .i64 n6] w2)))
  (Q (.tuple #[]) w2))
theorem C131 {p1 : Option Addr} {Q : Value → World → Prop} {w : World} (h : L131 p1 Q w) : CallR Tryz.prog 131 [.pointer p1] w Q :=
  fun_calls (A := A131) mixed Tryz.func131 (c := (Tryz.f131.body).getD .skip) rfl (by kernel_rfl) (Eq.mp (by kernel_rfl) h)

/-- (*millrace/fdtable.Table).List -/
def A47 : Ann := ⟨[(5, [(3, .one (.slice)), (12, .one (.int .i64))])], [], [], [], [], []⟩
def L47 (p1 : Option Addr) (Q : Value → World → Prop) (w : World) : Prop :=
  CallR Tryz.prog 132 [.pointer p1] w (fun (r3 : Value) (w1 : World) =>
  ∃ (b2 : Bool), r3 = .bool b2 ∧
  cond b2
  (Q (.slice none 0 0) w1)
  (nn p1 (fun (q4 : Addr) =>
  ∃ (vs5 : List Value), vs5.length = 128 ∧ (∀ i v, vs5[i]? = some v → w1.cell? (Addr.add (Addr.add q4 1) i) = some v) ∧
  ∃ (I6 : List Value → World → Prop) (mu7 : List Value → World → Nat),
  I6 [.slice none 0 0, .int .i64 0] w1 ∧
  ∀ (_ : Env) (a8 : Option Addr) (l8 : Nat) (c8 : Nat) (n9 : Int) (w2 : World), I6 [.slice a8 l8 c8, .int .i64 n9] w2 →
  cond (decide (n9 < 64))
  ((0 ≤ (n9 : Int) ∧ (n9 : Int) < ((64 : Nat) : Int)) ∧
  ∃ (n10 : Int) (b11 : Bool), List.take 2 (List.drop (Int.toNat n9 * 2) (Array.toList (vs5).toArray)) = [.int .i64 n10, .bool b11] ∧
  let w3 := World.alloc w2 (Obj.cells #[.int .i64 0, .bool false] 92);
  stC (Addr.mk w2.heap.size 0 none) (.int .i64 n10) w3 (fun (w4 : World) =>
  stC (Addr.mk w2.heap.size 1 none) (.bool b11) w4 (fun (w5 : World) =>
  ∃ (n12 : Int), w5.cell? (Addr.mk w2.heap.size 0 none) = some ((.int .i64 n12 : Value)) ∧
  cond (n12 != 0)
  (let w6 := World.alloc w5 (Obj.cells #[.int .i64 n9] 3);
  ∃ (a13 : Option Addr) (l13 : Nat) (c13 : Nat) (w7 : World), Sem.run Tryz.prog (Builtin.append_ #[98, 98] 98 #[.slice a8 l8 c8, .slice (some (Addr.mk w5.heap.size 0 none)) 1 1]) w6 = .ok ((.slice a13 l13 c13 : Value)) w7 ∧
  inI (n9 + 1) ∧
  I6 [.slice a13 l13 c13, .int .i64 (n9 + 1)] w7 ∧ mu7 [.slice a13 l13 c13, .int .i64 (n9 + 1)] w7 < mu7 [.slice a8 l8 c8, .int .i64 n9] w2)
  (inI (n9 + 1) ∧
  I6 [.slice a8 l8 c8, .int .i64 (n9 + 1)] w5 ∧ mu7 [.slice a8 l8 c8, .int .i64 (n9 + 1)] w5 < mu7 [.slice a8 l8 c8, .int .i64 n9] w2))))
  (Q (.slice a8 l8 c8) w2))))
theorem C47 {p1 : Option Addr} {Q : Value → World → Prop} {w : World} (h : L47 p1 Q w) : CallR Tryz.prog 47 [.pointer p1] w Q :=
  fun_calls (A := A47) mixed Tryz.func47 (c := (Tryz.f47.body).getD .skip) rfl (by kernel_rfl) (Eq.mp (by kernel_rfl) h)

end Go.Proofs.YtkjmlbplmffekaaGreat
