/-
  What some functions of the program ask of the world, printed by a program out of the loaded program; each text is held against the code by evaluation. Conditions: none.
-/
import Derived.Test.YtpoaacnnhgebfaaGreatProg
import Derived.Test.YtpoaacnnhgebfaaGreatLm
import Derived.Test.YtpoaacnnhgebfaaGreatLX
import Derived.Test.YtpoaacnnhgebfaaGreatRf
set_option linter.unusedVariables false
set_option maxRecDepth 100000
namespace Go.Proofs.YtpoaacnnhgebfaaGreat
open Go.Lw
/-- millrace/millraceref06.Named -/
def A56 : Ann := ⟨[(4, [(3, .one (.int .i64))])], [], [], [], [], []⟩
def L56 (s1 : ByteArray) (Q : Value → World → Prop) (w : World) : Prop :=
  cond (ByteArray.toList s1 == ByteArray.toList (ByteArray.mk #[]))
  (Q (.bool false) w)
  (cond (decide ((((ByteArray.size s1 : Nat) : Int)) > 64))
  (Q (.bool false) w)
  (∃ (I2 : List Value → World → Prop) (mu3 : List Value → World → Nat),
  I2 [.int .i64 0] w ∧
  ∀ (_ : Env) (n4 : Int) (w1 : World), I2 [.int .i64 n4] w1 →
  cond (decide (n4 < (((ByteArray.size s1 : Nat) : Int))))
  ((0 ≤ (n4 : Int) ∧ (n4 : Int) < ((ByteArray.size s1 : Nat) : Int)) ∧
  cond (decide ((byteAt s1 n4) < 33))
  (Q (.bool false) w1)
  ((0 ≤ (n4 : Int) ∧ (n4 : Int) < ((ByteArray.size s1 : Nat) : Int)) ∧
  cond (decide ((byteAt s1 n4) > 126))
  (Q (.bool false) w1)
  (inI (n4 + 1) ∧
  I2 [.int .i64 (n4 + 1)] w1 ∧ mu3 [.int .i64 (n4 + 1)] w1 < mu3 [.int .i64 n4] w1)))
  (Q (.bool true) w1)))
theorem C56 {s1 : ByteArray} {Q : Value → World → Prop} {w : World} (h : L56 s1 Q w) : CallR Tryz.prog 56 [.string s1] w Q :=
  fun_calls (A := A56) mixed Tryz.func56 (c := (Tryz.f56.body).getD .skip) rfl (by kernel_rfl) (Eq.mp (by kernel_rfl) h)

/-- millrace/millraceref06.has -/
def A57 : Ann := ⟨[(2, [(5, .one (.int .i64))])], [], [], [], [], []⟩
def L57 (a1 : Option Addr) (l1 : Nat) (c1 : Nat) (s2 : ByteArray) (Q : Value → World → Prop) (w : World) : Prop :=
  ∃ (I3 : List Value → World → Prop) (mu4 : List Value → World → Nat),
  I3 [.int .i64 0] w ∧
  ∀ (_ : Env) (n5 : Int) (w1 : World), I3 [.int .i64 n5] w1 →
  cond (decide (n5 < (((l1 : Nat) : Int))))
  ((0 ≤ (n5 : Int) ∧ (n5 : Int) < ((l1 : Nat) : Int)) ∧
  nn a1 (fun (q6 : Addr) =>
  ∃ (s7 : ByteArray), w1.cell? (Addr.add q6 (Int.toNat n5)) = some ((.string s7 : Value)) ∧
  cond (ByteArray.toList s7 == ByteArray.toList s2)
  (Q (.bool true) w1)
  (inI (n5 + 1) ∧
  I3 [.int .i64 (n5 + 1)] w1 ∧ mu4 [.int .i64 (n5 + 1)] w1 < mu4 [.int .i64 n5] w1)))
  (Q (.bool false) w1)
theorem C57 {a1 : Option Addr} {l1 : Nat} {c1 : Nat} {s2 : ByteArray} {Q : Value → World → Prop} {w : World} (h : L57 a1 l1 c1 s2 Q w) : CallR Tryz.prog 57 [.slice a1 l1 c1, .string s2] w Q :=
  fun_calls (A := A57) mixed Tryz.func57 (c := (Tryz.f57.body).getD .skip) rfl (by kernel_rfl) (Eq.mp (by kernel_rfl) h)

/-- millrace/millraceref06.Check -/
def A9 : Ann := ⟨[(5, [(7, .one (.slice)), (8, .one (.int .i64))]), (15, [(7, .one (.slice)), (9, .one (.int .i64))])], [], [], [], [], []⟩
def L9 (a1 : Option Addr) (l1 : Nat) (c1 : Nat) (a2 : Option Addr) (l2 : Nat) (c2 : Nat) (a3 : Option Addr) (l3 : Nat) (c3 : Nat) (Q : Value → World → Prop) (w : World) : Prop :=
  inI ((((l1 : Nat) : Int)) + (((l2 : Nat) : Int))) ∧
  cond (decide (((((l1 : Nat) : Int)) + (((l2 : Nat) : Int))) > 256))
  (Q (.int .i64 3) w)
  (∃ (I4 : List Value → World → Prop) (mu5 : List Value → World → Nat),
  I4 [.slice none 0 0, .int .i64 0] w ∧
  ∀ (_ : Env) (a6 : Option Addr) (l6 : Nat) (c6 : Nat) (n7 : Int) (w1 : World), I4 [.slice a6 l6 c6, .int .i64 n7] w1 →
  cond (decide (n7 < (((l1 : Nat) : Int))))
  ((0 ≤ (n7 : Int) ∧ (n7 : Int) < ((l1 : Nat) : Int)) ∧
  nn a1 (fun (q8 : Addr) =>
  ∃ (s9 : ByteArray), w1.cell? (Addr.add q8 (Int.toNat n7 * 2)) = some ((.string s9 : Value)) ∧
  CallR Tryz.prog 56 [.string s9] w1 (fun (r11 : Value) (w2 : World) =>
  ∃ (b10 : Bool), r11 = .bool b10 ∧
  cond (!b10)
  (Q (.int .i64 61) w2)
  ((0 ≤ (n7 : Int) ∧ (n7 : Int) < ((l1 : Nat) : Int)) ∧
  nn a1 (fun (q12 : Addr) =>
  ∃ (s13 : ByteArray), w2.cell? (Addr.add q12 (Int.toNat n7 * 2)) = some ((.string s13 : Value)) ∧
  CallR Tryz.prog 57 [.slice a6 l6 c6, .string s13] w2 (fun (r15 : Value) (w3 : World) =>
  ∃ (b14 : Bool), r15 = .bool b14 ∧
  cond b14
  (Q (.int .i64 6) w3)
  ((0 ≤ (n7 : Int) ∧ (n7 : Int) < ((l1 : Nat) : Int)) ∧
  nn a1 (fun (q16 : Addr) =>
  ∃ (a17 : Option Addr) (l17 : Nat) (c17 : Nat), w3.cell? (Addr.add (Addr.add q16 (Int.toNat n7 * 2)) 1) = some ((.slice a17 l17 c17 : Value)) ∧
  cond (decide ((((l17 : Nat) : Int)) > 1048576))
  (Q (.int .i64 5) w3)
  ((0 ≤ (n7 : Int) ∧ (n7 : Int) < ((l1 : Nat) : Int)) ∧
  nn a1 (fun (q18 : Addr) =>
  ∃ (s19 : ByteArray), w3.cell? (Addr.add q18 (Int.toNat n7 * 2)) = some ((.string s19 : Value)) ∧
  let w4 := World.alloc w3 (Obj.cells #[.string s19] 9);
  ∃ (a20 : Option Addr) (l20 : Nat) (c20 : Nat) (w5 : World), Sem.run Tryz.prog (Builtin.append_ #[131, 131] 131 #[.slice a6 l6 c6, .slice (some (Addr.mk w3.heap.size 0 none)) 1 1]) w4 = .ok ((.slice a20 l20 c20 : Value)) w5 ∧
  inI (n7 + 1) ∧
  I4 [.slice a20 l20 c20, .int .i64 (n7 + 1)] w5 ∧ mu5 [.slice a20 l20 c20, .int .i64 (n7 + 1)] w5 < mu5 [.slice a6 l6 c6, .int .i64 n7] w1))))))))))
  (∃ (I21 : List Value → World → Prop) (mu22 : List Value → World → Nat),
  I21 [.slice a6 l6 c6, .int .i64 0] w1 ∧
  ∀ (_ : Env) (a23 : Option Addr) (l23 : Nat) (c23 : Nat) (n24 : Int) (w6 : World), I21 [.slice a23 l23 c23, .int .i64 n24] w6 →
  cond (decide (n24 < (((l2 : Nat) : Int))))
  ((0 ≤ (n24 : Int) ∧ (n24 : Int) < ((l2 : Nat) : Int)) ∧
  nn a2 (fun (q25 : Addr) =>
  ∃ (s26 : ByteArray), w6.cell? (Addr.add q25 (Int.toNat n24 * 2)) = some ((.string s26 : Value)) ∧
  CallR Tryz.prog 56 [.string s26] w6 (fun (r28 : Value) (w7 : World) =>
  ∃ (b27 : Bool), r28 = .bool b27 ∧
  cond (!b27)
  (Q (.int .i64 61) w7)
  ((0 ≤ (n24 : Int) ∧ (n24 : Int) < ((l2 : Nat) : Int)) ∧
  nn a2 (fun (q29 : Addr) =>
  ∃ (s30 : ByteArray), w7.cell? (Addr.add q29 (Int.toNat n24 * 2)) = some ((.string s30 : Value)) ∧
  CallR Tryz.prog 57 [.slice a23 l23 c23, .string s30] w7 (fun (r32 : Value) (w8 : World) =>
  ∃ (b31 : Bool), r32 = .bool b31 ∧
  cond b31
  (Q (.int .i64 6) w8)
  ((0 ≤ (n24 : Int) ∧ (n24 : Int) < ((l2 : Nat) : Int)) ∧
  nn a2 (fun (q33 : Addr) =>
  ∃ (a34 : Option Addr) (l34 : Nat) (c34 : Nat), w8.cell? (Addr.add (Addr.add q33 (Int.toNat n24 * 2)) 1) = some ((.slice a34 l34 c34 : Value)) ∧
  CallR Tryz.prog 58 [.slice a34 l34 c34] w8 (fun (r36 : Value) (w9 : World) =>
  ∃ (n35 : Int), r36 = .int .i64 n35 ∧
  cond (n35 != 0)
  (Q (.int .i64 n35) w9)
  ((0 ≤ (n24 : Int) ∧ (n24 : Int) < ((l2 : Nat) : Int)) ∧
  nn a2 (fun (q37 : Addr) =>
  ∃ (s38 : ByteArray), w9.cell? (Addr.add q37 (Int.toNat n24 * 2)) = some ((.string s38 : Value)) ∧
  let w10 := World.alloc w9 (Obj.cells #[.string s38] 9);
  ∃ (a39 : Option Addr) (l39 : Nat) (c39 : Nat) (w11 : World), Sem.run Tryz.prog (Builtin.append_ #[131, 131] 131 #[.slice a23 l23 c23, .slice (some (Addr.mk w9.heap.size 0 none)) 1 1]) w10 = .ok ((.slice a39 l39 c39 : Value)) w11 ∧
  inI (n24 + 1) ∧
  I21 [.slice a39 l39 c39, .int .i64 (n24 + 1)] w11 ∧ mu22 [.slice a39 l39 c39, .int .i64 (n24 + 1)] w11 < mu22 [.slice a23 l23 c23, .int .i64 n24] w6)))))))))))
  (CallR Tryz.prog 59 [.slice a3 l3 c3] w6 (fun (r42 : Value) (w12 : World) =>
  ∃ (n40 : Int) (n41 : Int), r42 = .tuple #[.int .i64 n40, .int .i64 n41] ∧
  Q (.int .i64 n40) w12))))
theorem C9 {a1 : Option Addr} {l1 : Nat} {c1 : Nat} {a2 : Option Addr} {l2 : Nat} {c2 : Nat} {a3 : Option Addr} {l3 : Nat} {c3 : Nat} {Q : Value → World → Prop} {w : World} (h : L9 a1 l1 c1 a2 l2 c2 a3 l3 c3 Q w) : CallR Tryz.prog 9 [.slice a1 l1 c1, .slice a2 l2 c2, .slice a3 l3 c3] w Q :=
  fun_calls (A := A9) mixed Tryz.func9 (c := (Tryz.f9.body).getD .skip) rfl (by kernel_rfl) (Eq.mp (by kernel_rfl) h)

/-- millrace/millraceref06.New -/
def A60 : Ann := ⟨[(3, [(8, .one (.int .i64))]), (8, [(11, .one (.int .i64))])], [], [], [], [], []⟩
def L60 (a1 : Option Addr) (l1 : Nat) (c1 : Nat) (a2 : Option Addr) (l2 : Nat) (c2 : Nat) (a3 : Option Addr) (l3 : Nat) (c3 : Nat) (Q : Value → World → Prop) (w : World) : Prop :=
  let w1 := World.alloc w (Obj.cells #[.slice a3 l3 c3] 160);
  let w2 := World.alloc w1 (Obj.cells #[.slice none 0 0, .slice none 0 0, .int .i64 1, .pointer (some (Addr.mk w.heap.size 0 none)), .int .i64 0, .int .i64 0] 154);
  ∃ (I4 : List Value → World → Prop) (mu5 : List Value → World → Nat),
  I4 [.int .i64 0] w2 ∧
  ∀ (_ : Env) (n6 : Int) (w3 : World), I4 [.int .i64 n6] w3 →
  cond (decide (n6 < (((l1 : Nat) : Int))))
  ((0 ≤ (n6 : Int) ∧ (n6 : Int) < ((l1 : Nat) : Int)) ∧
  nn a1 (fun (q7 : Addr) =>
  ∃ (a8 : Option Addr) (l8 : Nat) (c8 : Nat), w3.cell? (Addr.add (Addr.add q7 (Int.toNat n6 * 2)) 1) = some ((.slice a8 l8 c8 : Value)) ∧
  CallR Tryz.prog 127 [.slice a8 l8 c8] w3 (fun (r11 : Value) (w4 : World) =>
  ∃ (p9 : Option Addr) (n10 : Int), r11 = .tuple #[.pointer p9, .int .i64 n10] ∧
  (0 ≤ (n6 : Int) ∧ (n6 : Int) < ((l1 : Nat) : Int)) ∧
  nn a1 (fun (q12 : Addr) =>
  ∃ (s13 : ByteArray), w4.cell? (Addr.add q12 (Int.toNat n6 * 2)) = some ((.string s13 : Value)) ∧
  let w5 := World.alloc w4 (Obj.cells #[.string s13, .int .i64 1, .pointer p9, .pointer none, .pointer none] 202);
  CallR Tryz.prog 128 [.pointer (some (Addr.mk w1.heap.size 0 none)), .pointer (some (Addr.mk w4.heap.size 0 none))] w5 (fun (r14 : Value) (w6 : World) =>
  r14 = .tuple #[] ∧
  inI (n6 + 1) ∧
  I4 [.int .i64 (n6 + 1)] w6 ∧ mu5 [.int .i64 (n6 + 1)] w6 < mu5 [.int .i64 n6] w3)))))
  (∃ (I15 : List Value → World → Prop) (mu16 : List Value → World → Nat),
  I15 [.int .i64 0] w3 ∧
  ∀ (_ : Env) (n17 : Int) (w7 : World), I15 [.int .i64 n17] w7 →
  cond (decide (n17 < (((l2 : Nat) : Int))))
  ((0 ≤ (n17 : Int) ∧ (n17 : Int) < ((l2 : Nat) : Int)) ∧
  nn a2 (fun (q18 : Addr) =>
  ∃ (a19 : Option Addr) (l19 : Nat) (c19 : Nat), w7.cell? (Addr.add (Addr.add q18 (Int.toNat n17 * 2)) 1) = some ((.slice a19 l19 c19 : Value)) ∧
  CallR Tryz.prog 159 [.slice a19 l19 c19] w7 (fun (r22 : Value) (w8 : World) =>
  ∃ (p20 : Option Addr) (n21 : Int), r22 = .tuple #[.pointer p20, .int .i64 n21] ∧
  (0 ≤ (n17 : Int) ∧ (n17 : Int) < ((l2 : Nat) : Int)) ∧
  nn a2 (fun (q23 : Addr) =>
  ∃ (s24 : ByteArray), w8.cell? (Addr.add q23 (Int.toNat n17 * 2)) = some ((.string s24 : Value)) ∧
  let w9 := World.alloc w8 (Obj.cells #[.string s24, .int .i64 2, .pointer none, .pointer p20, .pointer none] 202);
  CallR Tryz.prog 128 [.pointer (some (Addr.mk w1.heap.size 0 none)), .pointer (some (Addr.mk w8.heap.size 0 none))] w9 (fun (r25 : Value) (w10 : World) =>
  r25 = .tuple #[] ∧
  inI (n17 + 1) ∧
  I15 [.int .i64 (n17 + 1)] w10 ∧ mu16 [.int .i64 (n17 + 1)] w10 < mu16 [.int .i64 n17] w7)))))
  (Q (.pointer (some (Addr.mk w1.heap.size 0 none))) w7))
theorem C60 {a1 : Option Addr} {l1 : Nat} {c1 : Nat} {a2 : Option Addr} {l2 : Nat} {c2 : Nat} {a3 : Option Addr} {l3 : Nat} {c3 : Nat} {Q : Value → World → Prop} {w : World} (h : L60 a1 l1 c1 a2 l2 c2 a3 l3 c3 Q w) : CallR Tryz.prog 60 [.slice a1 l1 c1, .slice a2 l2 c2, .slice a3 l3 c3] w Q :=
  fun_calls (A := A60) mixed Tryz.func60 (c := (Tryz.f60.body).getD .skip) rfl (by kernel_rfl) (Eq.mp (by kernel_rfl) h)

/-- (*millrace/millraceref06.Kernel).add -/
def A128 : Ann := ⟨[(2, [(4, .one (.int .i64))])], [], [], [(4, [0, 1, 2, 3, 4, 5, 6, 7, 8, 9, 10, 11, 12, 13, 14, 15, 16, 17, 18, 19, 20, 21, 22, 23, 24, 25, 26, 27, 28, 29])], [], []⟩
def L128 (p1 : Option Addr) (p2 : Option Addr) (Q : Value → World → Prop) (w : World) : Prop :=
  nn p1 (fun (q3 : Addr) =>
  ∃ (a4 : Option Addr) (l4 : Nat) (c4 : Nat), w.cell? q3 = some ((.slice a4 l4 c4 : Value)) ∧
  let w1 := World.alloc w (Obj.cells #[.pointer p2] 195);
  ∃ (a5 : Option Addr) (l5 : Nat) (c5 : Nat) (w2 : World), Sem.run Tryz.prog (Builtin.append_ #[150, 150] 150 #[.slice a4 l4 c4, .slice (some (Addr.mk w.heap.size 0 none)) 1 1]) w1 = .ok ((.slice a5 l5 c5 : Value)) w2 ∧
  nn p1 (fun (q6 : Addr) =>
  stC q6 (.slice a5 l5 c5) w2 (fun (w3 : World) =>
  nn p1 (fun (q7 : Addr) =>
  ∃ (a8 : Option Addr) (l8 : Nat) (c8 : Nat), w3.cell? q7 = some ((.slice a8 l8 c8 : Value)) ∧
  inI ((((l8 : Nat) : Int)) - 1) ∧
  ∃ (I9 : List Value → World → Prop) (mu10 : List Value → World → Nat),
  I9 [.int .i64 ((((l8 : Nat) : Int)) - 1)] w3 ∧
  ∀ (_ : Env) (n11 : Int) (w4 : World), I9 [.int .i64 n11] w4 →
  cond (decide (n11 > 0))
  (nn p1 (fun (q13 : Addr) =>
  ∃ (a14 : Option Addr) (l14 : Nat) (c14 : Nat), w4.cell? q13 = some ((.slice a14 l14 c14 : Value)) ∧
  inI (n11 - 1) ∧
  (0 ≤ (n11 - 1 : Int) ∧ (n11 - 1 : Int) < ((l14 : Nat) : Int)) ∧
  nn a14 (fun (q15 : Addr) =>
  ∃ (p16 : Option Addr), w4.cell? (Addr.add q15 (Int.toNat (n11 - 1))) = some ((.pointer p16 : Value)) ∧
  nn p16 (fun (q17 : Addr) =>
  ∃ (s18 : ByteArray), w4.cell? q17 = some ((.string s18 : Value)) ∧
  nn p2 (fun (q19 : Addr) =>
  ∃ (s20 : ByteArray), w4.cell? q19 = some ((.string s20 : Value)) ∧
  ∀ nd12 : Nat, let w5 := World.drewN w4 nd12;
  cond (!(Op.bytesLess (ByteArray.toList s18) (ByteArray.toList s20) || (ByteArray.toList s18 == ByteArray.toList s20)))
  (let w6 := World.drew w5;
  nn p1 (fun (q21 : Addr) =>
  ∃ (a22 : Option Addr) (l22 : Nat) (c22 : Nat), w6.cell? q21 = some ((.slice a22 l22 c22 : Value)) ∧
  nn p1 (fun (q23 : Addr) =>
  ∃ (a24 : Option Addr) (l24 : Nat) (c24 : Nat), w6.cell? q23 = some ((.slice a24 l24 c24 : Value)) ∧
  inI (n11 - 1) ∧
  nn p1 (fun (q25 : Addr) =>
  ∃ (a26 : Option Addr) (l26 : Nat) (c26 : Nat), w6.cell? q25 = some ((.slice a26 l26 c26 : Value)) ∧
  inI (n11 - 1) ∧
  (0 ≤ (n11 - 1 : Int) ∧ (n11 - 1 : Int) < ((l26 : Nat) : Int)) ∧
  nn a26 (fun (q27 : Addr) =>
  ∃ (p28 : Option Addr), w6.cell? (Addr.add q27 (Int.toNat (n11 - 1))) = some ((.pointer p28 : Value)) ∧
  nn p1 (fun (q29 : Addr) =>
  ∃ (a30 : Option Addr) (l30 : Nat) (c30 : Nat), w6.cell? q29 = some ((.slice a30 l30 c30 : Value)) ∧
  (0 ≤ (n11 : Int) ∧ (n11 : Int) < ((l30 : Nat) : Int)) ∧
  nn a30 (fun (q31 : Addr) =>
  ∃ (p32 : Option Addr), w6.cell? (Addr.add q31 (Int.toNat n11)) = some ((.pointer p32 : Value)) ∧
  (0 ≤ (n11 : Int) ∧ (n11 : Int) < ((l22 : Nat) : Int)) ∧
  nn a22 (fun (q33 : Addr) =>
  stC (Addr.add q33 (Int.toNat n11)) (.pointer p28) w6 (fun (w7 : World) =>
  (0 ≤ (n11 - 1 : Int) ∧ (n11 - 1 : Int) < ((l24 : Nat) : Int)) ∧
  nn a24 (fun (q34 : Addr) =>
  stC (Addr.add q34 (Int.toNat (n11 - 1))) (.pointer p32) w7 (fun (w8 : World) =>
  inI (n11 - 1) ∧
  I9 [.int .i64 (n11 - 1)] w8 ∧ mu10 [.int .i64 (n11 - 1)] w8 < mu10 [.int .i64 n11] w4)))))))))))
  (Q (.tuple #[]) w5))))))
  (∀ nd12 : Nat, let w5 := World.drewN w4 nd12;
  Q (.tuple #[]) w5)))))
theorem C128 {p1 : Option Addr} {p2 : Option Addr} {Q : Value → World → Prop} {w : World} (h : L128 p1 p2 Q w) : CallR Tryz.prog 128 [.pointer p1, .pointer p2] w Q :=
  fun_calls (A := A128) mixed Tryz.func128 (c := (Tryz.f128.body).getD .skip) rfl (by kernel_rfl) (Eq.mp (by kernel_rfl) h)

/-- (*millrace/millraceref06.Kernel).Find -/
def A168 : Ann := ⟨[(2, [(5, .one (.int .i64))])], [], [], [], [], []⟩
def L168 (p1 : Option Addr) (n2 : Int) (Q : Value → World → Prop) (w : World) : Prop :=
  ∃ (I3 : List Value → World → Prop) (mu4 : List Value → World → Nat),
  I3 [.int .i64 0] w ∧
  ∀ (_ : Env) (n5 : Int) (w1 : World), I3 [.int .i64 n5] w1 →
  nn p1 (fun (q6 : Addr) =>
  ∃ (a7 : Option Addr) (l7 : Nat) (c7 : Nat), w1.cell? (Addr.add q6 1) = some ((.slice a7 l7 c7 : Value)) ∧
  cond (decide (n5 < (((l7 : Nat) : Int))))
  (nn p1 (fun (q8 : Addr) =>
  ∃ (a9 : Option Addr) (l9 : Nat) (c9 : Nat), w1.cell? (Addr.add q8 1) = some ((.slice a9 l9 c9 : Value)) ∧
  (0 ≤ (n5 : Int) ∧ (n5 : Int) < ((l9 : Nat) : Int)) ∧
  nn a9 (fun (q10 : Addr) =>
  ∃ (p11 : Option Addr), w1.cell? (Addr.add q10 (Int.toNat n5)) = some ((.pointer p11 : Value)) ∧
  nn p11 (fun (q12 : Addr) =>
  ∃ (n13 : Int), w1.cell? q12 = some ((.int .i64 n13 : Value)) ∧
  cond (n13 == n2)
  (nn p1 (fun (q14 : Addr) =>
  ∃ (a15 : Option Addr) (l15 : Nat) (c15 : Nat), w1.cell? (Addr.add q14 1) = some ((.slice a15 l15 c15 : Value)) ∧
  (0 ≤ (n5 : Int) ∧ (n5 : Int) < ((l15 : Nat) : Int)) ∧
  nn a15 (fun (q16 : Addr) =>
  ∃ (p17 : Option Addr), w1.cell? (Addr.add q16 (Int.toNat n5)) = some ((.pointer p17 : Value)) ∧
  Q (.pointer p17) w1)))
  (inI (n5 + 1) ∧
  I3 [.int .i64 (n5 + 1)] w1 ∧ mu4 [.int .i64 (n5 + 1)] w1 < mu4 [.int .i64 n5] w1)))))
  (Q (.pointer none) w1))
theorem C168 {p1 : Option Addr} {n2 : Int} {Q : Value → World → Prop} {w : World} (h : L168 p1 n2 Q w) : CallR Tryz.prog 168 [.pointer p1, .int .i64 n2] w Q :=
  fun_calls (A := A168) mixed Tryz.func168 (c := (Tryz.f168.body).getD .skip) rfl (by kernel_rfl) (Eq.mp (by kernel_rfl) h)

/-- (*millrace/millraceref06.Kernel).thing -/
def A126 : Ann := ⟨[(2, [(5, .one (.int .i64))])], [], [], [], [], []⟩
def L126 (p1 : Option Addr) (s2 : ByteArray) (Q : Value → World → Prop) (w : World) : Prop :=
  ∃ (I3 : List Value → World → Prop) (mu4 : List Value → World → Nat),
  I3 [.int .i64 0] w ∧
  ∀ (_ : Env) (n5 : Int) (w1 : World), I3 [.int .i64 n5] w1 →
  nn p1 (fun (q6 : Addr) =>
  ∃ (a7 : Option Addr) (l7 : Nat) (c7 : Nat), w1.cell? q6 = some ((.slice a7 l7 c7 : Value)) ∧
  cond (decide (n5 < (((l7 : Nat) : Int))))
  (nn p1 (fun (q8 : Addr) =>
  ∃ (a9 : Option Addr) (l9 : Nat) (c9 : Nat), w1.cell? q8 = some ((.slice a9 l9 c9 : Value)) ∧
  (0 ≤ (n5 : Int) ∧ (n5 : Int) < ((l9 : Nat) : Int)) ∧
  nn a9 (fun (q10 : Addr) =>
  ∃ (p11 : Option Addr), w1.cell? (Addr.add q10 (Int.toNat n5)) = some ((.pointer p11 : Value)) ∧
  nn p11 (fun (q12 : Addr) =>
  ∃ (s13 : ByteArray), w1.cell? q12 = some ((.string s13 : Value)) ∧
  cond (ByteArray.toList s13 == ByteArray.toList s2)
  (nn p1 (fun (q14 : Addr) =>
  ∃ (a15 : Option Addr) (l15 : Nat) (c15 : Nat), w1.cell? q14 = some ((.slice a15 l15 c15 : Value)) ∧
  (0 ≤ (n5 : Int) ∧ (n5 : Int) < ((l15 : Nat) : Int)) ∧
  nn a15 (fun (q16 : Addr) =>
  ∃ (p17 : Option Addr), w1.cell? (Addr.add q16 (Int.toNat n5)) = some ((.pointer p17 : Value)) ∧
  Q (.pointer p17) w1)))
  (inI (n5 + 1) ∧
  I3 [.int .i64 (n5 + 1)] w1 ∧ mu4 [.int .i64 (n5 + 1)] w1 < mu4 [.int .i64 n5] w1)))))
  (Q (.pointer none) w1))
theorem C126 {p1 : Option Addr} {s2 : ByteArray} {Q : Value → World → Prop} {w : World} (h : L126 p1 s2 Q w) : CallR Tryz.prog 126 [.pointer p1, .string s2] w Q :=
  fun_calls (A := A126) mixed Tryz.func126 (c := (Tryz.f126.body).getD .skip) rfl (by kernel_rfl) (Eq.mp (by kernel_rfl) h)

/-- (*millrace/millraceref06.Kernel).desc -/
def A122 : Ann := ⟨[], [], [], [], [(1, [0, 1, 2, 3, 4, 5, 6, 7, 8, 9, 10, 11, 12, 13], 14, [15, 16, 17])], []⟩
def L122 (p1 : Option Addr) (p2 : Option Addr) (n3 : Int) (Q : Value → World → Prop) (w : World) : Prop :=
  ∃ (S4 : World → Prop), S4 (World.drew w) ∧
  let w1 := World.drew w;
  nn p1 (fun (q5 : Addr) =>
  ∃ (a6 : Option Addr) (l6 : Nat) (c6 : Nat), (∀ wS : World, S4 wS → wS.cell? (Addr.add q5 1) = some ((.slice a6 l6 c6 : Value))) ∧
  nn p1 (fun (q7 : Addr) =>
  ∃ (n8 : Int), (∀ wS : World, S4 wS → wS.cell? (Addr.add q7 2) = some ((.int .i64 n8 : Value))) ∧
  let w2 := World.alloc w1 (Obj.cells #[.int .i64 n8, .pointer p2, .int .i64 n3, .int .i64 0, .int .i64 1] 268);
  S4 w2 ∧
  let w3 := World.alloc w2 (Obj.cells #[.pointer (some (Addr.mk w1.heap.size 0 none))] 265);
  S4 w3 ∧
  ∃ (a9 : Option Addr) (l9 : Nat) (c9 : Nat) (w4 : World), Sem.run Tryz.prog (Builtin.append_ #[151, 151] 151 #[.slice a6 l6 c6, .slice (some (Addr.mk w2.heap.size 0 none)) 1 1]) w3 = .ok ((.slice a9 l9 c9 : Value)) w4 ∧
  nn p1 (fun (q10 : Addr) =>
  stC (Addr.add q10 1) (.slice a9 l9 c9) w4 (fun (w5 : World) =>
  nn p1 (fun (q11 : Addr) =>
  ∃ (n12 : Int), w5.cell? (Addr.add q11 2) = some ((.int .i64 n12 : Value)) ∧
  inI (n12 + 1) ∧
  nn p1 (fun (q13 : Addr) =>
  stC (Addr.add q13 2) (.int .i64 (n12 + 1)) w5 (fun (w6 : World) =>
  nn p1 (fun (q14 : Addr) =>
  ∃ (n15 : Int), w6.cell? (Addr.add q14 2) = some ((.int .i64 n15 : Value)) ∧
  inI (n15 - 1) ∧
  Q (.int .i64 (n15 - 1)) w6))))))))
theorem C122 {p1 : Option Addr} {p2 : Option Addr} {n3 : Int} {Q : Value → World → Prop} {w : World} (h : L122 p1 p2 n3 Q w) : CallR Tryz.prog 122 [.pointer p1, .pointer p2, .int .i64 n3] w Q :=
  fun_calls (A := A122) mixed Tryz.func122 (c := (Tryz.f122.body).getD .skip) rfl (by kernel_rfl) (Eq.mp (by kernel_rfl) h)

/-- millrace/millraceref06.flagged -/
def A125 : Ann := ⟨[], [], [], [], [], []⟩
def L125 (n1 : Int) (Q : Value → World → Prop) (w : World) : Prop :=
  cond (decide (n1 < 0))
  (Q (.bool false) w)
  (cond (decide (n1 > 63))
  (Q (.bool false) w)
  (cond ((IntKind.wrap .i64 ↑(BitVec.ofInt (IntKind.bits .i64) n1 &&& BitVec.ofInt (IntKind.bits .i64) 3).toNat) == 0)
  (Q (.bool false) w)
  (cond ((IntKind.wrap .i64 ↑(BitVec.ofInt (IntKind.bits .i64) n1 &&& BitVec.ofInt (IntKind.bits .i64) 20).toNat) != 0)
  (cond ((IntKind.wrap .i64 ↑(BitVec.ofInt (IntKind.bits .i64) n1 &&& BitVec.ofInt (IntKind.bits .i64) 2).toNat) == 0)
  (Q (.bool false) w)
  (cond ((IntKind.wrap .i64 ↑(BitVec.ofInt (IntKind.bits .i64) n1 &&& BitVec.ofInt (IntKind.bits .i64) 32).toNat) == 0)
  (Q (.bool true) w)
  (Q (.bool ((IntKind.wrap .i64 ↑(BitVec.ofInt (IntKind.bits .i64) n1 &&& BitVec.ofInt (IntKind.bits .i64) 8).toNat) != 0)) w)))
  (cond ((IntKind.wrap .i64 ↑(BitVec.ofInt (IntKind.bits .i64) n1 &&& BitVec.ofInt (IntKind.bits .i64) 32).toNat) == 0)
  (Q (.bool true) w)
  (Q (.bool ((IntKind.wrap .i64 ↑(BitVec.ofInt (IntKind.bits .i64) n1 &&& BitVec.ofInt (IntKind.bits .i64) 8).toNat) != 0)) w)))))
theorem C125 {n1 : Int} {Q : Value → World → Prop} {w : World} (h : L125 n1 Q w) : CallR Tryz.prog 125 [.int .i64 n1] w Q :=
  fun_calls (A := A125) mixed Tryz.func125 (c := (Tryz.f125.body).getD .skip) rfl (by kernel_rfl) (Eq.mp (by kernel_rfl) h)

/-- (*millrace/millraceref06.Kernel).Open -/
def A31 : Ann := ⟨[], [(20, [(8, .one (.ptr))])], [], [], [], []⟩
def L31 (p1 : Option Addr) (s2 : ByteArray) (n3 : Int) (Q : Value → World → Prop) (w : World) : Prop :=
  CallR Tryz.prog 56 [.string s2] w (fun (r5 : Value) (w1 : World) =>
  ∃ (b4 : Bool), r5 = .bool b4 ∧
  cond (!b4)
  (Q (.tuple #[.int .i64 0, .int .i64 61]) w1)
  (CallR Tryz.prog 125 [.int .i64 n3] w1 (fun (r7 : Value) (w2 : World) =>
  ∃ (b6 : Bool), r7 = .bool b6 ∧
  cond (!b6)
  (Q (.tuple #[.int .i64 0, .int .i64 65]) w2)
  (nn p1 (fun (q8 : Addr) =>
  ∃ (a9 : Option Addr) (l9 : Nat) (c9 : Nat), w2.cell? (Addr.add q8 1) = some ((.slice a9 l9 c9 : Value)) ∧
  cond (decide ((((l9 : Nat) : Int)) ≥ 256))
  (Q (.tuple #[.int .i64 0, .int .i64 3]) w2)
  (CallR Tryz.prog 126 [.pointer p1, .string s2] w2 (fun (r11 : Value) (w3 : World) =>
  ∃ (p10 : Option Addr), r11 = .pointer p10 ∧
  ∃ (J12 : List Value → World → Prop),
  (cond (!(Option.isNone p10))
  (cond ((IntKind.wrap .i64 ↑(BitVec.ofInt (IntKind.bits .i64) n3 &&& BitVec.ofInt (IntKind.bits .i64) 32).toNat) != 0)
  (Q (.tuple #[.int .i64 0, .int .i64 63]) w3)
  (cond (Option.isNone p10)
  (cond ((IntKind.wrap .i64 ↑(BitVec.ofInt (IntKind.bits .i64) n3 &&& BitVec.ofInt (IntKind.bits .i64) 8).toNat) == 0)
  (Q (.tuple #[.int .i64 0, .int .i64 62]) w3)
  (cond (Option.isNone p10)
  (nn p1 (fun (q13 : Addr) =>
  ∃ (a14 : Option Addr) (l14 : Nat) (c14 : Nat), w3.cell? q13 = some ((.slice a14 l14 c14 : Value)) ∧
  cond (decide ((((l14 : Nat) : Int)) ≥ 256))
  (Q (.tuple #[.int .i64 0, .int .i64 3]) w3)
  (cond (Option.isNone p10)
  (CallR Tryz.prog 127 [.slice none 0 0] w3 (fun (r17 : Value) (w4 : World) =>
  ∃ (p15 : Option Addr) (n16 : Int), r17 = .tuple #[.pointer p15, .int .i64 n16] ∧
  let w5 := World.alloc w4 (Obj.cells #[.string s2, .int .i64 1, .pointer p15, .pointer none, .pointer none] 202);
  CallR Tryz.prog 128 [.pointer p1, .pointer (some (Addr.mk w4.heap.size 0 none))] w5 (fun (r18 : Value) (w6 : World) =>
  r18 = .tuple #[] ∧
  J12 [.pointer (some (Addr.mk w4.heap.size 0 none))] w6)))
  (nn p10 (fun (q19 : Addr) =>
  ∃ (n20 : Int), w3.cell? (Addr.add q19 1) = some ((.int .i64 n20 : Value)) ∧
  cond (n20 == 1)
  (cond ((IntKind.wrap .i64 ↑(BitVec.ofInt (IntKind.bits .i64) n3 &&& BitVec.ofInt (IntKind.bits .i64) 16).toNat) != 0)
  (nn p10 (fun (q21 : Addr) =>
  ∃ (p22 : Option Addr), w3.cell? (Addr.add q21 2) = some ((.pointer p22 : Value)) ∧
  nn p22 (fun (q23 : Addr) =>
  stC q23 (.slice none 0 0) w3 (fun (w7 : World) =>
  J12 [.pointer p10] w7))))
  (J12 [.pointer p10] w3))
  (J12 [.pointer p10] w3))))))
  (cond (Option.isNone p10)
  (CallR Tryz.prog 127 [.slice none 0 0] w3 (fun (r26 : Value) (w8 : World) =>
  ∃ (p24 : Option Addr) (n25 : Int), r26 = .tuple #[.pointer p24, .int .i64 n25] ∧
  let w9 := World.alloc w8 (Obj.cells #[.string s2, .int .i64 1, .pointer p24, .pointer none, .pointer none] 202);
  CallR Tryz.prog 128 [.pointer p1, .pointer (some (Addr.mk w8.heap.size 0 none))] w9 (fun (r27 : Value) (w10 : World) =>
  r27 = .tuple #[] ∧
  J12 [.pointer (some (Addr.mk w8.heap.size 0 none))] w10)))
  (nn p10 (fun (q28 : Addr) =>
  ∃ (n29 : Int), w3.cell? (Addr.add q28 1) = some ((.int .i64 n29 : Value)) ∧
  cond (n29 == 1)
  (cond ((IntKind.wrap .i64 ↑(BitVec.ofInt (IntKind.bits .i64) n3 &&& BitVec.ofInt (IntKind.bits .i64) 16).toNat) != 0)
  (nn p10 (fun (q30 : Addr) =>
  ∃ (p31 : Option Addr), w3.cell? (Addr.add q30 2) = some ((.pointer p31 : Value)) ∧
  nn p31 (fun (q32 : Addr) =>
  stC q32 (.slice none 0 0) w3 (fun (w11 : World) =>
  J12 [.pointer p10] w11))))
  (J12 [.pointer p10] w3))
  (J12 [.pointer p10] w3))))))
  (cond (Option.isNone p10)
  (nn p1 (fun (q33 : Addr) =>
  ∃ (a34 : Option Addr) (l34 : Nat) (c34 : Nat), w3.cell? q33 = some ((.slice a34 l34 c34 : Value)) ∧
  cond (decide ((((l34 : Nat) : Int)) ≥ 256))
  (Q (.tuple #[.int .i64 0, .int .i64 3]) w3)
  (cond (Option.isNone p10)
  (CallR Tryz.prog 127 [.slice none 0 0] w3 (fun (r37 : Value) (w12 : World) =>
  ∃ (p35 : Option Addr) (n36 : Int), r37 = .tuple #[.pointer p35, .int .i64 n36] ∧
  let w13 := World.alloc w12 (Obj.cells #[.string s2, .int .i64 1, .pointer p35, .pointer none, .pointer none] 202);
  CallR Tryz.prog 128 [.pointer p1, .pointer (some (Addr.mk w12.heap.size 0 none))] w13 (fun (r38 : Value) (w14 : World) =>
  r38 = .tuple #[] ∧
  J12 [.pointer (some (Addr.mk w12.heap.size 0 none))] w14)))
  (nn p10 (fun (q39 : Addr) =>
  ∃ (n40 : Int), w3.cell? (Addr.add q39 1) = some ((.int .i64 n40 : Value)) ∧
  cond (n40 == 1)
  (cond ((IntKind.wrap .i64 ↑(BitVec.ofInt (IntKind.bits .i64) n3 &&& BitVec.ofInt (IntKind.bits .i64) 16).toNat) != 0)
  (nn p10 (fun (q41 : Addr) =>
  ∃ (p42 : Option Addr), w3.cell? (Addr.add q41 2) = some ((.pointer p42 : Value)) ∧
  nn p42 (fun (q43 : Addr) =>
  stC q43 (.slice none 0 0) w3 (fun (w15 : World) =>
  J12 [.pointer p10] w15))))
  (J12 [.pointer p10] w3))
  (J12 [.pointer p10] w3))))))
  (cond (Option.isNone p10)
  (CallR Tryz.prog 127 [.slice none 0 0] w3 (fun (r46 : Value) (w16 : World) =>
  ∃ (p44 : Option Addr) (n45 : Int), r46 = .tuple #[.pointer p44, .int .i64 n45] ∧
  let w17 := World.alloc w16 (Obj.cells #[.string s2, .int .i64 1, .pointer p44, .pointer none, .pointer none] 202);
  CallR Tryz.prog 128 [.pointer p1, .pointer (some (Addr.mk w16.heap.size 0 none))] w17 (fun (r47 : Value) (w18 : World) =>
  r47 = .tuple #[] ∧
  J12 [.pointer (some (Addr.mk w16.heap.size 0 none))] w18)))
  (nn p10 (fun (q48 : Addr) =>
  ∃ (n49 : Int), w3.cell? (Addr.add q48 1) = some ((.int .i64 n49 : Value)) ∧
  cond (n49 == 1)
  (cond ((IntKind.wrap .i64 ↑(BitVec.ofInt (IntKind.bits .i64) n3 &&& BitVec.ofInt (IntKind.bits .i64) 16).toNat) != 0)
  (nn p10 (fun (q50 : Addr) =>
  ∃ (p51 : Option Addr), w3.cell? (Addr.add q50 2) = some ((.pointer p51 : Value)) ∧
  nn p51 (fun (q52 : Addr) =>
  stC q52 (.slice none 0 0) w3 (fun (w19 : World) =>
  J12 [.pointer p10] w19))))
  (J12 [.pointer p10] w3))
  (J12 [.pointer p10] w3)))))))
  (cond (Option.isNone p10)
  (cond ((IntKind.wrap .i64 ↑(BitVec.ofInt (IntKind.bits .i64) n3 &&& BitVec.ofInt (IntKind.bits .i64) 8).toNat) == 0)
  (Q (.tuple #[.int .i64 0, .int .i64 62]) w3)
  (cond (Option.isNone p10)
  (nn p1 (fun (q53 : Addr) =>
  ∃ (a54 : Option Addr) (l54 : Nat) (c54 : Nat), w3.cell? q53 = some ((.slice a54 l54 c54 : Value)) ∧
  cond (decide ((((l54 : Nat) : Int)) ≥ 256))
  (Q (.tuple #[.int .i64 0, .int .i64 3]) w3)
  (cond (Option.isNone p10)
  (CallR Tryz.prog 127 [.slice none 0 0] w3 (fun (r57 : Value) (w20 : World) =>
  ∃ (p55 : Option Addr) (n56 : Int), r57 = .tuple #[.pointer p55, .int .i64 n56] ∧
  let w21 := World.alloc w20 (Obj.cells #[.string s2, .int .i64 1, .pointer p55, .pointer none, .pointer none] 202);
  CallR Tryz.prog 128 [.pointer p1, .pointer (some (Addr.mk w20.heap.size 0 none))] w21 (fun (r58 : Value) (w22 : World) =>
  r58 = .tuple #[] ∧
  J12 [.pointer (some (Addr.mk w20.heap.size 0 none))] w22)))
  (nn p10 (fun (q59 : Addr) =>
  ∃ (n60 : Int), w3.cell? (Addr.add q59 1) = some ((.int .i64 n60 : Value)) ∧
  cond (n60 == 1)
  (cond ((IntKind.wrap .i64 ↑(BitVec.ofInt (IntKind.bits .i64) n3 &&& BitVec.ofInt (IntKind.bits .i64) 16).toNat) != 0)
  (nn p10 (fun (q61 : Addr) =>
  ∃ (p62 : Option Addr), w3.cell? (Addr.add q61 2) = some ((.pointer p62 : Value)) ∧
  nn p62 (fun (q63 : Addr) =>
  stC q63 (.slice none 0 0) w3 (fun (w23 : World) =>
  J12 [.pointer p10] w23))))
  (J12 [.pointer p10] w3))
  (J12 [.pointer p10] w3))))))
  (cond (Option.isNone p10)
  (CallR Tryz.prog 127 [.slice none 0 0] w3 (fun (r66 : Value) (w24 : World) =>
  ∃ (p64 : Option Addr) (n65 : Int), r66 = .tuple #[.pointer p64, .int .i64 n65] ∧
  let w25 := World.alloc w24 (Obj.cells #[.string s2, .int .i64 1, .pointer p64, .pointer none, .pointer none] 202);
  CallR Tryz.prog 128 [.pointer p1, .pointer (some (Addr.mk w24.heap.size 0 none))] w25 (fun (r67 : Value) (w26 : World) =>
  r67 = .tuple #[] ∧
  J12 [.pointer (some (Addr.mk w24.heap.size 0 none))] w26)))
  (nn p10 (fun (q68 : Addr) =>
  ∃ (n69 : Int), w3.cell? (Addr.add q68 1) = some ((.int .i64 n69 : Value)) ∧
  cond (n69 == 1)
  (cond ((IntKind.wrap .i64 ↑(BitVec.ofInt (IntKind.bits .i64) n3 &&& BitVec.ofInt (IntKind.bits .i64) 16).toNat) != 0)
  (nn p10 (fun (q70 : Addr) =>
  ∃ (p71 : Option Addr), w3.cell? (Addr.add q70 2) = some ((.pointer p71 : Value)) ∧
  nn p71 (fun (q72 : Addr) =>
  stC q72 (.slice none 0 0) w3 (fun (w27 : World) =>
  J12 [.pointer p10] w27))))
  (J12 [.pointer p10] w3))
  (J12 [.pointer p10] w3))))))
  (cond (Option.isNone p10)
  (nn p1 (fun (q73 : Addr) =>
  ∃ (a74 : Option Addr) (l74 : Nat) (c74 : Nat), w3.cell? q73 = some ((.slice a74 l74 c74 : Value)) ∧
  cond (decide ((((l74 : Nat) : Int)) ≥ 256))
  (Q (.tuple #[.int .i64 0, .int .i64 3]) w3)
  (cond (Option.isNone p10)
  (CallR Tryz.prog 127 [.slice none 0 0] w3 (fun (r77 : Value) (w28 : World) =>
  ∃ (p75 : Option Addr) (n76 : Int), r77 = .tuple #[.pointer p75, .int .i64 n76] ∧
  let w29 := World.alloc w28 (Obj.cells #[.string s2, .int .i64 1, .pointer p75, .pointer none, .pointer none] 202);
  CallR Tryz.prog 128 [.pointer p1, .pointer (some (Addr.mk w28.heap.size 0 none))] w29 (fun (r78 : Value) (w30 : World) =>
  r78 = .tuple #[] ∧
  J12 [.pointer (some (Addr.mk w28.heap.size 0 none))] w30)))
  (nn p10 (fun (q79 : Addr) =>
  ∃ (n80 : Int), w3.cell? (Addr.add q79 1) = some ((.int .i64 n80 : Value)) ∧
  cond (n80 == 1)
  (cond ((IntKind.wrap .i64 ↑(BitVec.ofInt (IntKind.bits .i64) n3 &&& BitVec.ofInt (IntKind.bits .i64) 16).toNat) != 0)
  (nn p10 (fun (q81 : Addr) =>
  ∃ (p82 : Option Addr), w3.cell? (Addr.add q81 2) = some ((.pointer p82 : Value)) ∧
  nn p82 (fun (q83 : Addr) =>
  stC q83 (.slice none 0 0) w3 (fun (w31 : World) =>
  J12 [.pointer p10] w31))))
  (J12 [.pointer p10] w3))
  (J12 [.pointer p10] w3))))))
  (cond (Option.isNone p10)
  (CallR Tryz.prog 127 [.slice none 0 0] w3 (fun (r86 : Value) (w32 : World) =>
  ∃ (p84 : Option Addr) (n85 : Int), r86 = .tuple #[.pointer p84, .int .i64 n85] ∧
  let w33 := World.alloc w32 (Obj.cells #[.string s2, .int .i64 1, .pointer p84, .pointer none, .pointer none] 202);
  CallR Tryz.prog 128 [.pointer p1, .pointer (some (Addr.mk w32.heap.size 0 none))] w33 (fun (r87 : Value) (w34 : World) =>
  r87 = .tuple #[] ∧
  J12 [.pointer (some (Addr.mk w32.heap.size 0 none))] w34)))
  (nn p10 (fun (q88 : Addr) =>
  ∃ (n89 : Int), w3.cell? (Addr.add q88 1) = some ((.int .i64 n89 : Value)) ∧
  cond (n89 == 1)
  (cond ((IntKind.wrap .i64 ↑(BitVec.ofInt (IntKind.bits .i64) n3 &&& BitVec.ofInt (IntKind.bits .i64) 16).toNat) != 0)
  (nn p10 (fun (q90 : Addr) =>
  ∃ (p91 : Option Addr), w3.cell? (Addr.add q90 2) = some ((.pointer p91 : Value)) ∧
  nn p91 (fun (q92 : Addr) =>
  stC q92 (.slice none 0 0) w3 (fun (w35 : World) =>
  J12 [.pointer p10] w35))))
  (J12 [.pointer p10] w3))
  (J12 [.pointer p10] w3))))))) ∧
  (∀ (_ : Env) (p93 : Option Addr) (w36 : World), J12 [.pointer p93] w36 →
  CallR Tryz.prog 122 [.pointer p1, .pointer p93, .int .i64 n3] w36 (fun (r95 : Value) (w37 : World) =>
  ∃ (n94 : Int), r95 = .int .i64 n94 ∧
  Q (.tuple #[.int .i64 n94, .int .i64 0]) w37)))))))))
theorem C31 {p1 : Option Addr} {s2 : ByteArray} {n3 : Int} {Q : Value → World → Prop} {w : World} (h : L31 p1 s2 n3 Q w) : CallR Tryz.prog 31 [.pointer p1, .string s2, .int .i64 n3] w Q :=
  fun_calls (A := A31) mixed Tryz.func31 (c := (Tryz.f31.body).getD .skip) rfl (by kernel_rfl) (Eq.mp (by kernel_rfl) h)

/-- (*millrace/millraceref06.Kernel).Pipe -/
def A29 : Ann := ⟨[], [], [], [], [], []⟩
def L29 (p1 : Option Addr) (Q : Value → World → Prop) (w : World) : Prop :=
  nn p1 (fun (q2 : Addr) =>
  ∃ (a3 : Option Addr) (l3 : Nat) (c3 : Nat), w.cell? (Addr.add q2 1) = some ((.slice a3 l3 c3 : Value)) ∧
  cond (decide ((((l3 : Nat) : Int)) > 254))
  (Q (.tuple #[.int .i64 0, .int .i64 0, .int .i64 3]) w)
  (let w1 := World.alloc w (Obj.cells #[.slice none 0 0, .int .i64 1, .int .i64 1] 198);
  let w2 := World.alloc w1 (Obj.cells #[.string (ByteArray.mk #[]), .int .i64 3, .pointer none, .pointer none, .pointer (some (Addr.mk w.heap.size 0 none))] 202);
  CallR Tryz.prog 122 [.pointer p1, .pointer (some (Addr.mk w1.heap.size 0 none)), .int .i64 1] w2 (fun (r5 : Value) (w3 : World) =>
  ∃ (n4 : Int), r5 = .int .i64 n4 ∧
  CallR Tryz.prog 122 [.pointer p1, .pointer (some (Addr.mk w1.heap.size 0 none)), .int .i64 2] w3 (fun (r7 : Value) (w4 : World) =>
  ∃ (n6 : Int), r7 = .int .i64 n6 ∧
  Q (.tuple #[.int .i64 n4, .int .i64 n6, .int .i64 0]) w4))))
theorem C29 {p1 : Option Addr} {Q : Value → World → Prop} {w : World} (h : L29 p1 Q w) : CallR Tryz.prog 29 [.pointer p1] w Q :=
  fun_calls (A := A29) mixed Tryz.func29 (c := (Tryz.f29.body).getD .skip) rfl (by kernel_rfl) (Eq.mp (by kernel_rfl) h)

/-- (*millrace/millraceref06.Kernel).Read -/
def A65 : Ann := ⟨[], [(12, [])], [], [(21, [0, 1, 2, 3, 4, 5, 6, 7, 8, 9, 10, 11, 12, 13, 14, 15, 16])], [], []⟩
def L65 (p1 : Option Addr) (n2 : Int) (n3 : Int) (Q : Value → World → Prop) (w : World) : Prop :=
  CallR Tryz.prog 168 [.pointer p1, .int .i64 n2] w (fun (r5 : Value) (w1 : World) =>
  ∃ (p4 : Option Addr), r5 = .pointer p4 ∧
  ∃ (J6 : List Value → World → Prop),
  (cond (Option.isNone p4)
  (Q (.tuple #[.slice none 0 0, .int .i64 64]) w1)
  (nn p4 (fun (q7 : Addr) =>
  ∃ (n8 : Int), w1.cell? (Addr.add q7 2) = some ((.int .i64 n8 : Value)) ∧
  cond ((IntKind.wrap .i64 ↑(BitVec.ofInt (IntKind.bits .i64) n8 &&& BitVec.ofInt (IntKind.bits .i64) 1).toNat) == 0)
  (Q (.tuple #[.slice none 0 0, .int .i64 65]) w1)
  (cond (decide (n3 < 0))
  (Q (.tuple #[.slice none 0 0, .int .i64 4]) w1)
  (cond (decide (n3 > 1048576))
  (Q (.tuple #[.slice none 0 0, .int .i64 4]) w1)
  (cond (n3 == 0)
  (Q (.tuple #[.slice none 0 0, .int .i64 0]) w1)
  (nn p4 (fun (q9 : Addr) =>
  ∃ (p10 : Option Addr), w1.cell? (Addr.add q9 1) = some ((.pointer p10 : Value)) ∧
  nn p10 (fun (q11 : Addr) =>
  ∃ (n12 : Int), w1.cell? (Addr.add q11 1) = some ((.int .i64 n12 : Value)) ∧
  cond (n12 == 3)
  (nn p4 (fun (q13 : Addr) =>
  ∃ (p14 : Option Addr), w1.cell? (Addr.add q13 1) = some ((.pointer p14 : Value)) ∧
  nn p14 (fun (q15 : Addr) =>
  ∃ (p16 : Option Addr), w1.cell? (Addr.add q15 4) = some ((.pointer p16 : Value)) ∧
  CallR Tryz.prog 169 [.pointer p16] w1 (fun (r18 : Value) (w2 : World) =>
  ∃ (b17 : Bool), r18 = .bool b17 ∧
  cond (!b17)
  (Q (.tuple #[.slice none 0 0, .int .i64 52]) w2)
  (J6 [] w2)))))
  (J6 [] w1)))))))))) ∧
  (∀ (_ : Env) (w3 : World), J6 [] w3 →
  nn p1 (fun (q19 : Addr) =>
  ∃ (n20 : Int), w3.cell? (Addr.add q19 4) = some ((.int .i64 n20 : Value)) ∧
  inI (n20 + 1) ∧
  nn p1 (fun (q21 : Addr) =>
  stC (Addr.add q21 4) (.int .i64 (n20 + 1)) w3 (fun (w4 : World) =>
  nn p1 (fun (q22 : Addr) =>
  ∃ (p23 : Option Addr), w4.cell? (Addr.add q22 3) = some ((.pointer p23 : Value)) ∧
  CallR Tryz.prog 170 [.pointer p23, .int .i64 n3] w4 (fun (r26 : Value) (w5 : World) =>
  ∃ (n24 : Int) (n25 : Int), r26 = .tuple #[.int .i64 n24, .int .i64 n25] ∧
  cond (n25 != 0)
  (Q (.tuple #[.slice none 0 0, .int .i64 n25]) w5)
  (nn p4 (fun (q27 : Addr) =>
  ∃ (p28 : Option Addr), w5.cell? (Addr.add q27 1) = some ((.pointer p28 : Value)) ∧
  nn p28 (fun (q29 : Addr) =>
  ∃ (n30 : Int), w5.cell? (Addr.add q29 1) = some ((.int .i64 n30 : Value)) ∧
  cond (n30 == 2)
  (nn p4 (fun (q31 : Addr) =>
  ∃ (p32 : Option Addr), w5.cell? (Addr.add q31 1) = some ((.pointer p32 : Value)) ∧
  nn p32 (fun (q33 : Addr) =>
  ∃ (p34 : Option Addr), w5.cell? (Addr.add q33 3) = some ((.pointer p34 : Value)) ∧
  CallR Tryz.prog 171 [.pointer p34, .int .i64 n24] w5 (fun (r37 : Value) (w6 : World) =>
  ∃ (a35 : Option Addr) (l35 : Nat) (c35 : Nat) (n36 : Int), r37 = .tuple #[.slice a35 l35 c35, .int .i64 n36] ∧
  Q (.tuple #[.slice a35 l35 c35, .int .i64 n36]) w6))))
  (cond (n30 == 3)
  (nn p4 (fun (q38 : Addr) =>
  ∃ (p39 : Option Addr), w5.cell? (Addr.add q38 1) = some ((.pointer p39 : Value)) ∧
  nn p39 (fun (q40 : Addr) =>
  ∃ (p41 : Option Addr), w5.cell? (Addr.add q40 4) = some ((.pointer p41 : Value)) ∧
  CallR Tryz.prog 172 [.pointer p41, .int .i64 n24] w5 (fun (r44 : Value) (w7 : World) =>
  ∃ (a42 : Option Addr) (l42 : Nat) (c42 : Nat) (n43 : Int), r44 = .tuple #[.slice a42 l42 c42, .int .i64 n43] ∧
  Q (.tuple #[.slice a42 l42 c42, .int .i64 n43]) w7))))
  (let w8 := World.drew w5;
  nn p4 (fun (q45 : Addr) =>
  ∃ (p46 : Option Addr), w8.cell? (Addr.add q45 1) = some ((.pointer p46 : Value)) ∧
  nn p46 (fun (q47 : Addr) =>
  ∃ (p48 : Option Addr), w8.cell? (Addr.add q47 2) = some ((.pointer p48 : Value)) ∧
  nn p48 (fun (q49 : Addr) =>
  ∃ (a50 : Option Addr) (l50 : Nat) (c50 : Nat), w8.cell? q49 = some ((.slice a50 l50 c50 : Value)) ∧
  nn p4 (fun (q51 : Addr) =>
  ∃ (n52 : Int), w8.cell? (Addr.add q51 3) = some ((.int .i64 n52 : Value)) ∧
  CallR Tryz.prog 148 [.slice a50 l50 c50, .int .i64 n52, .int .i64 n24] w8 (fun (r54 : Value) (w9 : World) =>
  ∃ (a53 : Option Addr) (l53 : Nat) (c53 : Nat), r54 = .slice a53 l53 c53 ∧
  nn p4 (fun (q55 : Addr) =>
  ∃ (n56 : Int), w9.cell? (Addr.add q55 3) = some ((.int .i64 n56 : Value)) ∧
  inI (n56 + (((l53 : Nat) : Int))) ∧
  nn p4 (fun (q57 : Addr) =>
  stC (Addr.add q57 3) (.int .i64 (n56 + (((l53 : Nat) : Int)))) w9 (fun (w10 : World) =>
  Q (.tuple #[.slice a53 l53 c53, .int .i64 0]) w10))))))))))))))))))))
theorem C65 {p1 : Option Addr} {n2 : Int} {n3 : Int} {Q : Value → World → Prop} {w : World} (h : L65 p1 n2 n3 Q w) : CallR Tryz.prog 65 [.pointer p1, .int .i64 n2, .int .i64 n3] w Q :=
  fun_calls (A := A65) mixed Tryz.func65 (c := (Tryz.f65.body).getD .skip) rfl (by kernel_rfl) (Eq.mp (by kernel_rfl) h)

/-- millrace/millraceref06.room -/
def A174 : Ann := ⟨[], [], [], [], [], []⟩
def L174 (p1 : Option Addr) (Q : Value → World → Prop) (w : World) : Prop :=
  nn p1 (fun (q2 : Addr) =>
  ∃ (p3 : Option Addr), w.cell? (Addr.add q2 1) = some ((.pointer p3 : Value)) ∧
  nn p3 (fun (q4 : Addr) =>
  ∃ (n5 : Int), w.cell? (Addr.add q4 1) = some ((.int .i64 n5 : Value)) ∧
  cond (n5 == 2)
  (nn p1 (fun (q6 : Addr) =>
  ∃ (p7 : Option Addr), w.cell? (Addr.add q6 1) = some ((.pointer p7 : Value)) ∧
  nn p7 (fun (q8 : Addr) =>
  ∃ (p9 : Option Addr), w.cell? (Addr.add q8 3) = some ((.pointer p9 : Value)) ∧
  nn p9 (fun (q10 : Addr) =>
  ∃ (a11 : Option Addr) (l11 : Nat) (c11 : Nat), w.cell? (Addr.add q10 1) = some ((.slice a11 l11 c11 : Value)) ∧
  inI ((1048576 : Int) - (((l11 : Nat) : Int))) ∧
  Q (.int .i64 ((1048576 : Int) - (((l11 : Nat) : Int)))) w))))
  (nn p1 (fun (q12 : Addr) =>
  ∃ (n13 : Int), w.cell? (Addr.add q12 2) = some ((.int .i64 n13 : Value)) ∧
  cond ((IntKind.wrap .i64 ↑(BitVec.ofInt (IntKind.bits .i64) n13 &&& BitVec.ofInt (IntKind.bits .i64) 4).toNat) != 0)
  (nn p1 (fun (q14 : Addr) =>
  ∃ (p15 : Option Addr), w.cell? (Addr.add q14 1) = some ((.pointer p15 : Value)) ∧
  nn p15 (fun (q16 : Addr) =>
  ∃ (p17 : Option Addr), w.cell? (Addr.add q16 2) = some ((.pointer p17 : Value)) ∧
  nn p17 (fun (q18 : Addr) =>
  ∃ (a19 : Option Addr) (l19 : Nat) (c19 : Nat), w.cell? q18 = some ((.slice a19 l19 c19 : Value)) ∧
  inI ((1048576 : Int) - (((l19 : Nat) : Int))) ∧
  Q (.int .i64 ((1048576 : Int) - (((l19 : Nat) : Int)))) w))))
  (nn p1 (fun (q20 : Addr) =>
  ∃ (n21 : Int), w.cell? (Addr.add q20 3) = some ((.int .i64 n21 : Value)) ∧
  inI ((1048576 : Int) - n21) ∧
  Q (.int .i64 ((1048576 : Int) - n21)) w))))))
theorem C174 {p1 : Option Addr} {Q : Value → World → Prop} {w : World} (h : L174 p1 Q w) : CallR Tryz.prog 174 [.pointer p1] w Q :=
  fun_calls (A := A174) mixed Tryz.func174 (c := (Tryz.f174.body).getD .skip) rfl (by kernel_rfl) (Eq.mp (by kernel_rfl) h)

/-- (*millrace/millraceref06.Kernel).Write -/
def A67 : Ann := ⟨[], [(16, []), (28, [])], [], [(24, [0, 1, 2, 3, 4, 5, 6, 7, 8, 9, 10]), (28, [0, 1, 2, 3, 4, 5, 6, 7, 8, 9, 10, 11, 12, 13, 14])], [], []⟩
def L67 (p1 : Option Addr) (n2 : Int) (a3 : Option Addr) (l3 : Nat) (c3 : Nat) (Q : Value → World → Prop) (w : World) : Prop :=
  CallR Tryz.prog 168 [.pointer p1, .int .i64 n2] w (fun (r5 : Value) (w1 : World) =>
  ∃ (p4 : Option Addr), r5 = .pointer p4 ∧
  ∃ (J6 : List Value → World → Prop),
  (cond (Option.isNone p4)
  (Q (.tuple #[.int .i64 0, .int .i64 64]) w1)
  (nn p4 (fun (q7 : Addr) =>
  ∃ (n8 : Int), w1.cell? (Addr.add q7 2) = some ((.int .i64 n8 : Value)) ∧
  cond ((IntKind.wrap .i64 ↑(BitVec.ofInt (IntKind.bits .i64) n8 &&& BitVec.ofInt (IntKind.bits .i64) 2).toNat) == 0)
  (Q (.tuple #[.int .i64 0, .int .i64 65]) w1)
  (cond (decide ((((l3 : Nat) : Int)) > 1048576))
  (Q (.tuple #[.int .i64 0, .int .i64 5]) w1)
  (cond ((((l3 : Nat) : Int)) == 0)
  (Q (.tuple #[.int .i64 0, .int .i64 0]) w1)
  (nn p4 (fun (q9 : Addr) =>
  ∃ (p10 : Option Addr), w1.cell? (Addr.add q9 1) = some ((.pointer p10 : Value)) ∧
  nn p10 (fun (q11 : Addr) =>
  ∃ (n12 : Int), w1.cell? (Addr.add q11 1) = some ((.int .i64 n12 : Value)) ∧
  cond (n12 == 3)
  (nn p4 (fun (q13 : Addr) =>
  ∃ (p14 : Option Addr), w1.cell? (Addr.add q13 1) = some ((.pointer p14 : Value)) ∧
  nn p14 (fun (q15 : Addr) =>
  ∃ (p16 : Option Addr), w1.cell? (Addr.add q15 4) = some ((.pointer p16 : Value)) ∧
  nn p16 (fun (q17 : Addr) =>
  ∃ (n18 : Int), w1.cell? (Addr.add q17 1) = some ((.int .i64 n18 : Value)) ∧
  cond (n18 == 0)
  (Q (.tuple #[.int .i64 0, .int .i64 53]) w1)
  (nn p4 (fun (q19 : Addr) =>
  ∃ (p20 : Option Addr), w1.cell? (Addr.add q19 1) = some ((.pointer p20 : Value)) ∧
  nn p20 (fun (q21 : Addr) =>
  ∃ (n22 : Int), w1.cell? (Addr.add q21 1) = some ((.int .i64 n22 : Value)) ∧
  cond (n22 == 3)
  (nn p4 (fun (q23 : Addr) =>
  ∃ (p24 : Option Addr), w1.cell? (Addr.add q23 1) = some ((.pointer p24 : Value)) ∧
  nn p24 (fun (q25 : Addr) =>
  ∃ (p26 : Option Addr), w1.cell? (Addr.add q25 4) = some ((.pointer p26 : Value)) ∧
  CallR Tryz.prog 173 [.pointer p26, .int .i64 (((l3 : Nat) : Int))] w1 (fun (r28 : Value) (w2 : World) =>
  ∃ (b27 : Bool), r28 = .bool b27 ∧
  cond (!b27)
  (Q (.tuple #[.int .i64 0, .int .i64 52]) w2)
  (nn p4 (fun (q29 : Addr) =>
  ∃ (p30 : Option Addr), w2.cell? (Addr.add q29 1) = some ((.pointer p30 : Value)) ∧
  nn p30 (fun (q31 : Addr) =>
  ∃ (n32 : Int), w2.cell? (Addr.add q31 1) = some ((.int .i64 n32 : Value)) ∧
  cond (n32 != 3)
  (CallR Tryz.prog 174 [.pointer p4] w2 (fun (r34 : Value) (w3 : World) =>
  ∃ (n33 : Int), r34 = .int .i64 n33 ∧
  cond (n33 == 0)
  (Q (.tuple #[.int .i64 0, .int .i64 31]) w3)
  (J6 [] w3)))
  (J6 [] w2))))))))
  (nn p4 (fun (q35 : Addr) =>
  ∃ (p36 : Option Addr), w1.cell? (Addr.add q35 1) = some ((.pointer p36 : Value)) ∧
  nn p36 (fun (q37 : Addr) =>
  ∃ (n38 : Int), w1.cell? (Addr.add q37 1) = some ((.int .i64 n38 : Value)) ∧
  cond (n38 != 3)
  (CallR Tryz.prog 174 [.pointer p4] w1 (fun (r40 : Value) (w4 : World) =>
  ∃ (n39 : Int), r40 = .int .i64 n39 ∧
  cond (n39 == 0)
  (Q (.tuple #[.int .i64 0, .int .i64 31]) w4)
  (J6 [] w4)))
  (J6 [] w1)))))))))))
  (nn p4 (fun (q41 : Addr) =>
  ∃ (p42 : Option Addr), w1.cell? (Addr.add q41 1) = some ((.pointer p42 : Value)) ∧
  nn p42 (fun (q43 : Addr) =>
  ∃ (n44 : Int), w1.cell? (Addr.add q43 1) = some ((.int .i64 n44 : Value)) ∧
  cond (n44 == 3)
  (nn p4 (fun (q45 : Addr) =>
  ∃ (p46 : Option Addr), w1.cell? (Addr.add q45 1) = some ((.pointer p46 : Value)) ∧
  nn p46 (fun (q47 : Addr) =>
  ∃ (p48 : Option Addr), w1.cell? (Addr.add q47 4) = some ((.pointer p48 : Value)) ∧
  CallR Tryz.prog 173 [.pointer p48, .int .i64 (((l3 : Nat) : Int))] w1 (fun (r50 : Value) (w5 : World) =>
  ∃ (b49 : Bool), r50 = .bool b49 ∧
  cond (!b49)
  (Q (.tuple #[.int .i64 0, .int .i64 52]) w5)
  (nn p4 (fun (q51 : Addr) =>
  ∃ (p52 : Option Addr), w5.cell? (Addr.add q51 1) = some ((.pointer p52 : Value)) ∧
  nn p52 (fun (q53 : Addr) =>
  ∃ (n54 : Int), w5.cell? (Addr.add q53 1) = some ((.int .i64 n54 : Value)) ∧
  cond (n54 != 3)
  (CallR Tryz.prog 174 [.pointer p4] w5 (fun (r56 : Value) (w6 : World) =>
  ∃ (n55 : Int), r56 = .int .i64 n55 ∧
  cond (n55 == 0)
  (Q (.tuple #[.int .i64 0, .int .i64 31]) w6)
  (J6 [] w6)))
  (J6 [] w5))))))))
  (nn p4 (fun (q57 : Addr) =>
  ∃ (p58 : Option Addr), w1.cell? (Addr.add q57 1) = some ((.pointer p58 : Value)) ∧
  nn p58 (fun (q59 : Addr) =>
  ∃ (n60 : Int), w1.cell? (Addr.add q59 1) = some ((.int .i64 n60 : Value)) ∧
  cond (n60 != 3)
  (CallR Tryz.prog 174 [.pointer p4] w1 (fun (r62 : Value) (w7 : World) =>
  ∃ (n61 : Int), r62 = .int .i64 n61 ∧
  cond (n61 == 0)
  (Q (.tuple #[.int .i64 0, .int .i64 31]) w7)
  (J6 [] w7)))
  (J6 [] w1))))))))))))))) ∧
  (∀ (_ : Env) (w8 : World), J6 [] w8 →
  nn p1 (fun (q63 : Addr) =>
  ∃ (n64 : Int), w8.cell? (Addr.add q63 5) = some ((.int .i64 n64 : Value)) ∧
  inI (n64 + 1) ∧
  nn p1 (fun (q65 : Addr) =>
  stC (Addr.add q65 5) (.int .i64 (n64 + 1)) w8 (fun (w9 : World) =>
  nn p1 (fun (q66 : Addr) =>
  ∃ (p67 : Option Addr), w9.cell? (Addr.add q66 3) = some ((.pointer p67 : Value)) ∧
  CallR Tryz.prog 170 [.pointer p67, .int .i64 (((l3 : Nat) : Int))] w9 (fun (r70 : Value) (w10 : World) =>
  ∃ (n68 : Int) (n69 : Int), r70 = .tuple #[.int .i64 n68, .int .i64 n69] ∧
  cond (n69 != 0)
  (Q (.tuple #[.int .i64 0, .int .i64 n69]) w10)
  (nn p4 (fun (q71 : Addr) =>
  ∃ (p72 : Option Addr), w10.cell? (Addr.add q71 1) = some ((.pointer p72 : Value)) ∧
  nn p72 (fun (q73 : Addr) =>
  ∃ (n74 : Int), w10.cell? (Addr.add q73 1) = some ((.int .i64 n74 : Value)) ∧
  cond (n74 == 3)
  (nn p4 (fun (q75 : Addr) =>
  ∃ (p76 : Option Addr), w10.cell? (Addr.add q75 1) = some ((.pointer p76 : Value)) ∧
  nn p76 (fun (q77 : Addr) =>
  ∃ (p78 : Option Addr), w10.cell? (Addr.add q77 4) = some ((.pointer p78 : Value)) ∧
  CallR Tryz.prog 175 [.pointer p78, .slice a3 l3 c3, .int .i64 n68] w10 (fun (r81 : Value) (w11 : World) =>
  ∃ (n79 : Int) (n80 : Int), r81 = .tuple #[.int .i64 n79, .int .i64 n80] ∧
  Q (.tuple #[.int .i64 n79, .int .i64 n80]) w11))))
  (CallR Tryz.prog 174 [.pointer p4] w10 (fun (r83 : Value) (w12 : World) =>
  ∃ (n82 : Int), r83 = .int .i64 n82 ∧
  nn p4 (fun (q84 : Addr) =>
  ∃ (p85 : Option Addr), w12.cell? (Addr.add q84 1) = some ((.pointer p85 : Value)) ∧
  nn p85 (fun (q86 : Addr) =>
  ∃ (n87 : Int), w12.cell? (Addr.add q86 1) = some ((.int .i64 n87 : Value)) ∧
  cond (n87 == 2)
  (let w13 := World.drew w12;
  nn p4 (fun (q88 : Addr) =>
  ∃ (p89 : Option Addr), w13.cell? (Addr.add q88 1) = some ((.pointer p89 : Value)) ∧
  nn p89 (fun (q90 : Addr) =>
  ∃ (p91 : Option Addr), w13.cell? (Addr.add q90 3) = some ((.pointer p91 : Value)) ∧
  (0 ≤ (mn n68 n82 : Int) ∧ (mn n68 n82 : Int) ≤ ((c3 : Nat) : Int)) ∧
  CallR Tryz.prog 176 [.pointer p91, .slice a3 (Int.toNat (mn n68 n82)) c3] w13 (fun (r93 : Value) (w14 : World) =>
  ∃ (n92 : Int), r93 = .int .i64 n92 ∧
  Q (.tuple #[.int .i64 (mn n68 n82), .int .i64 0]) w14))))
  (∃ (J94 : List Value → World → Prop),
  (nn p4 (fun (q95 : Addr) =>
  ∃ (n96 : Int), w12.cell? (Addr.add q95 2) = some ((.int .i64 n96 : Value)) ∧
  cond ((IntKind.wrap .i64 ↑(BitVec.ofInt (IntKind.bits .i64) n96 &&& BitVec.ofInt (IntKind.bits .i64) 4).toNat) != 0)
  (nn p4 (fun (q97 : Addr) =>
  ∃ (p98 : Option Addr), w12.cell? (Addr.add q97 1) = some ((.pointer p98 : Value)) ∧
  nn p98 (fun (q99 : Addr) =>
  ∃ (p100 : Option Addr), w12.cell? (Addr.add q99 2) = some ((.pointer p100 : Value)) ∧
  nn p100 (fun (q101 : Addr) =>
  ∃ (a102 : Option Addr) (l102 : Nat) (c102 : Nat), w12.cell? q101 = some ((.slice a102 l102 c102 : Value)) ∧
  nn p4 (fun (q103 : Addr) =>
  stC (Addr.add q103 3) (.int .i64 (((l102 : Nat) : Int))) w12 (fun (w15 : World) =>
  J94 [] w15))))))
  (J94 [] w12))) ∧
  (∀ (_ : Env) (w16 : World), J94 [] w16 →
  let w17 := World.drew w16;
  nn p4 (fun (q104 : Addr) =>
  ∃ (p105 : Option Addr), w17.cell? (Addr.add q104 1) = some ((.pointer p105 : Value)) ∧
  nn p105 (fun (q106 : Addr) =>
  ∃ (p107 : Option Addr), w17.cell? (Addr.add q106 2) = some ((.pointer p107 : Value)) ∧
  nn p4 (fun (q108 : Addr) =>
  ∃ (n109 : Int), w17.cell? (Addr.add q108 3) = some ((.int .i64 n109 : Value)) ∧
  (0 ≤ (mn n68 n82 : Int) ∧ (mn n68 n82 : Int) ≤ ((c3 : Nat) : Int)) ∧
  CallR Tryz.prog 177 [.pointer p107, .int .i64 n109, .slice a3 (Int.toNat (mn n68 n82)) c3] w17 (fun (r111 : Value) (w18 : World) =>
  ∃ (n110 : Int), r111 = .int .i64 n110 ∧
  nn p4 (fun (q112 : Addr) =>
  ∃ (n113 : Int), w18.cell? (Addr.add q112 3) = some ((.int .i64 n113 : Value)) ∧
  inI (n113 + (mn n68 n82)) ∧
  nn p4 (fun (q114 : Addr) =>
  stC (Addr.add q114 3) (.int .i64 (n113 + (mn n68 n82))) w18 (fun (w19 : World) =>
  Q (.tuple #[.int .i64 (mn n68 n82), .int .i64 0]) w19)))))))))))))))))))))))
theorem C67 {p1 : Option Addr} {n2 : Int} {a3 : Option Addr} {l3 : Nat} {c3 : Nat} {Q : Value → World → Prop} {w : World} (h : L67 p1 n2 a3 l3 c3 Q w) : CallR Tryz.prog 67 [.pointer p1, .int .i64 n2, .slice a3 l3 c3] w Q :=
  fun_calls (A := A67) mixed Tryz.func67 (c := (Tryz.f67.body).getD .skip) rfl (by kernel_rfl) (Eq.mp (by kernel_rfl) h)

/-- millrace/millraceref06.Move -/
def A151 : Ann := ⟨[], [], [], [], [], []⟩
def L151 (n1 : Int) (n2 : Int) (n3 : Int) (Q : Value → World → Prop) (w : World) : Prop :=
  inI ((0 : Int) - n1) ∧
  cond (decide (n2 < ((0 : Int) - n1)))
  (Q (.tuple #[.int .i64 0, .bool false]) w)
  (inI (n3 - n1) ∧
  cond (decide (n2 > (n3 - n1)))
  (Q (.tuple #[.int .i64 0, .bool false]) w)
  (inI (n1 + n2) ∧
  Q (.tuple #[.int .i64 (n1 + n2), .bool true]) w))
theorem C151 {n1 : Int} {n2 : Int} {n3 : Int} {Q : Value → World → Prop} {w : World} (h : L151 n1 n2 n3 Q w) : CallR Tryz.prog 151 [.int .i64 n1, .int .i64 n2, .int .i64 n3] w Q :=
  fun_calls (A := A151) mixed Tryz.func151 (c := (Tryz.f151.body).getD .skip) rfl (by kernel_rfl) (Eq.mp (by kernel_rfl) h)

/-- (*millrace/millraceref06.Kernel).Seek -/
def A69 : Ann := ⟨[], [(14, [(11, .one (.int .i64))])], [], [], [], []⟩
def L69 (p1 : Option Addr) (n2 : Int) (n3 : Int) (n4 : Int) (Q : Value → World → Prop) (w : World) : Prop :=
  CallR Tryz.prog 168 [.pointer p1, .int .i64 n2] w (fun (r6 : Value) (w1 : World) =>
  ∃ (p5 : Option Addr), r6 = .pointer p5 ∧
  cond (Option.isNone p5)
  (Q (.tuple #[.int .i64 0, .int .i64 64]) w1)
  (nn p5 (fun (q7 : Addr) =>
  ∃ (p8 : Option Addr), w1.cell? (Addr.add q7 1) = some ((.pointer p8 : Value)) ∧
  nn p8 (fun (q9 : Addr) =>
  ∃ (n10 : Int), w1.cell? (Addr.add q9 1) = some ((.int .i64 n10 : Value)) ∧
  cond (n10 != 1)
  (Q (.tuple #[.int .i64 0, .int .i64 66]) w1)
  (cond (decide (n4 < 0))
  (Q (.tuple #[.int .i64 0, .int .i64 1]) w1)
  (cond (decide (n4 > 2))
  (Q (.tuple #[.int .i64 0, .int .i64 1]) w1)
  (∃ (J11 : List Value → World → Prop),
  (cond (n4 == 1)
  (nn p5 (fun (q12 : Addr) =>
  ∃ (n13 : Int), w1.cell? (Addr.add q12 3) = some ((.int .i64 n13 : Value)) ∧
  J11 [.int .i64 n13] w1))
  (cond (n4 == 2)
  (nn p5 (fun (q14 : Addr) =>
  ∃ (p15 : Option Addr), w1.cell? (Addr.add q14 1) = some ((.pointer p15 : Value)) ∧
  nn p15 (fun (q16 : Addr) =>
  ∃ (p17 : Option Addr), w1.cell? (Addr.add q16 2) = some ((.pointer p17 : Value)) ∧
  nn p17 (fun (q18 : Addr) =>
  ∃ (a19 : Option Addr) (l19 : Nat) (c19 : Nat), w1.cell? q18 = some ((.slice a19 l19 c19 : Value)) ∧
  J11 [.int .i64 (((l19 : Nat) : Int))] w1))))
  (J11 [.int .i64 0] w1))) ∧
  (∀ (_ : Env) (n20 : Int) (w2 : World), J11 [.int .i64 n20] w2 →
  CallR Tryz.prog 151 [.int .i64 n20, .int .i64 n3, .int .i64 1048576] w2 (fun (r23 : Value) (w3 : World) =>
  ∃ (n21 : Int) (b22 : Bool), r23 = .tuple #[.int .i64 n21, .bool b22] ∧
  cond (!b22)
  (Q (.tuple #[.int .i64 0, .int .i64 4]) w3)
  (nn p5 (fun (q24 : Addr) =>
  stC (Addr.add q24 3) (.int .i64 n21) w3 (fun (w4 : World) =>
  Q (.tuple #[.int .i64 n21, .int .i64 0]) w4))))))))))))
theorem C69 {p1 : Option Addr} {n2 : Int} {n3 : Int} {n4 : Int} {Q : Value → World → Prop} {w : World} (h : L69 p1 n2 n3 n4 Q w) : CallR Tryz.prog 69 [.pointer p1, .int .i64 n2, .int .i64 n3, .int .i64 n4] w Q :=
  fun_calls (A := A69) mixed Tryz.func69 (c := (Tryz.f69.body).getD .skip) rfl (by kernel_rfl) (Eq.mp (by kernel_rfl) h)

/-- (*millrace/millraceref06.Kernel).Keep -/
def A71 : Ann := ⟨[], [], [], [], [], []⟩
def L71 (p1 : Option Addr) (n2 : Int) (Q : Value → World → Prop) (w : World) : Prop :=
  CallR Tryz.prog 168 [.pointer p1, .int .i64 n2] w (fun (r4 : Value) (w1 : World) =>
  ∃ (p3 : Option Addr), r4 = .pointer p3 ∧
  cond (Option.isNone p3)
  (Q (.int .i64 64) w1)
  (nn p3 (fun (q5 : Addr) =>
  ∃ (n6 : Int), w1.cell? (Addr.add q5 4) = some ((.int .i64 n6 : Value)) ∧
  cond (decide (n6 ≥ 1024))
  (Q (.int .i64 3) w1)
  (nn p3 (fun (q7 : Addr) =>
  ∃ (n8 : Int), w1.cell? (Addr.add q7 4) = some ((.int .i64 n8 : Value)) ∧
  inI (n8 + 1) ∧
  nn p3 (fun (q9 : Addr) =>
  stC (Addr.add q9 4) (.int .i64 (n8 + 1)) w1 (fun (w2 : World) =>
  Q (.int .i64 0) w2)))))))
theorem C71 {p1 : Option Addr} {n2 : Int} {Q : Value → World → Prop} {w : World} (h : L71 p1 n2 Q w) : CallR Tryz.prog 71 [.pointer p1, .int .i64 n2] w Q :=
  fun_calls (A := A71) mixed Tryz.func71 (c := (Tryz.f71.body).getD .skip) rfl (by kernel_rfl) (Eq.mp (by kernel_rfl) h)

/-- (*millrace/millraceref06.Kernel).Drop -/
def A73 : Ann := ⟨[(9, [(6, .one (.slice)), (7, .one (.int .i64))])], [(13, [(6, .one (.slice))])], [], [(15, [0, 1, 2, 3, 4, 5, 6, 7, 8, 9, 10, 11, 12, 13])], [], []⟩
def L73 (p1 : Option Addr) (n2 : Int) (Q : Value → World → Prop) (w : World) : Prop :=
  CallR Tryz.prog 168 [.pointer p1, .int .i64 n2] w (fun (r4 : Value) (w1 : World) =>
  ∃ (p3 : Option Addr), r4 = .pointer p3 ∧
  cond (Option.isNone p3)
  (Q (.int .i64 64) w1)
  (nn p3 (fun (q5 : Addr) =>
  ∃ (n6 : Int), w1.cell? (Addr.add q5 4) = some ((.int .i64 n6 : Value)) ∧
  inI (n6 - 1) ∧
  nn p3 (fun (q7 : Addr) =>
  stC (Addr.add q7 4) (.int .i64 (n6 - 1)) w1 (fun (w2 : World) =>
  nn p3 (fun (q8 : Addr) =>
  ∃ (n9 : Int), w2.cell? (Addr.add q8 4) = some ((.int .i64 n9 : Value)) ∧
  cond (decide (n9 > 0))
  (Q (.int .i64 0) w2)
  (∃ (J10 : List Value → World → Prop),
  (∃ (I11 : List Value → World → Prop) (mu12 : List Value → World → Nat),
  I11 [.slice none 0 0, .int .i64 0] w2 ∧
  ∀ (_ : Env) (a13 : Option Addr) (l13 : Nat) (c13 : Nat) (n14 : Int) (w3 : World), I11 [.slice a13 l13 c13, .int .i64 n14] w3 →
  nn p1 (fun (q15 : Addr) =>
  ∃ (a16 : Option Addr) (l16 : Nat) (c16 : Nat), w3.cell? (Addr.add q15 1) = some ((.slice a16 l16 c16 : Value)) ∧
  cond (decide (n14 < (((l16 : Nat) : Int))))
  (nn p1 (fun (q17 : Addr) =>
  ∃ (a18 : Option Addr) (l18 : Nat) (c18 : Nat), w3.cell? (Addr.add q17 1) = some ((.slice a18 l18 c18 : Value)) ∧
  (0 ≤ (n14 : Int) ∧ (n14 : Int) < ((l18 : Nat) : Int)) ∧
  nn a18 (fun (q19 : Addr) =>
  ∃ (p20 : Option Addr), w3.cell? (Addr.add q19 (Int.toNat n14)) = some ((.pointer p20 : Value)) ∧
  ∃ (b21 : Bool) (w4 : World), Sem.run Tryz.prog (Sem.bind (eqGuard .neq 265 (.tmp 40) (.tmp 41) (.pointer p20) (.pointer p3)) (fun _ => binOp .neq 265 (.pointer p20) (.pointer p3))) w3 = .ok ((.bool b21 : Value)) w4 ∧
  cond b21
  (nn p1 (fun (q22 : Addr) =>
  ∃ (a23 : Option Addr) (l23 : Nat) (c23 : Nat), w4.cell? (Addr.add q22 1) = some ((.slice a23 l23 c23 : Value)) ∧
  (0 ≤ (n14 : Int) ∧ (n14 : Int) < ((l23 : Nat) : Int)) ∧
  nn a23 (fun (q24 : Addr) =>
  ∃ (p25 : Option Addr), w4.cell? (Addr.add q24 (Int.toNat n14)) = some ((.pointer p25 : Value)) ∧
  let w5 := World.alloc w4 (Obj.cells #[.pointer p25] 265);
  ∃ (a26 : Option Addr) (l26 : Nat) (c26 : Nat) (w6 : World), Sem.run Tryz.prog (Builtin.append_ #[151, 151] 151 #[.slice a13 l13 c13, .slice (some (Addr.mk w4.heap.size 0 none)) 1 1]) w5 = .ok ((.slice a26 l26 c26 : Value)) w6 ∧
  inI (n14 + 1) ∧
  I11 [.slice a26 l26 c26, .int .i64 (n14 + 1)] w6 ∧ mu12 [.slice a26 l26 c26, .int .i64 (n14 + 1)] w6 < mu12 [.slice a13 l13 c13, .int .i64 n14] w3)))
  (inI (n14 + 1) ∧
  I11 [.slice a13 l13 c13, .int .i64 (n14 + 1)] w4 ∧ mu12 [.slice a13 l13 c13, .int .i64 (n14 + 1)] w4 < mu12 [.slice a13 l13 c13, .int .i64 n14] w3))))
  (J10 [.slice a13 l13 c13] w3))) ∧
  (∀ (_ : Env) (a27 : Option Addr) (l27 : Nat) (c27 : Nat) (w7 : World), J10 [.slice a27 l27 c27] w7 →
  nn p1 (fun (q28 : Addr) =>
  stC (Addr.add q28 1) (.slice a27 l27 c27) w7 (fun (w8 : World) =>
  nn p3 (fun (q29 : Addr) =>
  ∃ (p30 : Option Addr), w8.cell? (Addr.add q29 1) = some ((.pointer p30 : Value)) ∧
  nn p30 (fun (q31 : Addr) =>
  ∃ (n32 : Int), w8.cell? (Addr.add q31 1) = some ((.int .i64 n32 : Value)) ∧
  cond (n32 == 3)
  (let w9 := World.drew w8;
  nn p3 (fun (q33 : Addr) =>
  ∃ (p34 : Option Addr), w9.cell? (Addr.add q33 1) = some ((.pointer p34 : Value)) ∧
  nn p34 (fun (q35 : Addr) =>
  ∃ (p36 : Option Addr), w9.cell? (Addr.add q35 4) = some ((.pointer p36 : Value)) ∧
  nn p3 (fun (q37 : Addr) =>
  ∃ (n38 : Int), w9.cell? (Addr.add q37 2) = some ((.int .i64 n38 : Value)) ∧
  CallR Tryz.prog 179 [.pointer p36, .bool ((IntKind.wrap .i64 ↑(BitVec.ofInt (IntKind.bits .i64) n38 &&& BitVec.ofInt (IntKind.bits .i64) 2).toNat) != 0)] w9 (fun (r40 : Value) (w10 : World) =>
  ∃ (n39 : Int), r40 = .int .i64 n39 ∧
  Q (.int .i64 0) w10)))))
  (Q (.int .i64 0) w8)))))))))))))
theorem C73 {p1 : Option Addr} {n2 : Int} {Q : Value → World → Prop} {w : World} (h : L73 p1 n2 Q w) : CallR Tryz.prog 73 [.pointer p1, .int .i64 n2] w Q :=
  fun_calls (A := A73) mixed Tryz.func73 (c := (Tryz.f73.body).getD .skip) rfl (by kernel_rfl) (Eq.mp (by kernel_rfl) h)

/-- (*millrace/millraceref06.Kernel).CanRead -/
def A85 : Ann := ⟨[], [], [], [], [], []⟩
def L85 (p1 : Option Addr) (n2 : Int) (Q : Value → World → Prop) (w : World) : Prop :=
  CallR Tryz.prog 168 [.pointer p1, .int .i64 n2] w (fun (r4 : Value) (w1 : World) =>
  ∃ (p3 : Option Addr), r4 = .pointer p3 ∧
  cond (!(Option.isNone p3))
  (nn p3 (fun (q5 : Addr) =>
  ∃ (n6 : Int), w1.cell? (Addr.add q5 2) = some ((.int .i64 n6 : Value)) ∧
  cond ((IntKind.wrap .i64 ↑(BitVec.ofInt (IntKind.bits .i64) n6 &&& BitVec.ofInt (IntKind.bits .i64) 1).toNat) != 0)
  (nn p3 (fun (q7 : Addr) =>
  ∃ (p8 : Option Addr), w1.cell? (Addr.add q7 1) = some ((.pointer p8 : Value)) ∧
  nn p8 (fun (q9 : Addr) =>
  ∃ (n10 : Int), w1.cell? (Addr.add q9 1) = some ((.int .i64 n10 : Value)) ∧
  cond (n10 != 3)
  (Q (.bool true) w1)
  (nn p3 (fun (q11 : Addr) =>
  ∃ (p12 : Option Addr), w1.cell? (Addr.add q11 1) = some ((.pointer p12 : Value)) ∧
  nn p12 (fun (q13 : Addr) =>
  ∃ (p14 : Option Addr), w1.cell? (Addr.add q13 4) = some ((.pointer p14 : Value)) ∧
  CallR Tryz.prog 169 [.pointer p14] w1 (fun (r16 : Value) (w2 : World) =>
  ∃ (b15 : Bool), r16 = .bool b15 ∧
  Q (.bool b15) w2)))))))
  (Q (.bool false) w1)))
  (Q (.bool false) w1))
theorem C85 {p1 : Option Addr} {n2 : Int} {Q : Value → World → Prop} {w : World} (h : L85 p1 n2 Q w) : CallR Tryz.prog 85 [.pointer p1, .int .i64 n2] w Q :=
  fun_calls (A := A85) mixed Tryz.func85 (c := (Tryz.f85.body).getD .skip) rfl (by kernel_rfl) (Eq.mp (by kernel_rfl) h)

/-- (*millrace/millraceref06.Kernel).CanWrite -/
def A87 : Ann := ⟨[], [], [], [], [], []⟩
def L87 (p1 : Option Addr) (n2 : Int) (n3 : Int) (Q : Value → World → Prop) (w : World) : Prop :=
  CallR Tryz.prog 168 [.pointer p1, .int .i64 n2] w (fun (r5 : Value) (w1 : World) =>
  ∃ (p4 : Option Addr), r5 = .pointer p4 ∧
  cond (!(Option.isNone p4))
  (nn p4 (fun (q6 : Addr) =>
  ∃ (n7 : Int), w1.cell? (Addr.add q6 2) = some ((.int .i64 n7 : Value)) ∧
  cond ((IntKind.wrap .i64 ↑(BitVec.ofInt (IntKind.bits .i64) n7 &&& BitVec.ofInt (IntKind.bits .i64) 2).toNat) != 0)
  (cond (decide (n3 ≥ 1))
  (cond (decide (n3 ≤ 1048576))
  (nn p4 (fun (q8 : Addr) =>
  ∃ (p9 : Option Addr), w1.cell? (Addr.add q8 1) = some ((.pointer p9 : Value)) ∧
  nn p9 (fun (q10 : Addr) =>
  ∃ (n11 : Int), w1.cell? (Addr.add q10 1) = some ((.int .i64 n11 : Value)) ∧
  cond (n11 != 3)
  (Q (.bool true) w1)
  (nn p4 (fun (q12 : Addr) =>
  ∃ (p13 : Option Addr), w1.cell? (Addr.add q12 1) = some ((.pointer p13 : Value)) ∧
  nn p13 (fun (q14 : Addr) =>
  ∃ (p15 : Option Addr), w1.cell? (Addr.add q14 4) = some ((.pointer p15 : Value)) ∧
  CallR Tryz.prog 173 [.pointer p15, .int .i64 n3] w1 (fun (r17 : Value) (w2 : World) =>
  ∃ (b16 : Bool), r17 = .bool b16 ∧
  Q (.bool b16) w2)))))))
  (Q (.bool false) w1))
  (Q (.bool false) w1))
  (Q (.bool false) w1)))
  (Q (.bool false) w1))
theorem C87 {p1 : Option Addr} {n2 : Int} {n3 : Int} {Q : Value → World → Prop} {w : World} (h : L87 p1 n2 n3 Q w) : CallR Tryz.prog 87 [.pointer p1, .int .i64 n2, .int .i64 n3] w Q :=
  fun_calls (A := A87) mixed Tryz.func87 (c := (Tryz.f87.body).getD .skip) rfl (by kernel_rfl) (Eq.mp (by kernel_rfl) h)

/-- (*millrace/millraceref06.Kernel).Kind -/
def A83 : Ann := ⟨[], [], [], [], [], []⟩
def L83 (p1 : Option Addr) (n2 : Int) (Q : Value → World → Prop) (w : World) : Prop :=
  CallR Tryz.prog 168 [.pointer p1, .int .i64 n2] w (fun (r4 : Value) (w1 : World) =>
  ∃ (p3 : Option Addr), r4 = .pointer p3 ∧
  cond (Option.isNone p3)
  (Q (.int .i64 0) w1)
  (nn p3 (fun (q5 : Addr) =>
  ∃ (p6 : Option Addr), w1.cell? (Addr.add q5 1) = some ((.pointer p6 : Value)) ∧
  nn p6 (fun (q7 : Addr) =>
  ∃ (n8 : Int), w1.cell? (Addr.add q7 1) = some ((.int .i64 n8 : Value)) ∧
  Q (.int .i64 n8) w1))))
theorem C83 {p1 : Option Addr} {n2 : Int} {Q : Value → World → Prop} {w : World} (h : L83 p1 n2 Q w) : CallR Tryz.prog 83 [.pointer p1, .int .i64 n2] w Q :=
  fun_calls (A := A83) mixed Tryz.func83 (c := (Tryz.f83.body).getD .skip) rfl (by kernel_rfl) (Eq.mp (by kernel_rfl) h)

/-- (*millrace/millraceref06.Kernel).Files -/
def A77 : Ann := ⟨[(3, [(3, .one (.slice)), (4, .one (.int .i64))])], [], [], [], [(7, [0, 1, 2, 3, 4, 5, 6, 7, 8, 9, 10, 11, 12, 13, 14, 15, 16, 17, 18, 19, 20, 21, 22, 23, 24, 25, 26], 27, [28, 29])], []⟩
def L77 (p1 : Option Addr) (Q : Value → World → Prop) (w : World) : Prop :=
  ∃ (I2 : List Value → World → Prop) (mu3 : List Value → World → Nat),
  I2 [.slice none 0 0, .int .i64 0] w ∧
  ∀ (_ : Env) (a4 : Option Addr) (l4 : Nat) (c4 : Nat) (n5 : Int) (w1 : World), I2 [.slice a4 l4 c4, .int .i64 n5] w1 →
  nn p1 (fun (q6 : Addr) =>
  ∃ (a7 : Option Addr) (l7 : Nat) (c7 : Nat), w1.cell? q6 = some ((.slice a7 l7 c7 : Value)) ∧
  cond (decide (n5 < (((l7 : Nat) : Int))))
  (nn p1 (fun (q8 : Addr) =>
  ∃ (a9 : Option Addr) (l9 : Nat) (c9 : Nat), w1.cell? q8 = some ((.slice a9 l9 c9 : Value)) ∧
  (0 ≤ (n5 : Int) ∧ (n5 : Int) < ((l9 : Nat) : Int)) ∧
  nn a9 (fun (q10 : Addr) =>
  ∃ (p11 : Option Addr), w1.cell? (Addr.add q10 (Int.toNat n5)) = some ((.pointer p11 : Value)) ∧
  nn p11 (fun (q12 : Addr) =>
  ∃ (n13 : Int), w1.cell? (Addr.add q12 1) = some ((.int .i64 n13 : Value)) ∧
  cond (n13 == 1)
  (∃ (S14 : World → Prop), S14 (World.drew w1) ∧
  let w2 := World.drew w1;
  nn p1 (fun (q15 : Addr) =>
  ∃ (a16 : Option Addr) (l16 : Nat) (c16 : Nat), (∀ wS : World, S14 wS → wS.cell? q15 = some ((.slice a16 l16 c16 : Value))) ∧
  (0 ≤ (n5 : Int) ∧ (n5 : Int) < ((l16 : Nat) : Int)) ∧
  nn a16 (fun (q17 : Addr) =>
  ∃ (p18 : Option Addr), (∀ wS : World, S14 wS → wS.cell? (Addr.add q17 (Int.toNat n5)) = some ((.pointer p18 : Value))) ∧
  nn p18 (fun (q19 : Addr) =>
  ∃ (s20 : ByteArray), (∀ wS : World, S14 wS → wS.cell? q19 = some ((.string s20 : Value))) ∧
  nn p1 (fun (q21 : Addr) =>
  ∃ (a22 : Option Addr) (l22 : Nat) (c22 : Nat), (∀ wS : World, S14 wS → wS.cell? q21 = some ((.slice a22 l22 c22 : Value))) ∧
  (0 ≤ (n5 : Int) ∧ (n5 : Int) < ((l22 : Nat) : Int)) ∧
  nn a22 (fun (q23 : Addr) =>
  ∃ (p24 : Option Addr), (∀ wS : World, S14 wS → wS.cell? (Addr.add q23 (Int.toNat n5)) = some ((.pointer p24 : Value))) ∧
  nn p24 (fun (q25 : Addr) =>
  ∃ (p26 : Option Addr), (∀ wS : World, S14 wS → wS.cell? (Addr.add q25 2) = some ((.pointer p26 : Value))) ∧
  nn p26 (fun (q27 : Addr) =>
  ∃ (a28 : Option Addr) (l28 : Nat) (c28 : Nat), (∀ wS : World, S14 wS → wS.cell? q27 = some ((.slice a28 l28 c28 : Value))) ∧
  ∃ (a29 : Option Addr) (l29 : Nat) (c29 : Nat) (w3 : World), Sem.run Tryz.prog (Builtin.append_ #[40, 40] 40 #[.slice none 0 0, .slice a28 l28 c28]) w2 = .ok ((.slice a29 l29 c29 : Value)) w3 ∧
  S14 w3 ∧
  let w4 := World.alloc w3 (Obj.cells #[.string s20, .slice a29 l29 c29] 122);
  ∃ (a30 : Option Addr) (l30 : Nat) (c30 : Nat) (w5 : World), Sem.run Tryz.prog (Builtin.append_ #[22, 22] 22 #[.slice a4 l4 c4, .slice (some (Addr.mk w3.heap.size 0 none)) 1 1]) w4 = .ok ((.slice a30 l30 c30 : Value)) w5 ∧
  inI (n5 + 1) ∧
  I2 [.slice a30 l30 c30, .int .i64 (n5 + 1)] w5 ∧ mu3 [.slice a30 l30 c30, .int .i64 (n5 + 1)] w5 < mu3 [.slice a4 l4 c4, .int .i64 n5] w1))))))))
  (inI (n5 + 1) ∧
  I2 [.slice a4 l4 c4, .int .i64 (n5 + 1)] w1 ∧ mu3 [.slice a4 l4 c4, .int .i64 (n5 + 1)] w1 < mu3 [.slice a4 l4 c4, .int .i64 n5] w1)))))
  (Q (.slice a4 l4 c4) w1))
theorem C77 {p1 : Option Addr} {Q : Value → World → Prop} {w : World} (h : L77 p1 Q w) : CallR Tryz.prog 77 [.pointer p1] w Q :=
  fun_calls (A := A77) mixed Tryz.func77 (c := (Tryz.f77.body).getD .skip) rfl (by kernel_rfl) (Eq.mp (by kernel_rfl) h)

/-- (*millrace/millraceref06.Kernel).Screens -/
def A80 : Ann := ⟨[(3, [(3, .one (.slice)), (4, .one (.int .i64))])], [], [], [], [(7, [0, 1, 2, 3, 4, 5, 6, 7, 8, 9, 10, 11, 12, 13, 14, 15, 16, 17, 18, 19, 20, 21, 22, 23, 24, 25, 26], 27, [28, 29])], []⟩
def L80 (p1 : Option Addr) (Q : Value → World → Prop) (w : World) : Prop :=
  ∃ (I2 : List Value → World → Prop) (mu3 : List Value → World → Nat),
  I2 [.slice none 0 0, .int .i64 0] w ∧
  ∀ (_ : Env) (a4 : Option Addr) (l4 : Nat) (c4 : Nat) (n5 : Int) (w1 : World), I2 [.slice a4 l4 c4, .int .i64 n5] w1 →
  nn p1 (fun (q6 : Addr) =>
  ∃ (a7 : Option Addr) (l7 : Nat) (c7 : Nat), w1.cell? q6 = some ((.slice a7 l7 c7 : Value)) ∧
  cond (decide (n5 < (((l7 : Nat) : Int))))
  (nn p1 (fun (q8 : Addr) =>
  ∃ (a9 : Option Addr) (l9 : Nat) (c9 : Nat), w1.cell? q8 = some ((.slice a9 l9 c9 : Value)) ∧
  (0 ≤ (n5 : Int) ∧ (n5 : Int) < ((l9 : Nat) : Int)) ∧
  nn a9 (fun (q10 : Addr) =>
  ∃ (p11 : Option Addr), w1.cell? (Addr.add q10 (Int.toNat n5)) = some ((.pointer p11 : Value)) ∧
  nn p11 (fun (q12 : Addr) =>
  ∃ (n13 : Int), w1.cell? (Addr.add q12 1) = some ((.int .i64 n13 : Value)) ∧
  cond (n13 == 2)
  (∃ (S14 : World → Prop), S14 (World.drew w1) ∧
  let w2 := World.drew w1;
  nn p1 (fun (q15 : Addr) =>
  ∃ (a16 : Option Addr) (l16 : Nat) (c16 : Nat), (∀ wS : World, S14 wS → wS.cell? q15 = some ((.slice a16 l16 c16 : Value))) ∧
  (0 ≤ (n5 : Int) ∧ (n5 : Int) < ((l16 : Nat) : Int)) ∧
  nn a16 (fun (q17 : Addr) =>
  ∃ (p18 : Option Addr), (∀ wS : World, S14 wS → wS.cell? (Addr.add q17 (Int.toNat n5)) = some ((.pointer p18 : Value))) ∧
  nn p18 (fun (q19 : Addr) =>
  ∃ (s20 : ByteArray), (∀ wS : World, S14 wS → wS.cell? q19 = some ((.string s20 : Value))) ∧
  nn p1 (fun (q21 : Addr) =>
  ∃ (a22 : Option Addr) (l22 : Nat) (c22 : Nat), (∀ wS : World, S14 wS → wS.cell? q21 = some ((.slice a22 l22 c22 : Value))) ∧
  (0 ≤ (n5 : Int) ∧ (n5 : Int) < ((l22 : Nat) : Int)) ∧
  nn a22 (fun (q23 : Addr) =>
  ∃ (p24 : Option Addr), (∀ wS : World, S14 wS → wS.cell? (Addr.add q23 (Int.toNat n5)) = some ((.pointer p24 : Value))) ∧
  nn p24 (fun (q25 : Addr) =>
  ∃ (p26 : Option Addr), (∀ wS : World, S14 wS → wS.cell? (Addr.add q25 3) = some ((.pointer p26 : Value))) ∧
  nn p26 (fun (q27 : Addr) =>
  ∃ (a28 : Option Addr) (l28 : Nat) (c28 : Nat), (∀ wS : World, S14 wS → wS.cell? (Addr.add q27 1) = some ((.slice a28 l28 c28 : Value))) ∧
  ∃ (a29 : Option Addr) (l29 : Nat) (c29 : Nat) (w3 : World), Sem.run Tryz.prog (Builtin.append_ #[40, 40] 40 #[.slice none 0 0, .slice a28 l28 c28]) w2 = .ok ((.slice a29 l29 c29 : Value)) w3 ∧
  S14 w3 ∧
  let w4 := World.alloc w3 (Obj.cells #[.string s20, .slice a29 l29 c29] 122);
  ∃ (a30 : Option Addr) (l30 : Nat) (c30 : Nat) (w5 : World), Sem.run Tryz.prog (Builtin.append_ #[22, 22] 22 #[.slice a4 l4 c4, .slice (some (Addr.mk w3.heap.size 0 none)) 1 1]) w4 = .ok ((.slice a30 l30 c30 : Value)) w5 ∧
  inI (n5 + 1) ∧
  I2 [.slice a30 l30 c30, .int .i64 (n5 + 1)] w5 ∧ mu3 [.slice a30 l30 c30, .int .i64 (n5 + 1)] w5 < mu3 [.slice a4 l4 c4, .int .i64 n5] w1))))))))
  (inI (n5 + 1) ∧
  I2 [.slice a4 l4 c4, .int .i64 (n5 + 1)] w1 ∧ mu3 [.slice a4 l4 c4, .int .i64 (n5 + 1)] w1 < mu3 [.slice a4 l4 c4, .int .i64 n5] w1)))))
  (Q (.slice a4 l4 c4) w1))
theorem C80 {p1 : Option Addr} {Q : Value → World → Prop} {w : World} (h : L80 p1 Q w) : CallR Tryz.prog 80 [.pointer p1] w Q :=
  fun_calls (A := A80) mixed Tryz.func80 (c := (Tryz.f80.body).getD .skip) rfl (by kernel_rfl) (Eq.mp (by kernel_rfl) h)

/-- (*millrace/millraceref06.Kernel).Held -/
def A89 : Ann := ⟨[], [], [], [], [], []⟩
def L89 (p1 : Option Addr) (n2 : Int) (Q : Value → World → Prop) (w : World) : Prop :=
  CallR Tryz.prog 168 [.pointer p1, .int .i64 n2] w (fun (r4 : Value) (w1 : World) =>
  ∃ (p3 : Option Addr), r4 = .pointer p3 ∧
  cond (Option.isNone p3)
  (Q (.slice none 0 0) w1)
  (nn p3 (fun (q5 : Addr) =>
  ∃ (p6 : Option Addr), w1.cell? (Addr.add q5 1) = some ((.pointer p6 : Value)) ∧
  nn p6 (fun (q7 : Addr) =>
  ∃ (n8 : Int), w1.cell? (Addr.add q7 1) = some ((.int .i64 n8 : Value)) ∧
  cond (n8 != 3)
  (Q (.slice none 0 0) w1)
  (nn p3 (fun (q9 : Addr) =>
  ∃ (p10 : Option Addr), w1.cell? (Addr.add q9 1) = some ((.pointer p10 : Value)) ∧
  nn p10 (fun (q11 : Addr) =>
  ∃ (p12 : Option Addr), w1.cell? (Addr.add q11 4) = some ((.pointer p12 : Value)) ∧
  nn p12 (fun (q13 : Addr) =>
  ∃ (a14 : Option Addr) (l14 : Nat) (c14 : Nat), w1.cell? q13 = some ((.slice a14 l14 c14 : Value)) ∧
  Q (.slice a14 l14 c14) w1))))))))
theorem C89 {p1 : Option Addr} {n2 : Int} {Q : Value → World → Prop} {w : World} (h : L89 p1 n2 Q w) : CallR Tryz.prog 89 [.pointer p1, .int .i64 n2] w Q :=
  fun_calls (A := A89) mixed Tryz.func89 (c := (Tryz.f89.body).getD .skip) rfl (by kernel_rfl) (Eq.mp (by kernel_rfl) h)

end Go.Proofs.YtpoaacnnhgebfaaGreat
