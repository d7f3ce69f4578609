/-
  Part 4 of 7 of the proof of FdtablePlays (the last part has its theorem): the program's functions as they are read, what each does, the law. Conditions: as each says; the theorem's: none.
-/
import Derived.Test.YtpoaacnnhgebfaaGreatRows
import Derived.JoinedOf
import Derived.WalkKit
import Derived.Deep.Quiet
import Derived.OrdersHeld
import Derived.ProofKit
import Derived.SizedLaws
import Derived.Carry
import Derived.OpenShut
import Derived.ChangeSame
import Derived.ChangeArms
import Derived.Deep.Slices
import Derived.Laws.BytesArg
import Derived.Lib.SlBytesConst
import Derived.Test.YtpoaacnnhgebfaaGreatProg
import Derived.RangeFuncIn
import Derived.RangeFuncLeaves
import Derived.RangeFuncRecord
import Derived.TacticsIn
import Derived.MapKept
import Derived.Laws.RangeAny
import Derived.Lib.OthersKept
import Derived.FollowTie
import Derived.Test.YtpoaacnnhgebfaaGreatChecked
import Derived.Shelf.Sort.AssemblysIn
import Derived.Sort.EveryDepth
import Derived.Maps.RangeRun
import Derived.Sort.KeysCollected
import Derived.Sort.OwnSorted
import Derived.Laws.StructEq
import Derived.LaidEql
import Derived.Test.YtpoaacnnhgebfaaGreatKFdtablePlays3
set_option linter.unusedVariables false
set_option maxRecDepth 100000
namespace Go.Proofs.YtpoaacnnhgebfaaGreat
open Go.Lw
def A209 : Ann := ⟨[], [], [], [], [], []⟩
def L209 (p1 : Option Addr) (Q : Value → World → Prop) (w : World) : Prop :=
  let w1 := World.alloc w (Obj.cells #[.pointer p1] 47);
  Q (.func (.func 222) #[] #[.pointer (some (Addr.mk w.heap.size 0 none))]) w1
theorem C209 {p1 : Option Addr} {Q : Value → World → Prop} {w : World} (h : L209 p1 Q w) : CallR Tryz.prog 209 [.pointer p1] w Q :=
  fun_calls (A := A209) mixed Tryz.func209 (c := (Tryz.f209.body).getD .skip) rfl (by kernel_rfl) (Eq.mp (by kernel_rfl) h)
def A222 : Ann := ⟨[(1, [(9, .one (.int .i64))])], [], [], [], [], []⟩
def L222 (v1 : Value) (p2 : Option Addr) (Q : Value → World → Prop) (w : World) : Prop :=
  nn p2 (fun (q3 : Addr) =>
  ∃ (p4 : Option Addr), w.cell? q3 = some ((.pointer p4 : Value)) ∧
  nn p4 (fun (q5 : Addr) =>
  ∃ (vs6 : List Value), vs6.length = 128 ∧ (∀ i v, vs6[i]? = some v → w.cell? (Addr.add (Addr.add q5 1) i) = some v) ∧
  ∃ (I7 : List Value → World → Prop) (mu8 : List Value → World → Nat),
  I7 [.int .i64 0] w ∧
  ∀ (_ : Env) (n9 : Int) (w1 : World), I7 [.int .i64 n9] w1 →
  cond (decide (n9 < 64))
  ((0 ≤ (n9 : Int) ∧ (n9 : Int) < ((64 : Nat) : Int)) ∧
  ∃ (n10 : Int) (b11 : Bool), List.take 2 (List.drop (Int.toNat n9 * 2) (Array.toList (vs6).toArray)) = [.int .i64 n10, .bool b11] ∧
  let w2 := World.alloc w1 (Obj.cells #[.int .i64 0, .bool false] 171);
  stC (Addr.mk w1.heap.size 0 none) (.int .i64 n10) w2 (fun (w3 : World) =>
  stC (Addr.mk w1.heap.size 1 none) (.bool b11) w3 (fun (w4 : World) =>
  ∃ (n12 : Int), w4.cell? (Addr.mk w1.heap.size 0 none) = some ((.int .i64 n12 : Value)) ∧
  cond (n12 == 0)
  (∃ (l13 : Nat), v1 = .func (.yield l13) #[] #[] ∧ YieldR Tryz.prog l13 [.int .i64 n9] w4 (fun (b14 : Bool) (w5 : World) =>
  cond (!b14)
  (Q (.tuple #[]) w5)
  (inI (n9 + 1) ∧
  I7 [.int .i64 (n9 + 1)] w5 ∧ mu8 [.int .i64 (n9 + 1)] w5 < mu8 [.int .i64 n9] w1)))
  (inI (n9 + 1) ∧
  I7 [.int .i64 (n9 + 1)] w4 ∧ mu8 [.int .i64 (n9 + 1)] w4 < mu8 [.int .i64 n9] w1))))
  (Q (.tuple #[]) w1)))
theorem C222 {v1 : Value} {p2 : Option Addr} {Q : Value → World → Prop} {w : World} (h : L222 v1 p2 Q w) : CallR Tryz.prog 222 [v1, .pointer p2] w Q :=
  funI_calls (A := A222) Tryz.func222 (c := (Tryz.f222.body).getD .skip) rfl (by kernel_rfl) (Eq.mp (by kernel_rfl) h)
def A185 : Ann := ⟨[], [], [], [], [], []⟩
def L185 (p1 : Option Addr) (n2 : Int) (Q : Value → World → Prop) (w : World) : Prop :=
  let w1 := World.alloc w (Obj.cells #[.int .i64 n2] 3);
  let w2 := World.alloc w1 (Obj.cells #[.slice none 0 0] 57);
  let w3 := World.alloc w2 (Obj.cells #[.slice none 0 0] 57);
  CallR Tryz.prog 209 [.pointer p1] w3 (fun (r4 : Value) (w4 : World) =>
  ∃ (v3 : Value), r4 = v3 ∧
  ∃ (gf8 : FuncId) (lb9 : Array Value) (xs10 : List (List Value)) (Kp11 T12 : Nat → Prop) (I13 Ix14 : Nat → World → Prop),
  v3 = .func (.func gf8) #[] lb9 ∧ bodyB Tryz.prog gf8 = true ∧ IterOK Tryz.prog gf8 (Array.toList lb9) xs10 Kp11 w4 ∧ (∀ z, Kp11 z → z < w4.heap.size) ∧ (∀ z, T12 z → ¬ Kp11 z ∧ z ≠ w4.heap.size ∧ z ≠ w4.heap.size + 1) ∧
  Steady w4.heap.size I13 ∧ Steady w4.heap.size Ix14 ∧ I13 0 w4 ∧
  (∀ (i6 : Nat) (x7 : List Value) (w5 : World), xs10[i6]? = some x7 → I13 i6 w5 → w4.heap.size + 2 ≤ w5.heap.size → List.length x7 = 1 ∧ ∃ (n5 : Int), x7 = [.int .i64 n5] ∧
  w5 = w5 ∧ ∀ (w6 : World), Kept (fun z => z = w4.heap.size + 1) w5 w6 →
  ∃ (a15 : Option Addr) (l15 : Nat) (c15 : Nat), w6.cell? (Addr.mk w2.heap.size 0 none) = some ((.slice a15 l15 c15 : Value)) ∧
  let w10 := World.alloc w6 (Obj.cells #[.int .i64 n5] 3);
  ∃ (a16 : Option Addr) (l16 : Nat) (c16 : Nat) (w11 : World), Sem.run Tryz.prog (Builtin.append_ #[57, 57] 57 #[.slice a15 l15 c15, .slice (some (Addr.mk w6.heap.size 0 none)) 1 1]) w10 = .ok ((.slice a16 l16 c16 : Value)) w11 ∧
  stC (Addr.mk w2.heap.size 0 none) (.slice a16 l16 c16) w11 (fun (w12 : World) =>
  ∃ (a17 : Option Addr) (l17 : Nat) (c17 : Nat), w12.cell? (Addr.mk w2.heap.size 0 none) = some ((.slice a17 l17 c17 : Value)) ∧
  ∃ (n18 : Int), w12.cell? (Addr.mk w.heap.size 0 none) = some ((.int .i64 n18 : Value)) ∧
  cond ((((l17 : Nat) : Int)) == n18)
  (∃ (a19 : Option Addr) (l19 : Nat) (c19 : Nat), w12.cell? (Addr.mk w2.heap.size 0 none) = some ((.slice a19 l19 c19 : Value)) ∧
  stC (Addr.mk w1.heap.size 0 none) (.slice a19 l19 c19) w12 (fun (w13 : World) =>
  Kept T12 w6 w13 ∧ Ix14 i6 w13))
  (Kept T12 w6 w12 ∧ I13 (i6 + 1) w12))) ∧
  (∀ (w7 : World), I13 (List.length xs10) w7 →
  stC (Addr.mk w1.heap.size 0 none) (.slice none 0 0) w7 (fun (w14 : World) =>
  Kept (fun z => z ≠ w4.heap.size) w7 w14 ∧ ∀ (w8 : World), Kept (fun z => z = w4.heap.size) w14 w8 →
  ∃ (a20 : Option Addr) (l20 : Nat) (c20 : Nat), w8.cell? (Addr.mk w1.heap.size 0 none) = some ((.slice a20 l20 c20 : Value)) ∧
  Q (.slice a20 l20 c20) w8)) ∧
  (∀ (i6 : Nat) (w7 : World), Ix14 i6 w7 → ∀ (w9 : World), Kept (fun z => z = w4.heap.size) w7 w9 →
  ∃ (a21 : Option Addr) (l21 : Nat) (c21 : Nat), w9.cell? (Addr.mk w1.heap.size 0 none) = some ((.slice a21 l21 c21 : Value)) ∧
  Q (.slice a21 l21 c21) w9))
theorem C185 {p1 : Option Addr} {n2 : Int} {Q : Value → World → Prop} {w : World} (h : L185 p1 n2 Q w) : CallR Tryz.prog 185 [.pointer p1, .int .i64 n2] w Q :=
  funRF (A := A185) (shs := [.one (.int .i64)]) mixed Tryz.func185 (c := (Tryz.f185.body).getD .skip) rfl (by kernel_rfl) (Eq.mp (by kernel_rfl) h)
def A18 : Ann := ⟨[], [], [], [], [], []⟩
def L18 (p1 : Option Addr) (Q : Value → World → Prop) (w : World) : Prop :=
  let w1 := World.alloc w (Obj.cells #[.pointer p1, .int .i64 0, .bool false, .int .i64 0, .bool false, .int .i64 0, .bool false, .int .i64 0, .bool false, .int .i64 0, .bool false, .int .i64 0, .bool false, .int .i64 0, .bool false, .int .i64 0, .bool false, .int .i64 0, .bool false, .int .i64 0, .bool false, .int .i64 0, .bool false, .int .i64 0, .bool false, .int .i64 0, .bool false, .int .i64 0, .bool false, .int .i64 0, .bool false, .int .i64 0, .bool false, .int .i64 0, .bool false, .int .i64 0, .bool false, .int .i64 0, .bool false, .int .i64 0, .bool false, .int .i64 0, .bool false, .int .i64 0, .bool false, .int .i64 0, .bool false, .int .i64 0, .bool false, .int .i64 0, .bool false, .int .i64 0, .bool false, .int .i64 0, .bool false, .int .i64 0, .bool false, .int .i64 0, .bool false, .int .i64 0, .bool false, .int .i64 0, .bool false, .int .i64 0, .bool false, .int .i64 0, .bool false, .int .i64 0, .bool false, .int .i64 0, .bool false, .int .i64 0, .bool false, .int .i64 0, .bool false, .int .i64 0, .bool false, .int .i64 0, .bool false, .int .i64 0, .bool false, .int .i64 0, .bool false, .int .i64 0, .bool false, .int .i64 0, .bool false, .int .i64 0, .bool false, .int .i64 0, .bool false, .int .i64 0, .bool false, .int .i64 0, .bool false, .int .i64 0, .bool false, .int .i64 0, .bool false, .int .i64 0, .bool false, .int .i64 0, .bool false, .int .i64 0, .bool false, .int .i64 0, .bool false, .int .i64 0, .bool false, .int .i64 0, .bool false, .int .i64 0, .bool false, .int .i64 0, .bool false, .int .i64 0, .bool false, .int .i64 0, .bool false, .int .i64 0, .bool false, .int .i64 0, .bool false, .int .i64 0, .bool false, .int .i64 0, .bool false, .int .i64 0, .bool false] 174);
  Q (.pointer (some (Addr.mk w.heap.size 0 none))) w1
theorem C18 {p1 : Option Addr} {Q : Value → World → Prop} {w : World} (h : L18 p1 Q w) : CallR Tryz.prog 18 [.pointer p1] w Q :=
  fun_calls (A := A18) mixed Tryz.func18 (c := (Tryz.f18.body).getD .skip) rfl (by kernel_rfl) (Eq.mp (by kernel_rfl) h)
def A96 : Ann := ⟨[], [], [], [], [], []⟩
def L96 (p1 : Option Addr) (Q : Value → World → Prop) (w : World) : Prop :=
  cond (Option.isNone p1)
  (Q (.bool true) w)
  (nn p1 (fun (q2 : Addr) =>
  ∃ (p3 : Option Addr), w.cell? q2 = some ((.pointer p3 : Value)) ∧
  Q (.bool (Option.isNone p3)) w))
theorem C96 {p1 : Option Addr} {Q : Value → World → Prop} {w : World} (h : L96 p1 Q w) : CallR Tryz.prog 96 [.pointer p1] w Q :=
  fun_calls (A := A96) mixed Tryz.func96 (c := (Tryz.f96.body).getD .skip) rfl (by kernel_rfl) (Eq.mp (by kernel_rfl) h)
def A186 : Ann := ⟨[], [], [], [], [], []⟩
def L186 (p1 : Option Addr) (n2 : Int) (Q : Value → World → Prop) (w : World) : Prop :=
  CallR Tryz.prog 96 [.pointer p1] w (fun (r4 : Value) (w1 : World) =>
  ∃ (b3 : Bool), r4 = .bool b3 ∧
  cond b3
  (Q (.tuple #[.pointer none, .int .i64 2]) w1)
  (cond (decide (n2 < 0))
  (Q (.tuple #[.pointer none, .int .i64 71]) w1)
  (cond (decide (n2 ≥ 64))
  (Q (.tuple #[.pointer none, .int .i64 71]) w1)
  (nn p1 (fun (q5 : Addr) =>
  (0 ≤ (n2 : Int) ∧ (n2 : Int) < ((64 : Nat) : Int)) ∧
  ∃ (n6 : Int), w1.cell? (Addr.add (Addr.add q5 1) (Int.toNat n2 * 2)) = some ((.int .i64 n6 : Value)) ∧
  cond (n6 == 0)
  (Q (.tuple #[.pointer none, .int .i64 71]) w1)
  (nn p1 (fun (q7 : Addr) =>
  (0 ≤ (n2 : Int) ∧ (n2 : Int) < ((64 : Nat) : Int)) ∧
  Q (.tuple #[.pointer (some (Addr.add (Addr.add q7 1) (Int.toNat n2 * 2))), .int .i64 0]) w1)))))))
theorem C186 {p1 : Option Addr} {n2 : Int} {Q : Value → World → Prop} {w : World} (h : L186 p1 n2 Q w) : CallR Tryz.prog 186 [.pointer p1, .int .i64 n2] w Q :=
  fun_calls (A := A186) mixed Tryz.func186 (c := (Tryz.f186.body).getD .skip) rfl (by kernel_rfl) (Eq.mp (by kernel_rfl) h)
def A91 : Ann := ⟨[], [], [], [(9, [0, 1, 2, 3, 4, 5, 6, 7, 8, 9])], [], []⟩
def L91 (p1 : Option Addr) (s2 : ByteArray) (n3 : Int) (Q : Value → World → Prop) (w : World) : Prop :=
  CallR Tryz.prog 96 [.pointer p1] w (fun (r5 : Value) (w1 : World) =>
  ∃ (b4 : Bool), r5 = .bool b4 ∧
  cond b4
  (Q (.tuple #[.int .i64 0, .int .i64 2]) w1)
  (CallR Tryz.prog 185 [.pointer p1, .int .i64 1] w1 (fun (r7 : Value) (w2 : World) =>
  ∃ (a6 : Option Addr) (l6 : Nat) (c6 : Nat), r7 = .slice a6 l6 c6 ∧
  cond (Option.isNone a6)
  (Q (.tuple #[.int .i64 0, .int .i64 31]) w2)
  (nn p1 (fun (q8 : Addr) =>
  ∃ (p9 : Option Addr), w2.cell? q8 = some ((.pointer p9 : Value)) ∧
  CallR Tryz.prog 30 [.pointer p9, .string s2, .int .i64 n3] w2 (fun (r12 : Value) (w3 : World) =>
  ∃ (n10 : Int) (n11 : Int), r12 = .tuple #[.int .i64 n10, .int .i64 n11] ∧
  cond (n11 != 0)
  (Q (.tuple #[.int .i64 0, .int .i64 n11]) w3)
  (let w4 := World.drew w3;
  (0 ≤ (0 : Int) ∧ (0 : Int) < ((l6 : Nat) : Int)) ∧
  nn a6 (fun (q13 : Addr) =>
  ∃ (n14 : Int), w4.cell? (Addr.add q13 (Int.toNat 0)) = some ((.int .i64 n14 : Value)) ∧
  nn p1 (fun (q15 : Addr) =>
  (0 ≤ (n14 : Int) ∧ (n14 : Int) < ((64 : Nat) : Int)) ∧
  stC (Addr.add (Addr.add q15 1) (Int.toNat n14 * 2)) (.int .i64 n10) w4 (fun (w5 : World) =>
  stC (Addr.add (Addr.add (Addr.add q15 1) (Int.toNat n14 * 2)) 1) (.bool false) w5 (fun (w6 : World) =>
  (0 ≤ (0 : Int) ∧ (0 : Int) < ((l6 : Nat) : Int)) ∧
  nn a6 (fun (q16 : Addr) =>
  ∃ (n17 : Int), w6.cell? (Addr.add q16 (Int.toNat 0)) = some ((.int .i64 n17 : Value)) ∧
  Q (.tuple #[.int .i64 n17, .int .i64 0]) w6))))))))))))
theorem C91 {p1 : Option Addr} {s2 : ByteArray} {n3 : Int} {Q : Value → World → Prop} {w : World} (h : L91 p1 s2 n3 Q w) : CallR Tryz.prog 91 [.pointer p1, .string s2, .int .i64 n3] w Q :=
  fun_calls (A := A91) mixed Tryz.func91 (c := (Tryz.f91.body).getD .skip) rfl (by kernel_rfl) (Eq.mp (by kernel_rfl) h)
def A98 : Ann := ⟨[], [], [], [(9, [0, 1, 2, 3, 4, 5, 6, 7, 8, 9, 10, 11, 12, 13, 14, 16, 17, 15, 18, 19])], [], []⟩
def L98 (p1 : Option Addr) (Q : Value → World → Prop) (w : World) : Prop :=
  CallR Tryz.prog 96 [.pointer p1] w (fun (r3 : Value) (w1 : World) =>
  ∃ (b2 : Bool), r3 = .bool b2 ∧
  cond b2
  (Q (.tuple #[.int .i64 0, .int .i64 0, .int .i64 2]) w1)
  (CallR Tryz.prog 185 [.pointer p1, .int .i64 2] w1 (fun (r5 : Value) (w2 : World) =>
  ∃ (a4 : Option Addr) (l4 : Nat) (c4 : Nat), r5 = .slice a4 l4 c4 ∧
  cond (Option.isNone a4)
  (Q (.tuple #[.int .i64 0, .int .i64 0, .int .i64 31]) w2)
  (nn p1 (fun (q6 : Addr) =>
  ∃ (p7 : Option Addr), w2.cell? q6 = some ((.pointer p7 : Value)) ∧
  CallR Tryz.prog 28 [.pointer p7] w2 (fun (r11 : Value) (w3 : World) =>
  ∃ (n8 : Int) (n9 : Int) (n10 : Int), r11 = .tuple #[.int .i64 n8, .int .i64 n9, .int .i64 n10] ∧
  cond (n10 != 0)
  (Q (.tuple #[.int .i64 0, .int .i64 0, .int .i64 n10]) w3)
  (let w4 := World.drew w3;
  (0 ≤ (0 : Int) ∧ (0 : Int) < ((l4 : Nat) : Int)) ∧
  nn a4 (fun (q12 : Addr) =>
  ∃ (n13 : Int), w4.cell? (Addr.add q12 (Int.toNat 0)) = some ((.int .i64 n13 : Value)) ∧
  (0 ≤ (1 : Int) ∧ (1 : Int) < ((l4 : Nat) : Int)) ∧
  nn a4 (fun (q14 : Addr) =>
  ∃ (n15 : Int), w4.cell? (Addr.add q14 (Int.toNat 1)) = some ((.int .i64 n15 : Value)) ∧
  nn p1 (fun (q16 : Addr) =>
  (0 ≤ (n13 : Int) ∧ (n13 : Int) < ((64 : Nat) : Int)) ∧
  nn p1 (fun (q17 : Addr) =>
  stC (Addr.add (Addr.add q16 1) (Int.toNat n13 * 2)) (.int .i64 n8) w4 (fun (w5 : World) =>
  stC (Addr.add (Addr.add (Addr.add q16 1) (Int.toNat n13 * 2)) 1) (.bool false) w5 (fun (w6 : World) =>
  (0 ≤ (n15 : Int) ∧ (n15 : Int) < ((64 : Nat) : Int)) ∧
  stC (Addr.add (Addr.add q17 1) (Int.toNat n15 * 2)) (.int .i64 n9) w6 (fun (w7 : World) =>
  stC (Addr.add (Addr.add (Addr.add q17 1) (Int.toNat n15 * 2)) 1) (.bool false) w7 (fun (w8 : World) =>
  (0 ≤ (0 : Int) ∧ (0 : Int) < ((l4 : Nat) : Int)) ∧
  nn a4 (fun (q19 : Addr) =>
  ∃ (n20 : Int), w8.cell? (Addr.add q19 (Int.toNat 0)) = some ((.int .i64 n20 : Value)) ∧
  (0 ≤ (1 : Int) ∧ (1 : Int) < ((l4 : Nat) : Int)) ∧
  nn a4 (fun (q21 : Addr) =>
  ∃ (n22 : Int), w8.cell? (Addr.add q21 (Int.toNat 1)) = some ((.int .i64 n22 : Value)) ∧
  ∀ nd18 : Nat, let w9 := World.drewN w8 nd18;
  Q (.tuple #[.int .i64 n20, .int .i64 n22, .int .i64 0]) w9)))))))))))))))))
theorem C98 {p1 : Option Addr} {Q : Value → World → Prop} {w : World} (h : L98 p1 Q w) : CallR Tryz.prog 98 [.pointer p1] w Q :=
  fun_calls (A := A98) mixed Tryz.func98 (c := (Tryz.f98.body).getD .skip) rfl (by kernel_rfl) (Eq.mp (by kernel_rfl) h)
def A100 : Ann := ⟨[], [], [], [(9, [0, 1, 2, 3, 4, 5, 6, 7, 8, 9])], [], []⟩
def L100 (p1 : Option Addr) (n2 : Int) (Q : Value → World → Prop) (w : World) : Prop :=
  CallR Tryz.prog 96 [.pointer p1] w (fun (r4 : Value) (w1 : World) =>
  ∃ (b3 : Bool), r4 = .bool b3 ∧
  cond b3
  (Q (.tuple #[.int .i64 0, .int .i64 2]) w1)
  (CallR Tryz.prog 185 [.pointer p1, .int .i64 1] w1 (fun (r6 : Value) (w2 : World) =>
  ∃ (a5 : Option Addr) (l5 : Nat) (c5 : Nat), r6 = .slice a5 l5 c5 ∧
  cond (Option.isNone a5)
  (Q (.tuple #[.int .i64 0, .int .i64 31]) w2)
  (nn p1 (fun (q7 : Addr) =>
  ∃ (p8 : Option Addr), w2.cell? q7 = some ((.pointer p8 : Value)) ∧
  CallR Tryz.prog 70 [.pointer p8, .int .i64 n2] w2 (fun (r10 : Value) (w3 : World) =>
  ∃ (n9 : Int), r10 = .int .i64 n9 ∧
  cond (n9 != 0)
  (Q (.tuple #[.int .i64 0, .int .i64 n9]) w3)
  (let w4 := World.drew w3;
  (0 ≤ (0 : Int) ∧ (0 : Int) < ((l5 : Nat) : Int)) ∧
  nn a5 (fun (q11 : Addr) =>
  ∃ (n12 : Int), w4.cell? (Addr.add q11 (Int.toNat 0)) = some ((.int .i64 n12 : Value)) ∧
  nn p1 (fun (q13 : Addr) =>
  (0 ≤ (n12 : Int) ∧ (n12 : Int) < ((64 : Nat) : Int)) ∧
  stC (Addr.add (Addr.add q13 1) (Int.toNat n12 * 2)) (.int .i64 n2) w4 (fun (w5 : World) =>
  stC (Addr.add (Addr.add (Addr.add q13 1) (Int.toNat n12 * 2)) 1) (.bool false) w5 (fun (w6 : World) =>
  (0 ≤ (0 : Int) ∧ (0 : Int) < ((l5 : Nat) : Int)) ∧
  nn a5 (fun (q14 : Addr) =>
  ∃ (n15 : Int), w6.cell? (Addr.add q14 (Int.toNat 0)) = some ((.int .i64 n15 : Value)) ∧
  Q (.tuple #[.int .i64 n15, .int .i64 0]) w6))))))))))))
theorem C100 {p1 : Option Addr} {n2 : Int} {Q : Value → World → Prop} {w : World} (h : L100 p1 n2 Q w) : CallR Tryz.prog 100 [.pointer p1, .int .i64 n2] w Q :=
  fun_calls (A := A100) mixed Tryz.func100 (c := (Tryz.f100.body).getD .skip) rfl (by kernel_rfl) (Eq.mp (by kernel_rfl) h)
def A93 : Ann := ⟨[], [], [], [(4, [0, 1, 2, 3, 4, 5, 6, 7, 8])], [], []⟩
def L93 (p1 : Option Addr) (n2 : Int) (Q : Value → World → Prop) (w : World) : Prop :=
  CallR Tryz.prog 186 [.pointer p1, .int .i64 n2] w (fun (r5 : Value) (w1 : World) =>
  ∃ (p3 : Option Addr) (n4 : Int), r5 = .tuple #[.pointer p3, .int .i64 n4] ∧
  cond (n4 != 0)
  (Q (.int .i64 n4) w1)
  (let w2 := World.drew w1;
  nn p1 (fun (q6 : Addr) =>
  ∃ (p7 : Option Addr), w2.cell? q6 = some ((.pointer p7 : Value)) ∧
  nn p3 (fun (q8 : Addr) =>
  ∃ (n9 : Int), w2.cell? q8 = some ((.int .i64 n9 : Value)) ∧
  CallR Tryz.prog 72 [.pointer p7, .int .i64 n9] w2 (fun (r11 : Value) (w3 : World) =>
  ∃ (n10 : Int), r11 = .int .i64 n10 ∧
  nn p3 (fun (q12 : Addr) =>
  stC q12 (.int .i64 0) w3 (fun (w4 : World) =>
  stC (Addr.add q12 1) (.bool false) w4 (fun (w5 : World) =>
  Q (.int .i64 0) w5))))))))
theorem C93 {p1 : Option Addr} {n2 : Int} {Q : Value → World → Prop} {w : World} (h : L93 p1 n2 Q w) : CallR Tryz.prog 93 [.pointer p1, .int .i64 n2] w Q :=
  fun_calls (A := A93) mixed Tryz.func93 (c := (Tryz.f93.body).getD .skip) rfl (by kernel_rfl) (Eq.mp (by kernel_rfl) h)
def A92 : Ann := ⟨[], [], [], [], [], []⟩
def L92 (p1 : Option Addr) (n2 : Int) (Q : Value → World → Prop) (w : World) : Prop :=
  CallR Tryz.prog 186 [.pointer p1, .int .i64 n2] w (fun (r5 : Value) (w1 : World) =>
  ∃ (p3 : Option Addr) (n4 : Int), r5 = .tuple #[.pointer p3, .int .i64 n4] ∧
  cond (n4 != 0)
  (Q (.tuple #[.int .i64 0, .int .i64 n4]) w1)
  (nn p3 (fun (q6 : Addr) =>
  ∃ (n7 : Int), w1.cell? q6 = some ((.int .i64 n7 : Value)) ∧
  CallR Tryz.prog 100 [.pointer p1, .int .i64 n7] w1 (fun (r10 : Value) (w2 : World) =>
  ∃ (n8 : Int) (n9 : Int), r10 = .tuple #[.int .i64 n8, .int .i64 n9] ∧
  Q (.tuple #[.int .i64 n8, .int .i64 n9]) w2))))
theorem C92 {p1 : Option Addr} {n2 : Int} {Q : Value → World → Prop} {w : World} (h : L92 p1 n2 Q w) : CallR Tryz.prog 92 [.pointer p1, .int .i64 n2] w Q :=
  fun_calls (A := A92) mixed Tryz.func92 (c := (Tryz.f92.body).getD .skip) rfl (by kernel_rfl) (Eq.mp (by kernel_rfl) h)
def A94 : Ann := ⟨[], [], [], [(8, [0, 1, 2, 3, 4, 5, 6, 7, 8, 9]), (12, [0, 1, 2, 3, 4, 5, 6, 7, 8, 9, 10])], [], []⟩
def L94 (p1 : Option Addr) (n2 : Int) (n3 : Int) (Q : Value → World → Prop) (w : World) : Prop :=
  CallR Tryz.prog 186 [.pointer p1, .int .i64 n2] w (fun (r6 : Value) (w1 : World) =>
  ∃ (p4 : Option Addr) (n5 : Int), r6 = .tuple #[.pointer p4, .int .i64 n5] ∧
  cond (n5 != 0)
  (Q (.int .i64 n5) w1)
  (cond (decide (n3 < 0))
  (Q (.int .i64 71) w1)
  (cond (decide (n3 ≥ 64))
  (Q (.int .i64 71) w1)
  (cond (n3 == n2)
  (Q (.int .i64 0) w1)
  (let w2 := World.drew w1;
  nn p1 (fun (q7 : Addr) =>
  ∃ (p8 : Option Addr), w2.cell? q7 = some ((.pointer p8 : Value)) ∧
  nn p4 (fun (q9 : Addr) =>
  ∃ (n10 : Int), w2.cell? q9 = some ((.int .i64 n10 : Value)) ∧
  CallR Tryz.prog 70 [.pointer p8, .int .i64 n10] w2 (fun (r12 : Value) (w3 : World) =>
  ∃ (n11 : Int), r12 = .int .i64 n11 ∧
  cond (n11 != 0)
  (Q (.int .i64 n11) w3)
  (CallR Tryz.prog 93 [.pointer p1, .int .i64 n3] w3 (fun (r14 : Value) (w4 : World) =>
  ∃ (n13 : Int), r14 = .int .i64 n13 ∧
  let w5 := World.drew w4;
  nn p4 (fun (q15 : Addr) =>
  ∃ (n16 : Int), w5.cell? q15 = some ((.int .i64 n16 : Value)) ∧
  nn p1 (fun (q17 : Addr) =>
  (0 ≤ (n3 : Int) ∧ (n3 : Int) < ((64 : Nat) : Int)) ∧
  stC (Addr.add (Addr.add q17 1) (Int.toNat n3 * 2)) (.int .i64 n16) w5 (fun (w6 : World) =>
  stC (Addr.add (Addr.add (Addr.add q17 1) (Int.toNat n3 * 2)) 1) (.bool false) w6 (fun (w7 : World) =>
  Q (.int .i64 0) w7))))))))))))))
theorem C94 {p1 : Option Addr} {n2 : Int} {n3 : Int} {Q : Value → World → Prop} {w : World} (h : L94 p1 n2 n3 Q w) : CallR Tryz.prog 94 [.pointer p1, .int .i64 n2, .int .i64 n3] w Q :=
  fun_calls (A := A94) mixed Tryz.func94 (c := (Tryz.f94.body).getD .skip) rfl (by kernel_rfl) (Eq.mp (by kernel_rfl) h)
def A95 : Ann := ⟨[], [], [], [], [], []⟩
def L95 (p1 : Option Addr) (n2 : Int) (b3 : Bool) (Q : Value → World → Prop) (w : World) : Prop :=
  CallR Tryz.prog 186 [.pointer p1, .int .i64 n2] w (fun (r6 : Value) (w1 : World) =>
  ∃ (p4 : Option Addr) (n5 : Int), r6 = .tuple #[.pointer p4, .int .i64 n5] ∧
  cond (n5 == 0)
  (nn p4 (fun (q7 : Addr) =>
  stC (Addr.add q7 1) (.bool b3) w1 (fun (w2 : World) =>
  Q (.int .i64 n5) w2)))
  (Q (.int .i64 n5) w1))
theorem C95 {p1 : Option Addr} {n2 : Int} {b3 : Bool} {Q : Value → World → Prop} {w : World} (h : L95 p1 n2 b3 Q w) : CallR Tryz.prog 95 [.pointer p1, .int .i64 n2, .bool b3] w Q :=
  fun_calls (A := A95) mixed Tryz.func95 (c := (Tryz.f95.body).getD .skip) rfl (by kernel_rfl) (Eq.mp (by kernel_rfl) h)
def A114 : Ann := ⟨[], [], [], [], [], []⟩
def L114 (p1 : Option Addr) (n2 : Int) (Q : Value → World → Prop) (w : World) : Prop :=
  CallR Tryz.prog 186 [.pointer p1, .int .i64 n2] w (fun (r5 : Value) (w1 : World) =>
  ∃ (p3 : Option Addr) (n4 : Int), r5 = .tuple #[.pointer p3, .int .i64 n4] ∧
  cond (n4 != 0)
  (Q (.tuple #[.bool false, .int .i64 n4]) w1)
  (nn p3 (fun (q6 : Addr) =>
  ∃ (b7 : Bool), w1.cell? (Addr.add q6 1) = some ((.bool b7 : Value)) ∧
  Q (.tuple #[.bool b7, .int .i64 0]) w1)))
theorem C114 {p1 : Option Addr} {n2 : Int} {Q : Value → World → Prop} {w : World} (h : L114 p1 n2 Q w) : CallR Tryz.prog 114 [.pointer p1, .int .i64 n2] w Q :=
  fun_calls (A := A114) mixed Tryz.func114 (c := (Tryz.f114.body).getD .skip) rfl (by kernel_rfl) (Eq.mp (by kernel_rfl) h)
def A116 : Ann := ⟨[], [], [], [], [], []⟩
def L116 (p1 : Option Addr) (n2 : Int) (Q : Value → World → Prop) (w : World) : Prop :=
  CallR Tryz.prog 186 [.pointer p1, .int .i64 n2] w (fun (r5 : Value) (w1 : World) =>
  ∃ (p3 : Option Addr) (n4 : Int), r5 = .tuple #[.pointer p3, .int .i64 n4] ∧
  cond (n4 != 0)
  (Q (.tuple #[.int .i64 0, .int .i64 n4]) w1)
  (nn p3 (fun (q6 : Addr) =>
  ∃ (n7 : Int), w1.cell? q6 = some ((.int .i64 n7 : Value)) ∧
  Q (.tuple #[.int .i64 n7, .int .i64 0]) w1)))
theorem C116 {p1 : Option Addr} {n2 : Int} {Q : Value → World → Prop} {w : World} (h : L116 p1 n2 Q w) : CallR Tryz.prog 116 [.pointer p1, .int .i64 n2] w Q :=
  fun_calls (A := A116) mixed Tryz.func116 (c := (Tryz.f116.body).getD .skip) rfl (by kernel_rfl) (Eq.mp (by kernel_rfl) h)
def A189 : Ann := ⟨[], [], [], [], [], []⟩
def L189 (p1 : Option Addr) (n2 : Int) (Q : Value → World → Prop) (w : World) : Prop :=
  let w1 := World.alloc w (Obj.cells #[.pointer none, .int .i64 0] 70);
  CallR Tryz.prog 116 [.pointer p1, .int .i64 n2] w1 (fun (r5 : Value) (w2 : World) =>
  ∃ (n3 : Int) (n4 : Int), r5 = .tuple #[.int .i64 n3, .int .i64 n4] ∧
  cond (n4 != 0)
  (stC (Addr.mk w.heap.size 0 none) (.pointer none) w2 (fun (w3 : World) =>
  stC (Addr.mk w.heap.size 1 none) (.int .i64 0) w3 (fun (w4 : World) =>
  ∃ (p6 : Option Addr) (n7 : Int), w4.cell? (Addr.mk w.heap.size 0 none) = some ((.pointer p6 : Value)) ∧ w4.cell? (Addr.mk w.heap.size 1 none) = some ((.int .i64 n7 : Value)) ∧ 
  Q (.tuple #[.agg #[.pointer p6, .int .i64 n7], .int .i64 n4]) w4)))
  (nn p1 (fun (q8 : Addr) =>
  ∃ (p9 : Option Addr), w2.cell? q8 = some ((.pointer p9 : Value)) ∧
  stC (Addr.mk w.heap.size 0 none) (.pointer p9) w2 (fun (w5 : World) =>
  stC (Addr.mk w.heap.size 1 none) (.int .i64 n3) w5 (fun (w6 : World) =>
  ∃ (p10 : Option Addr) (n11 : Int), w6.cell? (Addr.mk w.heap.size 0 none) = some ((.pointer p10 : Value)) ∧ w6.cell? (Addr.mk w.heap.size 1 none) = some ((.int .i64 n11 : Value)) ∧ 
  Q (.tuple #[.agg #[.pointer p10, .int .i64 n11], .int .i64 0]) w6)))))
theorem C189 {p1 : Option Addr} {n2 : Int} {Q : Value → World → Prop} {w : World} (h : L189 p1 n2 Q w) : CallR Tryz.prog 189 [.pointer p1, .int .i64 n2] w Q :=
  fun_calls (A := A189) mixed Tryz.func189 (c := (Tryz.f189.body).getD .skip) rfl (by kernel_rfl) (Eq.mp (by kernel_rfl) h)
def A106 : Ann := ⟨[], [], [], [], [], []⟩
def L106 (p1 : Option Addr) (n2 : Int) (n3 : Int) (Q : Value → World → Prop) (w : World) : Prop :=
  CallR Tryz.prog 189 [.pointer p1, .int .i64 n2] w (fun (r7 : Value) (w1 : World) =>
  ∃ (p4 : Option Addr) (n5 : Int) (n6 : Int), r7 = .tuple #[.agg #[.pointer p4, .int .i64 n5], .int .i64 n6] ∧
  let w2 := World.alloc w1 (Obj.cells #[.pointer none, .int .i64 0] 70);
  stC (Addr.mk w1.heap.size 0 none) (.pointer p4) w2 (fun (w3 : World) =>
  stC (Addr.mk w1.heap.size 1 none) (.int .i64 n5) w3 (fun (w4 : World) =>
  cond (n6 != 0)
  (Q (.tuple #[.slice none 0 0, .int .i64 n6]) w4)
  (∃ (p8 : Option Addr) (n9 : Int), w4.cell? (Addr.mk w1.heap.size 0 none) = some ((.pointer p8 : Value)) ∧ w4.cell? (Addr.mk w1.heap.size 1 none) = some ((.int .i64 n9 : Value)) ∧ 
  CallR Tryz.prog 190 [.agg #[.pointer p8, .int .i64 n9], .int .i64 n3] w4 (fun (r12 : Value) (w5 : World) =>
  ∃ (a10 : Option Addr) (l10 : Nat) (c10 : Nat) (n11 : Int), r12 = .tuple #[.slice a10 l10 c10, .int .i64 n11] ∧
  Q (.tuple #[.slice a10 l10 c10, .int .i64 n11]) w5)))))
theorem C106 {p1 : Option Addr} {n2 : Int} {n3 : Int} {Q : Value → World → Prop} {w : World} (h : L106 p1 n2 n3 Q w) : CallR Tryz.prog 106 [.pointer p1, .int .i64 n2, .int .i64 n3] w Q :=
  fun_calls (A := A106) mixed Tryz.func106 (c := (Tryz.f106.body).getD .skip) rfl (by kernel_rfl) (Eq.mp (by kernel_rfl) h)
def A108 : Ann := ⟨[], [], [], [], [], []⟩
def L108 (p1 : Option Addr) (n2 : Int) (a3 : Option Addr) (l3 : Nat) (c3 : Nat) (Q : Value → World → Prop) (w : World) : Prop :=
  CallR Tryz.prog 189 [.pointer p1, .int .i64 n2] w (fun (r7 : Value) (w1 : World) =>
  ∃ (p4 : Option Addr) (n5 : Int) (n6 : Int), r7 = .tuple #[.agg #[.pointer p4, .int .i64 n5], .int .i64 n6] ∧
  let w2 := World.alloc w1 (Obj.cells #[.pointer none, .int .i64 0] 70);
  stC (Addr.mk w1.heap.size 0 none) (.pointer p4) w2 (fun (w3 : World) =>
  stC (Addr.mk w1.heap.size 1 none) (.int .i64 n5) w3 (fun (w4 : World) =>
  cond (n6 != 0)
  (Q (.tuple #[.int .i64 0, .int .i64 n6]) w4)
  (∃ (p8 : Option Addr) (n9 : Int), w4.cell? (Addr.mk w1.heap.size 0 none) = some ((.pointer p8 : Value)) ∧ w4.cell? (Addr.mk w1.heap.size 1 none) = some ((.int .i64 n9 : Value)) ∧ 
  CallR Tryz.prog 191 [.agg #[.pointer p8, .int .i64 n9], .slice a3 l3 c3] w4 (fun (r12 : Value) (w5 : World) =>
  ∃ (n10 : Int) (n11 : Int), r12 = .tuple #[.int .i64 n10, .int .i64 n11] ∧
  Q (.tuple #[.int .i64 n10, .int .i64 n11]) w5)))))
theorem C108 {p1 : Option Addr} {n2 : Int} {a3 : Option Addr} {l3 : Nat} {c3 : Nat} {Q : Value → World → Prop} {w : World} (h : L108 p1 n2 a3 l3 c3 Q w) : CallR Tryz.prog 108 [.pointer p1, .int .i64 n2, .slice a3 l3 c3] w Q :=
  fun_calls (A := A108) mixed Tryz.func108 (c := (Tryz.f108.body).getD .skip) rfl (by kernel_rfl) (Eq.mp (by kernel_rfl) h)
def A110 : Ann := ⟨[], [], [], [], [], []⟩
def L110 (p1 : Option Addr) (n2 : Int) (n3 : Int) (n4 : Int) (Q : Value → World → Prop) (w : World) : Prop :=
  CallR Tryz.prog 189 [.pointer p1, .int .i64 n2] w (fun (r8 : Value) (w1 : World) =>
  ∃ (p5 : Option Addr) (n6 : Int) (n7 : Int), r8 = .tuple #[.agg #[.pointer p5, .int .i64 n6], .int .i64 n7] ∧
  let w2 := World.alloc w1 (Obj.cells #[.pointer none, .int .i64 0] 70);
  stC (Addr.mk w1.heap.size 0 none) (.pointer p5) w2 (fun (w3 : World) =>
  stC (Addr.mk w1.heap.size 1 none) (.int .i64 n6) w3 (fun (w4 : World) =>
  cond (n7 != 0)
  (Q (.tuple #[.int .i64 0, .int .i64 n7]) w4)
  (∃ (p9 : Option Addr) (n10 : Int), w4.cell? (Addr.mk w1.heap.size 0 none) = some ((.pointer p9 : Value)) ∧ w4.cell? (Addr.mk w1.heap.size 1 none) = some ((.int .i64 n10 : Value)) ∧ 
  CallR Tryz.prog 192 [.agg #[.pointer p9, .int .i64 n10], .int .i64 n3, .int .i64 n4] w4 (fun (r13 : Value) (w5 : World) =>
  ∃ (n11 : Int) (n12 : Int), r13 = .tuple #[.int .i64 n11, .int .i64 n12] ∧
  Q (.tuple #[.int .i64 n11, .int .i64 n12]) w5)))))
theorem C110 {p1 : Option Addr} {n2 : Int} {n3 : Int} {n4 : Int} {Q : Value → World → Prop} {w : World} (h : L110 p1 n2 n3 n4 Q w) : CallR Tryz.prog 110 [.pointer p1, .int .i64 n2, .int .i64 n3, .int .i64 n4] w Q :=
  fun_calls (A := A110) mixed Tryz.func110 (c := (Tryz.f110.body).getD .skip) rfl (by kernel_rfl) (Eq.mp (by kernel_rfl) h)
def A20 : Ann := ⟨[(5, [(17, .one (.int .i64))])], [], [], [(7, [0, 1, 2, 3, 4, 5, 6, 7, 8, 9, 10, 11, 12, 13, 14, 15, 16, 17]), (8, [0, 1, 2, 3, 4, 5, 6, 7, 8])], [], []⟩
def L20 (p1 : Option Addr) (Q : Value → World → Prop) (w : World) : Prop :=
  CallR Tryz.prog 96 [.pointer p1] w (fun (r3 : Value) (w1 : World) =>
  ∃ (b2 : Bool), r3 = .bool b2 ∧
  cond b2
  (Q (.pointer none) w1)
  (nn p1 (fun (q4 : Addr) =>
  ∃ (p5 : Option Addr), w1.cell? q4 = some ((.pointer p5 : Value)) ∧
  CallR Tryz.prog 18 [.pointer p5] w1 (fun (r7 : Value) (w2 : World) =>
  ∃ (p6 : Option Addr), r7 = .pointer p6 ∧
  nn p1 (fun (q8 : Addr) =>
  ∃ (vs9 : List Value), vs9.length = 128 ∧ (∀ i v, vs9[i]? = some v → w2.cell? (Addr.add (Addr.add q8 1) i) = some v) ∧
  ∃ (I10 : List Value → World → Prop) (mu11 : List Value → World → Nat),
  I10 [.int .i64 0] w2 ∧
  ∀ (_ : Env) (n12 : Int) (w3 : World), I10 [.int .i64 n12] w3 →
  cond (decide (n12 < 64))
  ((0 ≤ (n12 : Int) ∧ (n12 : Int) < ((64 : Nat) : Int)) ∧
  ∃ (n13 : Int) (b14 : Bool), List.take 2 (List.drop (Int.toNat n12 * 2) (Array.toList (vs9).toArray)) = [.int .i64 n13, .bool b14] ∧
  let w4 := World.alloc w3 (Obj.cells #[.int .i64 0, .bool false] 171);
  stC (Addr.mk w3.heap.size 0 none) (.int .i64 n13) w4 (fun (w5 : World) =>
  stC (Addr.mk w3.heap.size 1 none) (.bool b14) w5 (fun (w6 : World) =>
  let w7 := World.drew w6;
  ∃ (n15 : Int), w7.cell? (Addr.mk w3.heap.size 0 none) = some ((.int .i64 n15 : Value)) ∧
  cond (n15 != 0)
  (∃ (b16 : Bool), w7.cell? (Addr.mk w3.heap.size 1 none) = some ((.bool b16 : Value)) ∧
  cond (!b16)
  (nn p1 (fun (q17 : Addr) =>
  ∃ (p18 : Option Addr), w7.cell? q17 = some ((.pointer p18 : Value)) ∧
  ∃ (n19 : Int), w7.cell? (Addr.mk w3.heap.size 0 none) = some ((.int .i64 n19 : Value)) ∧
  CallR Tryz.prog 70 [.pointer p18, .int .i64 n19] w7 (fun (r21 : Value) (w8 : World) =>
  ∃ (n20 : Int), r21 = .int .i64 n20 ∧
  cond (n20 == 0)
  (let w9 := World.drew w8;
  ∃ (n22 : Int), w9.cell? (Addr.mk w3.heap.size 0 none) = some ((.int .i64 n22 : Value)) ∧
  nn p6 (fun (q23 : Addr) =>
  (0 ≤ (n12 : Int) ∧ (n12 : Int) < ((64 : Nat) : Int)) ∧
  stC (Addr.add (Addr.add q23 1) (Int.toNat n12 * 2)) (.int .i64 n22) w9 (fun (w10 : World) =>
  inI (n12 + 1) ∧
  I10 [.int .i64 (n12 + 1)] w10 ∧ mu11 [.int .i64 (n12 + 1)] w10 < mu11 [.int .i64 n12] w3)))
  (inI (n12 + 1) ∧
  I10 [.int .i64 (n12 + 1)] w8 ∧ mu11 [.int .i64 (n12 + 1)] w8 < mu11 [.int .i64 n12] w3))))
  (inI (n12 + 1) ∧
  I10 [.int .i64 (n12 + 1)] w7 ∧ mu11 [.int .i64 (n12 + 1)] w7 < mu11 [.int .i64 n12] w3))
  (inI (n12 + 1) ∧
  I10 [.int .i64 (n12 + 1)] w7 ∧ mu11 [.int .i64 (n12 + 1)] w7 < mu11 [.int .i64 n12] w3))))
  (Q (.pointer p6) w3))))))
theorem C20 {p1 : Option Addr} {Q : Value → World → Prop} {w : World} (h : L20 p1 Q w) : CallR Tryz.prog 20 [.pointer p1] w Q :=
  fun_calls (A := A20) mixed Tryz.func20 (c := (Tryz.f20.body).getD .skip) rfl (by kernel_rfl) (Eq.mp (by kernel_rfl) h)
def A112 : Ann := ⟨[(1, [(7, .one (.int .i64))])], [], [], [], [], []⟩
def L112 (p1 : Option Addr) (Q : Value → World → Prop) (w : World) : Prop :=
  CallR Tryz.prog 24 [.pointer p1] w (fun (r3 : Value) (w1 : World) =>
  ∃ (a2 : Option Addr) (l2 : Nat) (c2 : Nat), r3 = .slice a2 l2 c2 ∧
  ∃ (I4 : List Value → World → Prop) (mu5 : List Value → World → Nat),
  I4 [.int .i64 0] w1 ∧
  ∀ (_ : Env) (n6 : Int) (w2 : World), I4 [.int .i64 n6] w2 →
  cond (decide (n6 < (((l2 : Nat) : Int))))
  ((0 ≤ (n6 : Int) ∧ (n6 : Int) < ((l2 : Nat) : Int)) ∧
  nn a2 (fun (q7 : Addr) =>
  ∃ (n8 : Int), w2.cell? (Addr.add q7 (Int.toNat n6)) = some ((.int .i64 n8 : Value)) ∧
  CallR Tryz.prog 93 [.pointer p1, .int .i64 n8] w2 (fun (r10 : Value) (w3 : World) =>
  ∃ (n9 : Int), r10 = .int .i64 n9 ∧
  inI (n6 + 1) ∧
  I4 [.int .i64 (n6 + 1)] w3 ∧ mu5 [.int .i64 (n6 + 1)] w3 < mu5 [.int .i64 n6] w2)))
  (Q (.tuple #[]) w2))
theorem C112 {p1 : Option Addr} {Q : Value → World → Prop} {w : World} (h : L112 p1 Q w) : CallR Tryz.prog 112 [.pointer p1] w Q :=
  fun_calls (A := A112) mixed Tryz.func112 (c := (Tryz.f112.body).getD .skip) rfl (by kernel_rfl) (Eq.mp (by kernel_rfl) h)
def A24 : Ann := ⟨[(5, [(3, .one (.slice)), (12, .one (.int .i64))])], [], [], [], [], []⟩
def L24 (p1 : Option Addr) (Q : Value → World → Prop) (w : World) : Prop :=
  CallR Tryz.prog 96 [.pointer p1] w (fun (r3 : Value) (w1 : World) =>
  ∃ (b2 : Bool), r3 = .bool b2 ∧
  cond b2
  (Q (.slice none 0 0) w1)
  (nn p1 (fun (q4 : Addr) =>
  ∃ (vs5 : List Value), vs5.length = 128 ∧ (∀ i v, vs5[i]? = some v → w1.cell? (Addr.add (Addr.add q4 1) i) = some v) ∧
  ∃ (I6 : List Value → World → Prop) (mu7 : List Value → World → Nat),
  I6 [.slice none 0 0, .int .i64 0] w1 ∧
  ∀ (_ : Env) (a8 : Option Addr) (l8 : Nat) (c8 : Nat) (n9 : Int) (w2 : World), I6 [.slice a8 l8 c8, .int .i64 n9] w2 →
  cond (decide (n9 < 64))
  ((0 ≤ (n9 : Int) ∧ (n9 : Int) < ((64 : Nat) : Int)) ∧
  ∃ (n10 : Int) (b11 : Bool), List.take 2 (List.drop (Int.toNat n9 * 2) (Array.toList (vs5).toArray)) = [.int .i64 n10, .bool b11] ∧
  let w3 := World.alloc w2 (Obj.cells #[.int .i64 0, .bool false] 171);
  stC (Addr.mk w2.heap.size 0 none) (.int .i64 n10) w3 (fun (w4 : World) =>
  stC (Addr.mk w2.heap.size 1 none) (.bool b11) w4 (fun (w5 : World) =>
  ∃ (n12 : Int), w5.cell? (Addr.mk w2.heap.size 0 none) = some ((.int .i64 n12 : Value)) ∧
  cond (n12 != 0)
  (let w6 := World.alloc w5 (Obj.cells #[.int .i64 n9] 3);
  ∃ (a13 : Option Addr) (l13 : Nat) (c13 : Nat) (w7 : World), Sem.run Tryz.prog (Builtin.append_ #[57, 57] 57 #[.slice a8 l8 c8, .slice (some (Addr.mk w5.heap.size 0 none)) 1 1]) w6 = .ok ((.slice a13 l13 c13 : Value)) w7 ∧
  inI (n9 + 1) ∧
  I6 [.slice a13 l13 c13, .int .i64 (n9 + 1)] w7 ∧ mu7 [.slice a13 l13 c13, .int .i64 (n9 + 1)] w7 < mu7 [.slice a8 l8 c8, .int .i64 n9] w2)
  (inI (n9 + 1) ∧
  I6 [.slice a8 l8 c8, .int .i64 (n9 + 1)] w5 ∧ mu7 [.slice a8 l8 c8, .int .i64 (n9 + 1)] w5 < mu7 [.slice a8 l8 c8, .int .i64 n9] w2))))
  (Q (.slice a8 l8 c8) w2))))
theorem C24 {p1 : Option Addr} {Q : Value → World → Prop} {w : World} (h : L24 p1 Q w) : CallR Tryz.prog 24 [.pointer p1] w Q :=
  fun_calls (A := A24) mixed Tryz.func24 (c := (Tryz.f24.body).getD .skip) rfl (by kernel_rfl) (Eq.mp (by kernel_rfl) h)
def A16 : Ann := ⟨[], [], [], [], [], []⟩
def L16 (n1 : Int) (Q : Value → World → Prop) (w : World) : Prop :=
  Q (.int .i64 n1) w
theorem C16 {n1 : Int} {Q : Value → World → Prop} {w : World} (h : L16 n1 Q w) : CallR Tryz.prog 16 [.int .i64 n1] w Q :=
  fun_calls (A := A16) mixed Tryz.func16 (c := (Tryz.f16.body).getD .skip) rfl (by kernel_rfl) (Eq.mp (by kernel_rfl) h)
def A23 : Ann := ⟨[(4, [(5, .one (.int .i64))])], [], [], [], [], []⟩
def L23 (a1 : Option Addr) (l1 : Nat) (c1 : Nat) (a2 : Option Addr) (l2 : Nat) (c2 : Nat) (Q : Value → World → Prop) (w : World) : Prop :=
  cond ((((l1 : Nat) : Int)) != (((l2 : Nat) : Int)))
  (Q (.bool false) w)
  (∃ (I3 : List Value → World → Prop) (mu4 : List Value → World → Nat),
  I3 [.int .i64 0] w ∧
  ∀ (_ : Env) (n5 : Int) (w1 : World), I3 [.int .i64 n5] w1 →
  cond (decide (n5 < (((l1 : Nat) : Int))))
  ((0 ≤ (n5 : Int) ∧ (n5 : Int) < ((l1 : Nat) : Int)) ∧
  nn a1 (fun (q7 : Addr) =>
  ∃ (n8 : Int), w1.cell? (Addr.add q7 (Int.toNat n5)) = some ((.int .i64 n8 : Value)) ∧
  (0 ≤ (n5 : Int) ∧ (n5 : Int) < ((l2 : Nat) : Int)) ∧
  nn a2 (fun (q9 : Addr) =>
  ∃ (n10 : Int), w1.cell? (Addr.add q9 (Int.toNat n5)) = some ((.int .i64 n10 : Value)) ∧
  ∀ nd6 : Nat, let w2 := World.drewN w1 nd6;
  cond (n8 != n10)
  (Q (.bool false) w2)
  (inI (n5 + 1) ∧
  I3 [.int .i64 (n5 + 1)] w2 ∧ mu4 [.int .i64 (n5 + 1)] w2 < mu4 [.int .i64 n5] w1))))
  (Q (.bool true) w1))
theorem C23 {a1 : Option Addr} {l1 : Nat} {c1 : Nat} {a2 : Option Addr} {l2 : Nat} {c2 : Nat} {Q : Value → World → Prop} {w : World} (h : L23 a1 l1 c1 a2 l2 c2 Q w) : CallR Tryz.prog 23 [.slice a1 l1 c1, .slice a2 l2 c2] w Q :=
  fun_calls (A := A23) mixed Tryz.func23 (c := (Tryz.f23.body).getD .skip) rfl (by kernel_rfl) (Eq.mp (by kernel_rfl) h)
def A17 : Ann := ⟨[], [], [], [], [], []⟩
def L17 (Q : Value → World → Prop) (w : World) : Prop :=
  let w1 := World.alloc w (Obj.cells #[.string (ByteArray.mk #[97]), .slice none 0 0, .string (ByteArray.mk #[98]), .slice none 0 0] 122);
  CallR Tryz.prog 8 [.agg #[.slice (some (Addr.mk w.heap.size 0 none)) 2 2, .slice none 0 0, .slice none 0 0]] w1 (fun (r3 : Value) (w2 : World) =>
  ∃ (p1 : Option Addr) (n2 : Int), r3 = .tuple #[.pointer p1, .int .i64 n2] ∧
  CallR Tryz.prog 18 [.pointer p1] w2 (fun (r5 : Value) (w3 : World) =>
  ∃ (p4 : Option Addr), r5 = .pointer p4 ∧
  CallR Tryz.prog 16 [.int .i64 n2] w3 (fun (r7 : Value) (w4 : World) =>
  ∃ (n6 : Int), r7 = .int .i64 n6 ∧
  cond (n6 != 0)
  (Q (.bool false) w4)
  (cond (Option.isNone p4)
  (Q (.bool false) w4)
  (CallR Tryz.prog 91 [.pointer p4, .string (ByteArray.mk #[97]), .int .i64 1] w4 (fun (r10 : Value) (w5 : World) =>
  ∃ (n8 : Int) (n9 : Int), r10 = .tuple #[.int .i64 n8, .int .i64 n9] ∧
  CallR Tryz.prog 92 [.pointer p4, .int .i64 n8] w5 (fun (r13 : Value) (w6 : World) =>
  ∃ (n11 : Int) (n12 : Int), r13 = .tuple #[.int .i64 n11, .int .i64 n12] ∧
  CallR Tryz.prog 93 [.pointer p4, .int .i64 0] w6 (fun (r15 : Value) (w7 : World) =>
  ∃ (n14 : Int), r15 = .int .i64 n14 ∧
  CallR Tryz.prog 91 [.pointer p4, .string (ByteArray.mk #[98]), .int .i64 1] w7 (fun (r18 : Value) (w8 : World) =>
  ∃ (n16 : Int) (n17 : Int), r18 = .tuple #[.int .i64 n16, .int .i64 n17] ∧
  CallR Tryz.prog 94 [.pointer p4, .int .i64 n11, .int .i64 5] w8 (fun (r20 : Value) (w9 : World) =>
  ∃ (n19 : Int), r20 = .int .i64 n19 ∧
  CallR Tryz.prog 95 [.pointer p4, .int .i64 1, .bool true] w9 (fun (r22 : Value) (w10 : World) =>
  ∃ (n21 : Int), r22 = .int .i64 n21 ∧
  CallR Tryz.prog 20 [.pointer p4] w10 (fun (r24 : Value) (w11 : World) =>
  ∃ (p23 : Option Addr), r24 = .pointer p23 ∧
  CallR Tryz.prog 16 [.int .i64 n9] w11 (fun (r26 : Value) (w12 : World) =>
  ∃ (n25 : Int), r26 = .int .i64 n25 ∧
  CallR Tryz.prog 16 [.int .i64 n12] w12 (fun (r28 : Value) (w13 : World) =>
  ∃ (n27 : Int), r28 = .int .i64 n27 ∧
  inI (n25 + n27) ∧
  CallR Tryz.prog 16 [.int .i64 n14] w13 (fun (r30 : Value) (w14 : World) =>
  ∃ (n29 : Int), r30 = .int .i64 n29 ∧
  inI ((n25 + n27) + n29) ∧
  CallR Tryz.prog 16 [.int .i64 n17] w14 (fun (r32 : Value) (w15 : World) =>
  ∃ (n31 : Int), r32 = .int .i64 n31 ∧
  inI (((n25 + n27) + n29) + n31) ∧
  CallR Tryz.prog 16 [.int .i64 n19] w15 (fun (r34 : Value) (w16 : World) =>
  ∃ (n33 : Int), r34 = .int .i64 n33 ∧
  inI ((((n25 + n27) + n29) + n31) + n33) ∧
  CallR Tryz.prog 16 [.int .i64 n21] w16 (fun (r36 : Value) (w17 : World) =>
  ∃ (n35 : Int), r36 = .int .i64 n35 ∧
  inI (((((n25 + n27) + n29) + n31) + n33) + n35) ∧
  cond ((((((n25 + n27) + n29) + n31) + n33) + n35) == 0)
  (cond (n8 == 0)
  (cond (n11 == 1)
  (cond (n16 == 0)
  (cond (!(Option.isNone p23))
  (CallR Tryz.prog 24 [.pointer p23] w17 (fun (r38 : Value) (w18 : World) =>
  ∃ (a37 : Option Addr) (l37 : Nat) (c37 : Nat), r38 = .slice a37 l37 c37 ∧
  let w19 := World.alloc w18 (Obj.cells #[.int .i64 0, .int .i64 5] 3);
  CallR Tryz.prog 23 [.slice a37 l37 c37, .slice (some (Addr.mk w18.heap.size 0 none)) 2 2] w19 (fun (r40 : Value) (w20 : World) =>
  ∃ (b39 : Bool), r40 = .bool b39 ∧
  Q (.bool b39) w20)))
  (Q (.bool false) w17))
  (Q (.bool false) w17))
  (Q (.bool false) w17))
  (Q (.bool false) w17))
  (Q (.bool false) w17)))))))))))))))))))
theorem C17 {Q : Value → World → Prop} {w : World} (h : L17 Q w) : CallR Tryz.prog 17 [] w Q :=
  fun_calls (A := A17) mixed Tryz.func17 (c := (Tryz.f17.body).getD .skip) rfl (by kernel_rfl) (Eq.mp (by kernel_rfl) h)
def A19 : Ann := ⟨[], [], [], [], [], []⟩
def L19 (p1 : Option Addr) (Q : Value → World → Prop) (w : World) : Prop :=
  let w1 := World.alloc w (Obj.cells #[.pointer p1, .int .i64 0, .bool false, .int .i64 0, .bool false, .int .i64 0, .bool false, .int .i64 0, .bool false, .int .i64 0, .bool false, .int .i64 0, .bool false, .int .i64 0, .bool false, .int .i64 0, .bool false, .int .i64 0, .bool false, .int .i64 0, .bool false, .int .i64 0, .bool false, .int .i64 0, .bool false, .int .i64 0, .bool false, .int .i64 0, .bool false, .int .i64 0, .bool false, .int .i64 0, .bool false, .int .i64 0, .bool false, .int .i64 0, .bool false, .int .i64 0, .bool false, .int .i64 0, .bool false, .int .i64 0, .bool false, .int .i64 0, .bool false, .int .i64 0, .bool false, .int .i64 0, .bool false, .int .i64 0, .bool false, .int .i64 0, .bool false, .int .i64 0, .bool false, .int .i64 0, .bool false, .int .i64 0, .bool false, .int .i64 0, .bool false, .int .i64 0, .bool false, .int .i64 0, .bool false, .int .i64 0, .bool false, .int .i64 0, .bool false, .int .i64 0, .bool false, .int .i64 0, .bool false, .int .i64 0, .bool false, .int .i64 0, .bool false, .int .i64 0, .bool false, .int .i64 0, .bool false, .int .i64 0, .bool false, .int .i64 0, .bool false, .int .i64 0, .bool false, .int .i64 0, .bool false, .int .i64 0, .bool false, .int .i64 0, .bool false, .int .i64 0, .bool false, .int .i64 0, .bool false, .int .i64 0, .bool false, .int .i64 0, .bool false, .int .i64 0, .bool false, .int .i64 0, .bool false, .int .i64 0, .bool false, .int .i64 0, .bool false, .int .i64 0, .bool false, .int .i64 0, .bool false, .int .i64 0, .bool false, .int .i64 0, .bool false, .int .i64 0, .bool false, .int .i64 0, .bool false, .int .i64 0, .bool false, .int .i64 0, .bool false, .int .i64 0, .bool false, .int .i64 0, .bool false] 179);
  Q (.pointer (some (Addr.mk w.heap.size 0 none))) w1
theorem C19 {p1 : Option Addr} {Q : Value → World → Prop} {w : World} (h : L19 p1 Q w) : CallR Tryz.prog 19 [.pointer p1] w Q :=
  fun_calls (A := A19) mixed Tryz.func19 (c := (Tryz.f19.body).getD .skip) rfl (by kernel_rfl) (Eq.mp (by kernel_rfl) h)
def A187 : Ann := ⟨[(2, [(5, .one (.int .i64))])], [], [], [], [], []⟩
def L187 (p1 : Option Addr) (n2 : Int) (Q : Value → World → Prop) (w : World) : Prop :=
  ∃ (I3 : List Value → World → Prop) (mu4 : List Value → World → Nat),
  I3 [.int .i64 n2] w ∧
  ∀ (_ : Env) (n5 : Int) (w1 : World), I3 [.int .i64 n5] w1 →
  cond (decide (n5 < 64))
  (nn p1 (fun (q6 : Addr) =>
  (0 ≤ (n5 : Int) ∧ (n5 : Int) < ((64 : Nat) : Int)) ∧
  ∃ (n7 : Int), w1.cell? (Addr.add (Addr.add q6 1) (Int.toNat n5 * 2)) = some ((.int .i64 n7 : Value)) ∧
  cond (n7 == 0)
  (Q (.int .i64 n5) w1)
  (inI (n5 + 1) ∧
  I3 [.int .i64 (n5 + 1)] w1 ∧ mu4 [.int .i64 (n5 + 1)] w1 < mu4 [.int .i64 n5] w1)))
  (Q (.int .i64 64) w1)
theorem C187 {p1 : Option Addr} {n2 : Int} {Q : Value → World → Prop} {w : World} (h : L187 p1 n2 Q w) : CallR Tryz.prog 187 [.pointer p1, .int .i64 n2] w Q :=
  fun_calls (A := A187) mixed Tryz.func187 (c := (Tryz.f187.body).getD .skip) rfl (by kernel_rfl) (Eq.mp (by kernel_rfl) h)
def A188 : Ann := ⟨[], [], [], [], [], []⟩
def L188 (p1 : Option Addr) (n2 : Int) (Q : Value → World → Prop) (w : World) : Prop :=
  cond (decide (n2 ≥ 0))
  (cond (decide (n2 < 64))
  (nn p1 (fun (q3 : Addr) =>
  (0 ≤ (n2 : Int) ∧ (n2 : Int) < ((64 : Nat) : Int)) ∧
  ∃ (n4 : Int), w.cell? (Addr.add (Addr.add q3 1) (Int.toNat n2 * 2)) = some ((.int .i64 n4 : Value)) ∧
  Q (.bool (n4 != 0)) w))
  (Q (.bool false) w))
  (Q (.bool false) w)
theorem C188 {p1 : Option Addr} {n2 : Int} {Q : Value → World → Prop} {w : World} (h : L188 p1 n2 Q w) : CallR Tryz.prog 188 [.pointer p1, .int .i64 n2] w Q :=
  fun_calls (A := A188) mixed Tryz.func188 (c := (Tryz.f188.body).getD .skip) rfl (by kernel_rfl) (Eq.mp (by kernel_rfl) h)
def A97 : Ann := ⟨[], [], [], [], [], []⟩
def L97 (p1 : Option Addr) (s2 : ByteArray) (n3 : Int) (Q : Value → World → Prop) (w : World) : Prop :=
  CallR Tryz.prog 187 [.pointer p1, .int .i64 0] w (fun (r5 : Value) (w1 : World) =>
  ∃ (n4 : Int), r5 = .int .i64 n4 ∧
  cond (n4 == 64)
  (Q (.tuple #[.int .i64 0, .int .i64 31]) w1)
  (nn p1 (fun (q6 : Addr) =>
  ∃ (p7 : Option Addr), w1.cell? q6 = some ((.pointer p7 : Value)) ∧
  CallR Tryz.prog 31 [.pointer p7, .string s2, .int .i64 n3] w1 (fun (r10 : Value) (w2 : World) =>
  ∃ (n8 : Int) (n9 : Int), r10 = .tuple #[.int .i64 n8, .int .i64 n9] ∧
  cond (n9 != 0)
  (Q (.tuple #[.int .i64 0, .int .i64 n9]) w2)
  (nn p1 (fun (q11 : Addr) =>
  (0 ≤ (n4 : Int) ∧ (n4 : Int) < ((64 : Nat) : Int)) ∧
  stC (Addr.add (Addr.add q11 1) (Int.toNat n4 * 2)) (.int .i64 n8) w2 (fun (w3 : World) =>
  stC (Addr.add (Addr.add (Addr.add q11 1) (Int.toNat n4 * 2)) 1) (.bool false) w3 (fun (w4 : World) =>
  Q (.tuple #[.int .i64 n4, .int .i64 0]) w4))))))))
theorem C97 {p1 : Option Addr} {s2 : ByteArray} {n3 : Int} {Q : Value → World → Prop} {w : World} (h : L97 p1 s2 n3 Q w) : CallR Tryz.prog 97 [.pointer p1, .string s2, .int .i64 n3] w Q :=
  fun_calls (A := A97) mixed Tryz.func97 (c := (Tryz.f97.body).getD .skip) rfl (by kernel_rfl) (Eq.mp (by kernel_rfl) h)
def A99 : Ann := ⟨[], [], [], [], [], []⟩
def L99 (p1 : Option Addr) (Q : Value → World → Prop) (w : World) : Prop :=
  CallR Tryz.prog 187 [.pointer p1, .int .i64 0] w (fun (r3 : Value) (w1 : World) =>
  ∃ (n2 : Int), r3 = .int .i64 n2 ∧
  cond (n2 == 64)
  (Q (.tuple #[.int .i64 0, .int .i64 0, .int .i64 31]) w1)
  (inI (n2 + 1) ∧
  CallR Tryz.prog 187 [.pointer p1, .int .i64 (n2 + 1)] w1 (fun (r5 : Value) (w2 : World) =>
  ∃ (n4 : Int), r5 = .int .i64 n4 ∧
  cond (n4 == 64)
  (Q (.tuple #[.int .i64 0, .int .i64 0, .int .i64 31]) w2)
  (nn p1 (fun (q6 : Addr) =>
  ∃ (p7 : Option Addr), w2.cell? q6 = some ((.pointer p7 : Value)) ∧
  CallR Tryz.prog 29 [.pointer p7] w2 (fun (r11 : Value) (w3 : World) =>
  ∃ (n8 : Int) (n9 : Int) (n10 : Int), r11 = .tuple #[.int .i64 n8, .int .i64 n9, .int .i64 n10] ∧
  cond (n10 != 0)
  (Q (.tuple #[.int .i64 0, .int .i64 0, .int .i64 n10]) w3)
  (inI (n2 + 1) ∧
  CallR Tryz.prog 187 [.pointer p1, .int .i64 (n2 + 1)] w3 (fun (r13 : Value) (w4 : World) =>
  ∃ (n12 : Int), r13 = .int .i64 n12 ∧
  nn p1 (fun (q14 : Addr) =>
  (0 ≤ (n2 : Int) ∧ (n2 : Int) < ((64 : Nat) : Int)) ∧
  stC (Addr.add (Addr.add q14 1) (Int.toNat n2 * 2)) (.int .i64 n8) w4 (fun (w5 : World) =>
  stC (Addr.add (Addr.add (Addr.add q14 1) (Int.toNat n2 * 2)) 1) (.bool false) w5 (fun (w6 : World) =>
  nn p1 (fun (q15 : Addr) =>
  (0 ≤ (n12 : Int) ∧ (n12 : Int) < ((64 : Nat) : Int)) ∧
  stC (Addr.add (Addr.add q15 1) (Int.toNat n12 * 2)) (.int .i64 n9) w6 (fun (w7 : World) =>
  stC (Addr.add (Addr.add (Addr.add q15 1) (Int.toNat n12 * 2)) 1) (.bool false) w7 (fun (w8 : World) =>
  Q (.tuple #[.int .i64 n2, .int .i64 n12, .int .i64 0]) w8))))))))))))))
theorem C99 {p1 : Option Addr} {Q : Value → World → Prop} {w : World} (h : L99 p1 Q w) : CallR Tryz.prog 99 [.pointer p1] w Q :=
  fun_calls (A := A99) mixed Tryz.func99 (c := (Tryz.f99.body).getD .skip) rfl (by kernel_rfl) (Eq.mp (by kernel_rfl) h)
def A101 : Ann := ⟨[], [], [], [], [], []⟩
def L101 (p1 : Option Addr) (n2 : Int) (Q : Value → World → Prop) (w : World) : Prop :=
  CallR Tryz.prog 187 [.pointer p1, .int .i64 0] w (fun (r4 : Value) (w1 : World) =>
  ∃ (n3 : Int), r4 = .int .i64 n3 ∧
  cond (n3 == 64)
  (Q (.tuple #[.int .i64 0, .int .i64 31]) w1)
  (nn p1 (fun (q5 : Addr) =>
  ∃ (p6 : Option Addr), w1.cell? q5 = some ((.pointer p6 : Value)) ∧
  CallR Tryz.prog 71 [.pointer p6, .int .i64 n2] w1 (fun (r8 : Value) (w2 : World) =>
  ∃ (n7 : Int), r8 = .int .i64 n7 ∧
  cond (n7 != 0)
  (Q (.tuple #[.int .i64 0, .int .i64 n7]) w2)
  (nn p1 (fun (q9 : Addr) =>
  (0 ≤ (n3 : Int) ∧ (n3 : Int) < ((64 : Nat) : Int)) ∧
  stC (Addr.add (Addr.add q9 1) (Int.toNat n3 * 2)) (.int .i64 n2) w2 (fun (w3 : World) =>
  stC (Addr.add (Addr.add (Addr.add q9 1) (Int.toNat n3 * 2)) 1) (.bool false) w3 (fun (w4 : World) =>
  Q (.tuple #[.int .i64 n3, .int .i64 0]) w4))))))))
theorem C101 {p1 : Option Addr} {n2 : Int} {Q : Value → World → Prop} {w : World} (h : L101 p1 n2 Q w) : CallR Tryz.prog 101 [.pointer p1, .int .i64 n2] w Q :=
  fun_calls (A := A101) mixed Tryz.func101 (c := (Tryz.f101.body).getD .skip) rfl (by kernel_rfl) (Eq.mp (by kernel_rfl) h)
def A102 : Ann := ⟨[], [], [], [(3, [0, 1, 2, 3, 4, 5, 6, 7, 8, 9, 10, 11])], [], []⟩
def L102 (p1 : Option Addr) (n2 : Int) (Q : Value → World → Prop) (w : World) : Prop :=
  CallR Tryz.prog 188 [.pointer p1, .int .i64 n2] w (fun (r4 : Value) (w1 : World) =>
  ∃ (b3 : Bool), r4 = .bool b3 ∧
  cond (!b3)
  (Q (.int .i64 71) w1)
  (let w2 := World.drew w1;
  nn p1 (fun (q5 : Addr) =>
  ∃ (p6 : Option Addr), w2.cell? q5 = some ((.pointer p6 : Value)) ∧
  nn p1 (fun (q7 : Addr) =>
  (0 ≤ (n2 : Int) ∧ (n2 : Int) < ((64 : Nat) : Int)) ∧
  ∃ (n8 : Int), w2.cell? (Addr.add (Addr.add q7 1) (Int.toNat n2 * 2)) = some ((.int .i64 n8 : Value)) ∧
  CallR Tryz.prog 73 [.pointer p6, .int .i64 n8] w2 (fun (r10 : Value) (w3 : World) =>
  ∃ (n9 : Int), r10 = .int .i64 n9 ∧
  nn p1 (fun (q11 : Addr) =>
  (0 ≤ (n2 : Int) ∧ (n2 : Int) < ((64 : Nat) : Int)) ∧
  stC (Addr.add (Addr.add q11 1) (Int.toNat n2 * 2)) (.int .i64 0) w3 (fun (w4 : World) =>
  stC (Addr.add (Addr.add (Addr.add q11 1) (Int.toNat n2 * 2)) 1) (.bool false) w4 (fun (w5 : World) =>
  Q (.int .i64 0) w5))))))))
theorem C102 {p1 : Option Addr} {n2 : Int} {Q : Value → World → Prop} {w : World} (h : L102 p1 n2 Q w) : CallR Tryz.prog 102 [.pointer p1, .int .i64 n2] w Q :=
  fun_calls (A := A102) mixed Tryz.func102 (c := (Tryz.f102.body).getD .skip) rfl (by kernel_rfl) (Eq.mp (by kernel_rfl) h)
def A103 : Ann := ⟨[], [], [], [], [], []⟩
def L103 (p1 : Option Addr) (n2 : Int) (Q : Value → World → Prop) (w : World) : Prop :=
  CallR Tryz.prog 188 [.pointer p1, .int .i64 n2] w (fun (r4 : Value) (w1 : World) =>
  ∃ (b3 : Bool), r4 = .bool b3 ∧
  cond (!b3)
  (Q (.tuple #[.int .i64 0, .int .i64 71]) w1)
  (nn p1 (fun (q5 : Addr) =>
  (0 ≤ (n2 : Int) ∧ (n2 : Int) < ((64 : Nat) : Int)) ∧
  ∃ (n6 : Int), w1.cell? (Addr.add (Addr.add q5 1) (Int.toNat n2 * 2)) = some ((.int .i64 n6 : Value)) ∧
  CallR Tryz.prog 101 [.pointer p1, .int .i64 n6] w1 (fun (r9 : Value) (w2 : World) =>
  ∃ (n7 : Int) (n8 : Int), r9 = .tuple #[.int .i64 n7, .int .i64 n8] ∧
  Q (.tuple #[.int .i64 n7, .int .i64 n8]) w2))))
theorem C103 {p1 : Option Addr} {n2 : Int} {Q : Value → World → Prop} {w : World} (h : L103 p1 n2 Q w) : CallR Tryz.prog 103 [.pointer p1, .int .i64 n2] w Q :=
  fun_calls (A := A103) mixed Tryz.func103 (c := (Tryz.f103.body).getD .skip) rfl (by kernel_rfl) (Eq.mp (by kernel_rfl) h)
def A104 : Ann := ⟨[], [], [], [], [], []⟩
def L104 (p1 : Option Addr) (n2 : Int) (n3 : Int) (Q : Value → World → Prop) (w : World) : Prop :=
  CallR Tryz.prog 188 [.pointer p1, .int .i64 n2] w (fun (r5 : Value) (w1 : World) =>
  ∃ (b4 : Bool), r5 = .bool b4 ∧
  cond (!b4)
  (Q (.int .i64 71) w1)
  (cond (decide (n3 < 0))
  (Q (.int .i64 71) w1)
  (cond (decide (n3 ≥ 64))
  (Q (.int .i64 71) w1)
  (cond (n3 == n2)
  (Q (.int .i64 0) w1)
  (nn p1 (fun (q6 : Addr) =>
  (0 ≤ (n2 : Int) ∧ (n2 : Int) < ((64 : Nat) : Int)) ∧
  ∃ (n7 : Int), w1.cell? (Addr.add (Addr.add q6 1) (Int.toNat n2 * 2)) = some ((.int .i64 n7 : Value)) ∧
  nn p1 (fun (q8 : Addr) =>
  ∃ (p9 : Option Addr), w1.cell? q8 = some ((.pointer p9 : Value)) ∧
  CallR Tryz.prog 71 [.pointer p9, .int .i64 n7] w1 (fun (r11 : Value) (w2 : World) =>
  ∃ (n10 : Int), r11 = .int .i64 n10 ∧
  cond (n10 != 0)
  (Q (.int .i64 n10) w2)
  (CallR Tryz.prog 102 [.pointer p1, .int .i64 n3] w2 (fun (r13 : Value) (w3 : World) =>
  ∃ (n12 : Int), r13 = .int .i64 n12 ∧
  nn p1 (fun (q14 : Addr) =>
  (0 ≤ (n3 : Int) ∧ (n3 : Int) < ((64 : Nat) : Int)) ∧
  stC (Addr.add (Addr.add q14 1) (Int.toNat n3 * 2)) (.int .i64 n7) w3 (fun (w4 : World) =>
  stC (Addr.add (Addr.add (Addr.add q14 1) (Int.toNat n3 * 2)) 1) (.bool false) w4 (fun (w5 : World) =>
  Q (.int .i64 0) w5)))))))))))))
theorem C104 {p1 : Option Addr} {n2 : Int} {n3 : Int} {Q : Value → World → Prop} {w : World} (h : L104 p1 n2 n3 Q w) : CallR Tryz.prog 104 [.pointer p1, .int .i64 n2, .int .i64 n3] w Q :=
  fun_calls (A := A104) mixed Tryz.func104 (c := (Tryz.f104.body).getD .skip) rfl (by kernel_rfl) (Eq.mp (by kernel_rfl) h)
def A105 : Ann := ⟨[], [], [], [], [], []⟩
def L105 (p1 : Option Addr) (n2 : Int) (b3 : Bool) (Q : Value → World → Prop) (w : World) : Prop :=
  CallR Tryz.prog 188 [.pointer p1, .int .i64 n2] w (fun (r5 : Value) (w1 : World) =>
  ∃ (b4 : Bool), r5 = .bool b4 ∧
  cond (!b4)
  (Q (.int .i64 71) w1)
  (nn p1 (fun (q6 : Addr) =>
  (0 ≤ (n2 : Int) ∧ (n2 : Int) < ((64 : Nat) : Int)) ∧
  stC (Addr.add (Addr.add (Addr.add q6 1) (Int.toNat n2 * 2)) 1) (.bool b3) w1 (fun (w2 : World) =>
  Q (.int .i64 0) w2))))
theorem C105 {p1 : Option Addr} {n2 : Int} {b3 : Bool} {Q : Value → World → Prop} {w : World} (h : L105 p1 n2 b3 Q w) : CallR Tryz.prog 105 [.pointer p1, .int .i64 n2, .bool b3] w Q :=
  fun_calls (A := A105) mixed Tryz.func105 (c := (Tryz.f105.body).getD .skip) rfl (by kernel_rfl) (Eq.mp (by kernel_rfl) h)
def A115 : Ann := ⟨[], [], [], [], [], []⟩
def L115 (p1 : Option Addr) (n2 : Int) (Q : Value → World → Prop) (w : World) : Prop :=
  CallR Tryz.prog 188 [.pointer p1, .int .i64 n2] w (fun (r4 : Value) (w1 : World) =>
  ∃ (b3 : Bool), r4 = .bool b3 ∧
  cond (!b3)
  (Q (.tuple #[.bool false, .int .i64 71]) w1)
  (nn p1 (fun (q5 : Addr) =>
  (0 ≤ (n2 : Int) ∧ (n2 : Int) < ((64 : Nat) : Int)) ∧
  ∃ (b6 : Bool), w1.cell? (Addr.add (Addr.add (Addr.add q5 1) (Int.toNat n2 * 2)) 1) = some ((.bool b6 : Value)) ∧
  Q (.tuple #[.bool b6, .int .i64 0]) w1)))
theorem C115 {p1 : Option Addr} {n2 : Int} {Q : Value → World → Prop} {w : World} (h : L115 p1 n2 Q w) : CallR Tryz.prog 115 [.pointer p1, .int .i64 n2] w Q :=
  fun_calls (A := A115) mixed Tryz.func115 (c := (Tryz.f115.body).getD .skip) rfl (by kernel_rfl) (Eq.mp (by kernel_rfl) h)
def A117 : Ann := ⟨[], [], [], [], [], []⟩
def L117 (p1 : Option Addr) (n2 : Int) (Q : Value → World → Prop) (w : World) : Prop :=
  CallR Tryz.prog 188 [.pointer p1, .int .i64 n2] w (fun (r4 : Value) (w1 : World) =>
  ∃ (b3 : Bool), r4 = .bool b3 ∧
  cond (!b3)
  (Q (.tuple #[.int .i64 0, .int .i64 71]) w1)
  (nn p1 (fun (q5 : Addr) =>
  (0 ≤ (n2 : Int) ∧ (n2 : Int) < ((64 : Nat) : Int)) ∧
  ∃ (n6 : Int), w1.cell? (Addr.add (Addr.add q5 1) (Int.toNat n2 * 2)) = some ((.int .i64 n6 : Value)) ∧
  Q (.tuple #[.int .i64 n6, .int .i64 0]) w1)))
theorem C117 {p1 : Option Addr} {n2 : Int} {Q : Value → World → Prop} {w : World} (h : L117 p1 n2 Q w) : CallR Tryz.prog 117 [.pointer p1, .int .i64 n2] w Q :=
  fun_calls (A := A117) mixed Tryz.func117 (c := (Tryz.f117.body).getD .skip) rfl (by kernel_rfl) (Eq.mp (by kernel_rfl) h)
def A107 : Ann := ⟨[], [], [], [(3, [0, 1, 2, 3, 4, 5, 6, 7, 8, 9, 10, 11, 12, 13, 14, 15, 16])], [], []⟩
def L107 (p1 : Option Addr) (n2 : Int) (n3 : Int) (Q : Value → World → Prop) (w : World) : Prop :=
  CallR Tryz.prog 188 [.pointer p1, .int .i64 n2] w (fun (r5 : Value) (w1 : World) =>
  ∃ (b4 : Bool), r5 = .bool b4 ∧
  cond (!b4)
  (Q (.tuple #[.slice none 0 0, .int .i64 71]) w1)
  (let w2 := World.drew w1;
  nn p1 (fun (q6 : Addr) =>
  ∃ (p7 : Option Addr), w2.cell? q6 = some ((.pointer p7 : Value)) ∧
  nn p1 (fun (q8 : Addr) =>
  (0 ≤ (n2 : Int) ∧ (n2 : Int) < ((64 : Nat) : Int)) ∧
  ∃ (n9 : Int), w2.cell? (Addr.add (Addr.add q8 1) (Int.toNat n2 * 2)) = some ((.int .i64 n9 : Value)) ∧
  CallR Tryz.prog 65 [.pointer p7, .int .i64 n9, .int .i64 n3] w2 (fun (r12 : Value) (w3 : World) =>
  ∃ (a10 : Option Addr) (l10 : Nat) (c10 : Nat) (n11 : Int), r12 = .tuple #[.slice a10 l10 c10, .int .i64 n11] ∧
  Q (.tuple #[.slice a10 l10 c10, .int .i64 n11]) w3)))))
theorem C107 {p1 : Option Addr} {n2 : Int} {n3 : Int} {Q : Value → World → Prop} {w : World} (h : L107 p1 n2 n3 Q w) : CallR Tryz.prog 107 [.pointer p1, .int .i64 n2, .int .i64 n3] w Q :=
  fun_calls (A := A107) mixed Tryz.func107 (c := (Tryz.f107.body).getD .skip) rfl (by kernel_rfl) (Eq.mp (by kernel_rfl) h)
def A109 : Ann := ⟨[], [], [], [(3, [0, 1, 2, 3, 4, 5, 6, 7, 8, 9, 10, 11, 12, 13, 14, 15, 16])], [], []⟩
def L109 (p1 : Option Addr) (n2 : Int) (a3 : Option Addr) (l3 : Nat) (c3 : Nat) (Q : Value → World → Prop) (w : World) : Prop :=
  CallR Tryz.prog 188 [.pointer p1, .int .i64 n2] w (fun (r5 : Value) (w1 : World) =>
  ∃ (b4 : Bool), r5 = .bool b4 ∧
  cond (!b4)
  (Q (.tuple #[.int .i64 0, .int .i64 71]) w1)
  (let w2 := World.drew w1;
  nn p1 (fun (q6 : Addr) =>
  ∃ (p7 : Option Addr), w2.cell? q6 = some ((.pointer p7 : Value)) ∧
  nn p1 (fun (q8 : Addr) =>
  (0 ≤ (n2 : Int) ∧ (n2 : Int) < ((64 : Nat) : Int)) ∧
  ∃ (n9 : Int), w2.cell? (Addr.add (Addr.add q8 1) (Int.toNat n2 * 2)) = some ((.int .i64 n9 : Value)) ∧
  CallR Tryz.prog 67 [.pointer p7, .int .i64 n9, .slice a3 l3 c3] w2 (fun (r12 : Value) (w3 : World) =>
  ∃ (n10 : Int) (n11 : Int), r12 = .tuple #[.int .i64 n10, .int .i64 n11] ∧
  Q (.tuple #[.int .i64 n10, .int .i64 n11]) w3)))))
theorem C109 {p1 : Option Addr} {n2 : Int} {a3 : Option Addr} {l3 : Nat} {c3 : Nat} {Q : Value → World → Prop} {w : World} (h : L109 p1 n2 a3 l3 c3 Q w) : CallR Tryz.prog 109 [.pointer p1, .int .i64 n2, .slice a3 l3 c3] w Q :=
  fun_calls (A := A109) mixed Tryz.func109 (c := (Tryz.f109.body).getD .skip) rfl (by kernel_rfl) (Eq.mp (by kernel_rfl) h)
def A111 : Ann := ⟨[], [], [], [(3, [0, 1, 2, 3, 4, 5, 6, 7, 8, 9, 10, 11, 12, 13, 14, 15, 16, 17])], [], []⟩
def L111 (p1 : Option Addr) (n2 : Int) (n3 : Int) (n4 : Int) (Q : Value → World → Prop) (w : World) : Prop :=
  CallR Tryz.prog 188 [.pointer p1, .int .i64 n2] w (fun (r6 : Value) (w1 : World) =>
  ∃ (b5 : Bool), r6 = .bool b5 ∧
  cond (!b5)
  (Q (.tuple #[.int .i64 0, .int .i64 71]) w1)
  (let w2 := World.drew w1;
  nn p1 (fun (q7 : Addr) =>
  ∃ (p8 : Option Addr), w2.cell? q7 = some ((.pointer p8 : Value)) ∧
  nn p1 (fun (q9 : Addr) =>
  (0 ≤ (n2 : Int) ∧ (n2 : Int) < ((64 : Nat) : Int)) ∧
  ∃ (n10 : Int), w2.cell? (Addr.add (Addr.add q9 1) (Int.toNat n2 * 2)) = some ((.int .i64 n10 : Value)) ∧
  CallR Tryz.prog 69 [.pointer p8, .int .i64 n10, .int .i64 n3, .int .i64 n4] w2 (fun (r13 : Value) (w3 : World) =>
  ∃ (n11 : Int) (n12 : Int), r13 = .tuple #[.int .i64 n11, .int .i64 n12] ∧
  Q (.tuple #[.int .i64 n11, .int .i64 n12]) w3)))))
theorem C111 {p1 : Option Addr} {n2 : Int} {n3 : Int} {n4 : Int} {Q : Value → World → Prop} {w : World} (h : L111 p1 n2 n3 n4 Q w) : CallR Tryz.prog 111 [.pointer p1, .int .i64 n2, .int .i64 n3, .int .i64 n4] w Q :=
  fun_calls (A := A111) mixed Tryz.func111 (c := (Tryz.f111.body).getD .skip) rfl (by kernel_rfl) (Eq.mp (by kernel_rfl) h)
def A21 : Ann := ⟨[(3, [(4, .one (.int .i64))])], [], [], [(5, [0, 1, 2, 3, 4, 5, 6, 7, 8, 9, 10, 11, 12, 13, 14, 15, 16, 17, 18, 19, 20, 21, 22, 23, 24, 25, 26, 27, 28, 29, 30, 31, 32]), (6, [0, 1, 2, 3, 4, 5, 6, 7, 8, 9, 10, 11, 12, 13])], [], []⟩
def L21 (p1 : Option Addr) (Q : Value → World → Prop) (w : World) : Prop :=
  nn p1 (fun (q2 : Addr) =>
  ∃ (p3 : Option Addr), w.cell? q2 = some ((.pointer p3 : Value)) ∧
  CallR Tryz.prog 19 [.pointer p3] w (fun (r5 : Value) (w1 : World) =>
  ∃ (p4 : Option Addr), r5 = .pointer p4 ∧
  ∃ (I6 : List Value → World → Prop) (mu7 : List Value → World → Nat),
  I6 [.int .i64 0] w1 ∧
  ∀ (_ : Env) (n8 : Int) (w2 : World), I6 [.int .i64 n8] w2 →
  cond (decide (n8 < 64))
  (let w3 := World.drew w2;
  nn p1 (fun (q9 : Addr) =>
  (0 ≤ (n8 : Int) ∧ (n8 : Int) < ((64 : Nat) : Int)) ∧
  ∃ (n10 : Int), w3.cell? (Addr.add (Addr.add q9 1) (Int.toNat n8 * 2)) = some ((.int .i64 n10 : Value)) ∧
  cond (n10 != 0)
  (nn p1 (fun (q11 : Addr) =>
  (0 ≤ (n8 : Int) ∧ (n8 : Int) < ((64 : Nat) : Int)) ∧
  ∃ (b12 : Bool), w3.cell? (Addr.add (Addr.add (Addr.add q11 1) (Int.toNat n8 * 2)) 1) = some ((.bool b12 : Value)) ∧
  cond (!b12)
  (nn p1 (fun (q13 : Addr) =>
  ∃ (p14 : Option Addr), w3.cell? q13 = some ((.pointer p14 : Value)) ∧
  nn p1 (fun (q15 : Addr) =>
  (0 ≤ (n8 : Int) ∧ (n8 : Int) < ((64 : Nat) : Int)) ∧
  ∃ (n16 : Int), w3.cell? (Addr.add (Addr.add q15 1) (Int.toNat n8 * 2)) = some ((.int .i64 n16 : Value)) ∧
  CallR Tryz.prog 71 [.pointer p14, .int .i64 n16] w3 (fun (r18 : Value) (w4 : World) =>
  ∃ (n17 : Int), r18 = .int .i64 n17 ∧
  cond (n17 == 0)
  (let w5 := World.drew w4;
  nn p1 (fun (q19 : Addr) =>
  (0 ≤ (n8 : Int) ∧ (n8 : Int) < ((64 : Nat) : Int)) ∧
  ∃ (n20 : Int), w5.cell? (Addr.add (Addr.add q19 1) (Int.toNat n8 * 2)) = some ((.int .i64 n20 : Value)) ∧
  nn p4 (fun (q21 : Addr) =>
  (0 ≤ (n8 : Int) ∧ (n8 : Int) < ((64 : Nat) : Int)) ∧
  stC (Addr.add (Addr.add q21 1) (Int.toNat n8 * 2)) (.int .i64 n20) w5 (fun (w6 : World) =>
  stC (Addr.add (Addr.add (Addr.add q21 1) (Int.toNat n8 * 2)) 1) (.bool false) w6 (fun (w7 : World) =>
  inI (n8 + 1) ∧
  I6 [.int .i64 (n8 + 1)] w7 ∧ mu7 [.int .i64 (n8 + 1)] w7 < mu7 [.int .i64 n8] w2)))))
  (inI (n8 + 1) ∧
  I6 [.int .i64 (n8 + 1)] w4 ∧ mu7 [.int .i64 (n8 + 1)] w4 < mu7 [.int .i64 n8] w2)))))
  (inI (n8 + 1) ∧
  I6 [.int .i64 (n8 + 1)] w3 ∧ mu7 [.int .i64 (n8 + 1)] w3 < mu7 [.int .i64 n8] w2)))
  (inI (n8 + 1) ∧
  I6 [.int .i64 (n8 + 1)] w3 ∧ mu7 [.int .i64 (n8 + 1)] w3 < mu7 [.int .i64 n8] w2)))
  (Q (.pointer p4) w2)))
theorem C21 {p1 : Option Addr} {Q : Value → World → Prop} {w : World} (h : L21 p1 Q w) : CallR Tryz.prog 21 [.pointer p1] w Q :=
  fun_calls (A := A21) mixed Tryz.func21 (c := (Tryz.f21.body).getD .skip) rfl (by kernel_rfl) (Eq.mp (by kernel_rfl) h)
def A113 : Ann := ⟨[(1, [(2, .one (.int .i64))])], [], [], [], [], []⟩
def L113 (p1 : Option Addr) (Q : Value → World → Prop) (w : World) : Prop :=
  ∃ (I2 : List Value → World → Prop) (mu3 : List Value → World → Nat),
  I2 [.int .i64 0] w ∧
  ∀ (_ : Env) (n4 : Int) (w1 : World), I2 [.int .i64 n4] w1 →
  cond (decide (n4 < 64))
  (CallR Tryz.prog 102 [.pointer p1, .int .i64 n4] w1 (fun (r6 : Value) (w2 : World) =>
  ∃ (n5 : Int), r6 = .int .i64 n5 ∧
  inI (n4 + 1) ∧
  I2 [.int .i64 (n4 + 1)] w2 ∧ mu3 [.int .i64 (n4 + 1)] w2 < mu3 [.int .i64 n4] w1))
  (Q (.tuple #[]) w1)
theorem C113 {p1 : Option Addr} {Q : Value → World → Prop} {w : World} (h : L113 p1 Q w) : CallR Tryz.prog 113 [.pointer p1] w Q :=
  fun_calls (A := A113) mixed Tryz.func113 (c := (Tryz.f113.body).getD .skip) rfl (by kernel_rfl) (Eq.mp (by kernel_rfl) h)
def A25 : Ann := ⟨[(3, [(3, .one (.slice)), (4, .one (.int .i64))])], [], [], [], [], []⟩
def L25 (p1 : Option Addr) (Q : Value → World → Prop) (w : World) : Prop :=
  ∃ (I2 : List Value → World → Prop) (mu3 : List Value → World → Nat),
  I2 [.slice none 0 0, .int .i64 0] w ∧
  ∀ (_ : Env) (a4 : Option Addr) (l4 : Nat) (c4 : Nat) (n5 : Int) (w1 : World), I2 [.slice a4 l4 c4, .int .i64 n5] w1 →
  cond (decide (n5 < 64))
  (nn p1 (fun (q6 : Addr) =>
  (0 ≤ (n5 : Int) ∧ (n5 : Int) < ((64 : Nat) : Int)) ∧
  ∃ (n7 : Int), w1.cell? (Addr.add (Addr.add q6 1) (Int.toNat n5 * 2)) = some ((.int .i64 n7 : Value)) ∧
  cond (n7 != 0)
  (let w2 := World.alloc w1 (Obj.cells #[.int .i64 n5] 3);
  ∃ (a8 : Option Addr) (l8 : Nat) (c8 : Nat) (w3 : World), Sem.run Tryz.prog (Builtin.append_ #[57, 57] 57 #[.slice a4 l4 c4, .slice (some (Addr.mk w1.heap.size 0 none)) 1 1]) w2 = .ok ((.slice a8 l8 c8 : Value)) w3 ∧
  inI (n5 + 1) ∧
  I2 [.slice a8 l8 c8, .int .i64 (n5 + 1)] w3 ∧ mu3 [.slice a8 l8 c8, .int .i64 (n5 + 1)] w3 < mu3 [.slice a4 l4 c4, .int .i64 n5] w1)
  (inI (n5 + 1) ∧
  I2 [.slice a4 l4 c4, .int .i64 (n5 + 1)] w1 ∧ mu3 [.slice a4 l4 c4, .int .i64 (n5 + 1)] w1 < mu3 [.slice a4 l4 c4, .int .i64 n5] w1)))
  (Q (.slice a4 l4 c4) w1)
theorem C25 {p1 : Option Addr} {Q : Value → World → Prop} {w : World} (h : L25 p1 Q w) : CallR Tryz.prog 25 [.pointer p1] w Q :=
  fun_calls (A := A25) mixed Tryz.func25 (c := (Tryz.f25.body).getD .skip) rfl (by kernel_rfl) (Eq.mp (by kernel_rfl) h)
def A22 : Ann := ⟨[], [(39, [])], [], [], [(15, [0, 1, 2, 5, 6, 7, 3, 4], 8, [9, 10]), (21, [0, 1, 2, 3, 4, 7, 8, 9, 10, 11, 5, 6], 12, [13, 14]), (23, [0, 1, 2, 3, 4, 7, 8, 9, 10, 11, 5, 6], 12, [13, 14])], []⟩
def L22 (p1 : Option Addr) (p2 : Option Addr) (n3 : Int) (s4 : ByteArray) (n5 : Int) (n6 : Int) (n7 : Int) (b8 : Bool) (a9 : Option Addr) (l9 : Nat) (c9 : Nat) (Q : Value → World → Prop) (w : World) : Prop :=
  let w1 := World.alloc w (Obj.cells #[.int .i64 n3, .string s4, .int .i64 n5, .int .i64 n6, .int .i64 n7, .bool b8, .slice a9 l9 c9] 52);
  ∃ (J10 : List Value → World → Prop),
  (∃ (n11 : Int), w1.cell? (Addr.mk w.heap.size 0 none) = some ((.int .i64 n11 : Value)) ∧
  cond (n11 == 0)
  (∃ (s12 : ByteArray), w1.cell? (Addr.mk w.heap.size 1 none) = some ((.string s12 : Value)) ∧
  ∃ (n13 : Int), w1.cell? (Addr.mk w.heap.size 2 none) = some ((.int .i64 n13 : Value)) ∧
  CallR Tryz.prog 91 [.pointer p1, .string s12, .int .i64 n13] w1 (fun (r16 : Value) (w2 : World) =>
  ∃ (n14 : Int) (n15 : Int), r16 = .tuple #[.int .i64 n14, .int .i64 n15] ∧
  ∃ (s17 : ByteArray), w2.cell? (Addr.mk w.heap.size 1 none) = some ((.string s17 : Value)) ∧
  ∃ (n18 : Int), w2.cell? (Addr.mk w.heap.size 2 none) = some ((.int .i64 n18 : Value)) ∧
  CallR Tryz.prog 97 [.pointer p2, .string s17, .int .i64 n18] w2 (fun (r21 : Value) (w3 : World) =>
  ∃ (n19 : Int) (n20 : Int), r21 = .tuple #[.int .i64 n19, .int .i64 n20] ∧
  cond (n14 == n19)
  (CallR Tryz.prog 16 [.int .i64 n15] w3 (fun (r23 : Value) (w4 : World) =>
  ∃ (n22 : Int), r23 = .int .i64 n22 ∧
  Q (.bool (n22 == n20)) w4))
  (Q (.bool false) w3))))
  (cond (n11 == 1)
  (CallR Tryz.prog 98 [.pointer p1] w1 (fun (r27 : Value) (w5 : World) =>
  ∃ (n24 : Int) (n25 : Int) (n26 : Int), r27 = .tuple #[.int .i64 n24, .int .i64 n25, .int .i64 n26] ∧
  CallR Tryz.prog 99 [.pointer p2] w5 (fun (r31 : Value) (w6 : World) =>
  ∃ (n28 : Int) (n29 : Int) (n30 : Int), r31 = .tuple #[.int .i64 n28, .int .i64 n29, .int .i64 n30] ∧
  cond (n24 == n28)
  (cond (n25 == n29)
  (CallR Tryz.prog 16 [.int .i64 n26] w6 (fun (r33 : Value) (w7 : World) =>
  ∃ (n32 : Int), r33 = .int .i64 n32 ∧
  Q (.bool (n32 == n30)) w7))
  (Q (.bool false) w6))
  (Q (.bool false) w6))))
  (cond (n11 == 2)
  (∃ (n34 : Int), w1.cell? (Addr.mk w.heap.size 2 none) = some ((.int .i64 n34 : Value)) ∧
  CallR Tryz.prog 100 [.pointer p1, .int .i64 n34] w1 (fun (r37 : Value) (w8 : World) =>
  ∃ (n35 : Int) (n36 : Int), r37 = .tuple #[.int .i64 n35, .int .i64 n36] ∧
  ∃ (n38 : Int), w8.cell? (Addr.mk w.heap.size 2 none) = some ((.int .i64 n38 : Value)) ∧
  CallR Tryz.prog 101 [.pointer p2, .int .i64 n38] w8 (fun (r41 : Value) (w9 : World) =>
  ∃ (n39 : Int) (n40 : Int), r41 = .tuple #[.int .i64 n39, .int .i64 n40] ∧
  cond (n35 == n39)
  (CallR Tryz.prog 16 [.int .i64 n36] w9 (fun (r43 : Value) (w10 : World) =>
  ∃ (n42 : Int), r43 = .int .i64 n42 ∧
  Q (.bool (n42 == n40)) w10))
  (Q (.bool false) w9))))
  (cond (n11 == 3)
  (∃ (S44 : World → Prop), S44 (World.drew w1) ∧
  let w11 := World.drew w1;
  ∃ (n45 : Int), (∀ wS : World, S44 wS → wS.cell? (Addr.mk w.heap.size 2 none) = some ((.int .i64 n45 : Value))) ∧
  ∃ (n46 : Int), (∀ wS : World, S44 wS → wS.cell? (Addr.mk w.heap.size 2 none) = some ((.int .i64 n46 : Value))) ∧
  CallR Tryz.prog 93 [.pointer p1, .int .i64 n45] w11 (fun (r48 : Value) (w12 : World) =>
  ∃ (n47 : Int), r48 = .int .i64 n47 ∧
  S44 w12 ∧
  CallR Tryz.prog 16 [.int .i64 n47] w12 (fun (r50 : Value) (w13 : World) =>
  ∃ (n49 : Int), r50 = .int .i64 n49 ∧
  S44 w13 ∧
  CallR Tryz.prog 102 [.pointer p2, .int .i64 n46] w13 (fun (r52 : Value) (w14 : World) =>
  ∃ (n51 : Int), r52 = .int .i64 n51 ∧
  Q (.bool (n49 == n51)) w14))))
  (cond (n11 == 4)
  (∃ (n53 : Int), w1.cell? (Addr.mk w.heap.size 2 none) = some ((.int .i64 n53 : Value)) ∧
  CallR Tryz.prog 92 [.pointer p1, .int .i64 n53] w1 (fun (r56 : Value) (w15 : World) =>
  ∃ (n54 : Int) (n55 : Int), r56 = .tuple #[.int .i64 n54, .int .i64 n55] ∧
  ∃ (n57 : Int), w15.cell? (Addr.mk w.heap.size 2 none) = some ((.int .i64 n57 : Value)) ∧
  CallR Tryz.prog 103 [.pointer p2, .int .i64 n57] w15 (fun (r60 : Value) (w16 : World) =>
  ∃ (n58 : Int) (n59 : Int), r60 = .tuple #[.int .i64 n58, .int .i64 n59] ∧
  cond (n54 == n58)
  (CallR Tryz.prog 16 [.int .i64 n55] w16 (fun (r62 : Value) (w17 : World) =>
  ∃ (n61 : Int), r62 = .int .i64 n61 ∧
  Q (.bool (n61 == n59)) w17))
  (Q (.bool false) w16))))
  (cond (n11 == 5)
  (∃ (S63 : World → Prop), S63 (World.drew w1) ∧
  let w18 := World.drew w1;
  ∃ (n64 : Int), (∀ wS : World, S63 wS → wS.cell? (Addr.mk w.heap.size 2 none) = some ((.int .i64 n64 : Value))) ∧
  ∃ (n65 : Int), (∀ wS : World, S63 wS → wS.cell? (Addr.mk w.heap.size 3 none) = some ((.int .i64 n65 : Value))) ∧
  ∃ (n66 : Int), (∀ wS : World, S63 wS → wS.cell? (Addr.mk w.heap.size 2 none) = some ((.int .i64 n66 : Value))) ∧
  ∃ (n67 : Int), (∀ wS : World, S63 wS → wS.cell? (Addr.mk w.heap.size 3 none) = some ((.int .i64 n67 : Value))) ∧
  CallR Tryz.prog 94 [.pointer p1, .int .i64 n64, .int .i64 n65] w18 (fun (r69 : Value) (w19 : World) =>
  ∃ (n68 : Int), r69 = .int .i64 n68 ∧
  S63 w19 ∧
  CallR Tryz.prog 16 [.int .i64 n68] w19 (fun (r71 : Value) (w20 : World) =>
  ∃ (n70 : Int), r71 = .int .i64 n70 ∧
  S63 w20 ∧
  CallR Tryz.prog 104 [.pointer p2, .int .i64 n66, .int .i64 n67] w20 (fun (r73 : Value) (w21 : World) =>
  ∃ (n72 : Int), r73 = .int .i64 n72 ∧
  Q (.bool (n70 == n72)) w21))))
  (cond (n11 == 6)
  (∃ (S74 : World → Prop), S74 (World.drew w1) ∧
  let w22 := World.drew w1;
  ∃ (n75 : Int), (∀ wS : World, S74 wS → wS.cell? (Addr.mk w.heap.size 2 none) = some ((.int .i64 n75 : Value))) ∧
  ∃ (b76 : Bool), (∀ wS : World, S74 wS → wS.cell? (Addr.mk w.heap.size 5 none) = some ((.bool b76 : Value))) ∧
  ∃ (n77 : Int), (∀ wS : World, S74 wS → wS.cell? (Addr.mk w.heap.size 2 none) = some ((.int .i64 n77 : Value))) ∧
  ∃ (b78 : Bool), (∀ wS : World, S74 wS → wS.cell? (Addr.mk w.heap.size 5 none) = some ((.bool b78 : Value))) ∧
  CallR Tryz.prog 95 [.pointer p1, .int .i64 n75, .bool b76] w22 (fun (r80 : Value) (w23 : World) =>
  ∃ (n79 : Int), r80 = .int .i64 n79 ∧
  S74 w23 ∧
  CallR Tryz.prog 16 [.int .i64 n79] w23 (fun (r82 : Value) (w24 : World) =>
  ∃ (n81 : Int), r82 = .int .i64 n81 ∧
  S74 w24 ∧
  CallR Tryz.prog 105 [.pointer p2, .int .i64 n77, .bool b78] w24 (fun (r84 : Value) (w25 : World) =>
  ∃ (n83 : Int), r84 = .int .i64 n83 ∧
  Q (.bool (n81 == n83)) w25))))
  (cond (n11 == 7)
  (∃ (n85 : Int), w1.cell? (Addr.mk w.heap.size 2 none) = some ((.int .i64 n85 : Value)) ∧
  ∃ (n86 : Int), w1.cell? (Addr.mk w.heap.size 3 none) = some ((.int .i64 n86 : Value)) ∧
  CallR Tryz.prog 106 [.pointer p1, .int .i64 n85, .int .i64 n86] w1 (fun (r89 : Value) (w26 : World) =>
  ∃ (a87 : Option Addr) (l87 : Nat) (c87 : Nat) (n88 : Int), r89 = .tuple #[.slice a87 l87 c87, .int .i64 n88] ∧
  ∃ (n90 : Int), w26.cell? (Addr.mk w.heap.size 2 none) = some ((.int .i64 n90 : Value)) ∧
  ∃ (n91 : Int), w26.cell? (Addr.mk w.heap.size 3 none) = some ((.int .i64 n91 : Value)) ∧
  CallR Tryz.prog 107 [.pointer p2, .int .i64 n90, .int .i64 n91] w26 (fun (r94 : Value) (w27 : World) =>
  ∃ (a92 : Option Addr) (l92 : Nat) (c92 : Nat) (n93 : Int), r94 = .tuple #[.slice a92 l92 c92, .int .i64 n93] ∧
  CallR Tryz.prog 39 [.slice a87 l87 c87, .slice a92 l92 c92] w27 (fun (r96 : Value) (w28 : World) =>
  ∃ (b95 : Bool), r96 = .bool b95 ∧
  cond b95
  (CallR Tryz.prog 16 [.int .i64 n88] w28 (fun (r98 : Value) (w29 : World) =>
  ∃ (n97 : Int), r98 = .int .i64 n97 ∧
  Q (.bool (n97 == n93)) w29))
  (Q (.bool false) w28)))))
  (cond (n11 == 8)
  (∃ (n99 : Int), w1.cell? (Addr.mk w.heap.size 2 none) = some ((.int .i64 n99 : Value)) ∧
  ∃ (a100 : Option Addr) (l100 : Nat) (c100 : Nat), w1.cell? (Addr.mk w.heap.size 6 none) = some ((.slice a100 l100 c100 : Value)) ∧
  CallR Tryz.prog 108 [.pointer p1, .int .i64 n99, .slice a100 l100 c100] w1 (fun (r103 : Value) (w30 : World) =>
  ∃ (n101 : Int) (n102 : Int), r103 = .tuple #[.int .i64 n101, .int .i64 n102] ∧
  ∃ (n104 : Int), w30.cell? (Addr.mk w.heap.size 2 none) = some ((.int .i64 n104 : Value)) ∧
  ∃ (a105 : Option Addr) (l105 : Nat) (c105 : Nat), w30.cell? (Addr.mk w.heap.size 6 none) = some ((.slice a105 l105 c105 : Value)) ∧
  CallR Tryz.prog 109 [.pointer p2, .int .i64 n104, .slice a105 l105 c105] w30 (fun (r108 : Value) (w31 : World) =>
  ∃ (n106 : Int) (n107 : Int), r108 = .tuple #[.int .i64 n106, .int .i64 n107] ∧
  cond (n101 == n106)
  (CallR Tryz.prog 16 [.int .i64 n102] w31 (fun (r110 : Value) (w32 : World) =>
  ∃ (n109 : Int), r110 = .int .i64 n109 ∧
  Q (.bool (n109 == n107)) w32))
  (Q (.bool false) w31))))
  (cond (n11 == 9)
  (∃ (n111 : Int), w1.cell? (Addr.mk w.heap.size 2 none) = some ((.int .i64 n111 : Value)) ∧
  ∃ (n112 : Int), w1.cell? (Addr.mk w.heap.size 3 none) = some ((.int .i64 n112 : Value)) ∧
  ∃ (n113 : Int), w1.cell? (Addr.mk w.heap.size 4 none) = some ((.int .i64 n113 : Value)) ∧
  CallR Tryz.prog 110 [.pointer p1, .int .i64 n111, .int .i64 n112, .int .i64 n113] w1 (fun (r116 : Value) (w33 : World) =>
  ∃ (n114 : Int) (n115 : Int), r116 = .tuple #[.int .i64 n114, .int .i64 n115] ∧
  ∃ (n117 : Int), w33.cell? (Addr.mk w.heap.size 2 none) = some ((.int .i64 n117 : Value)) ∧
  ∃ (n118 : Int), w33.cell? (Addr.mk w.heap.size 3 none) = some ((.int .i64 n118 : Value)) ∧
  ∃ (n119 : Int), w33.cell? (Addr.mk w.heap.size 4 none) = some ((.int .i64 n119 : Value)) ∧
  CallR Tryz.prog 111 [.pointer p2, .int .i64 n117, .int .i64 n118, .int .i64 n119] w33 (fun (r122 : Value) (w34 : World) =>
  ∃ (n120 : Int) (n121 : Int), r122 = .tuple #[.int .i64 n120, .int .i64 n121] ∧
  cond (n114 == n120)
  (CallR Tryz.prog 16 [.int .i64 n115] w34 (fun (r124 : Value) (w35 : World) =>
  ∃ (n123 : Int), r124 = .int .i64 n123 ∧
  Q (.bool (n123 == n121)) w35))
  (Q (.bool false) w34))))
  (cond (n11 == 11)
  (CallR Tryz.prog 112 [.pointer p1] w1 (fun (r125 : Value) (w36 : World) =>
  r125 = .tuple #[] ∧
  CallR Tryz.prog 113 [.pointer p2] w36 (fun (r126 : Value) (w37 : World) =>
  r126 = .tuple #[] ∧
  J10 [] w37)))
  (J10 [] w1)))))))))))) ∧
  (∀ (_ : Env) (w38 : World), J10 [] w38 →
  ∃ (n127 : Int), w38.cell? (Addr.mk w.heap.size 2 none) = some ((.int .i64 n127 : Value)) ∧
  CallR Tryz.prog 114 [.pointer p1, .int .i64 n127] w38 (fun (r130 : Value) (w39 : World) =>
  ∃ (b128 : Bool) (n129 : Int), r130 = .tuple #[.bool b128, .int .i64 n129] ∧
  ∃ (n131 : Int), w39.cell? (Addr.mk w.heap.size 2 none) = some ((.int .i64 n131 : Value)) ∧
  CallR Tryz.prog 115 [.pointer p2, .int .i64 n131] w39 (fun (r134 : Value) (w40 : World) =>
  ∃ (b132 : Bool) (n133 : Int), r134 = .tuple #[.bool b132, .int .i64 n133] ∧
  ∃ (n135 : Int), w40.cell? (Addr.mk w.heap.size 2 none) = some ((.int .i64 n135 : Value)) ∧
  CallR Tryz.prog 116 [.pointer p1, .int .i64 n135] w40 (fun (r138 : Value) (w41 : World) =>
  ∃ (n136 : Int) (n137 : Int), r138 = .tuple #[.int .i64 n136, .int .i64 n137] ∧
  ∃ (n139 : Int), w41.cell? (Addr.mk w.heap.size 2 none) = some ((.int .i64 n139 : Value)) ∧
  CallR Tryz.prog 117 [.pointer p2, .int .i64 n139] w41 (fun (r142 : Value) (w42 : World) =>
  ∃ (n140 : Int) (n141 : Int), r142 = .tuple #[.int .i64 n140, .int .i64 n141] ∧
  cond (b128 == b132)
  (CallR Tryz.prog 16 [.int .i64 n129] w42 (fun (r144 : Value) (w43 : World) =>
  ∃ (n143 : Int), r144 = .int .i64 n143 ∧
  cond (n143 == n133)
  (cond (n136 == n140)
  (CallR Tryz.prog 16 [.int .i64 n137] w43 (fun (r146 : Value) (w44 : World) =>
  ∃ (n145 : Int), r146 = .int .i64 n145 ∧
  Q (.bool (n145 == n141)) w44))
  (Q (.bool false) w43))
  (Q (.bool false) w43)))
  (Q (.bool false) w42))))))
theorem C22 {p1 : Option Addr} {p2 : Option Addr} {n3 : Int} {s4 : ByteArray} {n5 : Int} {n6 : Int} {n7 : Int} {b8 : Bool} {a9 : Option Addr} {l9 : Nat} {c9 : Nat} {Q : Value → World → Prop} {w : World} (h : L22 p1 p2 n3 s4 n5 n6 n7 b8 a9 l9 c9 Q w) : CallR Tryz.prog 22 [.pointer p1, .pointer p2, .agg #[.int .i64 n3, .string s4, .int .i64 n5, .int .i64 n6, .int .i64 n7, .bool b8, .slice a9 l9 c9]] w Q :=
  fun_calls (A := A22) mixed Tryz.func22 (c := (Tryz.f22.body).getD .skip) rfl (by kernel_rfl) (Eq.mp (by kernel_rfl) h)
def A4 : Ann := ⟨[(11, [(8, .one (.ptr)), (9, .one (.ptr)), (10, .one (.int .i64))])], [], [], [], [(3, [0, 2, 3, 4, 5, 6, 7, 1], 8, [9, 10, 11, 12, 13, 14, 15, 16])], []⟩
def L4 (a1 : Option Addr) (l1 : Nat) (c1 : Nat) (a2 : Option Addr) (l2 : Nat) (c2 : Nat) (a3 : Option Addr) (l3 : Nat) (c3 : Nat) (a4 : Option Addr) (l4 : Nat) (c4 : Nat) (Q : Value → World → Prop) (w : World) : Prop :=
  let w1 := World.alloc w (Obj.cells #[.slice a1 l1 c1, .slice a2 l2 c2, .slice a3 l3 c3] 26);
  ∃ (a5 : Option Addr) (l5 : Nat) (c5 : Nat) (a6 : Option Addr) (l6 : Nat) (c6 : Nat) (a7 : Option Addr) (l7 : Nat) (c7 : Nat), w1.cell? (Addr.mk w.heap.size 0 none) = some ((.slice a5 l5 c5 : Value)) ∧ w1.cell? (Addr.mk w.heap.size 1 none) = some ((.slice a6 l6 c6 : Value)) ∧ w1.cell? (Addr.mk w.heap.size 2 none) = some ((.slice a7 l7 c7 : Value)) ∧ 
  CallR Tryz.prog 7 [.agg #[.slice a5 l5 c5, .slice a6 l6 c6, .slice a7 l7 c7]] w1 (fun (r11 : Value) (w2 : World) =>
  ∃ (a8 : Option Addr) (l8 : Nat) (c8 : Nat) (a9 : Option Addr) (l9 : Nat) (c9 : Nat) (a10 : Option Addr) (l10 : Nat) (c10 : Nat), r11 = .agg #[.slice a8 l8 c8, .slice a9 l9 c9, .slice a10 l10 c10] ∧
  CallR Tryz.prog 8 [.agg #[.slice a8 l8 c8, .slice a9 l9 c9, .slice a10 l10 c10]] w2 (fun (r14 : Value) (w3 : World) =>
  ∃ (p12 : Option Addr) (n13 : Int), r14 = .tuple #[.pointer p12, .int .i64 n13] ∧
  ∃ (a15 : Option Addr) (l15 : Nat) (c15 : Nat) (a16 : Option Addr) (l16 : Nat) (c16 : Nat) (a17 : Option Addr) (l17 : Nat) (c17 : Nat), w3.cell? (Addr.mk w.heap.size 0 none) = some ((.slice a15 l15 c15 : Value)) ∧ w3.cell? (Addr.mk w.heap.size 1 none) = some ((.slice a16 l16 c16 : Value)) ∧ w3.cell? (Addr.mk w.heap.size 2 none) = some ((.slice a17 l17 c17 : Value)) ∧ 
  CallR Tryz.prog 10 [.agg #[.slice a15 l15 c15, .slice a16 l16 c16, .slice a17 l17 c17]] w3 (fun (r19 : Value) (w4 : World) =>
  ∃ (p18 : Option Addr), r19 = .pointer p18 ∧
  ∃ (S20 : World → Prop), S20 (World.drew w4) ∧
  let w5 := World.drew w4;
  ∃ (a21 : Option Addr) (l21 : Nat) (c21 : Nat), (∀ wS : World, S20 wS → wS.cell? (Addr.mk w.heap.size 0 none) = some ((.slice a21 l21 c21 : Value))) ∧
  ∃ (a22 : Option Addr) (l22 : Nat) (c22 : Nat), (∀ wS : World, S20 wS → wS.cell? (Addr.mk w.heap.size 1 none) = some ((.slice a22 l22 c22 : Value))) ∧
  ∃ (a23 : Option Addr) (l23 : Nat) (c23 : Nat), (∀ wS : World, S20 wS → wS.cell? (Addr.mk w.heap.size 2 none) = some ((.slice a23 l23 c23 : Value))) ∧
  CallR Tryz.prog 16 [.int .i64 n13] w5 (fun (r25 : Value) (w6 : World) =>
  ∃ (n24 : Int), r25 = .int .i64 n24 ∧
  S20 w6 ∧
  CallR Tryz.prog 9 [.slice a21 l21 c21, .slice a22 l22 c22, .slice a23 l23 c23] w6 (fun (r27 : Value) (w7 : World) =>
  ∃ (n26 : Int), r27 = .int .i64 n26 ∧
  cond (n24 != n26)
  (Q (.bool false) w7)
  (cond (!((Option.isNone p12) == (Option.isNone p18)))
  (Q (.bool false) w7)
  (cond (Option.isNone p12)
  (CallR Tryz.prog 17 [] w7 (fun (r29 : Value) (w8 : World) =>
  ∃ (b28 : Bool), r29 = .bool b28 ∧
  Q (.bool b28) w8))
  (CallR Tryz.prog 18 [.pointer p12] w7 (fun (r31 : Value) (w9 : World) =>
  ∃ (p30 : Option Addr), r31 = .pointer p30 ∧
  CallR Tryz.prog 19 [.pointer p18] w9 (fun (r33 : Value) (w10 : World) =>
  ∃ (p32 : Option Addr), r33 = .pointer p32 ∧
  cond (Option.isNone p30)
  (Q (.bool false) w10)
  (∃ (I34 : List Value → World → Prop) (mu35 : List Value → World → Nat),
  I34 [.pointer p30, .pointer p32, .int .i64 0] w10 ∧
  ∀ (_ : Env) (p36 : Option Addr) (p37 : Option Addr) (n38 : Int) (w11 : World), I34 [.pointer p36, .pointer p37, .int .i64 n38] w11 →
  cond (decide (n38 < (((l4 : Nat) : Int))))
  ((0 ≤ (n38 : Int) ∧ (n38 : Int) < ((l4 : Nat) : Int)) ∧
  nn a4 (fun (q39 : Addr) =>
  ∃ (n40 : Int), w11.cell? (Addr.add q39 (Int.toNat n38 * 7)) = some ((.int .i64 n40 : Value)) ∧
  cond (n40 == 10)
  (CallR Tryz.prog 20 [.pointer p36] w11 (fun (r42 : Value) (w12 : World) =>
  ∃ (p41 : Option Addr), r42 = .pointer p41 ∧
  cond (Option.isNone p41)
  (Q (.bool false) w12)
  (CallR Tryz.prog 21 [.pointer p37] w12 (fun (r44 : Value) (w13 : World) =>
  ∃ (p43 : Option Addr), r44 = .pointer p43 ∧
  (0 ≤ (n38 : Int) ∧ (n38 : Int) < ((l4 : Nat) : Int)) ∧
  nn a4 (fun (q45 : Addr) =>
  ∃ (n46 : Int) (s47 : ByteArray) (n48 : Int) (n49 : Int) (n50 : Int) (b51 : Bool) (a52 : Option Addr) (l52 : Nat) (c52 : Nat), w13.cell? (Addr.add q45 (Int.toNat n38 * 7)) = some ((.int .i64 n46 : Value)) ∧ w13.cell? (Addr.add (Addr.add q45 (Int.toNat n38 * 7)) 1) = some ((.string s47 : Value)) ∧ w13.cell? (Addr.add (Addr.add q45 (Int.toNat n38 * 7)) 2) = some ((.int .i64 n48 : Value)) ∧ w13.cell? (Addr.add (Addr.add q45 (Int.toNat n38 * 7)) 3) = some ((.int .i64 n49 : Value)) ∧ w13.cell? (Addr.add (Addr.add q45 (Int.toNat n38 * 7)) 4) = some ((.int .i64 n50 : Value)) ∧ w13.cell? (Addr.add (Addr.add q45 (Int.toNat n38 * 7)) 5) = some ((.bool b51 : Value)) ∧ w13.cell? (Addr.add (Addr.add q45 (Int.toNat n38 * 7)) 6) = some ((.slice a52 l52 c52 : Value)) ∧ 
  CallR Tryz.prog 22 [.pointer p41, .pointer p43, .agg #[.int .i64 n46, .string s47, .int .i64 n48, .int .i64 n49, .int .i64 n50, .bool b51, .slice a52 l52 c52]] w13 (fun (r54 : Value) (w14 : World) =>
  ∃ (b53 : Bool), r54 = .bool b53 ∧
  cond (!b53)
  (Q (.bool false) w14)
  (CallR Tryz.prog 24 [.pointer p41] w14 (fun (r56 : Value) (w15 : World) =>
  ∃ (a55 : Option Addr) (l55 : Nat) (c55 : Nat), r56 = .slice a55 l55 c55 ∧
  CallR Tryz.prog 25 [.pointer p43] w15 (fun (r58 : Value) (w16 : World) =>
  ∃ (a57 : Option Addr) (l57 : Nat) (c57 : Nat), r58 = .slice a57 l57 c57 ∧
  CallR Tryz.prog 23 [.slice a55 l55 c55, .slice a57 l57 c57] w16 (fun (r60 : Value) (w17 : World) =>
  ∃ (b59 : Bool), r60 = .bool b59 ∧
  cond (!b59)
  (Q (.bool false) w17)
  (inI (n38 + 1) ∧
  I34 [.pointer p41, .pointer p43, .int .i64 (n38 + 1)] w17 ∧ mu35 [.pointer p41, .pointer p43, .int .i64 (n38 + 1)] w17 < mu35 [.pointer p36, .pointer p37, .int .i64 n38] w11)))))))))))
  ((0 ≤ (n38 : Int) ∧ (n38 : Int) < ((l4 : Nat) : Int)) ∧
  nn a4 (fun (q61 : Addr) =>
  ∃ (n62 : Int) (s63 : ByteArray) (n64 : Int) (n65 : Int) (n66 : Int) (b67 : Bool) (a68 : Option Addr) (l68 : Nat) (c68 : Nat), w11.cell? (Addr.add q61 (Int.toNat n38 * 7)) = some ((.int .i64 n62 : Value)) ∧ w11.cell? (Addr.add (Addr.add q61 (Int.toNat n38 * 7)) 1) = some ((.string s63 : Value)) ∧ w11.cell? (Addr.add (Addr.add q61 (Int.toNat n38 * 7)) 2) = some ((.int .i64 n64 : Value)) ∧ w11.cell? (Addr.add (Addr.add q61 (Int.toNat n38 * 7)) 3) = some ((.int .i64 n65 : Value)) ∧ w11.cell? (Addr.add (Addr.add q61 (Int.toNat n38 * 7)) 4) = some ((.int .i64 n66 : Value)) ∧ w11.cell? (Addr.add (Addr.add q61 (Int.toNat n38 * 7)) 5) = some ((.bool b67 : Value)) ∧ w11.cell? (Addr.add (Addr.add q61 (Int.toNat n38 * 7)) 6) = some ((.slice a68 l68 c68 : Value)) ∧ 
  CallR Tryz.prog 22 [.pointer p36, .pointer p37, .agg #[.int .i64 n62, .string s63, .int .i64 n64, .int .i64 n65, .int .i64 n66, .bool b67, .slice a68 l68 c68]] w11 (fun (r70 : Value) (w18 : World) =>
  ∃ (b69 : Bool), r70 = .bool b69 ∧
  cond (!b69)
  (Q (.bool false) w18)
  (CallR Tryz.prog 24 [.pointer p36] w18 (fun (r72 : Value) (w19 : World) =>
  ∃ (a71 : Option Addr) (l71 : Nat) (c71 : Nat), r72 = .slice a71 l71 c71 ∧
  CallR Tryz.prog 25 [.pointer p37] w19 (fun (r74 : Value) (w20 : World) =>
  ∃ (a73 : Option Addr) (l73 : Nat) (c73 : Nat), r74 = .slice a73 l73 c73 ∧
  CallR Tryz.prog 23 [.slice a71 l71 c71, .slice a73 l73 c73] w20 (fun (r76 : Value) (w21 : World) =>
  ∃ (b75 : Bool), r76 = .bool b75 ∧
  cond (!b75)
  (Q (.bool false) w21)
  (inI (n38 + 1) ∧
  I34 [.pointer p36, .pointer p37, .int .i64 (n38 + 1)] w21 ∧ mu35 [.pointer p36, .pointer p37, .int .i64 (n38 + 1)] w21 < mu35 [.pointer p36, .pointer p37, .int .i64 n38] w11))))))))))
  (CallR Tryz.prog 14 [.pointer p12, .pointer p18] w11 (fun (r78 : Value) (w22 : World) =>
  ∃ (b77 : Bool), r78 = .bool b77 ∧
  cond b77
  (CallR Tryz.prog 17 [] w22 (fun (r80 : Value) (w23 : World) =>
  ∃ (b79 : Bool), r80 = .bool b79 ∧
  Q (.bool b79) w23))
  (Q (.bool false) w22))))))))))))))
theorem C4 {a1 : Option Addr} {l1 : Nat} {c1 : Nat} {a2 : Option Addr} {l2 : Nat} {c2 : Nat} {a3 : Option Addr} {l3 : Nat} {c3 : Nat} {a4 : Option Addr} {l4 : Nat} {c4 : Nat} {Q : Value → World → Prop} {w : World} (h : L4 a1 l1 c1 a2 l2 c2 a3 l3 c3 a4 l4 c4 Q w) : CallR Tryz.prog 4 [.agg #[.slice a1 l1 c1, .slice a2 l2 c2, .slice a3 l3 c3], .slice a4 l4 c4] w Q :=
  fun_calls (A := A4) mixed Tryz.func4 (c := (Tryz.f4.body).getD .skip) rfl (by kernel_rfl) (Eq.mp (by kernel_rfl) h)
end Go.Proofs.YtpoaacnnhgebfaaGreat
namespace Go.Proofs.YtpoaacnnhgebfaaGreat
open Go.Lw
def A155 : Ann := ⟨[(3, [(3, .one (.slice)), (4, .one (.int .i64))])], [], [], [], [], []⟩
def L155 (a1 : Option Addr) (l1 : Nat) (c1 : Nat) (Q : Value → World → Prop) (w : World) : Prop :=
  ∃ (I2 : List Value → World → Prop) (mu3 : List Value → World → Nat),
  I2 [.slice none 0 0, .int .i64 0] w ∧
  ∀ (_ : Env) (a4 : Option Addr) (l4 : Nat) (c4 : Nat) (n5 : Int) (w1 : World), I2 [.slice a4 l4 c4, .int .i64 n5] w1 →
  cond (decide (n5 < (((l1 : Nat) : Int))))
  ((0 ≤ (n5 : Int) ∧ (n5 : Int) < ((l1 : Nat) : Int)) ∧
  nn a1 (fun (q6 : Addr) =>
  ∃ (a7 : Option Addr) (l7 : Nat) (c7 : Nat), w1.cell? (Addr.add q6 (Int.toNat n5)) = some ((.slice a7 l7 c7 : Value)) ∧
  CallR Tryz.prog 46 [.slice a7 l7 c7] w1 (fun (r9 : Value) (w2 : World) =>
  ∃ (a8 : Option Addr) (l8 : Nat) (c8 : Nat), r9 = .slice a8 l8 c8 ∧
  let w3 := World.alloc w2 (Obj.cells #[.slice a8 l8 c8] 40);
  ∃ (a10 : Option Addr) (l10 : Nat) (c10 : Nat) (w4 : World), Sem.run Tryz.prog (Builtin.append_ #[84, 84] 84 #[.slice a4 l4 c4, .slice (some (Addr.mk w2.heap.size 0 none)) 1 1]) w3 = .ok ((.slice a10 l10 c10 : Value)) w4 ∧
  inI (n5 + 1) ∧
  I2 [.slice a10 l10 c10, .int .i64 (n5 + 1)] w4 ∧ mu3 [.slice a10 l10 c10, .int .i64 (n5 + 1)] w4 < mu3 [.slice a4 l4 c4, .int .i64 n5] w1)))
  (Q (.slice a4 l4 c4) w1)
theorem C155 {a1 : Option Addr} {l1 : Nat} {c1 : Nat} {Q : Value → World → Prop} {w : World} (h : L155 a1 l1 c1 Q w) : CallR Tryz.prog 155 [.slice a1 l1 c1] w Q :=
  fun_calls (A := A155) mixed Tryz.func155 (c := (Tryz.f155.body).getD .skip) rfl (by kernel_rfl) (Eq.mp (by kernel_rfl) h)
def A50 : Ann := ⟨[(3, [(3, .one (.slice)), (4, .one (.int .i64))])], [], [], [], [(5, [0, 1, 2, 3, 4, 5, 6, 7, 8, 9, 10, 11, 12], 13, [14, 15])], []⟩
def L50 (a1 : Option Addr) (l1 : Nat) (c1 : Nat) (Q : Value → World → Prop) (w : World) : Prop :=
  ∃ (I2 : List Value → World → Prop) (mu3 : List Value → World → Nat),
  I2 [.slice none 0 0, .int .i64 0] w ∧
  ∀ (_ : Env) (a4 : Option Addr) (l4 : Nat) (c4 : Nat) (n5 : Int) (w1 : World), I2 [.slice a4 l4 c4, .int .i64 n5] w1 →
  cond (decide (n5 < (((l1 : Nat) : Int))))
  (∃ (S6 : World → Prop), S6 (World.drew w1) ∧
  let w2 := World.drew w1;
  (0 ≤ (n5 : Int) ∧ (n5 : Int) < ((l1 : Nat) : Int)) ∧
  nn a1 (fun (q7 : Addr) =>
  ∃ (s8 : ByteArray), (∀ wS : World, S6 wS → wS.cell? (Addr.add q7 (Int.toNat n5 * 2)) = some ((.string s8 : Value))) ∧
  (0 ≤ (n5 : Int) ∧ (n5 : Int) < ((l1 : Nat) : Int)) ∧
  nn a1 (fun (q9 : Addr) =>
  ∃ (a10 : Option Addr) (l10 : Nat) (c10 : Nat), (∀ wS : World, S6 wS → wS.cell? (Addr.add (Addr.add q9 (Int.toNat n5 * 2)) 1) = some ((.slice a10 l10 c10 : Value))) ∧
  CallR Tryz.prog 46 [.slice a10 l10 c10] w2 (fun (r12 : Value) (w3 : World) =>
  ∃ (a11 : Option Addr) (l11 : Nat) (c11 : Nat), r12 = .slice a11 l11 c11 ∧
  S6 w3 ∧
  let w4 := World.alloc w3 (Obj.cells #[.string s8, .slice a11 l11 c11] 122);
  ∃ (a13 : Option Addr) (l13 : Nat) (c13 : Nat) (w5 : World), Sem.run Tryz.prog (Builtin.append_ #[22, 22] 22 #[.slice a4 l4 c4, .slice (some (Addr.mk w3.heap.size 0 none)) 1 1]) w4 = .ok ((.slice a13 l13 c13 : Value)) w5 ∧
  inI (n5 + 1) ∧
  I2 [.slice a13 l13 c13, .int .i64 (n5 + 1)] w5 ∧ mu3 [.slice a13 l13 c13, .int .i64 (n5 + 1)] w5 < mu3 [.slice a4 l4 c4, .int .i64 n5] w1))))
  (Q (.slice a4 l4 c4) w1)
theorem C50 {a1 : Option Addr} {l1 : Nat} {c1 : Nat} {Q : Value → World → Prop} {w : World} (h : L50 a1 l1 c1 Q w) : CallR Tryz.prog 50 [.slice a1 l1 c1] w Q :=
  fun_calls (A := A50) mixed Tryz.func50 (c := (Tryz.f50.body).getD .skip) rfl (by kernel_rfl) (Eq.mp (by kernel_rfl) h)
def A51 : Ann := ⟨[(3, [(3, .one (.slice)), (4, .one (.int .i64))])], [], [], [], [(5, [0, 1, 2, 3, 4, 5, 6, 7, 8, 9, 10, 11, 12], 13, [14, 15])], []⟩
def L51 (a1 : Option Addr) (l1 : Nat) (c1 : Nat) (Q : Value → World → Prop) (w : World) : Prop :=
  ∃ (I2 : List Value → World → Prop) (mu3 : List Value → World → Nat),
  I2 [.slice none 0 0, .int .i64 0] w ∧
  ∀ (_ : Env) (a4 : Option Addr) (l4 : Nat) (c4 : Nat) (n5 : Int) (w1 : World), I2 [.slice a4 l4 c4, .int .i64 n5] w1 →
  cond (decide (n5 < (((l1 : Nat) : Int))))
  (∃ (S6 : World → Prop), S6 (World.drew w1) ∧
  let w2 := World.drew w1;
  (0 ≤ (n5 : Int) ∧ (n5 : Int) < ((l1 : Nat) : Int)) ∧
  nn a1 (fun (q7 : Addr) =>
  ∃ (s8 : ByteArray), (∀ wS : World, S6 wS → wS.cell? (Addr.add q7 (Int.toNat n5 * 2)) = some ((.string s8 : Value))) ∧
  (0 ≤ (n5 : Int) ∧ (n5 : Int) < ((l1 : Nat) : Int)) ∧
  nn a1 (fun (q9 : Addr) =>
  ∃ (a10 : Option Addr) (l10 : Nat) (c10 : Nat), (∀ wS : World, S6 wS → wS.cell? (Addr.add (Addr.add q9 (Int.toNat n5 * 2)) 1) = some ((.slice a10 l10 c10 : Value))) ∧
  CallR Tryz.prog 155 [.slice a10 l10 c10] w2 (fun (r12 : Value) (w3 : World) =>
  ∃ (a11 : Option Addr) (l11 : Nat) (c11 : Nat), r12 = .slice a11 l11 c11 ∧
  S6 w3 ∧
  let w4 := World.alloc w3 (Obj.cells #[.string s8, .slice a11 l11 c11] 127);
  ∃ (a13 : Option Addr) (l13 : Nat) (c13 : Nat) (w5 : World), Sem.run Tryz.prog (Builtin.append_ #[23, 23] 23 #[.slice a4 l4 c4, .slice (some (Addr.mk w3.heap.size 0 none)) 1 1]) w4 = .ok ((.slice a13 l13 c13 : Value)) w5 ∧
  inI (n5 + 1) ∧
  I2 [.slice a13 l13 c13, .int .i64 (n5 + 1)] w5 ∧ mu3 [.slice a13 l13 c13, .int .i64 (n5 + 1)] w5 < mu3 [.slice a4 l4 c4, .int .i64 n5] w1))))
  (Q (.slice a4 l4 c4) w1)
theorem C51 {a1 : Option Addr} {l1 : Nat} {c1 : Nat} {Q : Value → World → Prop} {w : World} (h : L51 a1 l1 c1 Q w) : CallR Tryz.prog 51 [.slice a1 l1 c1] w Q :=
  fun_calls (A := A51) mixed Tryz.func51 (c := (Tryz.f51.body).getD .skip) rfl (by kernel_rfl) (Eq.mp (by kernel_rfl) h)
def A52 : Ann := ⟨[], [], [], [], [], []⟩
def L52 (a1 : Option Addr) (l1 : Nat) (c1 : Nat) (Q : Value → World → Prop) (w : World) : Prop :=
  ∃ (a2 : Option Addr) (l2 : Nat) (c2 : Nat) (w1 : World), Sem.run Tryz.prog (Builtin.append_ #[24, 24] 24 #[.slice none 0 0, .slice a1 l1 c1]) w = .ok ((.slice a2 l2 c2 : Value)) w1 ∧
  Q (.slice a2 l2 c2) w1
theorem C52 {a1 : Option Addr} {l1 : Nat} {c1 : Nat} {Q : Value → World → Prop} {w : World} (h : L52 a1 l1 c1 Q w) : CallR Tryz.prog 52 [.slice a1 l1 c1] w Q :=
  fun_calls (A := A52) mixed Tryz.func52 (c := (Tryz.f52.body).getD .skip) rfl (by kernel_rfl) (Eq.mp (by kernel_rfl) h)
def A7 : Ann := ⟨[], [], [], [], [(1, [0, 1, 3, 4, 6, 7, 2, 5], 8, [9, 10])], []⟩
def L7 (a1 : Option Addr) (l1 : Nat) (c1 : Nat) (a2 : Option Addr) (l2 : Nat) (c2 : Nat) (a3 : Option Addr) (l3 : Nat) (c3 : Nat) (Q : Value → World → Prop) (w : World) : Prop :=
  let w1 := World.alloc w (Obj.cells #[.slice a1 l1 c1, .slice a2 l2 c2, .slice a3 l3 c3] 26);
  let w2 := World.alloc w1 (Obj.cells #[.slice none 0 0, .slice none 0 0, .slice none 0 0] 28);
  ∃ (S4 : World → Prop), S4 (World.drew w2) ∧
  let w3 := World.drew w2;
  ∃ (a5 : Option Addr) (l5 : Nat) (c5 : Nat), (∀ wS : World, S4 wS → wS.cell? (Addr.mk w.heap.size 0 none) = some ((.slice a5 l5 c5 : Value))) ∧
  ∃ (a6 : Option Addr) (l6 : Nat) (c6 : Nat), (∀ wS : World, S4 wS → wS.cell? (Addr.mk w.heap.size 1 none) = some ((.slice a6 l6 c6 : Value))) ∧
  ∃ (a7 : Option Addr) (l7 : Nat) (c7 : Nat), (∀ wS : World, S4 wS → wS.cell? (Addr.mk w.heap.size 2 none) = some ((.slice a7 l7 c7 : Value))) ∧
  CallR Tryz.prog 50 [.slice a5 l5 c5] w3 (fun (r9 : Value) (w4 : World) =>
  ∃ (a8 : Option Addr) (l8 : Nat) (c8 : Nat), r9 = .slice a8 l8 c8 ∧
  S4 w4 ∧
  CallR Tryz.prog 51 [.slice a6 l6 c6] w4 (fun (r11 : Value) (w5 : World) =>
  ∃ (a10 : Option Addr) (l10 : Nat) (c10 : Nat), r11 = .slice a10 l10 c10 ∧
  S4 w5 ∧
  CallR Tryz.prog 52 [.slice a7 l7 c7] w5 (fun (r13 : Value) (w6 : World) =>
  ∃ (a12 : Option Addr) (l12 : Nat) (c12 : Nat), r13 = .slice a12 l12 c12 ∧
  stC (Addr.mk w1.heap.size 0 none) (.slice a8 l8 c8) w6 (fun (w7 : World) =>
  stC (Addr.mk w1.heap.size 1 none) (.slice a10 l10 c10) w7 (fun (w8 : World) =>
  stC (Addr.mk w1.heap.size 2 none) (.slice a12 l12 c12) w8 (fun (w9 : World) =>
  ∃ (a14 : Option Addr) (l14 : Nat) (c14 : Nat) (a15 : Option Addr) (l15 : Nat) (c15 : Nat) (a16 : Option Addr) (l16 : Nat) (c16 : Nat), w9.cell? (Addr.mk w1.heap.size 0 none) = some ((.slice a14 l14 c14 : Value)) ∧ w9.cell? (Addr.mk w1.heap.size 1 none) = some ((.slice a15 l15 c15 : Value)) ∧ w9.cell? (Addr.mk w1.heap.size 2 none) = some ((.slice a16 l16 c16 : Value)) ∧ 
  Q (.agg #[.slice a14 l14 c14, .slice a15 l15 c15, .slice a16 l16 c16]) w9))))))
theorem C7 {a1 : Option Addr} {l1 : Nat} {c1 : Nat} {a2 : Option Addr} {l2 : Nat} {c2 : Nat} {a3 : Option Addr} {l3 : Nat} {c3 : Nat} {Q : Value → World → Prop} {w : World} (h : L7 a1 l1 c1 a2 l2 c2 a3 l3 c3 Q w) : CallR Tryz.prog 7 [.agg #[.slice a1 l1 c1, .slice a2 l2 c2, .slice a3 l3 c3]] w Q :=
  fun_calls (A := A7) mixed Tryz.func7 (c := (Tryz.f7.body).getD .skip) rfl (by kernel_rfl) (Eq.mp (by kernel_rfl) h)
def L11 (n1 : Int) (Q : Value → World → Prop) (w : World) : Prop :=
  Q (.int .i64 n1) w
def L15 (Q : Value → World → Prop) (w : World) : Prop :=
  CallR Tryz.prog 90 [] w (fun (r2 : Value) (w1 : World) =>
  ∃ (p1 : Option Addr), r2 = .pointer p1 ∧
  cond (Option.isNone p1)
  (Q (.bool false) w1)
  (CallR Tryz.prog 30 [.pointer p1, .string (ByteArray.mk #[97]), .int .i64 1] w1 (fun (r5 : Value) (w2 : World) =>
  ∃ (n3 : Int) (n4 : Int), r5 = .tuple #[.int .i64 n3, .int .i64 n4] ∧
  CallR Tryz.prog 64 [.pointer p1, .int .i64 n3, .int .i64 5] w2 (fun (r8 : Value) (w3 : World) =>
  ∃ (a6 : Option Addr) (l6 : Nat) (c6 : Nat) (n7 : Int), r8 = .tuple #[.slice a6 l6 c6, .int .i64 n7] ∧
  CallR Tryz.prog 64 [.pointer p1, .int .i64 n3, .int .i64 5] w3 (fun (r11 : Value) (w4 : World) =>
  ∃ (a9 : Option Addr) (l9 : Nat) (c9 : Nat) (n10 : Int), r11 = .tuple #[.slice a9 l9 c9, .int .i64 n10] ∧
  CallR Tryz.prog 64 [.pointer p1, .int .i64 n3, .int .i64 5] w4 (fun (r14 : Value) (w5 : World) =>
  ∃ (a12 : Option Addr) (l12 : Nat) (c12 : Nat) (n13 : Int), r14 = .tuple #[.slice a12 l12 c12, .int .i64 n13] ∧
  CallR Tryz.prog 30 [.pointer p1, .string (ByteArray.mk #[98]), .int .i64 1] w5 (fun (r17 : Value) (w6 : World) =>
  ∃ (n15 : Int) (n16 : Int), r17 = .tuple #[.int .i64 n15, .int .i64 n16] ∧
  CallR Tryz.prog 30 [.pointer p1, .string (ByteArray.mk #[98]), .int .i64 42] w6 (fun (r20 : Value) (w7 : World) =>
  ∃ (n18 : Int) (n19 : Int), r20 = .tuple #[.int .i64 n18, .int .i64 n19] ∧
  CallR Tryz.prog 30 [.pointer p1, .string (ByteArray.mk #[98]), .int .i64 42] w7 (fun (r23 : Value) (w8 : World) =>
  ∃ (n21 : Int) (n22 : Int), r23 = .tuple #[.int .i64 n21, .int .i64 n22] ∧
  CallR Tryz.prog 11 [.int .i64 n4] w8 (fun (r25 : Value) (w9 : World) =>
  ∃ (n24 : Int), r25 = .int .i64 n24 ∧
  CallR Tryz.prog 11 [.int .i64 n7] w9 (fun (r27 : Value) (w10 : World) =>
  ∃ (n26 : Int), r27 = .int .i64 n26 ∧
  inI (n24 + n26) ∧
  CallR Tryz.prog 11 [.int .i64 n13] w10 (fun (r29 : Value) (w11 : World) =>
  ∃ (n28 : Int), r29 = .int .i64 n28 ∧
  inI ((n24 + n26) + n28) ∧
  CallR Tryz.prog 11 [.int .i64 n19] w11 (fun (r31 : Value) (w12 : World) =>
  ∃ (n30 : Int), r31 = .int .i64 n30 ∧
  inI (((n24 + n26) + n28) + n30) ∧
  cond ((((n24 + n26) + n28) + n30) == 0)
  (cond (n3 == 1)
  (cond (n18 == 2)
  (∃ (s32 : ByteArray) (w13 : World), Sem.run Tryz.prog (convert 40 9 (.slice a6 l6 c6)) w12 = .ok ((.string s32 : Value)) w13 ∧
  cond (ByteArray.toList s32 == ByteArray.toList (ByteArray.mk #[104, 101]))
  (∃ (s33 : ByteArray) (w14 : World), Sem.run Tryz.prog (convert 40 9 (.slice a12 l12 c12)) w13 = .ok ((.string s33 : Value)) w14 ∧
  cond (ByteArray.toList s33 == ByteArray.toList (ByteArray.mk #[108, 108, 111]))
  (CallR Tryz.prog 11 [.int .i64 n10] w14 (fun (r35 : Value) (w15 : World) =>
  ∃ (n34 : Int), r35 = .int .i64 n34 ∧
  cond (n34 == 22)
  (CallR Tryz.prog 11 [.int .i64 n16] w15 (fun (r37 : Value) (w16 : World) =>
  ∃ (n36 : Int), r37 = .int .i64 n36 ∧
  cond (n36 == 62)
  (CallR Tryz.prog 11 [.int .i64 n22] w16 (fun (r39 : Value) (w17 : World) =>
  ∃ (n38 : Int), r39 = .int .i64 n38 ∧
  Q (.bool (n38 == 63)) w17))
  (Q (.bool false) w16)))
  (Q (.bool false) w15)))
  (Q (.bool false) w14))
  (Q (.bool false) w13))
  (Q (.bool false) w12))
  (Q (.bool false) w12))
  (Q (.bool false) w12))))))))))))))
def A76 : Ann := ⟨[(5, [(3, .one (.slice))]), (11, [(5, .one (.slice)), (27, .one (.int .i64))])], [], [], [], [], []⟩
def L76 (p1 : Option Addr) (Q : Value → World → Prop) (w : World) : Prop :=
  CallR Tryz.prog 118 [.pointer p1] w (fun (r3 : Value) (w1 : World) =>
  ∃ (b2 : Bool), r3 = .bool b2 ∧
  cond b2
  (Q (.slice none 0 0) w1)
  (nn p1 (fun (q4 : Addr) =>
  ∃ (m5 : Option Nat), w1.cell? (Addr.add q4 1) = some ((.map m5 : Value)) ∧
  ∃ (w2 : World), Sem.run Tryz.prog (Instr.range 112 (.map m5)) w1 = .ok (.pointer (some (Addr.mk w1.heap.size 0 none))) w2 ∧
  ∃ (I6 : List Value → World → Prop) (mu7 : List Value → World → Nat),
  I6 [.slice none 0 0] w2 ∧
  ∀ (_ : Env) (a8 : Option Addr) (l8 : Nat) (c8 : Nat) (w3 : World), I6 [.slice a8 l8 c8] w3 →
  (∃ (w4 : World), Sem.run Tryz.prog (Instr.next (.pointer (some (Addr.mk w1.heap.size 0 none))) false 0) w3 = .ok (.tuple #[.bool false]) w4 ∧
  CallR Tryz.prog 180 [.slice a8 l8 c8] w4 (fun (r11 : Value) (w6 : World) =>
  r11 = .tuple #[] ∧
  ∃ (I12 : List Value → World → Prop) (mu13 : List Value → World → Nat),
  I12 [.slice none 0 0, .int .i64 0] w6 ∧
  ∀ (_ : Env) (a14 : Option Addr) (l14 : Nat) (c14 : Nat) (n15 : Int) (w7 : World), I12 [.slice a14 l14 c14, .int .i64 n15] w7 →
  cond (decide (n15 < (((l8 : Nat) : Int))))
  ((0 ≤ (n15 : Int) ∧ (n15 : Int) < ((l8 : Nat) : Int)) ∧
  nn a8 (fun (q16 : Addr) =>
  ∃ (s17 : ByteArray), w7.cell? (Addr.add q16 (Int.toNat n15)) = some ((.string s17 : Value)) ∧
  nn p1 (fun (q18 : Addr) =>
  ∃ (m19 : Option Nat), w7.cell? (Addr.add q18 1) = some ((.map m19 : Value)) ∧
  ∃ (p20 : Option Addr) (w8 : World), Sem.run Tryz.prog (Instr.lookup 112 (.map m19) (.string s17) false) w7 = .ok ((.pointer p20 : Value)) w8 ∧
  CallR Tryz.prog 181 [.pointer p20] w8 (fun (r22 : Value) (w9 : World) =>
  ∃ (a21 : Option Addr) (l21 : Nat) (c21 : Nat), r22 = .slice a21 l21 c21 ∧
  let w10 := World.alloc w9 (Obj.cells #[.string s17, .slice a21 l21 c21] 122);
  ∃ (a23 : Option Addr) (l23 : Nat) (c23 : Nat) (w11 : World), Sem.run Tryz.prog (Builtin.append_ #[22, 22] 22 #[.slice a14 l14 c14, .slice (some (Addr.mk w9.heap.size 0 none)) 1 1]) w10 = .ok ((.slice a23 l23 c23 : Value)) w11 ∧
  inI (n15 + 1) ∧
  I12 [.slice a23 l23 c23, .int .i64 (n15 + 1)] w11 ∧ mu13 [.slice a23 l23 c23, .int .i64 (n15 + 1)] w11 < mu13 [.slice a14 l14 c14, .int .i64 n15] w7))))
  (Q (.slice a14 l14 c14) w7))) ∨
  (∃ (v9 : Value) (v10 : Value) (w5 : World), Sem.run Tryz.prog (Instr.next (.pointer (some (Addr.mk w1.heap.size 0 none))) false 0) w3 = .ok (.tuple #[.bool true, v9, v10]) w5 ∧
  ∃ (s24 : ByteArray) (v25 : Value) (w12 : World), Sem.run Tryz.prog (Instr.entry (.pointer (some (Addr.mk w1.heap.size 0 none)))) w5 = .ok (.tuple #[.string s24, v25]) w12 ∧
  let w13 := World.alloc w12 (Obj.cells #[.string s24] 9);
  ∃ (a26 : Option Addr) (l26 : Nat) (c26 : Nat) (w14 : World), Sem.run Tryz.prog (Builtin.append_ #[131, 131] 131 #[.slice a8 l8 c8, .slice (some (Addr.mk w12.heap.size 0 none)) 1 1]) w13 = .ok ((.slice a26 l26 c26 : Value)) w14 ∧
  I6 [.slice a26 l26 c26] w14 ∧ mu7 [.slice a26 l26 c26] w14 < mu7 [.slice a8 l8 c8] w3))))
theorem C76 {p1 : Option Addr} {Q : Value → World → Prop} {w : World} (h : L76 p1 Q w) : CallR Tryz.prog 76 [.pointer p1] w Q :=
  fun_calls (A := A76) mixed Tryz.func76 (c := (Tryz.f76.body).getD .skip) rfl (by kernel_rfl) (Eq.mp (by kernel_rfl) h)
def A75 : Ann := ⟨[(4, [(5, .one (.int .i64))])], [], [], [(6, [0, 1, 2, 3, 4, 5, 6, 7, 8, 9, 10, 11, 12, 13, 14, 15, 16, 17, 18, 19, 20, 21, 22, 23, 24])], [], []⟩
def L75 (a1 : Option Addr) (l1 : Nat) (c1 : Nat) (a2 : Option Addr) (l2 : Nat) (c2 : Nat) (Q : Value → World → Prop) (w : World) : Prop :=
  cond ((((l1 : Nat) : Int)) != (((l2 : Nat) : Int)))
  (Q (.bool false) w)
  (∃ (I3 : List Value → World → Prop) (mu4 : List Value → World → Nat),
  I3 [.int .i64 0] w ∧
  ∀ (_ : Env) (n5 : Int) (w1 : World), I3 [.int .i64 n5] w1 →
  cond (decide (n5 < (((l1 : Nat) : Int))))
  (let w2 := World.drew w1;
  (0 ≤ (n5 : Int) ∧ (n5 : Int) < ((l1 : Nat) : Int)) ∧
  nn a1 (fun (q6 : Addr) =>
  ∃ (s7 : ByteArray), w2.cell? (Addr.add q6 (Int.toNat n5 * 2)) = some ((.string s7 : Value)) ∧
  (0 ≤ (n5 : Int) ∧ (n5 : Int) < ((l2 : Nat) : Int)) ∧
  nn a2 (fun (q8 : Addr) =>
  ∃ (s9 : ByteArray), w2.cell? (Addr.add q8 (Int.toNat n5 * 2)) = some ((.string s9 : Value)) ∧
  cond (!(ByteArray.toList s7 == ByteArray.toList s9))
  (Q (.bool false) w2)
  ((0 ≤ (n5 : Int) ∧ (n5 : Int) < ((l1 : Nat) : Int)) ∧
  nn a1 (fun (q10 : Addr) =>
  ∃ (a11 : Option Addr) (l11 : Nat) (c11 : Nat), w2.cell? (Addr.add (Addr.add q10 (Int.toNat n5 * 2)) 1) = some ((.slice a11 l11 c11 : Value)) ∧
  (0 ≤ (n5 : Int) ∧ (n5 : Int) < ((l2 : Nat) : Int)) ∧
  nn a2 (fun (q12 : Addr) =>
  ∃ (a13 : Option Addr) (l13 : Nat) (c13 : Nat), w2.cell? (Addr.add (Addr.add q12 (Int.toNat n5 * 2)) 1) = some ((.slice a13 l13 c13 : Value)) ∧
  CallR Tryz.prog 39 [.slice a11 l11 c11, .slice a13 l13 c13] w2 (fun (r15 : Value) (w3 : World) =>
  ∃ (b14 : Bool), r15 = .bool b14 ∧
  cond (!b14)
  (Q (.bool false) w3)
  (inI (n5 + 1) ∧
  I3 [.int .i64 (n5 + 1)] w3 ∧ mu4 [.int .i64 (n5 + 1)] w3 < mu4 [.int .i64 n5] w1))))))))
  (Q (.bool true) w1))
theorem C75 {a1 : Option Addr} {l1 : Nat} {c1 : Nat} {a2 : Option Addr} {l2 : Nat} {c2 : Nat} {Q : Value → World → Prop} {w : World} (h : L75 a1 l1 c1 a2 l2 c2 Q w) : CallR Tryz.prog 75 [.slice a1 l1 c1, .slice a2 l2 c2] w Q :=
  fun_calls (A := A75) mixed Tryz.func75 (c := (Tryz.f75.body).getD .skip) rfl (by kernel_rfl) (Eq.mp (by kernel_rfl) h)
def A78 : Ann := ⟨[(4, [(5, .one (.int .i64))])], [], [], [(6, [0, 1, 2, 3, 4, 5, 6, 7, 8])], [], []⟩
def L78 (a1 : Option Addr) (l1 : Nat) (c1 : Nat) (a2 : Option Addr) (l2 : Nat) (c2 : Nat) (Q : Value → World → Prop) (w : World) : Prop :=
  cond ((((l1 : Nat) : Int)) != (((l2 : Nat) : Int)))
  (Q (.bool false) w)
  (∃ (I3 : List Value → World → Prop) (mu4 : List Value → World → Nat),
  I3 [.int .i64 0] w ∧
  ∀ (_ : Env) (n5 : Int) (w1 : World), I3 [.int .i64 n5] w1 →
  cond (decide (n5 < (((l1 : Nat) : Int))))
  (let w2 := World.drew w1;
  (0 ≤ (n5 : Int) ∧ (n5 : Int) < ((l1 : Nat) : Int)) ∧
  nn a1 (fun (q6 : Addr) =>
  ∃ (n7 : Int) (n8 : Int), w2.cell? (Addr.add q6 (Int.toNat n5 * 2)) = some ((.int .i64 n7 : Value)) ∧ w2.cell? (Addr.add (Addr.add q6 (Int.toNat n5 * 2)) 1) = some ((.int .i64 n8 : Value)) ∧ 
  (0 ≤ (n5 : Int) ∧ (n5 : Int) < ((l2 : Nat) : Int)) ∧
  nn a2 (fun (q9 : Addr) =>
  ∃ (n10 : Int) (n11 : Int), w2.cell? (Addr.add q9 (Int.toNat n5 * 2)) = some ((.int .i64 n10 : Value)) ∧ w2.cell? (Addr.add (Addr.add q9 (Int.toNat n5 * 2)) 1) = some ((.int .i64 n11 : Value)) ∧ 
  ∃ (b12 : Bool) (w3 : World), Sem.run Tryz.prog (Sem.bind (eqGuard .neq 188 (.tmp 20) (.tmp 24) (.agg #[.int .i64 n7, .int .i64 n8]) (.agg #[.int .i64 n10, .int .i64 n11])) (fun _ => binOp .neq 188 (.agg #[.int .i64 n7, .int .i64 n8]) (.agg #[.int .i64 n10, .int .i64 n11]))) w2 = .ok ((.bool b12 : Value)) w3 ∧
  cond b12
  (Q (.bool false) w3)
  (inI (n5 + 1) ∧
  I3 [.int .i64 (n5 + 1)] w3 ∧ mu4 [.int .i64 (n5 + 1)] w3 < mu4 [.int .i64 n5] w1))))
  (Q (.bool true) w1))
theorem C78 {a1 : Option Addr} {l1 : Nat} {c1 : Nat} {a2 : Option Addr} {l2 : Nat} {c2 : Nat} {Q : Value → World → Prop} {w : World} (h : L78 a1 l1 c1 a2 l2 c2 Q w) : CallR Tryz.prog 78 [.slice a1 l1 c1, .slice a2 l2 c2] w Q :=
  fun_calls (A := A78) mixed Tryz.func78 (c := (Tryz.f78.body).getD .skip) rfl (by kernel_rfl) (Eq.mp (by kernel_rfl) h)
def A79 : Ann := ⟨[], [], [], [], [], []⟩
def L79 (p1 : Option Addr) (Q : Value → World → Prop) (w : World) : Prop :=
  CallR Tryz.prog 118 [.pointer p1] w (fun (r3 : Value) (w1 : World) =>
  ∃ (b2 : Bool), r3 = .bool b2 ∧
  cond b2
  (Q (.slice none 0 0) w1)
  (nn p1 (fun (q4 : Addr) =>
  ∃ (p5 : Option Addr), w1.cell? (Addr.add q4 5) = some ((.pointer p5 : Value)) ∧
  CallR Tryz.prog 182 [.pointer p5] w1 (fun (r7 : Value) (w2 : World) =>
  ∃ (a6 : Option Addr) (l6 : Nat) (c6 : Nat), r7 = .slice a6 l6 c6 ∧
  Q (.slice a6 l6 c6) w2))))
theorem C79 {p1 : Option Addr} {Q : Value → World → Prop} {w : World} (h : L79 p1 Q w) : CallR Tryz.prog 79 [.pointer p1] w Q :=
  fun_calls (A := A79) mixed Tryz.func79 (c := (Tryz.f79.body).getD .skip) rfl (by kernel_rfl) (Eq.mp (by kernel_rfl) h)
def A182 : Ann := ⟨[], [], [], [], [], []⟩
def L182 (p1 : Option Addr) (Q : Value → World → Prop) (w : World) : Prop :=
  cond (Option.isNone p1)
  (Q (.slice none 0 0) w)
  (nn p1 (fun (q2 : Addr) =>
  ∃ (a3 : Option Addr) (l3 : Nat) (c3 : Nat), w.cell? (Addr.add q2 1) = some ((.slice a3 l3 c3 : Value)) ∧
  CallR Tryz.prog 156 [.slice a3 l3 c3] w (fun (r5 : Value) (w1 : World) =>
  ∃ (a4 : Option Addr) (l4 : Nat) (c4 : Nat), r5 = .slice a4 l4 c4 ∧
  Q (.slice a4 l4 c4) w1)))
theorem C182 {p1 : Option Addr} {Q : Value → World → Prop} {w : World} (h : L182 p1 Q w) : CallR Tryz.prog 182 [.pointer p1] w Q :=
  fun_calls (A := A182) mixed Tryz.func182 (c := (Tryz.f182.body).getD .skip) rfl (by kernel_rfl) (Eq.mp (by kernel_rfl) h)
def A74 : Ann := ⟨[], [], [], [], [], []⟩
def L74 (p1 : Option Addr) (Q : Value → World → Prop) (w : World) : Prop :=
  CallR Tryz.prog 118 [.pointer p1] w (fun (r3 : Value) (w1 : World) =>
  ∃ (b2 : Bool), r3 = .bool b2 ∧
  cond b2
  (Q (.tuple #[.int .i64 0, .int .i64 0]) w1)
  (nn p1 (fun (q5 : Addr) =>
  (0 ≤ (0 : Int) ∧ (0 : Int) < ((2 : Nat) : Int)) ∧
  ∃ (n6 : Int), w1.cell? (Addr.add (Addr.add q5 6) (Int.toNat 0)) = some ((.int .i64 n6 : Value)) ∧
  nn p1 (fun (q7 : Addr) =>
  (0 ≤ (1 : Int) ∧ (1 : Int) < ((2 : Nat) : Int)) ∧
  ∃ (n8 : Int), w1.cell? (Addr.add (Addr.add q7 6) (Int.toNat 1)) = some ((.int .i64 n8 : Value)) ∧
  ∀ nd4 : Nat, let w2 := World.drewN w1 nd4;
  Q (.tuple #[.int .i64 n6, .int .i64 n8]) w2))))
theorem C74 {p1 : Option Addr} {Q : Value → World → Prop} {w : World} (h : L74 p1 Q w) : CallR Tryz.prog 74 [.pointer p1] w Q :=
  fun_calls (A := A74) mixed Tryz.func74 (c := (Tryz.f74.body).getD .skip) rfl (by kernel_rfl) (Eq.mp (by kernel_rfl) h)
def A81 : Ann := ⟨[], [], [], [], [], []⟩
def L81 (p1 : Option Addr) (s2 : ByteArray) (Q : Value → World → Prop) (w : World) : Prop :=
  CallR Tryz.prog 118 [.pointer p1] w (fun (r4 : Value) (w1 : World) =>
  ∃ (b3 : Bool), r4 = .bool b3 ∧
  cond b3
  (Q (.tuple #[.slice none 0 0, .bool false]) w1)
  (nn p1 (fun (q5 : Addr) =>
  ∃ (m6 : Option Nat), w1.cell? (Addr.add q5 2) = some ((.map m6 : Value)) ∧
  ∃ (p7 : Option Addr) (b8 : Bool) (w2 : World), Sem.run Tryz.prog (Instr.lookup 113 (.map m6) (.string s2) true) w1 = .ok ((.tuple #[.pointer p7, .bool b8] : Value)) w2 ∧
  CallR Tryz.prog 183 [.pointer p7] w2 (fun (r10 : Value) (w3 : World) =>
  ∃ (a9 : Option Addr) (l9 : Nat) (c9 : Nat), r10 = .slice a9 l9 c9 ∧
  Q (.tuple #[.slice a9 l9 c9, .bool b8]) w3))))
theorem C81 {p1 : Option Addr} {s2 : ByteArray} {Q : Value → World → Prop} {w : World} (h : L81 p1 s2 Q w) : CallR Tryz.prog 81 [.pointer p1, .string s2] w Q :=
  fun_calls (A := A81) mixed Tryz.func81 (c := (Tryz.f81.body).getD .skip) rfl (by kernel_rfl) (Eq.mp (by kernel_rfl) h)
def A192 : Ann := ⟨[], [], [], [], [], []⟩
def L192 (p1 : Option Addr) (n2 : Int) (n3 : Int) (n4 : Int) (Q : Value → World → Prop) (w : World) : Prop :=
  let w1 := World.alloc w (Obj.cells #[.pointer p1, .int .i64 n2] 70);
  ∃ (p5 : Option Addr), w1.cell? (Addr.mk w.heap.size 0 none) = some ((.pointer p5 : Value)) ∧
  ∃ (n6 : Int), w1.cell? (Addr.mk w.heap.size 1 none) = some ((.int .i64 n6 : Value)) ∧
  CallR Tryz.prog 68 [.pointer p5, .int .i64 n6, .int .i64 n3, .int .i64 n4] w1 (fun (r9 : Value) (w2 : World) =>
  ∃ (n7 : Int) (n8 : Int), r9 = .tuple #[.int .i64 n7, .int .i64 n8] ∧
  Q (.tuple #[.int .i64 n7, .int .i64 n8]) w2)
theorem C192 {p1 : Option Addr} {n2 : Int} {n3 : Int} {n4 : Int} {Q : Value → World → Prop} {w : World} (h : L192 p1 n2 n3 n4 Q w) : CallR Tryz.prog 192 [.agg #[.pointer p1, .int .i64 n2], .int .i64 n3, .int .i64 n4] w Q :=
  fun_calls (A := A192) mixed Tryz.func192 (c := (Tryz.f192.body).getD .skip) rfl (by kernel_rfl) (Eq.mp (by kernel_rfl) h)
def A180 : Ann := ⟨[], [], [], [], [], []⟩
def L180 (a1 : Option Addr) (l1 : Nat) (c1 : Nat) (Q : Value → World → Prop) (w : World) : Prop :=
  CallR Tryz.prog 207 [.int .u64 (IntKind.wrap .u64 (((l1 : Nat) : Int)))] w (fun (r3 : Value) (w1 : World) =>
  ∃ (n2 : Int), r3 = .int .i64 n2 ∧
  CallR Tryz.prog 206 [.slice a1 l1 c1, .int .i64 0, .int .i64 (((l1 : Nat) : Int)), .int .i64 n2] w1 (fun (r4 : Value) (w2 : World) =>
  r4 = .tuple #[] ∧
  Q (.tuple #[]) w2))
theorem C180 {a1 : Option Addr} {l1 : Nat} {c1 : Nat} {Q : Value → World → Prop} {w : World} (h : L180 a1 l1 c1 Q w) : CallR Tryz.prog 180 [.slice a1 l1 c1] w Q :=
  fun_calls (A := A180) mixed Tryz.func180 (c := (Tryz.f180.body).getD .skip) rfl (by kernel_rfl) (Eq.mp (by kernel_rfl) h)
def A206 : Ann := ⟨[(2, [(1, .one (.int .i64)), (2, .one (.int .i64)), (3, .one (.int .i64)), (8, .one (.bool)), (9, .one (.bool))])], [(10, [(3, .one (.int .i64))]), (15, [(11, .one (.int .i64)), (12, .one (.int .i64))]), (17, [])], [], [(17, [0, 1, 2, 3, 4, 5, 6, 7, 8, 9, 10, 11, 12, 13, 14])], [], []⟩
def L206 (a1 : Option Addr) (l1 : Nat) (c1 : Nat) (n2 : Int) (n3 : Int) (n4 : Int) (Q : Value → World → Prop) (w : World) : Prop :=
  ∃ (I5 : List Value → World → Prop) (mu6 : List Value → World → Nat),
  I5 [.int .i64 n2, .int .i64 n3, .int .i64 n4, .bool true, .bool true] w ∧
  ∀ (_ : Env) (n7 : Int) (n8 : Int) (n9 : Int) (b10 : Bool) (b11 : Bool) (w1 : World), I5 [.int .i64 n7, .int .i64 n8, .int .i64 n9, .bool b10, .bool b11] w1 →
  inI (n8 - n7) ∧
  cond (decide ((n8 - n7) ≤ 12))
  (CallR Tryz.prog 211 [.slice a1 l1 c1, .int .i64 n7, .int .i64 n8] w1 (fun (r12 : Value) (w2 : World) =>
  r12 = .tuple #[] ∧
  Q (.tuple #[]) w2))
  (cond (n9 == 0)
  (CallR Tryz.prog 212 [.slice a1 l1 c1, .int .i64 n7, .int .i64 n8] w1 (fun (r13 : Value) (w3 : World) =>
  r13 = .tuple #[] ∧
  Q (.tuple #[]) w3))
  (∃ (J14 : List Value → World → Prop),
  (cond (!b10)
  (CallR Tryz.prog 213 [.slice a1 l1 c1, .int .i64 n7, .int .i64 n8] w1 (fun (r15 : Value) (w4 : World) =>
  r15 = .tuple #[] ∧
  inI (n9 - 1) ∧
  J14 [.int .i64 (n9 - 1)] w4))
  (J14 [.int .i64 n9] w1)) ∧
  (∀ (_ : Env) (n16 : Int) (w5 : World), J14 [.int .i64 n16] w5 →
  CallR Tryz.prog 214 [.slice a1 l1 c1, .int .i64 n7, .int .i64 n8] w5 (fun (r19 : Value) (w6 : World) =>
  ∃ (n17 : Int) (n18 : Int), r19 = .tuple #[.int .i64 n17, .int .i64 n18] ∧
  ∃ (J20 : List Value → World → Prop),
  (cond (n18 == 2)
  (CallR Tryz.prog 215 [.slice a1 l1 c1, .int .i64 n7, .int .i64 n8] w6 (fun (r21 : Value) (w7 : World) =>
  r21 = .tuple #[] ∧
  inI (n8 - 1) ∧
  inI (n17 - n7) ∧
  inI ((n8 - 1) - (n17 - n7)) ∧
  J20 [.int .i64 ((n8 - 1) - (n17 - n7)), .int .i64 1] w7))
  (J20 [.int .i64 n17, .int .i64 n18] w6)) ∧
  (∀ (_ : Env) (n22 : Int) (n23 : Int) (w8 : World), J20 [.int .i64 n22, .int .i64 n23] w8 →
  ∃ (J24 : List Value → World → Prop),
  (cond b10
  (cond b11
  (cond (n23 == 1)
  (CallR Tryz.prog 216 [.slice a1 l1 c1, .int .i64 n7, .int .i64 n8] w8 (fun (r26 : Value) (w9 : World) =>
  ∃ (b25 : Bool), r26 = .bool b25 ∧
  cond b25
  (Q (.tuple #[]) w9)
  (J24 [] w9)))
  (J24 [] w8))
  (J24 [] w8))
  (J24 [] w8)) ∧
  (∀ (_ : Env) (w10 : World), J24 [] w10 →
  let w11 := World.drew w10;
  cond (decide (n7 > 0))
  (inI (n7 - 1) ∧
  (0 ≤ (n7 - 1 : Int) ∧ (n7 - 1 : Int) < ((l1 : Nat) : Int)) ∧
  nn a1 (fun (q27 : Addr) =>
  ∃ (s28 : ByteArray), w11.cell? (Addr.add q27 (Int.toNat (n7 - 1))) = some ((.string s28 : Value)) ∧
  (0 ≤ (n22 : Int) ∧ (n22 : Int) < ((l1 : Nat) : Int)) ∧
  nn a1 (fun (q29 : Addr) =>
  ∃ (s30 : ByteArray), w11.cell? (Addr.add q29 (Int.toNat n22)) = some ((.string s30 : Value)) ∧
  CallR Tryz.prog 217 [.string s28, .string s30] w11 (fun (r32 : Value) (w12 : World) =>
  ∃ (b31 : Bool), r32 = .bool b31 ∧
  cond (!b31)
  (CallR Tryz.prog 218 [.slice a1 l1 c1, .int .i64 n7, .int .i64 n8, .int .i64 n22] w12 (fun (r34 : Value) (w13 : World) =>
  ∃ (n33 : Int), r34 = .int .i64 n33 ∧
  I5 [.int .i64 n33, .int .i64 n8, .int .i64 n16, .bool b10, .bool b11] w13 ∧ mu6 [.int .i64 n33, .int .i64 n8, .int .i64 n16, .bool b10, .bool b11] w13 < mu6 [.int .i64 n7, .int .i64 n8, .int .i64 n9, .bool b10, .bool b11] w1))
  (CallR Tryz.prog 219 [.slice a1 l1 c1, .int .i64 n7, .int .i64 n8, .int .i64 n22] w12 (fun (r37 : Value) (w14 : World) =>
  ∃ (n35 : Int) (b36 : Bool), r37 = .tuple #[.int .i64 n35, .bool b36] ∧
  inI (n35 - n7) ∧
  inI (n8 - n35) ∧
  (8 : Int) ≠ 0 ∧
  inI (Int.tdiv (n8 - n7) (8 : Int)) ∧
  cond (decide ((n35 - n7) < (n8 - n35)))
  (CallR Tryz.prog 206 [.slice a1 l1 c1, .int .i64 n7, .int .i64 n35, .int .i64 n16] w14 (fun (r38 : Value) (w15 : World) =>
  r38 = .tuple #[] ∧
  inI (n35 + 1) ∧
  I5 [.int .i64 (n35 + 1), .int .i64 n8, .int .i64 n16, .bool (decide ((n35 - n7) ≥ (Int.tdiv (n8 - n7) (8 : Int)))), .bool b36] w15 ∧ mu6 [.int .i64 (n35 + 1), .int .i64 n8, .int .i64 n16, .bool (decide ((n35 - n7) ≥ (Int.tdiv (n8 - n7) (8 : Int)))), .bool b36] w15 < mu6 [.int .i64 n7, .int .i64 n8, .int .i64 n9, .bool b10, .bool b11] w1))
  (inI (n35 + 1) ∧
  CallR Tryz.prog 206 [.slice a1 l1 c1, .int .i64 (n35 + 1), .int .i64 n8, .int .i64 n16] w14 (fun (r39 : Value) (w16 : World) =>
  r39 = .tuple #[] ∧
  I5 [.int .i64 n7, .int .i64 n35, .int .i64 n16, .bool (decide ((n8 - n35) ≥ (Int.tdiv (n8 - n7) (8 : Int)))), .bool b36] w16 ∧ mu6 [.int .i64 n7, .int .i64 n35, .int .i64 n16, .bool (decide ((n8 - n35) ≥ (Int.tdiv (n8 - n7) (8 : Int)))), .bool b36] w16 < mu6 [.int .i64 n7, .int .i64 n8, .int .i64 n9, .bool b10, .bool b11] w1))))))))
  (CallR Tryz.prog 219 [.slice a1 l1 c1, .int .i64 n7, .int .i64 n8, .int .i64 n22] w11 (fun (r42 : Value) (w17 : World) =>
  ∃ (n40 : Int) (b41 : Bool), r42 = .tuple #[.int .i64 n40, .bool b41] ∧
  inI (n40 - n7) ∧
  inI (n8 - n40) ∧
  (8 : Int) ≠ 0 ∧
  inI (Int.tdiv (n8 - n7) (8 : Int)) ∧
  cond (decide ((n40 - n7) < (n8 - n40)))
  (CallR Tryz.prog 206 [.slice a1 l1 c1, .int .i64 n7, .int .i64 n40, .int .i64 n16] w17 (fun (r43 : Value) (w18 : World) =>
  r43 = .tuple #[] ∧
  inI (n40 + 1) ∧
  I5 [.int .i64 (n40 + 1), .int .i64 n8, .int .i64 n16, .bool (decide ((n40 - n7) ≥ (Int.tdiv (n8 - n7) (8 : Int)))), .bool b41] w18 ∧ mu6 [.int .i64 (n40 + 1), .int .i64 n8, .int .i64 n16, .bool (decide ((n40 - n7) ≥ (Int.tdiv (n8 - n7) (8 : Int)))), .bool b41] w18 < mu6 [.int .i64 n7, .int .i64 n8, .int .i64 n9, .bool b10, .bool b11] w1))
  (inI (n40 + 1) ∧
  CallR Tryz.prog 206 [.slice a1 l1 c1, .int .i64 (n40 + 1), .int .i64 n8, .int .i64 n16] w17 (fun (r44 : Value) (w19 : World) =>
  r44 = .tuple #[] ∧
  I5 [.int .i64 n7, .int .i64 n40, .int .i64 n16, .bool (decide ((n8 - n40) ≥ (Int.tdiv (n8 - n7) (8 : Int)))), .bool b41] w19 ∧ mu6 [.int .i64 n7, .int .i64 n40, .int .i64 n16, .bool (decide ((n8 - n40) ≥ (Int.tdiv (n8 - n7) (8 : Int)))), .bool b41] w19 < mu6 [.int .i64 n7, .int .i64 n8, .int .i64 n9, .bool b10, .bool b11] w1))))))))))
theorem C206 {a1 : Option Addr} {l1 : Nat} {c1 : Nat} {n2 : Int} {n3 : Int} {n4 : Int} {Q : Value → World → Prop} {w : World} (h : L206 a1 l1 c1 n2 n3 n4 Q w) : CallR Tryz.prog 206 [.slice a1 l1 c1, .int .i64 n2, .int .i64 n3, .int .i64 n4] w Q :=
  fun_calls (A := A206) mixed Tryz.func206 (c := (Tryz.f206.body).getD .skip) rfl (by kernel_rfl) (Eq.mp (by kernel_rfl) h)
def A211 : Ann := ⟨[(1, [(6, .one (.int .i64))]), (4, [(7, .one (.int .i64))])], [], [], [(4, [0, 1, 2, 3, 4, 5, 6, 7, 8, 9, 10, 11, 12, 13, 14]), (6, [0, 1, 2, 3, 4, 5, 6, 7, 8, 9, 10, 11, 12, 13, 14, 15, 16, 17])], [], []⟩
def L211 (a1 : Option Addr) (l1 : Nat) (c1 : Nat) (n2 : Int) (n3 : Int) (Q : Value → World → Prop) (w : World) : Prop :=
  inI (n2 + 1) ∧
  ∃ (I4 : List Value → World → Prop) (mu5 : List Value → World → Nat),
  I4 [.int .i64 (n2 + 1)] w ∧
  ∀ (_ : Env) (n6 : Int) (w1 : World), I4 [.int .i64 n6] w1 →
  cond (decide (n6 < n3))
  (∃ (I7 : List Value → World → Prop) (mu8 : List Value → World → Nat),
  I7 [.int .i64 n6] w1 ∧
  ∀ (_ : Env) (n9 : Int) (w2 : World), I7 [.int .i64 n9] w2 →
  let w3 := World.drew w2;
  cond (decide (n9 > n2))
  ((0 ≤ (n9 : Int) ∧ (n9 : Int) < ((l1 : Nat) : Int)) ∧
  nn a1 (fun (q10 : Addr) =>
  ∃ (s11 : ByteArray), w3.cell? (Addr.add q10 (Int.toNat n9)) = some ((.string s11 : Value)) ∧
  inI (n9 - 1) ∧
  (0 ≤ (n9 - 1 : Int) ∧ (n9 - 1 : Int) < ((l1 : Nat) : Int)) ∧
  nn a1 (fun (q12 : Addr) =>
  ∃ (s13 : ByteArray), w3.cell? (Addr.add q12 (Int.toNat (n9 - 1))) = some ((.string s13 : Value)) ∧
  CallR Tryz.prog 217 [.string s11, .string s13] w3 (fun (r15 : Value) (w4 : World) =>
  ∃ (b14 : Bool), r15 = .bool b14 ∧
  cond b14
  (let w5 := World.drew w4;
  inI (n9 - 1) ∧
  inI (n9 - 1) ∧
  (0 ≤ (n9 - 1 : Int) ∧ (n9 - 1 : Int) < ((l1 : Nat) : Int)) ∧
  nn a1 (fun (q16 : Addr) =>
  ∃ (s17 : ByteArray), w5.cell? (Addr.add q16 (Int.toNat (n9 - 1))) = some ((.string s17 : Value)) ∧
  (0 ≤ (n9 : Int) ∧ (n9 : Int) < ((l1 : Nat) : Int)) ∧
  nn a1 (fun (q18 : Addr) =>
  ∃ (s19 : ByteArray), w5.cell? (Addr.add q18 (Int.toNat n9)) = some ((.string s19 : Value)) ∧
  (0 ≤ (n9 : Int) ∧ (n9 : Int) < ((l1 : Nat) : Int)) ∧
  nn a1 (fun (q20 : Addr) =>
  stC (Addr.add q20 (Int.toNat n9)) (.string s17) w5 (fun (w6 : World) =>
  (0 ≤ (n9 - 1 : Int) ∧ (n9 - 1 : Int) < ((l1 : Nat) : Int)) ∧
  nn a1 (fun (q21 : Addr) =>
  stC (Addr.add q21 (Int.toNat (n9 - 1))) (.string s19) w6 (fun (w7 : World) =>
  inI (n9 - 1) ∧
  I7 [.int .i64 (n9 - 1)] w7 ∧ mu8 [.int .i64 (n9 - 1)] w7 < mu8 [.int .i64 n9] w2)))))))
  (inI (n6 + 1) ∧
  I4 [.int .i64 (n6 + 1)] w4 ∧ mu5 [.int .i64 (n6 + 1)] w4 < mu5 [.int .i64 n6] w1)))))
  (inI (n6 + 1) ∧
  I4 [.int .i64 (n6 + 1)] w3 ∧ mu5 [.int .i64 (n6 + 1)] w3 < mu5 [.int .i64 n6] w1))
  (Q (.tuple #[]) w1)
theorem C211 {a1 : Option Addr} {l1 : Nat} {c1 : Nat} {n2 : Int} {n3 : Int} {Q : Value → World → Prop} {w : World} (h : L211 a1 l1 c1 n2 n3 Q w) : CallR Tryz.prog 211 [.slice a1 l1 c1, .int .i64 n2, .int .i64 n3] w Q :=
  fun_calls (A := A211) mixed Tryz.func211 (c := (Tryz.f211.body).getD .skip) rfl (by kernel_rfl) (Eq.mp (by kernel_rfl) h)
end Go.Proofs.YtpoaacnnhgebfaaGreat
set_option maxRecDepth 512
namespace Go.Proofs.YtpoaacnnhgebfaaGreat
open Go.Lw
def hv (gk : Nat) (d : Int) : Value := .iface 70 (.agg #[pd gk, .int .i64 d])
theorem hread_ok {w : World} {gk : Nat} {s : AK} {L : KL} (h : KernO w gk s L) (d n : Int) (hc : s.c0 ≤ 4611686018427387904) :
    CallR Tryz.prog 190 [.agg #[pd gk, .int .i64 d], .int .i64 n] w fun v w' => ∃ a l c L', v = .tuple #[.slice a l c, .int .i64 (s.read d n).2.1] ∧ OB w' a l c (s.read d n).1 ∧ Fresh w a ∧ KernO w' gk (s.read d n).2.2 L' ∧ KStep w w' L L' ∧ (∀ z, inA a z → L'.own z = none) := by
  refine C190 ?_
  unfold L190
  intro w1
  have hb1 : Blk w1 w.heap.size #[pd gk, .int .i64 d] := Blk.alloc _ _ _
  have hk1 : Kept No w w1 := Kept.alloc _ _ _
  clear_value w1
  have hz := hk1.size
  refine ⟨_, (hb1.cell 0).trans rfl, _, (hb1.cell 1).trans rfl, CallR.mono (kernRead_ok (h.no hk1) d n hc) ?_⟩
  rintro v w2 ⟨a, l, c, L', rfl, ob, hf, h2, st, hap⟩
  exact ⟨a, l, c, _, rfl, a, l, c, L', rfl, ob, fun b hb => by have := hf b hb; omega, h2, st.fresh hk1, hap⟩
end Go.Proofs.YtpoaacnnhgebfaaGreat
namespace Go.Proofs.YtpoaacnnhgebfaaGreat
open Go.Lw
end Go.Proofs.YtpoaacnnhgebfaaGreat
namespace Go.Proofs.YtpoaacnnhgebfaaGreat
open Go.Lw
theorem yieldMono {P : Program} {l : Nat} {x : List Value} {W : World} {R R' : Bool → World → Prop} (h : YieldR P l x W R) (hr : ∀ b W', R b W' → R' b W') : YieldR P l x W R' := by
  obtain ⟨fn, tmps, asg, bd, h1, h2⟩ := h
  exact ⟨fn, tmps, asg, bd, h1, RoundIn.mono h2 fun e W' ⟨b, e1, h⟩ => ⟨b, e1, hr b W' h⟩⟩
def TabC (cur : Array Value) (gk : Nat) (sl : List (Int × Bool)) : Prop :=
  cur.size = 129 ∧ sl.length = 64 ∧ cur[0]? = some (pd gk) ∧ ∀ i, (h : i < sl.length) → cur[1 + i * 2]? = some (.int .i64 sl[i].1) ∧ cur[1 + i * 2 + 1]? = some (.bool sl[i].2)
def TabO (w : World) (t gk : Nat) (sl : List (Int × Bool)) : Prop := ∃ cur, Blk w t cur ∧ TabC cur gk sl
theorem TabO.keep {w w' : World} {t gk : Nat} {sl : List (Int × Bool)} (h : TabO w t gk sl) {S : Nat → Prop} (k : Kept S w w') (hn : ¬ S t) : TabO w' t gk sl := by
  obtain ⟨cur, hb, hc⟩ := h; exact ⟨cur, hb.keep k hn, hc⟩
theorem TabO.lt {w : World} {t gk : Nat} {sl : List (Int × Bool)} (h : TabO w t gk sl) : t < w.heap.size := by
  obtain ⟨cur, hb, hc⟩ := h; exact hb.lt
theorem TabO.len {w : World} {t gk : Nat} {sl : List (Int × Bool)} (h : TabO w t gk sl) : sl.length = 64 := by
  obtain ⟨cur, hb, hc⟩ := h; exact hc.2.1
theorem TabO.at0 {w : World} {t gk : Nat} {sl : List (Int × Bool)} (h : TabO w t gk sl) : w.cell? ⟨t, 0, none⟩ = some (pd gk) := by
  obtain ⟨cur, hb, hc⟩ := h; exact hb.at0 hc.2.2.1
theorem tadd (t i : Nat) : ((⟨t, 0, none⟩ : Addr).add 1).add (i * 2) = ⟨t, 1 + i * 2, none⟩ := by rw [Lw.add_add, add_none, Nat.zero_add]
theorem tadd1 (t i : Nat) : (((⟨t, 0, none⟩ : Addr).add 1).add (i * 2)).add 1 = ⟨t, 1 + i * 2 + 1, none⟩ := by rw [tadd, add_none]
theorem TabO.desc {w : World} {t gk : Nat} {sl : List (Int × Bool)} (h : TabO w t gk sl) {i : Nat} (hi : i < sl.length) : w.cell? (((⟨t, 0, none⟩ : Addr).add 1).add (i * 2)) = some (.int .i64 sl[i].1) := by
  obtain ⟨cur, hb, hc⟩ := h
  rw [tadd, hb.cell]; exact (hc.2.2.2 i hi).1
theorem TabO.mark {w : World} {t gk : Nat} {sl : List (Int × Bool)} (h : TabO w t gk sl) {i : Nat} (hi : i < sl.length) : w.cell? ((((⟨t, 0, none⟩ : Addr).add 1).add (i * 2)).add 1) = some (.bool sl[i].2) := by
  obtain ⟨cur, hb, hc⟩ := h
  rw [tadd1, hb.cell]; exact (hc.2.2.2 i hi).2
theorem TabO.stD {w : World} {t gk : Nat} {sl : List (Int × Bool)} (h : TabO w t gk sl) {i : Nat} (hi : i < sl.length) {d : Int} {K : World → Prop} (hk : ∀ w', TabO w' t gk (sl.set i (d, sl[i].2)) → Kept (· = t) w w' → w'.heap.size = w.heap.size → K w') :
    stC (((⟨t, 0, none⟩ : Addr).add 1).add (i * 2)) (.int .i64 d) w K := by
  obtain ⟨cur, hb, h1, h2, h3, h4⟩ := h
  rw [tadd]
  refine stC_blk hb (by omega) fun w' hb' hk' hs' => hk w' ⟨_, hb', by simpa using h1, by simpa using h2, ?_, fun j hj => ?_⟩ hk' hs'
  · rw [Array.getElem?_setIfInBounds_ne (by omega)]; exact h3
  · rw [List.length_set] at hj
    obtain ⟨g1, g2⟩ := h4 j hj
    rw [List.getElem_set]
    by_cases e : i = j
    · subst e
      rw [if_pos rfl, Array.getElem?_setIfInBounds_self_of_lt (by omega), Array.getElem?_setIfInBounds_ne (by omega)]
      exact ⟨rfl, g2⟩
    · rw [if_neg e, Array.getElem?_setIfInBounds_ne (by omega), Array.getElem?_setIfInBounds_ne (by omega)]
      exact ⟨g1, g2⟩
theorem TabO.stM {w : World} {t gk : Nat} {sl : List (Int × Bool)} (h : TabO w t gk sl) {i : Nat} (hi : i < sl.length) {m : Bool} {K : World → Prop} (hk : ∀ w', TabO w' t gk (sl.set i (sl[i].1, m)) → Kept (· = t) w w' → w'.heap.size = w.heap.size → K w') :
    stC ((((⟨t, 0, none⟩ : Addr).add 1).add (i * 2)).add 1) (.bool m) w K := by
  obtain ⟨cur, hb, h1, h2, h3, h4⟩ := h
  rw [tadd1]
  refine stC_blk hb (by omega) fun w' hb' hk' hs' => hk w' ⟨_, hb', by simpa using h1, by simpa using h2, ?_, fun j hj => ?_⟩ hk' hs'
  · rw [Array.getElem?_setIfInBounds_ne (by omega)]; exact h3
  · rw [List.length_set] at hj
    obtain ⟨g1, g2⟩ := h4 j hj
    rw [List.getElem_set]
    by_cases e : i = j
    · subst e
      rw [if_pos rfl, Array.getElem?_setIfInBounds_ne (by omega), Array.getElem?_setIfInBounds_self_of_lt (by omega)]
      exact ⟨g1, rfl⟩
    · rw [if_neg e, Array.getElem?_setIfInBounds_ne (by omega), Array.getElem?_setIfInBounds_ne (by omega)]
      exact ⟨g1, g2⟩
theorem TabO.st {w : World} {t gk : Nat} {sl : List (Int × Bool)} (h : TabO w t gk sl) {i : Nat} (hi : i < sl.length) {d : Int} {m : Bool} {K : World → Prop} (hk : ∀ w', TabO w' t gk (sl.set i (d, m)) → Kept (· = t) w w' → w'.heap.size = w.heap.size → K w') :
    stC (((⟨t, 0, none⟩ : Addr).add 1).add (i * 2)) (.int .i64 d) w fun w1 => stC ((((⟨t, 0, none⟩ : Addr).add 1).add (i * 2)).add 1) (.bool m) w1 K :=
  h.stD hi fun w1 h1 hk1 hs1 => h1.stM (by rw [List.length_set]; exact hi) fun w2 h2 hk2 hs2 => hk w2 (by
    rw [List.set_set] at h2
    simpa using h2) (hk1.trans hk2 fun _ _ e => e) (by omega)
theorem TabO.all {w : World} {t gk : Nat} {sl : List (Int × Bool)} (h : TabO w t gk sl) : ∃ vs : List Value, vs.length = 128 ∧ (∀ i v, vs[i]? = some v → w.cell? (((⟨t, 0, none⟩ : Addr).add 1).add i) = some v) ∧
    ∀ i, (hi : i < sl.length) → List.take 2 (List.drop (i * 2) (Array.toList vs.toArray)) = [.int .i64 sl[i].1, .bool sl[i].2] := by
  obtain ⟨cur, hb, h1, h2, h3, h4⟩ := h
  refine ⟨cur.toList.drop 1, by rw [List.length_drop, Array.length_toList, h1], fun i v hv => ?_, fun i hi => ?_⟩
  · rw [Lw.add_add, add_none, Nat.zero_add, hb.cell]
    rw [List.getElem?_drop] at hv
    simpa using hv
  · obtain ⟨g1, g2⟩ := h4 i hi
    apply List.ext_getElem?
    intro j
    rw [List.getElem?_take]
    match j with
    | 0 => rw [if_pos (by omega)]; simpa [Nat.add_comm] using g1
    | 1 => rw [if_pos (by omega)]; simpa [Nat.add_comm, Nat.add_left_comm, Nat.add_assoc] using g2
    | j + 2 => rw [if_neg (by omega)]; simp
def freeL (sl : List (Int × Bool)) (i : Nat) : Nat → List Nat
  | 0 => []
  | n + 1 => if (sl.getD i (0, false)).1 = 0 then i :: freeL sl (i + 1) n else freeL sl (i + 1) n
def freeIx (sl : List (Int × Bool)) : List Nat := freeL sl 0 64
theorem freeL_lt (sl : List (Int × Bool)) : ∀ (n i : Nat), ∀ x ∈ freeL sl i n, i ≤ x ∧ x < i + n
  | 0, i, x, hx => by cases hx
  | n + 1, i, x, hx => by
    unfold freeL at hx
    split at hx
    · rcases List.mem_cons.1 hx with rfl | hx
      · omega
      · have := freeL_lt sl n (i + 1) x hx; omega
    · have := freeL_lt sl n (i + 1) x hx; omega
def xsF (sl : List (Int × Bool)) : List (List Value) := (freeIx sl).map fun (i : Nat) => ([Value.int .i64 (i : Int)] : List Value)
theorem free_iter {w : World} {g t gk : Nat} {sl : List (Int × Bool)} (hb : Blk w g #[pd t]) (h : TabO w t gk sl) :
    IterOK Tryz.prog 222 [.pointer (some ⟨g, 0, none⟩)] (xsF sl) (fun _ => False) w := by
  intro l' J Jx W hW hJ hJx hy h0
  refine C222 ?_
  unfold L222
  have hbW := hb.keep hW (fun e => e)
  have hlen := h.len
  obtain ⟨vs, hv1, hv2, hv3⟩ := (h.keep hW (fun e => e)).all
  refine nnI ⟨_, (hbW.cell 0).trans rfl, nnI ⟨vs, hv1, hv2, fun vs w' => ∃ (i : Nat) (pre : List Nat), vs = [.int .i64 (i : Int)] ∧ i ≤ 64 ∧ freeIx sl = pre ++ freeL sl i (64 - i) ∧ J pre.length w',
    fun vs _ => 64 - ix vs, ⟨0, [], rfl, by omega, rfl, h0⟩, ?_⟩⟩
  rintro _ n9 w1 ⟨i, pre, hvs, hi, hpre, hj⟩
  simp only [List.cons.injEq, Value.int.injEq, true_and, and_true] at hvs
  subst hvs
  refine condP (fun hlt => ?_) (fun hge => ?_)
  · have hil : i < sl.length := by omega
    obtain ⟨k, hk⟩ : ∃ k, 64 - i = k + 1 := ⟨63 - i, by omega⟩
    have hk' : 64 - (i + 1) = k := by omega
    rw [hk] at hpre
    have hget : sl.getD i (0, false) = sl[i] := by rw [List.getD_eq_getElem?_getD, List.getElem?_eq_getElem hil]; rfl
    refine ⟨⟨by omega, by omega⟩, sl[i].1, sl[i].2, by rw [Int.toNat_natCast]; exact hv3 i hil, ?_⟩
    refine newPair fun w4 hb4 hk4 hz4 => ⟨_, (hb4.cell 0).trans rfl, ?_⟩
    have hj4 := hJ _ _ _ hj hk4
    refine condI (fun hz => ?_) (fun hz => ?_)
    · have hz : sl[i].1 = 0 := by simpa using hz
      have hf : freeL sl i (k + 1) = i :: freeL sl (i + 1) k := by
        show (if (sl.getD i (0, false)).1 = 0 then _ else _) = _
        rw [hget, if_pos hz]
      rw [hf] at hpre
      refine ⟨l', rfl, ?_⟩
      have hx : (xsF sl)[pre.length]? = some [.int .i64 (i : Int)] := by
        unfold xsF
        rw [List.getElem?_map, hpre, List.getElem?_append_right (Nat.le_refl _), Nat.sub_self]
        rfl
      refine yieldMono (hy pre.length _ w4 hx hj4) fun b B hB => ?_
      cases b
      · refine .inr ⟨pre.length, ?_, hB⟩
        unfold xsF
        rw [List.length_map, hpre, List.length_append, List.length_cons]
        omega
      · obtain ⟨hB1, hB2⟩ := hB
        refine condFa2 ⟨⟨by omega, by omega⟩, ⟨i + 1, pre ++ [i], rfl, by omega, by rw [hpre, hk', List.append_assoc]; rfl, by rw [List.length_append]; exact hB1⟩, ?_⟩
        simp only [ix]; omega
    · have hz : ¬ sl[i].1 = 0 := by simpa using hz
      have hf : freeL sl i (k + 1) = freeL sl (i + 1) k := by
        show (if (sl.getD i (0, false)).1 = 0 then _ else _) = _
        rw [hget, if_neg hz]
      rw [hf] at hpre
      refine ⟨⟨by omega, by omega⟩, ⟨i + 1, pre, rfl, by omega, by rw [hpre, hk'], hj4⟩, ?_⟩
      simp only [ix]; omega
  · have : 64 - i = 0 := by omega
    rw [this] at hpre
    have hpre : freeIx sl = pre := by rw [hpre]; exact List.append_nil _
    exact .inl (by unfold xsF; rw [List.length_map, hpre]; exact hj)
theorem tnone_to {w : World} {t gk : Nat} {sl : List (Int × Bool)} (h : TabO w t gk sl) {Q : Value → World → Prop} (hq : Q (.bool false) w) : CallR Tryz.prog 96 [pd t] w Q := by
  refine C96 ?_
  unfold L96
  exact condFa2 (nnI ⟨_, h.at0, hq⟩)
theorem some_okT {w : World} {t gk : Nat} {sl : List (Int × Bool)} (h : TabO w t gk sl) {k : Nat} (hk0 : 1 ≤ k) (hk1 : k ≤ 64) :
    CallR Tryz.prog 185 [pd t, .int .i64 (k : Int)] w fun v w' => ∃ a l c, v = .slice a l c ∧ Kept No w w' ∧ ((freeIx sl).length < k ∧ a = none ∨ k ≤ (freeIx sl).length ∧ a ≠ none ∧ l = k ∧ SlO 1 w' a l c (In (((freeIx sl).take k).map fun (i : Nat) => (i : Int))) ∧ Fresh w a) := by
  refine C185 ?_
  unfold L185
  intro w1 w2 w3
  have hb1 : Blk w1 w.heap.size #[.int .i64 (k : Int)] := Blk.alloc _ _ _
  have hk1' : Kept No w w1 := Kept.alloc _ _ _
  have hs1 : w1.heap.size = w.heap.size + 1 := by simp [w1]
  clear_value w1
  have hb2 : Blk w2 w1.heap.size #[.slice none 0 0] := Blk.alloc _ _ _
  have hk2 : Kept No w1 w2 := Kept.alloc _ _ _
  have hs2 : w2.heap.size = w1.heap.size + 1 := by simp [w2]
  clear_value w2
  have hb3 : Blk w3 w2.heap.size #[.slice none 0 0] := Blk.alloc _ _ _
  have hk3 : Kept No w2 w3 := Kept.alloc _ _ _
  have hs3 : w3.heap.size = w2.heap.size + 1 := by simp [w3]
  clear_value w3
  have k3 := (hk1'.no hk2).no hk3
  refine C209 ?_
  unfold L209
  intro w4
  have hb4 : Blk w4 w3.heap.size #[pd t] := Blk.alloc _ _ _
  have hk4 : Kept No w3 w4 := Kept.alloc _ _ _
  have hs4 : w4.heap.size = w3.heap.size + 1 := by simp [w4]
  clear_value w4
  have k4 := k3.no hk4
  have hb14 := ((hb1.keep hk2 fun e => e).keep hk3 fun e => e).keep hk4 fun e => e
  have hb24 := (hb2.keep hk3 fun e => e).keep hk4 fun e => e
  have hb34 := hb3.keep hk4 fun e => e
  have hxl : (xsF sl).length = (freeIx sl).length := by unfold xsF; rw [List.length_map]
  refine ⟨_, rfl, 222, _, xsF sl, fun _ => False, fun z => z ≠ w4.heap.size ∧ z ≠ w4.heap.size + 1,
    fun i W => ∃ a c, i < k ∧ Blk W w2.heap.size #[.slice a i c] ∧ SlO 1 W a i c (In (((freeIx sl).take i).map fun (i : Nat) => (i : Int))) ∧ Blk W w.heap.size #[.int .i64 (k : Int)] ∧ Blk W w1.heap.size #[.slice none 0 0] ∧ Kept No w W ∧ (∀ b, inA a b → w4.heap.size + 2 ≤ b),
    fun i W => ∃ a c, k ≤ (freeIx sl).length ∧ a ≠ none ∧ Blk W w1.heap.size #[.slice a k c] ∧ SlO 1 W a k c (In (((freeIx sl).take k).map fun (i : Nat) => (i : Int))) ∧ Kept No w W ∧ (∀ b, inA a b → w4.heap.size + 2 ≤ b),
    rfl, by kernel_rfl, free_iter hb4 (h.keep k4 fun e => e), fun z hz => hz.elim, fun z hz => ⟨fun e => e, hz⟩, ?_, ?_, ?_, ?_, ?_, ?_⟩
  · rintro i A B ⟨a, c, h0, h1, h2, h3, h4, h5, h6⟩ hkk
    exact ⟨a, c, h0, h1.keep hkk (by omega), h2.keep hkk (fun b hb e => by have := h6 b hb; omega), h3.keep hkk (by omega), h4.keep hkk (by omega), h5.fresh hkk (fun x e => by omega), h6⟩
  · rintro i A B ⟨a, c, h0, h1, h2, h3, h5, h6⟩ hkk
    exact ⟨a, c, h0, h1, h2.keep hkk (by omega), h3.keep hkk (fun b hb e => by have := h6 b hb; omega), h5.fresh hkk (fun x e => by omega), h6⟩
  · exact ⟨none, 0, by omega, hb34, SlO.nil 1 _, hb14, hb24, k4, fun b hb => absurd hb (inA_none b)⟩
  · rintro i x w5 hx ⟨a, c, h0, h1, h2, h3, h4, h5, h6⟩ hz5
    have hil : i < (freeIx sl).length := by have := (List.getElem?_eq_some_iff.1 hx).1; omega
    have hxe : x = [.int .i64 ((freeIx sl)[i] : Int)] := by
      unfold xsF at hx
      rw [List.getElem?_map, List.getElem?_eq_getElem hil] at hx
      exact (Option.some.inj hx).symm
    subst hxe
    refine ⟨rfl, _, rfl, rfl, fun w6 hk6 => ?_⟩
    have h1' := h1.keep hk6 (by omega)
    have h2' := h2.keep hk6 (fun b hb e => by have := h6 b hb; omega)
    have h3' := h3.keep hk6 (by omega)
    have h4' := h4.keep hk6 (by omega)
    have h5' : Kept No w w6 := h5.fresh hk6 (fun x e => by omega)
    have hz6 := hk6.size
    refine ⟨_, _, _, (h1'.cell 0).trans rfl, ?_⟩
    intro w10
    have hk10 : Kept No w6 w10 := Kept.alloc _ _ _
    have hone : RdS 1 w10 (some ⟨w6.heap.size, 0, none⟩) 1 1 (In [((freeIx sl)[i] : Int)]) := (SlO.of_blk (sz := 1) (n := 1) (Blk.alloc w6 #[.int .i64 ((freeIx sl)[i] : Int)] _) (by simp)).rd
    have hs10 : w10.heap.size = w6.heap.size + 1 := by simp [w10]
    clear_value w10
    obtain ⟨a16, c16, w11, hrun, hs11, hk11, hat, hnn⟩ := run_app_sl (P := Tryz.prog) (t := 57) (t2 := 57) (ty := 57) (by kernel_rfl : slTyB Tryz.prog 57 1 8 = true) (by kernel_rfl) (h2'.keep hk10 fun _ _ e => e) hone (In_one _) (by omega) (by omega)
    have hin : ∀ b, inA a16 b → w4.heap.size + 2 ≤ b := fun b hb => by
      rcases hat.in hb with e | e
      · exact h6 b e
      · omega
    have htk : In (((freeIx sl).take i).map fun (i : Nat) => (i : Int)) ++ In [((freeIx sl)[i] : Int)] = In (((freeIx sl).take (i + 1)).map fun (i : Nat) => (i : Int)) := by
      rw [← In_append, List.take_add_one, List.getElem?_eq_getElem hil, List.map_append]
      rfl
    rw [htk] at hs11
    have h1a := (h1'.keep hk10 fun e => e).keep hk11 (fun e => by have := h6 _ e; omega)
    refine ⟨a16, i + 1, c16, w11, hrun, stC_blk h1a (by simp) fun w12 hb12 hk12 hs12 => ?_⟩
    have hb12 : Blk w12 w2.heap.size #[.slice a16 (i + 1) c16] := by simpa using hb12
    have g3 := ((h3'.keep hk10 fun e => e).keep hk11 (fun e => by have := h6 _ e; omega)).keep hk12 (by omega)
    have g4 := ((h4'.keep hk10 fun e => e).keep hk11 (fun e => by have := h6 _ e; omega)).keep hk12 (by omega)
    have g5 : Kept No w w12 := ((h5'.no hk10).fresh hk11 fun x e => by have := h6 x e; have := k4.size; omega).fresh hk12 fun x e => by have := k4.size; omega
    have g2 := hs11.keep hk12 (fun b hb e => by have := hin b hb; omega)
    have kT : Kept (fun z => z ≠ w4.heap.size ∧ z ≠ w4.heap.size + 1) w6 w12 := ((hk10.mono fun _ _ e => e.elim).trans hk11 fun z hz e => by
      have := h6 z e
      exact ⟨by omega, by omega⟩).trans hk12 fun z hz e => ⟨by omega, by omega⟩
    refine ⟨_, _, _, (hb12.cell 0).trans rfl, _, (g3.cell 0).trans rfl, ?_⟩
    have han : a16 ≠ none := fun e => by have := (SlO.rd hs11).isNone e; omega
    refine condI (fun hz => ?_) (fun hz => ?_)
    · have hik : i + 1 = k := by
        have : (((i + 1 : Nat)) : Int) = (k : Int) := by simpa using hz
        omega
      refine ⟨_, _, _, (hb12.cell 0).trans rfl, stC_blk g4 (by simp) fun w13 hb13 hk13 hs13 => ⟨kT.trans hk13 fun z hz e => ⟨by omega, by omega⟩, a16, c16, by omega, han, ?_, ?_, ?_, hin⟩⟩
      · rw [← hik]; simpa using hb13
      · rw [← hik]; exact g2.keep hk13 (fun b hb e => by have := hin b hb; omega)
      · exact g5.fresh hk13 fun x e => by have := k4.size; omega
    · have hik : i + 1 ≠ k := fun e => by
        have : ¬ (((i + 1 : Nat)) : Int) = (k : Int) := by simpa using hz
        omega
      exact ⟨kT, a16, c16, by omega, hb12, g2, g3, g4, g5, hin⟩
  · rintro w7 ⟨a, c, h0, h1, h2, h3, h4, h5, h6⟩
    refine stC_blk h4 (by simp) fun w14 hb14' hk14 hs14 => ⟨hk14.mono fun z _ e => by omega, fun w8 hk8 => ?_⟩
    have hb8 := hb14'.keep hk8 (by omega)
    refine ⟨_, _, _, (hb8.cell 0).trans rfl, none, 0, 0, rfl, (h5.fresh hk14 fun x e => by have := k4.size; omega).fresh hk8 fun x e => by have := k4.size; omega, .inl ⟨by omega, rfl⟩⟩
  · rintro i w7 ⟨a, c, h0, h1, h2, h3, h5, h6⟩ w9 hk9
    have hb9 := h2.keep hk9 (by omega)
    exact ⟨_, _, _, (hb9.cell 0).trans rfl, a, k, c, rfl, h5.fresh hk9 fun x e => by have := k4.size; omega, .inr ⟨h0, h1, rfl, h3.keep hk9 (fun b hb e => by have := h6 b hb; omega), fun b hb => by have := h6 b hb; have := k4.size; omega⟩⟩
end Go.Proofs.YtpoaacnnhgebfaaGreat
namespace Go.Proofs.YtpoaacnnhgebfaaGreat
open Go.Lw
def tAt (sl : List (Int × Bool)) (fd : Int) : Option (Int × Bool) :=
  if 0 ≤ fd ∧ fd < 64 then (if (sl.getD fd.toNat (0, false)).1 = 0 then none else some (sl.getD fd.toNat (0, false))) else none
def tOpen (sl : List (Int × Bool)) (s : AK) (nm : ByteArray) (fl : Int) : Int × Int × List (Int × Bool) × AK := match freeIx sl with
  | [] => (0, 31, sl, s)
  | i :: _ => if (s.open_ nm fl).2.1 ≠ 0 then (0, (s.open_ nm fl).2.1, sl, (s.open_ nm fl).2.2) else ((i : Int), 0, sl.set i ((s.open_ nm fl).1, false), (s.open_ nm fl).2.2)
def tInstall (sl : List (Int × Bool)) (s : AK) (d : Int) : Int × Int × List (Int × Bool) × AK := match freeIx sl with
  | [] => (0, 31, sl, s)
  | i :: _ => if (s.keep d).1 ≠ 0 then (0, (s.keep d).1, sl, (s.keep d).2) else ((i : Int), 0, sl.set i (d, false), (s.keep d).2)
def tClose (sl : List (Int × Bool)) (s : AK) (fd : Int) : Int × List (Int × Bool) × AK := match tAt sl fd with
  | none => (71, sl, s)
  | some x => (0, sl.set fd.toNat (0, false), (s.drop x.1).2)
def tDup (sl : List (Int × Bool)) (s : AK) (fd : Int) : Int × Int × List (Int × Bool) × AK := match tAt sl fd with
  | none => (0, 71, sl, s)
  | some x => tInstall sl s x.1
def tDupTo (sl : List (Int × Bool)) (s : AK) (fd to : Int) : Int × List (Int × Bool) × AK := match tAt sl fd with
  | none => (71, sl, s)
  | some x => if to < 0 ∨ to ≥ 64 then (71, sl, s) else if to = fd then (0, sl, s) else if (s.keep x.1).1 ≠ 0 then ((s.keep x.1).1, sl, (s.keep x.1).2) else
      (0, (tClose sl (s.keep x.1).2 to).2.1.set to.toNat (x.1, false), (tClose sl (s.keep x.1).2 to).2.2)
def tMark (sl : List (Int × Bool)) (fd : Int) (on : Bool) : Int × List (Int × Bool) := match tAt sl fd with
  | none => (71, sl)
  | some x => (0, sl.set fd.toNat (x.1, on))
structure TStep (t : Nat) (w w' : World) (L L' : KL) : Prop where
  kept : Kept (fun z => L.own z ≠ none ∨ z = t) w w'
  grew : ∀ z, L'.own z ≠ none → L.own z ≠ none ∨ w.heap.size ≤ z
theorem TStep.refl (t : Nat) (w : World) (L : KL) : TStep t w w L L := ⟨Kept.refl _ _, fun _ h => .inl h⟩
theorem TStep.of_no {t : Nat} {w w' : World} {L : KL} (k : Kept No w w') : TStep t w w' L L := ⟨k.mono fun _ _ e => e.elim, fun _ h => .inl h⟩
theorem TStep.of_k {t : Nat} {w w' : World} {L L' : KL} (k : KStep w w' L L') : TStep t w w' L L' := ⟨k.kept.mono fun _ _ e => .inl e, k.grew⟩
theorem TStep.of_t {t : Nat} {w w' : World} {L : KL} (k : Kept (· = t) w w') : TStep t w w' L L := ⟨k.mono fun _ _ e => .inr e, fun _ h => .inl h⟩
theorem TStep.trans {t : Nat} {w w1 w2 : World} {L L1 L2 : KL} (h : TStep t w w1 L L1) (k : TStep t w1 w2 L1 L2) : TStep t w w2 L L2 :=
  ⟨h.kept.trans k.kept fun x hx e => by
    rcases e with e | e
    · rcases h.grew x e with e | e
      · exact .inl e
      · omega
    · exact .inr e, fun z hz => by
    rcases k.grew z hz with e | e
    · exact h.grew z e
    · exact .inr (Nat.le_trans h.kept.size e)⟩
theorem TStep.own {t : Nat} {w w' : World} {L L' : KL} (h : TStep t w w' L L') {z : Nat} (hz : L.own z = none) (hl : z < w.heap.size) : L'.own z = none := by
  cases ho : L'.own z with
  | none => rfl
  | some x =>
    exfalso
    rcases h.grew z (by rw [ho]; simp) with e | e
    · exact e hz
    · omega
theorem KStep.own' {w w' : World} {L L' : KL} (h : KStep w w' L L') {z : Nat} (hz : L.own z = none) (hl : z < w.heap.size) : L'.own z = none := (TStep.of_k (t := 0) h).own hz hl
theorem TabO.step {w w' : World} {t gk : Nat} {sl : List (Int × Bool)} {L L' : KL} (h : TabO w t gk sl) (hn : L.own t = none) (st : KStep w w' L L') : TabO w' t gk sl := h.keep st.kept fun e => e hn
theorem getD_at {sl : List (Int × Bool)} {i : Nat} (h : i < sl.length) : sl.getD i (0, false) = sl[i] := by rw [List.getD_eq_getElem?_getD, List.getElem?_eq_getElem h]; rfl
theorem freeIx_some {sl : List (Int × Bool)} (hl : sl.length = 64) : ∀ x ∈ freeIx sl, x < 64 := fun x hx => by
  have := freeL_lt sl 64 0 x hx; omega
def slotA (t : Nat) (fd : Int) : Addr := ((⟨t, 0, none⟩ : Addr).add 1).add (Int.toNat fd * 2)
theorem at_ok {w : World} {t gk : Nat} {sl : List (Int × Bool)} (h : TabO w t gk sl) (fd : Int) :
    CallR Tryz.prog 186 [pd t, .int .i64 fd] w fun v w' => w' = w ∧ (tAt sl fd = none ∧ v = .tuple #[.pointer none, .int .i64 71] ∨ ∃ x, tAt sl fd = some x ∧ 0 ≤ fd ∧ fd < 64 ∧ x = sl.getD fd.toNat (0, false) ∧ x.1 ≠ 0 ∧ v = .tuple #[.pointer (some (slotA t fd)), .int .i64 0]) := by
  refine C186 ?_
  unfold L186
  have hlen := h.len
  unfold tAt
  refine tnone_to h ⟨_, rfl, condFa2 (condP (fun h1 => ⟨rfl, .inl ⟨by rw [if_neg (by omega)], rfl⟩⟩) (fun h1 => condP (fun h2 => ⟨rfl, .inl ⟨by rw [if_neg (by omega)], rfl⟩⟩) (fun h2 => ?_)))⟩
  have hi : fd.toNat < sl.length := by omega
  have hg := getD_at hi
  refine nnI ⟨⟨by omega, by omega⟩, _, h.desc hi, condI (fun hz => ⟨rfl, .inl ⟨?_, rfl⟩⟩) (fun hz => nnI ⟨⟨by omega, by omega⟩, rfl, .inr ⟨sl[fd.toNat], ?_, by omega, by omega, hg.symm, by simpa using hz, rfl⟩⟩)⟩
  · rw [if_pos ⟨by omega, by omega⟩, if_pos (by rw [hg]; simpa using hz)]
  · rw [if_pos ⟨by omega, by omega⟩, if_neg (by rw [hg]; simpa using hz), hg]
theorem tab_new {w : World} {t gk : Nat} (h : Blk w t (#[pd gk] ++ ((List.replicate 64 [Value.int .i64 0, Value.bool false]).flatten).toArray)) : TabO w t gk (List.replicate 64 (0, false)) := by
  refine ⟨_, h, by simp, by simp, by simp, fun i hi => ?_⟩
  have hi : i < 64 := by simpa using hi
  have key : ∀ (n j : Nat), j < n → ((List.replicate n [Value.int .i64 0, Value.bool false]).flatten)[j * 2]? = some (Value.int .i64 0) ∧ ((List.replicate n [Value.int .i64 0, Value.bool false]).flatten)[j * 2 + 1]? = some (Value.bool false) := by
    intro n
    induction n with
    | zero => intro j hj; omega
    | succ n ih =>
      intro j hj
      cases j with
      | zero => exact ⟨rfl, rfl⟩
      | succ j =>
        obtain ⟨g1, g2⟩ := ih j (by omega)
        rw [show (j + 1) * 2 = j * 2 + 2 by omega]
        exact ⟨g1, g2⟩
  obtain ⟨g1, g2⟩ := key 64 i hi
  constructor
  · rw [Array.getElem?_append_right (by simp)]
    simp only [List.size_toArray, List.length_singleton, List.getElem?_toArray, List.size_toArray]
    rw [show 1 + i * 2 - 1 = i * 2 by omega]
    rw [g1, List.getElem_replicate]
  · rw [Array.getElem?_append_right (by simp)]
    simp only [List.size_toArray, List.length_singleton, List.getElem?_toArray, List.size_toArray]
    rw [show 1 + i * 2 + 1 - 1 = i * 2 + 1 by omega]
    rw [g2, List.getElem_replicate]
def slots0 : List (Int × Bool) := List.replicate 64 (0, false)
set_option maxRecDepth 100000 in
theorem tnew_okT {w : World} (gk : Nat) : CallR Tryz.prog 18 [pd gk] w fun v w' => v = pd w.heap.size ∧ TabO w' w.heap.size gk slots0 ∧ Kept No w w' := by
  refine C18 ?_
  unfold L18
  intro w1
  have hk : Kept No w w1 := Kept.alloc _ _ _
  have hb : ∃ cs, w1 = w.alloc (.cells cs 174) ∧ cs = (#[pd gk] ++ ((List.replicate 64 [Value.int .i64 0, Value.bool false]).flatten).toArray) := ⟨_, rfl, by kernel_rfl⟩
  clear_value w1
  obtain ⟨cs, rfl, rfl⟩ := hb
  exact ⟨rfl, tab_new (Blk.alloc _ _ _), hk⟩
theorem topen_ok {w : World} {t gk : Nat} {sl : List (Int × Bool)} {s : AK} {L : KL} (hT : TabO w t gk sl) (hK : KernO w gk s L) (hn : L.own t = none) (nm : ByteArray) (fl : Int) (hx : s.next ≤ 4611686018427387904) :
    CallR Tryz.prog 91 [pd t, .string nm, .int .i64 fl] w fun v w' => v = .tuple #[.int .i64 (tOpen sl s nm fl).1, .int .i64 (tOpen sl s nm fl).2.1] ∧ ∃ L', TabO w' t gk (tOpen sl s nm fl).2.2.1 ∧ KernO w' gk (tOpen sl s nm fl).2.2.2 L' ∧ TStep t w w' L L' := by
  refine C91 ?_
  unfold L91
  have hlen := hT.len
  refine tnone_to hT ⟨_, rfl, condFa2 (CallR.mono (some_okT hT (k := 1) (by omega) (by omega)) ?_)⟩
  rintro v w2 ⟨a, l, c, rfl, hk2, ⟨h1, rfl⟩ | ⟨h1, hne, rfl, hs, hf⟩⟩
  · have : freeIx sl = [] := List.eq_nil_of_length_eq_zero (by omega)
    unfold tOpen
    rw [this]
    exact ⟨_, _, _, rfl, condTr2 ⟨rfl, L, hT.keep hk2 (fun e => e), hK.no hk2, .of_no hk2⟩⟩
  · obtain ⟨i, r, hfr⟩ : ∃ i r, freeIx sl = i :: r := by
      cases hh : freeIx sl with
      | nil => rw [hh] at h1; simp at h1
      | cons i r => exact ⟨i, r, rfl⟩
    have hi64 := freeIx_some hlen i (by rw [hfr]; simp)
    rw [hfr] at hs
    have hs : SlO 1 w2 a 1 c (In [(i : Int)]) := hs
    unfold tOpen
    rw [hfr]
    dsimp -zeta only
    obtain ⟨q, rfl⟩ : ∃ q, a = some q := by cases a with | none => exact absurd rfl hne | some q => exact ⟨q, rfl⟩
    have hT2 := hT.keep hk2 (fun e => e)
    have hK2 := hK.no hk2
    refine ⟨_, _, _, rfl, condFa2 (nnI ⟨_, hT2.at0, CallR.mono (kernOpen_ok hK2 nm fl hx) ?_⟩)⟩
    rintro v w3 ⟨rfl, L3, h3, st3⟩
    have hT3 := hT2.step hn st3
    have hz2 := hk2.size
    refine ⟨_, _, rfl, condN (fun he => ?_) (fun he => ?_)⟩
    · rw [if_pos he]
      exact ⟨rfl, L3, hT3, h3, .of_k (st3.fresh hk2)⟩
    · rw [if_neg (fun e => e he)]
      intro w4
      have hk4 : Kept No w3 w4 := Kept.drew _ _
      clear_value w4
      have hav : ∀ b, inA (some q) b → L.own b = none ∧ b < w2.heap.size ∧ b ≠ t := fun b hb => by
        have h1 := hf b hb
        exact ⟨hK.new_none h1, SlO.lt hs b hb, fun e => by have := hT.lt; omega⟩
      have hs4 := (hs.keep st3.kept fun b hb e => e (hav b hb).1).keep hk4 fun _ _ e => e
      have hc : ∀ {w' : World}, SlO 1 w' (some q) 1 c (In [(i : Int)]) → w'.cell? (q.add (Int.toNat 0)) = some (.int .i64 (i : Int)) := fun h => h.rd.2.2.2 q rfl 0 _ rfl
      have hT4 := hT3.keep hk4 fun e => e
      have hil : i < sl.length := by omega
      refine ⟨⟨by omega, by omega⟩, nnI ⟨_, hc hs4, nnI ⟨⟨by omega, by omega⟩, ?_⟩⟩⟩
      rw [Int.toNat_natCast]
      refine hT4.st hil fun w6 hT6 hk6 hs6 => ?_
      have hs6' := hs4.keep hk6 fun b hb e => (hav b hb).2.2 e
      refine ⟨⟨by omega, by omega⟩, nnI ⟨_, hc hs6', rfl, L3, hT6, ?_, (TStep.of_k ((st3.fresh hk2).no hk4)).trans (.of_t hk6)⟩⟩
      exact (h3.no hk4).keep hk6 fun x e => by rw [e]; exact (st3.fresh hk2).own' hn hT.lt
theorem tinstall_ok {w : World} {t gk : Nat} {sl : List (Int × Bool)} {s : AK} {L : KL} (hT : TabO w t gk sl) (hK : KernO w gk s L) (hn : L.own t = none) (d : Int) :
    CallR Tryz.prog 100 [pd t, .int .i64 d] w fun v w' => v = .tuple #[.int .i64 (tInstall sl s d).1, .int .i64 (tInstall sl s d).2.1] ∧ ∃ L', TabO w' t gk (tInstall sl s d).2.2.1 ∧ KernO w' gk (tInstall sl s d).2.2.2 L' ∧ TStep t w w' L L' := by
  refine C100 ?_
  unfold L100
  have hlen := hT.len
  refine tnone_to hT ⟨_, rfl, condFa2 (CallR.mono (some_okT hT (k := 1) (by omega) (by omega)) ?_)⟩
  rintro v w2 ⟨a, l, c, rfl, hk2, ⟨h1, rfl⟩ | ⟨h1, hne, rfl, hs, hf⟩⟩
  · have : freeIx sl = [] := List.eq_nil_of_length_eq_zero (by omega)
    unfold tInstall
    rw [this]
    exact ⟨_, _, _, rfl, condTr2 ⟨rfl, L, hT.keep hk2 (fun e => e), hK.no hk2, .of_no hk2⟩⟩
  · obtain ⟨i, r, hfr⟩ : ∃ i r, freeIx sl = i :: r := by
      cases hh : freeIx sl with
      | nil => rw [hh] at h1; simp at h1
      | cons i r => exact ⟨i, r, rfl⟩
    have hi64 := freeIx_some hlen i (by rw [hfr]; simp)
    rw [hfr] at hs
    have hs : SlO 1 w2 a 1 c (In [(i : Int)]) := hs
    unfold tInstall
    rw [hfr]
    dsimp -zeta only
    obtain ⟨q, rfl⟩ : ∃ q, a = some q := by cases a with | none => exact absurd rfl hne | some q => exact ⟨q, rfl⟩
    have hT2 := hT.keep hk2 (fun e => e)
    have hK2 := hK.no hk2
    refine ⟨_, _, _, rfl, condFa2 (nnI ⟨_, hT2.at0, CallR.mono (kernKeep_ok hK2 d) ?_⟩)⟩
    rintro v w3 ⟨rfl, L3, h3, st3⟩
    have hT3 := hT2.step hn st3
    have hz2 := hk2.size
    refine ⟨_, rfl, condN (fun he => ?_) (fun he => ?_)⟩
    · rw [if_pos he]
      exact ⟨rfl, L3, hT3, h3, .of_k (st3.fresh hk2)⟩
    · rw [if_neg (fun e => e he)]
      intro w4
      have hk4 : Kept No w3 w4 := Kept.drew _ _
      clear_value w4
      have hav : ∀ b, inA (some q) b → L.own b = none ∧ b < w2.heap.size ∧ b ≠ t := fun b hb => by
        have h1 := hf b hb
        exact ⟨hK.new_none h1, SlO.lt hs b hb, fun e => by have := hT.lt; omega⟩
      have hs4 := (hs.keep st3.kept fun b hb e => e (hav b hb).1).keep hk4 fun _ _ e => e
      have hc : ∀ {w' : World}, SlO 1 w' (some q) 1 c (In [(i : Int)]) → w'.cell? (q.add (Int.toNat 0)) = some (.int .i64 (i : Int)) := fun h => h.rd.2.2.2 q rfl 0 _ rfl
      have hT4 := hT3.keep hk4 fun e => e
      have hil : i < sl.length := by omega
      refine ⟨⟨by omega, by omega⟩, nnI ⟨_, hc hs4, nnI ⟨⟨by omega, by omega⟩, ?_⟩⟩⟩
      rw [Int.toNat_natCast]
      refine hT4.st hil fun w6 hT6 hk6 hs6 => ?_
      have hs6' := hs4.keep hk6 fun b hb e => (hav b hb).2.2 e
      refine ⟨⟨by omega, by omega⟩, nnI ⟨_, hc hs6', rfl, L3, hT6, ?_, (TStep.of_k ((st3.fresh hk2).no hk4)).trans (.of_t hk6)⟩⟩
      exact (h3.no hk4).keep hk6 fun x e => by rw [e]; exact (st3.fresh hk2).own' hn hT.lt
theorem tclose_ok {w : World} {t gk : Nat} {sl : List (Int × Bool)} {s : AK} {L : KL} (hT : TabO w t gk sl) (hK : KernO w gk s L) (hn : L.own t = none) (fd : Int) :
    CallR Tryz.prog 93 [pd t, .int .i64 fd] w fun v w' => v = .int .i64 (tClose sl s fd).1 ∧ ∃ L', TabO w' t gk (tClose sl s fd).2.1 ∧ KernO w' gk (tClose sl s fd).2.2 L' ∧ TStep t w w' L L' := by
  refine C93 ?_
  unfold L93
  refine CallR.mono (at_ok hT fd) ?_
  unfold tClose
  rintro v w1 ⟨rfl, ⟨ha, rfl⟩ | ⟨x, ha, h0, h1, hx, hxz, rfl⟩⟩
  · rw [ha]
    exact ⟨_, _, rfl, condTr2 ⟨rfl, L, hT, hK, .refl _ _ _⟩⟩
  · rw [ha]
    dsimp -zeta only
    refine ⟨_, _, rfl, condFa2 ?_⟩
    intro w2
    have hk2 : Kept No w1 w2 := Kept.drew _ _
    clear_value w2
    have hT2 := hT.keep hk2 fun e => e
    have hlen := hT.len
    have hi : fd.toNat < sl.length := by omega
    have hxg : x = sl[fd.toNat] := hx.trans (getD_at hi)
    refine nnI ⟨_, hT2.at0, nnI ⟨_, hT2.desc hi, CallR.mono (kernDrop_ok (hK.no hk2) _) ?_⟩⟩
    rintro v w3 ⟨rfl, L3, h3, st3⟩
    have hT3 := hT2.step hn st3
    refine ⟨_, rfl, nnI (hT3.st hi fun w5 hT5 hk5 hs5 => ?_)⟩
    rw [hxg]
    refine ⟨rfl, L3, hT5, h3.keep hk5 fun z e => by rw [e]; exact (st3.fresh hk2).own' hn hT.lt, (TStep.of_k (st3.fresh hk2)).trans (.of_t hk5)⟩
theorem tdup_ok {w : World} {t gk : Nat} {sl : List (Int × Bool)} {s : AK} {L : KL} (hT : TabO w t gk sl) (hK : KernO w gk s L) (hn : L.own t = none) (fd : Int) :
    CallR Tryz.prog 92 [pd t, .int .i64 fd] w fun v w' => v = .tuple #[.int .i64 (tDup sl s fd).1, .int .i64 (tDup sl s fd).2.1] ∧ ∃ L', TabO w' t gk (tDup sl s fd).2.2.1 ∧ KernO w' gk (tDup sl s fd).2.2.2 L' ∧ TStep t w w' L L' := by
  refine C92 ?_
  unfold L92
  refine CallR.mono (at_ok hT fd) ?_
  unfold tDup
  rintro v w1 ⟨rfl, ⟨ha, rfl⟩ | ⟨x, ha, h0, h1, hx, hxz, rfl⟩⟩
  · rw [ha]
    exact ⟨_, _, rfl, condTr2 ⟨rfl, L, hT, hK, .refl _ _ _⟩⟩
  · rw [ha]
    have hlen := hT.len
    have hi : fd.toNat < sl.length := by omega
    have hxg : x = sl[fd.toNat] := hx.trans (getD_at hi)
    refine ⟨_, _, rfl, condFa2 (nnI ⟨_, hT.desc hi, CallR.mono (tinstall_ok hT hK hn _) ?_⟩)⟩
    rintro v w2 ⟨rfl, h⟩
    rw [hxg]
    exact ⟨_, _, rfl, rfl, h⟩
theorem tdupto_ok {w : World} {t gk : Nat} {sl : List (Int × Bool)} {s : AK} {L : KL} (hT : TabO w t gk sl) (hK : KernO w gk s L) (hn : L.own t = none) (fd to : Int) :
    CallR Tryz.prog 94 [pd t, .int .i64 fd, .int .i64 to] w fun v w' => v = .int .i64 (tDupTo sl s fd to).1 ∧ ∃ L', TabO w' t gk (tDupTo sl s fd to).2.1 ∧ KernO w' gk (tDupTo sl s fd to).2.2 L' ∧ TStep t w w' L L' := by
  refine C94 ?_
  unfold L94
  refine CallR.mono (at_ok hT fd) ?_
  unfold tDupTo
  rintro v w1 ⟨rfl, ⟨ha, rfl⟩ | ⟨x, ha, h0, h1, hx, hxz, rfl⟩⟩
  · rw [ha]
    exact ⟨_, _, rfl, condTr2 ⟨rfl, L, hT, hK, .refl _ _ _⟩⟩
  · rw [ha]
    dsimp -zeta only
    have hlen := hT.len
    have hi : fd.toNat < sl.length := by omega
    have hxg : x = sl[fd.toNat] := hx.trans (getD_at hi)
    refine ⟨_, _, rfl, condFa2 (condP (fun e => ?_) (fun e1 => condP (fun e => ?_) (fun e2 => condI (fun e => ?_) (fun e3 => ?_))))⟩
    · rw [if_pos (.inl e)]; exact ⟨rfl, L, hT, hK, .refl _ _ _⟩
    · rw [if_pos (.inr e)]; exact ⟨rfl, L, hT, hK, .refl _ _ _⟩
    · rw [if_neg (by omega), if_pos (by simpa using e)]; exact ⟨rfl, L, hT, hK, .refl _ _ _⟩
    have e3 : to ≠ fd := by simpa using e3
    rw [if_neg (by omega), if_neg e3]
    intro w2
    have hk2 : Kept No w1 w2 := Kept.drew _ _
    clear_value w2
    have hT2 := hT.keep hk2 fun e => e
    refine nnI ⟨_, hT2.at0, nnI ⟨_, hT2.desc hi, CallR.mono (kernKeep_ok (hK.no hk2) _) ?_⟩⟩
    rw [← hxg]
    rintro v w3 ⟨rfl, L3, h3, st3⟩
    have hT3 := hT2.step hn st3
    have st23 := st3.fresh hk2
    have hn3 := st23.own' hn hT.lt
    refine ⟨_, rfl, condN (fun he => ?_) (fun he => ?_)⟩
    · rw [if_pos he]; exact ⟨rfl, L3, hT3, h3, .of_k st23⟩
    rw [if_neg (fun e => e he)]
    refine CallR.mono (tclose_ok hT3 h3 hn3 to) ?_
    rintro v w4 ⟨rfl, L4, hT4, h4, st4⟩
    refine ⟨_, rfl, ?_⟩
    intro w5
    have hk5 : Kept No w4 w5 := Kept.drew _ _
    clear_value w5
    have hT5 := hT4.keep hk5 fun e => e
    have hlen4 := hT4.len
    have hsame : ∀ hi' : fd.toNat < (tClose sl (s.keep x.1).2 to).2.1.length, ((tClose sl (s.keep x.1).2 to).2.1)[fd.toNat]'hi' = x := by
      intro hi'
      have : (tClose sl (s.keep x.1).2 to).2.1 = sl ∨ (tClose sl (s.keep x.1).2 to).2.1 = sl.set to.toNat (0, false) := by
        unfold tClose
        cases tAt sl to with
        | none => exact .inl rfl
        | some y => exact .inr rfl
      have key : ((tClose sl (s.keep x.1).2 to).2.1)[fd.toNat]? = sl[fd.toNat]? := by
        rcases this with e | e
        · rw [e]
        · rw [e, List.getElem?_set_ne (by omega)]
      rw [List.getElem?_eq_getElem hi', List.getElem?_eq_getElem hi] at key
      exact (Option.some.inj key).trans hxg.symm
    have hi4 : fd.toNat < (tClose sl (s.keep x.1).2 to).2.1.length := by omega
    refine nnI ⟨_, hT5.desc hi4, nnI ⟨⟨by omega, by omega⟩, ?_⟩⟩
    rw [hsame hi4]
    refine hT5.st (by omega) fun w7 hT7 hk7 hs7 => ?_
    have hn4 : L4.own t = none := st4.own hn3 hT3.lt
    exact ⟨rfl, L4, hT7, (h4.no hk5).keep hk7 fun z e => by rw [e]; exact hn4, (((TStep.of_k st23).trans st4).trans (.of_no hk5)).trans (.of_t hk7)⟩
theorem tmark_ok {w : World} {t gk : Nat} {sl : List (Int × Bool)} (hT : TabO w t gk sl) (fd : Int) (on : Bool) :
    CallR Tryz.prog 95 [pd t, .int .i64 fd, .bool on] w fun v w' => v = .int .i64 (tMark sl fd on).1 ∧ TabO w' t gk (tMark sl fd on).2 ∧ Kept (· = t) w w' := by
  refine C95 ?_
  unfold L95
  refine CallR.mono (at_ok hT fd) ?_
  unfold tMark
  rintro v w1 ⟨rfl, ⟨ha, rfl⟩ | ⟨x, ha, h0, h1, hx, hxz, rfl⟩⟩
  · rw [ha]
    exact ⟨_, _, rfl, condFa2 ⟨rfl, hT, Kept.refl _ _⟩⟩
  · rw [ha]
    have hlen := hT.len
    have hi : fd.toNat < sl.length := by omega
    have hxg : x = sl[fd.toNat] := hx.trans (getD_at hi)
    refine ⟨_, _, rfl, condTr2 (nnI (hT.stM hi fun w2 hT2 hk2 hs2 => ?_))⟩
    rw [hxg]
    exact ⟨rfl, hT2, hk2⟩
theorem tdesc_ok {w : World} {t gk : Nat} {sl : List (Int × Bool)} (hT : TabO w t gk sl) (fd : Int) :
    CallR Tryz.prog 116 [pd t, .int .i64 fd] w fun v w' => w' = w ∧ (tAt sl fd = none ∧ v = .tuple #[.int .i64 0, .int .i64 71] ∨ ∃ x, tAt sl fd = some x ∧ v = .tuple #[.int .i64 x.1, .int .i64 0]) := by
  refine C116 ?_
  unfold L116
  refine CallR.mono (at_ok hT fd) ?_
  rintro v w1 ⟨rfl, ⟨ha, rfl⟩ | ⟨x, ha, h0, h1, hx, hxz, rfl⟩⟩
  · exact ⟨_, _, rfl, condTr2 ⟨rfl, .inl ⟨ha, rfl⟩⟩⟩
  · have hlen := hT.len
    have hi : fd.toNat < sl.length := by omega
    have hxg : x = sl[fd.toNat] := hx.trans (getD_at hi)
    refine ⟨_, _, rfl, condFa2 (nnI ⟨_, hT.desc hi, rfl, .inr ⟨x, ha, by rw [hxg]⟩⟩)⟩
end Go.Proofs.YtpoaacnnhgebfaaGreat
namespace Go.Proofs.YtpoaacnnhgebfaaGreat
open Go.Lw
def tRead (sl : List (Int × Bool)) (s : AK) (fd n : Int) : List Int × Int × AK := match tAt sl fd with
  | none => ([], 71, s)
  | some x => s.read x.1 n
theorem handle_ok {w : World} {t gk : Nat} {sl : List (Int × Bool)} (hT : TabO w t gk sl) (fd : Int) :
    CallR Tryz.prog 189 [pd t, .int .i64 fd] w fun v w' => Kept No w w' ∧ (tAt sl fd = none ∧ v = .tuple #[.agg #[.pointer none, .int .i64 0], .int .i64 71] ∨ ∃ x, tAt sl fd = some x ∧ v = .tuple #[.agg #[pd gk, .int .i64 x.1], .int .i64 0]) := by
  refine C189 ?_
  unfold L189
  intro w1
  have hb1 : Blk w1 w.heap.size #[.pointer none, .int .i64 0] := Blk.alloc _ _ _
  have hk1 : Kept No w w1 := Kept.alloc _ _ _
  clear_value w1
  have hlt := hT.lt
  have hT1 := hT.keep hk1 fun e => e
  refine CallR.mono (tdesc_ok hT1 fd) ?_
  rintro v w2 ⟨rfl, ⟨ha, rfl⟩ | ⟨x, ha, rfl⟩⟩
  · refine ⟨_, _, rfl, condTr2 (stC_blk hb1 (by simp) fun w3 hb3 hk3 hs3 => stC_blk hb3 (by simp) fun w4 hb4 hk4 hs4 => ?_)⟩
    refine ⟨_, _, (hb4.cell 0).trans rfl, (hb4.cell 1).trans rfl, (hk1.fresh hk3 fun x e => by omega).fresh hk4 fun x e => by omega, .inl ⟨ha, rfl⟩⟩
  · refine ⟨_, _, rfl, condFa2 (nnI ⟨_, hT1.at0, stC_blk hb1 (by simp) fun w3 hb3 hk3 hs3 => stC_blk hb3 (by simp) fun w4 hb4 hk4 hs4 => ?_⟩)⟩
    refine ⟨_, _, (hb4.cell 0).trans rfl, (hb4.cell 1).trans rfl, (hk1.fresh hk3 fun x e => by omega).fresh hk4 fun x e => by omega, .inr ⟨x, ha, rfl⟩⟩
theorem tread_okT {w : World} {t gk : Nat} {sl : List (Int × Bool)} {s : AK} {L : KL} (hT : TabO w t gk sl) (hK : KernO w gk s L) (fd n : Int) (hc : s.c0 ≤ 4611686018427387904) :
    CallR Tryz.prog 106 [pd t, .int .i64 fd, .int .i64 n] w fun v w' => ∃ a l c L', v = .tuple #[.slice a l c, .int .i64 (tRead sl s fd n).2.1] ∧ OB w' a l c (tRead sl s fd n).1 ∧ Fresh w a ∧ KernO w' gk (tRead sl s fd n).2.2 L' ∧ KStep w w' L L' ∧ (∀ z, inA a z → L'.own z = none) := by
  refine C106 ?_
  unfold L106
  refine CallR.mono (handle_ok hT fd) ?_
  unfold tRead
  rintro v w1 ⟨hk1, ⟨ha, rfl⟩ | ⟨x, ha, rfl⟩⟩
  · rw [ha]
    refine ⟨_, _, _, rfl, newPair fun w4 hb4 hk4 hz4 => condTr2 ⟨none, 0, 0, L, rfl, OB.nil _, Fresh.none _, (hK.no hk1).no hk4, .of_no (hk1.no hk4), fun z hz => absurd hz (inA_none z)⟩⟩
  · rw [ha]
    refine ⟨_, _, _, rfl, newPair fun w4 hb4 hk4 hz4 => condFa2 ⟨_, _, (hb4.cell 0).trans rfl, (hb4.cell 1).trans rfl, ?_⟩⟩
    have k4 := hk1.no hk4
    have hz := k4.size
    refine CallR.mono (hread_ok (hK.no k4) x.1 n hc) ?_
    rintro v w5 ⟨a, l, c, L5, rfl, ob, hf, h5, st5, hap⟩
    exact ⟨_, _, _, _, rfl, a, l, c, L5, rfl, ob, fun b hb => by have := hf b hb; omega, h5, st5.fresh k4, hap⟩
def forkL (sl : List (Int × Bool)) : Nat → Nat → List (Int × Bool) → AK → List (Int × Bool) × AK
  | 0, _, c, s => (c, s)
  | n + 1, i, c, s =>
    if (sl.getD i (0, false)).1 ≠ 0 ∧ (sl.getD i (0, false)).2 = false then
      (if (s.keep (sl.getD i (0, false)).1).1 = 0 then forkL sl n (i + 1) (c.set i ((sl.getD i (0, false)).1, false)) (s.keep (sl.getD i (0, false)).1).2 else forkL sl n (i + 1) c (s.keep (sl.getD i (0, false)).1).2)
    else forkL sl n (i + 1) c s
def tFork (sl : List (Int × Bool)) (s : AK) : List (Int × Bool) × AK := forkL sl 64 0 slots0 s
theorem tfork_ok {w : World} {t gk : Nat} {sl : List (Int × Bool)} {s : AK} {L : KL} (hT : TabO w t gk sl) (hK : KernO w gk s L) (hn : L.own t = none) :
    CallR Tryz.prog 20 [pd t] w fun v w' => ∃ c L', v = pd c ∧ w.heap.size ≤ c ∧ TabO w' c gk (tFork sl s).1 ∧ KernO w' gk (tFork sl s).2 L' ∧ L'.own c = none ∧ KStep w w' L L' := by
  refine C20 ?_
  unfold L20
  have hlen := hT.len
  refine tnone_to hT ⟨_, rfl, condFa2 (nnI ⟨_, hT.at0, CallR.mono (tnew_okT gk) ?_⟩)⟩
  rintro v w2 ⟨rfl, hC2, hk2⟩
  have hT2 := hT.keep hk2 fun e => e
  obtain ⟨vs, hv1, hv2, hv3⟩ := hT2.all
  have hclt := hC2.lt
  have htlt := hT.lt
  refine ⟨_, rfl, nnI ⟨vs, hv1, hv2, fun vs w' => ∃ (i : Nat) (c : List (Int × Bool)) (s' : AK) (L' : KL), vs = [.int .i64 (i : Int)] ∧ i ≤ 64 ∧ tFork sl s = forkL sl (64 - i) i c s' ∧ (∀ x ∈ c, x.2 = false) ∧ TabO w' w.heap.size gk c ∧ TabO w' t gk sl ∧ KernO w' gk s' L' ∧ L'.own w.heap.size = none ∧ L'.own t = none ∧ KStep w w' L L' ∧ w2.heap.size ≤ w'.heap.size,
    fun vs _ => 64 - ix vs, ⟨0, slots0, s, L, rfl, by omega, rfl, fun x hx => by have := List.eq_of_mem_replicate hx; rw [this], hC2, hT2, hK.no hk2, hK.new_none (Nat.le_refl _), hn, .of_no hk2, Nat.le_refl _⟩, ?_⟩⟩
  rintro _ n12 w3 ⟨i, c, s', L', hvs, hi, hrel, hcm, hC3, hT3, hK3, hnc, hnt, st3, hz3⟩
  simp only [List.cons.injEq, Value.int.injEq, true_and, and_true] at hvs
  subst hvs
  refine condP (fun hlt => ?_) (fun hge => ?_)
  · have hil : i < sl.length := by omega
    have hg := getD_at hil
    obtain ⟨k, hk⟩ : ∃ k, 64 - i = k + 1 := ⟨63 - i, by omega⟩
    have hk' : 64 - (i + 1) = k := by omega
    rw [hk] at hrel
    have hrel : tFork sl s = if sl[i].1 ≠ 0 ∧ sl[i].2 = false then (if (s'.keep sl[i].1).1 = 0 then forkL sl k (i + 1) (c.set i (sl[i].1, false)) (s'.keep sl[i].1).2 else forkL sl k (i + 1) c (s'.keep sl[i].1).2) else forkL sl k (i + 1) c s' := by
      rw [hrel, ← hg]; rfl
    refine ⟨⟨by omega, by omega⟩, sl[i].1, sl[i].2, by rw [Int.toNat_natCast]; exact hv3 i hil, ?_⟩
    refine newPair fun w6 hb6 hk6 hz6 => ?_
    have hk7 : Kept No w6 w6.drew := Kept.drew _ _
    generalize w6.drew = w7 at hk7 ⊢
    have hb7 := hb6.keep hk7 fun e => e
    have k7 : Kept No w3 w7 := hk6.no hk7
    have hz7 := k7.size
    have hC7 := hC3.keep k7 fun e => e
    have hT7 := hT3.keep k7 fun e => e
    have hK7 := hK3.no k7
    have st7 := st3.no k7
    have skip : ¬ (sl[i].1 ≠ 0 ∧ sl[i].2 = false) → inI ((i : Int) + 1) ∧ (∃ (i' : Nat) (c : List (Int × Bool)) (s' : AK) (L' : KL), [Value.int .i64 ((i : Int) + 1)] = [.int .i64 (i' : Int)] ∧ i' ≤ 64 ∧ tFork sl s = forkL sl (64 - i') i' c s' ∧ (∀ x ∈ c, x.2 = false) ∧ TabO w7 w.heap.size gk c ∧ TabO w7 t gk sl ∧ KernO w7 gk s' L' ∧ L'.own w.heap.size = none ∧ L'.own t = none ∧ KStep w w7 L L' ∧ w2.heap.size ≤ w7.heap.size) ∧ 64 - ix [Value.int .i64 ((i : Int) + 1)] < 64 - ix [Value.int .i64 (i : Int)] := by
      intro h
      rw [if_neg h] at hrel
      refine ⟨⟨by omega, by omega⟩, ⟨i + 1, c, s', L', rfl, by omega, by rw [hk', hrel], hcm, hC7, hT7, hK7, hnc, hnt, st7, by omega⟩, ?_⟩
      simp only [ix]; omega
    refine ⟨_, (hb7.cell 0).trans rfl, condN (fun hd => ⟨_, (hb7.cell 1).trans rfl, condI (fun hm => ?_) (fun hm => ?_)⟩) (fun hd => skip (fun e => e.1 hd))⟩
    · have hm : sl[i].2 = false := notT hm
      rw [if_pos ⟨hd, hm⟩] at hrel
      refine nnI ⟨_, hT7.at0, _, (hb7.cell 0).trans rfl, CallR.mono (kernKeep_ok hK7 sl[i].1) ?_⟩
      rintro v w8 ⟨rfl, L8, h8, st8⟩
      have hC8 := hC7.step hnc st8
      have hT8 := hT7.step hnt st8
      have hnc8 : L8.own w.heap.size = none := st8.own' hnc (by omega)
      have hnt8 : L8.own t = none := st8.own' hnt (by omega)
      have hz8 := st8.size
      have hbn : L'.own w3.heap.size = none := hK3.new_none (Nat.le_refl _)
      have hb8 := hb7.keep st8.kept fun e => e hbn
      refine ⟨_, rfl, condI (fun he => ?_) (fun he => ?_)⟩
      · have he : (s'.keep sl[i].1).1 = 0 := by simpa using he
        rw [if_pos he] at hrel
        intro w9
        have hk9 : Kept No w8 w9 := Kept.drew _ _
        clear_value w9
        have hC9 := hC8.keep hk9 fun e => e
        have hcl := hC9.len
        have hcf : c[i].2 = false := hcm _ (List.getElem_mem (by omega))
        refine ⟨_, ((hb8.keep hk9 fun e => e).cell 0).trans rfl, nnI ⟨⟨by omega, by omega⟩, ?_⟩⟩
        rw [Int.toNat_natCast]
        refine hC9.stD (by omega) fun w10 hC10 hk10 hs10 => ?_
        rw [hcf] at hC10
        have hz9 := hk9.size
        refine ⟨⟨by omega, by omega⟩, ⟨i + 1, _, _, L8, rfl, by omega, by rw [hk', hrel], fun x hx => ?_, hC10, (hT8.keep hk9 fun e => e).keep hk10 (by omega), (h8.no hk9).keep hk10 fun z e => by rw [e]; exact hnc8, hnc8, hnt8, ((st7.trans st8).no hk9).own hk10 (Nat.le_refl _), by omega⟩, ?_⟩
        · rcases List.mem_or_eq_of_mem_set hx with h | h
          · exact hcm x h
          · rw [h]
        · simp only [ix]; omega
      · have he : ¬ (s'.keep sl[i].1).1 = 0 := by simpa using he
        rw [if_neg he] at hrel
        refine ⟨⟨by omega, by omega⟩, ⟨i + 1, c, _, L8, rfl, by omega, by rw [hk', hrel], hcm, hC8, hT8, h8, hnc8, hnt8, st7.trans st8, by omega⟩, ?_⟩
        simp only [ix]; omega
    · exact skip (fun e => by rw [e.2] at hm; cases hm)
  · have : 64 - i = 0 := by omega
    rw [this] at hrel
    rw [hrel]
    exact ⟨w.heap.size, L', rfl, Nat.le_refl _, hC3, hK3, hnc, st3⟩
def usedL (sl : List (Int × Bool)) (i : Nat) : Nat → List Nat
  | 0 => []
  | n + 1 => if (sl.getD i (0, false)).1 ≠ 0 then i :: usedL sl (i + 1) n else usedL sl (i + 1) n
def usedIx (sl : List (Int × Bool)) : List Nat := usedL sl 0 64
theorem usedL_lt (sl : List (Int × Bool)) : ∀ (n i : Nat), (usedL sl i n).length ≤ n ∧ ∀ x ∈ usedL sl i n, i ≤ x ∧ x < i + n
  | 0, i => ⟨Nat.le_refl _, fun x hx => by cases hx⟩
  | n + 1, i => by
    obtain ⟨h1, h2⟩ := usedL_lt sl n (i + 1)
    unfold usedL
    split
    · refine ⟨by rw [List.length_cons]; omega, fun x hx => ?_⟩
      rcases List.mem_cons.1 hx with rfl | hx
      · omega
      · have := h2 x hx; omega
    · exact ⟨by omega, fun x hx => by have := h2 x hx; omega⟩
def castI (l : List Nat) : List Int := l.map fun (i : Nat) => (i : Int)
theorem tlist_ok {w : World} {t gk : Nat} {sl : List (Int × Bool)} (hT : TabO w t gk sl) :
    CallR Tryz.prog 24 [pd t] w fun v w' => ∃ a l c, v = .slice a l c ∧ SlO 1 w' a l c (In (castI (usedIx sl))) ∧ Fresh w a ∧ Kept No w w' := by
  refine C24 ?_
  unfold L24
  have hlen := hT.len
  obtain ⟨vs, hv1, hv2, hv3⟩ := hT.all
  refine tnone_to hT ⟨_, rfl, condFa2 (nnI ⟨vs, hv1, hv2, fun vs w' => ∃ (i : Nat) (pre : List Nat) (a : Option Addr) (c : Nat), vs = [.slice a pre.length c, .int .i64 (i : Int)] ∧ i ≤ 64 ∧ pre.length ≤ i ∧ usedIx sl = pre ++ usedL sl i (64 - i) ∧ SlO 1 w' a pre.length c (In (castI pre)) ∧ (∀ b, inA a b → w.heap.size ≤ b) ∧ Kept No w w',
    fun vs _ => match vs with | [_, .int _ n] => 64 - n.toNat | _ => 0, ⟨0, [], none, 0, rfl, by omega, Nat.le_refl _, rfl, SlO.nil 1 _, fun b hb => absurd hb (inA_none b), Kept.refl _ _⟩, ?_⟩)⟩
  rintro _ a8 l8 c8 n9 w2 ⟨i, pre, a, c, hvs, hi, hpl, hpre, hs, hf, hk⟩
  simp only [List.cons.injEq, Value.int.injEq, Value.slice.injEq, true_and, and_true] at hvs
  obtain ⟨⟨rfl, rfl, rfl⟩, rfl⟩ := hvs
  refine condP (fun hlt => ?_) (fun hge => ?_)
  · have hil : i < sl.length := by omega
    have hg := getD_at hil
    obtain ⟨k, hk'⟩ : ∃ k, 64 - i = k + 1 := ⟨63 - i, by omega⟩
    have hk'' : 64 - (i + 1) = k := by omega
    rw [hk'] at hpre
    have hu : usedL sl i (k + 1) = if sl[i].1 ≠ 0 then i :: usedL sl (i + 1) k else usedL sl (i + 1) k := by rw [← hg]; rfl
    rw [hu] at hpre
    refine ⟨⟨by omega, by omega⟩, sl[i].1, sl[i].2, by rw [Int.toNat_natCast]; exact hv3 i hil, ?_⟩
    refine newPair fun w5 hb5 hk5 hz5 => ⟨_, (hb5.cell 0).trans rfl, condN (fun hd => ?_) (fun hd => ?_)⟩
    · rw [if_pos hd] at hpre
      intro w6
      have hk6 : Kept No w5 w6 := Kept.alloc _ _ _
      have hone : RdS 1 w6 (some ⟨w5.heap.size, 0, none⟩) 1 1 (In [(i : Int)]) := (SlO.of_blk (sz := 1) (n := 1) (Blk.alloc w5 #[.int .i64 (i : Int)] _) (by simp)).rd
      clear_value w6
      obtain ⟨a13, c13, w7, hrun, hs7, hk7, hat, _⟩ := run_app_sl (P := Tryz.prog) (t := 57) (t2 := 57) (ty := 57) (by kernel_rfl : slTyB Tryz.prog 57 1 8 = true) (by kernel_rfl) ((hs.keep hk5 fun _ _ e => e).keep hk6 fun _ _ e => e) hone (In_one _) (by omega) (by omega)
      have htk : In (castI pre) ++ In [(i : Int)] = In (castI (pre ++ [i])) := by
        rw [← In_append]
        unfold castI
        rw [List.map_append]
        rfl
      rw [htk] at hs7
      have hz2 := hk.size
      refine ⟨a13, pre.length + 1, c13, w7, hrun, ⟨by omega, by omega⟩, ⟨i + 1, pre ++ [i], a13, c13, by rw [List.length_append]; rfl, by omega, by rw [List.length_append, List.length_singleton]; omega, by rw [hpre, hk'', List.append_assoc]; rfl, by rw [List.length_append]; exact hs7, fun b hb => ?_, ((hk.no hk5).no hk6).fresh hk7 hf⟩, ?_⟩
      · rcases hat.in hb with e | e
        · exact hf b e
        · have := hk6.size; omega
      · show 64 - Int.toNat ((i : Int) + 1) < 64 - Int.toNat (i : Int)
        omega
    · rw [if_neg (fun e => e hd)] at hpre
      refine ⟨⟨by omega, by omega⟩, ⟨i + 1, pre, _, _, rfl, by omega, by omega, by rw [hpre, hk''], hs.keep hk5 fun _ _ e => e, hf, hk.no hk5⟩, ?_⟩
      show 64 - Int.toNat ((i : Int) + 1) < 64 - Int.toNat (i : Int)
      omega
  · have : 64 - i = 0 := by omega
    rw [this] at hpre
    have hpre : usedIx sl = pre := by rw [hpre]; exact List.append_nil _
    rw [hpre]
    exact ⟨_, _, _, rfl, hs, hf, hk⟩
def closeS (p : List (Int × Bool) × AK) (fd : Nat) : List (Int × Bool) × AK := ((tClose p.1 p.2 (fd : Int)).2.1, (tClose p.1 p.2 (fd : Int)).2.2)
def tCloseAll (sl : List (Int × Bool)) (s : AK) : List (Int × Bool) × AK := (usedIx sl).foldl closeS (sl, s)
theorem tcloseall_ok {w : World} {t gk : Nat} {sl : List (Int × Bool)} {s : AK} {L : KL} (hT : TabO w t gk sl) (hK : KernO w gk s L) (hn : L.own t = none) :
    CallR Tryz.prog 112 [pd t] w fun v w' => v = .tuple #[] ∧ ∃ L', TabO w' t gk (tCloseAll sl s).1 ∧ KernO w' gk (tCloseAll sl s).2 L' ∧ TStep t w w' L L' := by
  refine C112 ?_
  unfold L112
  have htlt := hT.lt
  refine CallR.mono (tlist_ok hT) ?_
  rintro v w1 ⟨a, l, c, rfl, hs, hf, hk1⟩
  have hl : (usedIx sl).length = l := by have := hs.1; rw [In_length] at this; unfold castI at this; rw [List.length_map] at this; omega
  have hl64 := (usedL_lt sl 64 0).1
  have hl64 : l ≤ 64 := by rw [← hl]; exact hl64
  have hav : ∀ b, inA a b → L.own b = none ∧ b < w1.heap.size ∧ b ≠ t := fun b hb => by
    have h1 := hf b hb
    exact ⟨hK.new_none h1, SlO.lt hs b hb, by omega⟩
  refine ⟨_, _, _, rfl, fun vs w' => ∃ (i : Nat) (sl' : List (Int × Bool)) (s' : AK) (L' : KL), vs = [.int .i64 (i : Int)] ∧ i ≤ l ∧ tCloseAll sl s = ((usedIx sl).drop i).foldl closeS (sl', s') ∧ TabO w' t gk sl' ∧ KernO w' gk s' L' ∧ TStep t w1 w' L L',
    fun vs _ => l - ix vs, ⟨0, sl, s, L, rfl, by omega, rfl, hT.keep hk1 (fun e => e), hK.no hk1, .refl _ _ _⟩, ?_⟩
  rintro _ n6 w2 ⟨i, sl', s', L', hvs, hi, hrel, hT2, hK2, st2⟩
  simp only [List.cons.injEq, Value.int.injEq, true_and, and_true] at hvs
  subst hvs
  refine condP (fun hlt => ?_) (fun hge => ?_)
  · have hil : i < (usedIx sl).length := by omega
    rw [List.drop_eq_getElem_cons hil] at hrel
    obtain ⟨q, haq⟩ : ∃ q, a = some q := by
      cases ha : a with
      | none => have := RdS.isNone hs.rd ha; omega
      | some q => exact ⟨q, rfl⟩
    have hs2 := hs.keep st2.kept fun b hb e => by
      rcases e with e | e
      · exact e (hav b hb).1
      · exact (hav b hb).2.2 e
    have hcell := hs2.rd.2.2.2 q haq i _ (In_get (castI (usedIx sl)) i (by unfold castI; rw [List.length_map]; exact hil))
    have hgi : (castI (usedIx sl))[i]'(by unfold castI; rw [List.length_map]; exact hil) = (((usedIx sl)[i] : Nat) : Int) := by unfold castI; rw [List.getElem_map]
    rw [hgi] at hcell
    refine ⟨⟨by omega, by omega⟩, nnE2 haq ⟨_, by rw [Int.toNat_natCast]; exact hcell, CallR.mono (tclose_ok hT2 hK2 (st2.own hn (by have := hk1.size; omega)) _) ?_⟩⟩
    rintro v w3 ⟨rfl, L3, hT3, hK3, st3⟩
    refine ⟨_, rfl, ⟨by omega, by omega⟩, ⟨i + 1, _, _, L3, rfl, by omega, by rw [hrel]; rfl, hT3, hK3, st2.trans st3⟩, ?_⟩
    simp only [ix]; omega
  · rw [List.drop_of_length_le (by omega)] at hrel
    rw [hrel]
    exact ⟨rfl, L', hT2, hK2, (TStep.of_no hk1).trans st2⟩
def tPipe (sl : List (Int × Bool)) (s : AK) : Int × Int × Int × List (Int × Bool) × AK := match freeIx sl with
  | i :: j :: _ => if s.pipe.2.2.1 ≠ 0 then (0, 0, s.pipe.2.2.1, sl, s.pipe.2.2.2) else ((i : Int), (j : Int), 0, (sl.set i (s.pipe.1, false)).set j (s.pipe.2.1, false), s.pipe.2.2.2)
  | _ => (0, 0, 31, sl, s)
theorem tpipe_ok {w : World} {t gk : Nat} {sl : List (Int × Bool)} {s : AK} {L : KL} (hT : TabO w t gk sl) (hK : KernO w gk s L) (hn : L.own t = none) (hx : s.next ≤ 4611686018427387903) :
    CallR Tryz.prog 98 [pd t] w fun v w' => v = .tuple #[.int .i64 (tPipe sl s).1, .int .i64 (tPipe sl s).2.1, .int .i64 (tPipe sl s).2.2.1] ∧ ∃ L', TabO w' t gk (tPipe sl s).2.2.2.1 ∧ KernO w' gk (tPipe sl s).2.2.2.2 L' ∧ TStep t w w' L L' := by
  refine C98 ?_
  unfold L98
  have hlen := hT.len
  refine tnone_to hT ⟨_, rfl, condFa2 (CallR.mono (some_okT hT (k := 2) (by omega) (by omega)) ?_)⟩
  rintro v w2 ⟨a, l, c, rfl, hk2, ⟨h1, rfl⟩ | ⟨h1, hne, rfl, hs, hf⟩⟩
  · have hp : tPipe sl s = (0, 0, 31, sl, s) := by
      unfold tPipe
      match hh : freeIx sl, h1 with
      | [], _ => rfl
      | [i], _ => rfl
      | i :: j :: r, h1 => simp only [List.length_cons] at h1; omega
    rw [hp]
    exact ⟨_, _, _, rfl, condTr2 ⟨rfl, L, hT.keep hk2 (fun e => e), hK.no hk2, .of_no hk2⟩⟩
  · obtain ⟨i, j, r, hfr⟩ : ∃ i j r, freeIx sl = i :: j :: r := by
      match hh : freeIx sl, h1 with
      | [], h1 => simp at h1
      | [i], h1 => simp at h1
      | i :: j :: r, _ => exact ⟨i, j, r, rfl⟩
    have hi64 := freeIx_some hlen i (by rw [hfr]; simp)
    have hj64 := freeIx_some hlen j (by rw [hfr]; simp)
    rw [hfr] at hs
    have hs : SlO 1 w2 a 2 c (In [(i : Int), (j : Int)]) := hs
    unfold tPipe
    rw [hfr]
    dsimp -zeta only
    obtain ⟨q, rfl⟩ : ∃ q, a = some q := by cases a with | none => exact absurd rfl hne | some q => exact ⟨q, rfl⟩
    have hT2 := hT.keep hk2 (fun e => e)
    have hK2 := hK.no hk2
    refine ⟨_, _, _, rfl, condFa2 (nnI ⟨_, hT2.at0, CallR.mono (kernPipe_ok hK2 hx) ?_⟩)⟩
    rintro v w3 ⟨rfl, L3, h3, st3⟩
    have hT3 := hT2.step hn st3
    have hz2 := hk2.size
    refine ⟨_, _, _, rfl, condN (fun he => ?_) (fun he => ?_)⟩
    · rw [if_pos he]
      exact ⟨rfl, L3, hT3, h3, .of_k (st3.fresh hk2)⟩
    · rw [if_neg (fun e => e he)]
      intro w4
      have hk4 : Kept No w3 w4 := Kept.drew _ _
      clear_value w4
      have hav : ∀ b, inA (some q) b → L.own b = none ∧ b < w2.heap.size ∧ b ≠ t := fun b hb => by
        have h1 := hf b hb
        exact ⟨hK.new_none h1, SlO.lt hs b hb, fun e => by have := hT.lt; omega⟩
      have hs4 := (hs.keep st3.kept fun b hb e => e (hav b hb).1).keep hk4 fun _ _ e => e
      have hc0 : ∀ {w' : World}, SlO 1 w' (some q) 2 c (In [(i : Int), (j : Int)]) → w'.cell? (q.add (Int.toNat 0)) = some (.int .i64 (i : Int)) := fun h => h.rd.2.2.2 q rfl 0 _ rfl
      have hc1 : ∀ {w' : World}, SlO 1 w' (some q) 2 c (In [(i : Int), (j : Int)]) → w'.cell? (q.add (Int.toNat 1)) = some (.int .i64 (j : Int)) := fun h => h.rd.2.2.2 q rfl 1 _ rfl
      have hT4 := hT3.keep hk4 fun e => e
      have hil : i < sl.length := by omega
      have hn3 : L3.own t = none := (st3.fresh hk2).own' hn hT.lt
      refine ⟨⟨by omega, by omega⟩, nnI ⟨_, hc0 hs4, ⟨by omega, by omega⟩, nnI ⟨_, hc1 hs4, nnI ⟨⟨by omega, by omega⟩, nnI ?_⟩⟩⟩⟩
      rw [Int.toNat_natCast, Int.toNat_natCast]
      refine hT4.st hil fun w6 hT6 hk6 hs6 => ⟨⟨by omega, by omega⟩, hT6.st (by rw [List.length_set]; omega) fun w8 hT8 hk8 hs8 => ?_⟩
      have hs6' := (hs4.keep hk6 fun b hb e => (hav b hb).2.2 e).keep hk8 fun b hb e => (hav b hb).2.2 e
      refine ⟨⟨by omega, by omega⟩, nnI ⟨_, hc0 hs6', ⟨by omega, by omega⟩, nnI ⟨_, hc1 hs6', fun nd => ?_⟩⟩⟩
      have hk9 : Kept No w8 (w8.drewN nd) := Kept.drewN _ _ _
      exact ⟨rfl, L3, hT8.keep hk9 fun e => e, (((h3.no hk4).keep hk6 fun x e => by rw [e]; exact hn3).keep hk8 fun x e => by rw [e]; exact hn3).no hk9, (((TStep.of_k ((st3.fresh hk2).no hk4)).trans (.of_t hk6)).trans (.of_t hk8)).trans (.of_no hk9)⟩
end Go.Proofs.YtpoaacnnhgebfaaGreat
namespace Go.Proofs.YtpoaacnnhgebfaaGreat
open Go.Lw
theorem tnum_to {w : World} {n : Int} {Q : Value → World → Prop} (h : Q (.int .i64 n) w) : CallR Tryz.prog 16 [.int .i64 n] w Q := C16 h
theorem In_len {w : World} {a : Option Addr} {l c : Nat} {xs : List Int} (h : RdS 1 w a l c (In xs)) : xs.length = l := by have := h.1; rw [In_length] at this; omega
theorem In_cell {w : World} {a : Option Addr} {l c : Nat} {xs : List Int} (h : RdS 1 w a l c (In xs)) {i : Nat} (hi : i < xs.length) : ∃ q, a = some q ∧ w.cell? (q.add i) = some (.int .i64 xs[i]) := by
  cases a with
  | none =>
    have := (RdS.isNone h rfl).1
    have := In_len h
    omega
  | some q => exact ⟨q, rfl, h.2.2.2 q rfl i _ (In_get xs i hi)⟩
theorem sameInts_ok {w : World} {a : Option Addr} {l c : Nat} {xs : List Int} (h : RdS 1 w a l c (In xs)) {a2 : Option Addr} {l2 c2 : Nat} {ys : List Int} (h2 : RdS 1 w a2 l2 c2 (In ys)) (hl : l ≤ 140737488355328) :
    CallR Tryz.prog 23 [.slice a l c, .slice a2 l2 c2] w fun v w' => v = .bool (decide (xs = ys)) ∧ Kept No w w' := by
  refine C23 ?_
  unfold L23
  have hlen := In_len h
  have hlen2 := In_len h2
  refine condN (fun hne => ⟨?_, Kept.refl _ _⟩) (fun heq => ?_)
  · have : xs ≠ ys := by rintro rfl; omega
    simp [this]
  · have hll : l = l2 := by omega
    refine ⟨fun vs w' => Kept No w w' ∧ ∃ n : Nat, vs = [.int .i64 (n : Int)] ∧ n ≤ l ∧ xs.take n = ys.take n, fun vs _ => l - ix vs, ⟨Kept.refl _ _, 0, rfl, Nat.zero_le _, by simp⟩, fun _ n4 w1 hI => ?_⟩
    obtain ⟨hk, n, hv, hn, htk⟩ := hI
    simp only [List.cons.injEq, Value.int.injEq, true_and, and_true] at hv
    subst hv
    refine condP (fun hlt => ?_) (fun hge => ?_)
    · have hx : n < xs.length := by omega
      have hy : n < ys.length := by omega
      obtain ⟨q, ha, hg⟩ := In_cell (h.keep hk (fun _ _ _ e => e)) hx
      obtain ⟨q2, ha2, hg2⟩ := In_cell (h2.keep hk (fun _ _ _ e => e)) hy
      refine ⟨⟨by omega, hlt⟩, nnE2 ha ⟨_, by simpa using hg, ⟨by omega, by omega⟩, nnE2 ha2 ⟨_, by simpa using hg2, fun nd => ?_⟩⟩⟩
      have hkd : Kept No w (w1.drewN nd) := hk.no (Kept.drewN _ _ _)
      refine condN (fun hne => ⟨?_, hkd⟩) (fun he => ⟨⟨by omega, by omega⟩, ⟨hkd, n + 1, by simp, by omega, ?_⟩, ?_⟩)
      · have : xs ≠ ys := by rintro rfl; exact hne rfl
        simp [this]
      · rw [List.take_add_one, List.take_add_one, htk, List.getElem?_eq_getElem hx, List.getElem?_eq_getElem hy, he]
      · simp only [ix]; omega
    · have : n = l := by omega
      subst this
      rw [List.take_of_length_le (by omega), List.take_of_length_le (by omega)] at htk
      exact ⟨by simp [htk], hk⟩
def nA : ByteArray := ByteArray.mk #[97]
def nB : ByteArray := ByteArray.mk #[98]
def fs7 : List (ByteArray × List Int) := [(nA, []), (nB, [])]
def a7 : AK := AK.new fs7 [] []
def a7a := tOpen slots0 a7 nA 1
def a7b := tDup a7a.2.2.1 a7a.2.2.2 0
def a7c := tClose a7b.2.2.1 a7b.2.2.2 0
def a7d := tOpen a7c.2.1 a7c.2.2 nB 1
def a7e := tDupTo a7d.2.2.1 a7d.2.2.2 1 5
def a7f := tMark a7e.2.1 1 true
def a7g := tFork a7f.2 a7e.2.2
theorem KernO.keepT {w w' : World} {gk t : Nat} {s : AK} {L : KL} (h : KernO w gk s L) (hn : L.own t = none) (k : Kept (· = t) w w') : KernO w' gk s L := h.keep k fun x e => by rw [e]; exact hn
set_option maxHeartbeats 1000000 in
theorem alive7_ok {w : World} : CallR Tryz.prog 17 [] w fun v w' => v = .bool true ∧ Kept No w w' := by
  refine C17 ?_
  unfold L17
  intro w1
  have hb1 : Blk w1 w.heap.size #[.string nA, .slice none 0 0, .string nB, .slice none 0 0] := Blk.alloc _ _ _
  have hk1 : Kept No w w1 := Kept.alloc _ _ _
  clear_value w1
  have hfs : RdN RB w1 (some ⟨w.heap.size, 0, none⟩) 2 2 fs7 [(nA, (none, 0, 0)), (nB, (none, 0, 0))] :=
    ⟨(SlO.of_blk (sz := 2) (n := 2) hb1 (by simp)).rd, rfl, fun i h1 h2 => by
      match i, h1, h2 with
      | 0, _, _ => exact ⟨rfl, RdB.nil _⟩
      | 1, _, _ => exact ⟨rfl, RdB.nil _⟩⟩
  have hnil : RdN RL w1 none 0 0 ([] : List (ByteArray × List (List Int))) [] := ⟨RdS.nil 2 w1, rfl, fun i h1 h2 => by simp at h1⟩
  refine CallR.mono (kernNew_ok hfs hnil (ps := []) (RdS.nil 2 w1) (by omega) (by omega)) ?_
  rintro v w2 ⟨hk2, ⟨hne, _⟩ | ⟨_, gk, L2, rfl, h2, hL⟩⟩
  · exact absurd (by kernel_rfl : checkK fs7 [] [] = 0) hne
  have h2 : KernO w2 gk a7 L2 := h2
  have k2 := hk1.no hk2
  refine ⟨_, _, rfl, CallR.mono (tnew_okT gk) ?_⟩
  rintro v w3 ⟨rfl, hT3, hk3⟩
  have h3 := h2.no hk3
  have hn3 : L2.own w2.heap.size = none := h2.new_none (Nat.le_refl _)
  have hz1 := hk1.size
  have hz2 := k2.size
  refine ⟨_, rfl, tnum_to ⟨_, rfl, condFa2 (condFa2 ?_)⟩⟩
  have hx : a7.next = 1 := by kernel_rfl
  refine CallR.mono (topen_ok hT3 h3 hn3 nA 1 (by omega)) ?_
  rintro v w5 ⟨rfl, L5, hT5, h5, st5⟩
  have hT5 : TabO w5 _ gk a7a.2.2.1 := hT5
  have h5 : KernO w5 gk a7a.2.2.2 L5 := h5
  have hn5 := st5.own hn3 hT3.lt
  rw [show (tOpen slots0 a7 nA 1).1 = 0 by kernel_rfl, show (tOpen slots0 a7 nA 1).2.1 = 0 by kernel_rfl]
  refine ⟨_, _, rfl, CallR.mono (tdup_ok hT5 h5 hn5 0) ?_⟩
  rintro v w6 ⟨rfl, L6, hT6, h6, st6⟩
  have hT6 : TabO w6 _ gk a7b.2.2.1 := hT6
  have h6 : KernO w6 gk a7b.2.2.2 L6 := h6
  have hn6 := st6.own hn5 hT5.lt
  rw [show (tDup a7a.2.2.1 a7a.2.2.2 0).1 = 1 by kernel_rfl, show (tDup a7a.2.2.1 a7a.2.2.2 0).2.1 = 0 by kernel_rfl]
  refine ⟨_, _, rfl, CallR.mono (tclose_ok hT6 h6 hn6 0) ?_⟩
  rintro v w7 ⟨rfl, L7, hT7, h7, st7⟩
  have hT7 : TabO w7 _ gk a7c.2.1 := hT7
  have h7 : KernO w7 gk a7c.2.2 L7 := h7
  have hn7 := st7.own hn6 hT6.lt
  rw [show (tClose a7b.2.2.1 a7b.2.2.2 0).1 = 0 by kernel_rfl]
  have hx : a7c.2.2.next = 2 := by kernel_rfl
  refine ⟨_, rfl, CallR.mono (topen_ok hT7 h7 hn7 nB 1 (by omega)) ?_⟩
  rintro v w8 ⟨rfl, L8, hT8, h8, st8⟩
  have hT8 : TabO w8 _ gk a7d.2.2.1 := hT8
  have h8 : KernO w8 gk a7d.2.2.2 L8 := h8
  have hn8 := st8.own hn7 hT7.lt
  rw [show (tOpen a7c.2.1 a7c.2.2 nB 1).1 = 0 by kernel_rfl, show (tOpen a7c.2.1 a7c.2.2 nB 1).2.1 = 0 by kernel_rfl]
  refine ⟨_, _, rfl, CallR.mono (tdupto_ok hT8 h8 hn8 1 5) ?_⟩
  rintro v w9 ⟨rfl, L9, hT9, h9, st9⟩
  have hT9 : TabO w9 _ gk a7e.2.1 := hT9
  have h9 : KernO w9 gk a7e.2.2 L9 := h9
  have hn9 := st9.own hn8 hT8.lt
  rw [show (tDupTo a7d.2.2.1 a7d.2.2.2 1 5).1 = 0 by kernel_rfl]
  refine ⟨_, rfl, CallR.mono (tmark_ok hT9 1 true) ?_⟩
  rintro v w10 ⟨rfl, hT10, hk10⟩
  have hT10 : TabO w10 _ gk a7f.2 := hT10
  have h10 := h9.keepT hn9 hk10
  rw [show (tMark a7e.2.1 1 true).1 = 0 by kernel_rfl]
  refine ⟨_, rfl, CallR.mono (tfork_ok hT10 h10 hn9) ?_⟩
  rintro v w11 ⟨c, L11, rfl, hc, hT11, h11, hn11, st11⟩
  have hT11 : TabO w11 c gk a7g.1 := hT11
  have st : TStep w2.heap.size w3 w11 L2 L11 := ((((((st5.trans st6).trans st7).trans st8).trans st9).trans (.of_t hk10)).trans (.of_k st11))
  have k11 : Kept No w w11 := (k2.no hk3).trans st.kept fun x hx e => by
    rcases e with e | e
    · have := hL x e; omega
    · omega
  refine ⟨_, rfl, tnum_to ⟨_, rfl, tnum_to ⟨_, rfl, ⟨by omega, by omega⟩, tnum_to ⟨_, rfl, ⟨by omega, by omega⟩, tnum_to ⟨_, rfl, ⟨by omega, by omega⟩, tnum_to ⟨_, rfl, ⟨by omega, by omega⟩, tnum_to ⟨_, rfl, ⟨by omega, by omega⟩, ?_⟩⟩⟩⟩⟩⟩⟩
  refine condTr2 (condTr2 (condTr2 (condTr2 (condTr2 (CallR.mono (tlist_ok hT11) ?_)))))
  rintro v w18 ⟨a, l, cc, rfl, hs, hf, hk18⟩
  refine ⟨_, _, _, rfl, ?_⟩
  intro w19
  have hb19 : Blk w19 w18.heap.size #[.int .i64 0, .int .i64 5] := Blk.alloc _ _ _
  have hk19 : Kept No w18 w19 := Kept.alloc _ _ _
  clear_value w19
  have hlit : RdS 1 w19 (some ⟨w18.heap.size, 0, none⟩) 2 2 (In [0, 5]) := (SlO.of_blk (sz := 1) (n := 2) hb19 (by simp)).rd
  have hll := In_len hs.rd
  have hus := (usedL_lt a7g.1 64 0).1
  refine CallR.mono (sameInts_ok (hs.rd.keep hk19 fun _ _ _ e => e) hlit (by unfold castI at hll; rw [List.length_map] at hll; have : (usedIx a7g.1).length ≤ 64 := hus; omega)) ?_
  rintro v w20 ⟨rfl, hk20⟩
  refine ⟨_, rfl, ?_, ((k11.no hk18).no hk19).no hk20⟩
  rw [show castI (usedIx a7g.1) = [0, 5] by kernel_rfl]
  rfl
end Go.Proofs.YtpoaacnnhgebfaaGreat
