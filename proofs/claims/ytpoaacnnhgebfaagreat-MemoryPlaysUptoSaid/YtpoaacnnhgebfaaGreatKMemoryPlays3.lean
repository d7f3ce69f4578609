/-
  Part 3 of 7 of the proof of MemoryPlays (the last part has its theorem): the program's functions as they are read, what each does, the law. Conditions: as each says; the theorem's: none.
-/
import Derived.Test.YtpoaacnnhgebfaaGreatRows
import Derived.JoinedOf
import Derived.WalkKit
import Derived.Deep.Quiet
import Derived.OrdersHeld
import Derived.ProofKit
import Derived.SizedLaws
import Derived.Carry
import Derived.OpenShut
import Derived.ChangeSame
import Derived.ChangeArms
import Derived.Deep.Slices
import Derived.Laws.BytesArg
import Derived.Lib.SlBytesConst
import Derived.Deep.CondSized
import Derived.Test.YtpoaacnnhgebfaaGreatProg
import Derived.Defers
import Derived.RangeFuncIn
import Derived.RangeFuncLeaves
import Derived.RangeFuncRecord
import Derived.TacticsIn
import Derived.MapKept
import Derived.Laws.RangeAny
import Derived.Lib.OthersKept
import Derived.FollowTie
import Derived.Test.YtpoaacnnhgebfaaGreatChecked
import Derived.Shelf.Sort.AssemblysIn
import Derived.Sort.EveryDepth
import Derived.Maps.RangeRun
import Derived.Sort.KeysCollected
import Derived.Sort.OwnSorted
import Derived.Laws.StructEq
import Derived.LaidEql
import Derived.Test.YtpoaacnnhgebfaaGreatKMemoryPlays2
set_option linter.unusedVariables false
set_option maxRecDepth 100000
namespace Go.Proofs.YtpoaacnnhgebfaaGreat
open Go.Lw
def A161 : Ann := ⟨[], [], [], [], [], []⟩
def L161 (n1 : Int) (Q : Value → World → Prop) (w : World) : Prop :=
  cond (decide (n1 < 33))
  (Q (.bool true) w)
  (Q (.bool (decide (n1 > 126))) w)
theorem C161 {n1 : Int} {Q : Value → World → Prop} {w : World} (h : L161 n1 Q w) : CallR Tryz.prog 161 [.int .i32 n1] w Q :=
  fun_calls (A := A161) mixed Tryz.func161 (c := (Tryz.f161.body).getD .skip) rfl (by kernel_rfl) (Eq.mp (by kernel_rfl) h)
def A210 : Ann := ⟨[(2, [])], [], [], [], [], []⟩
def L210 (s1 : ByteArray) (v2 : Value) (b3 : Bool) (Q : Value → World → Prop) (w : World) : Prop :=
  ∃ (w1 : World), Sem.run Tryz.prog (Instr.range 9 (.string s1)) w = .ok (.pointer (some (Addr.mk w.heap.size 0 none))) w1 ∧
  ∃ (I4 : List Value → World → Prop) (mu5 : List Value → World → Nat),
  I4 [] w1 ∧
  ∀ (_ : Env) (w2 : World), I4 [] w2 →
  (∃ (w3 : World), Sem.run Tryz.prog (Instr.next (.pointer (some (Addr.mk w.heap.size 0 none))) true 0) w2 = .ok (.tuple #[.bool false]) w3 ∧
  Q (.int .i64 ((-1))) w3) ∨
  (∃ (v6 : Value) (v7 : Value) (w4 : World), Sem.run Tryz.prog (Instr.next (.pointer (some (Addr.mk w.heap.size 0 none))) true 0) w2 = .ok (.tuple #[.bool true, v6, v7]) w4 ∧
  ∃ (n8 : Int), v6 = (.int .i64 n8 : Value) ∧
  ∃ (n9 : Int), v7 = (.int .i32 n9 : Value) ∧
  ∃ (k10 : FuncId) (xs11 : Array Value) (xs12 : Array Value), (v2 : Value) = .func (.func k10) xs11 xs12 ∧ bodyB Tryz.prog k10 = true ∧
  CallR Tryz.prog k10 (Array.toList xs11 ++ ([.int .i32 n9] ++ Array.toList xs12)) w4 (fun (r14 : Value) (w5 : World) =>
  ∃ (b13 : Bool), r14 = .bool b13 ∧
  cond (b13 == b3)
  (Q (.int .i64 n8) w5)
  (I4 [] w5 ∧ mu5 [] w5 < mu5 [] w2)))
theorem C210 {s1 : ByteArray} {v2 : Value} {b3 : Bool} {Q : Value → World → Prop} {w : World} (h : L210 s1 v2 b3 Q w) : CallR Tryz.prog 210 [.string s1, v2, .bool b3] w Q :=
  fun_calls (A := A210) mixed Tryz.func210 (c := (Tryz.f210.body).getD .skip) rfl (by kernel_rfl) (Eq.mp (by kernel_rfl) h)
def A203 : Ann := ⟨[], [], [], [], [], []⟩
def L203 (s1 : ByteArray) (v2 : Value) (Q : Value → World → Prop) (w : World) : Prop :=
  CallR Tryz.prog 210 [.string s1, v2, .bool true] w (fun (r4 : Value) (w1 : World) =>
  ∃ (n3 : Int), r4 = .int .i64 n3 ∧
  Q (.int .i64 n3) w1)
theorem C203 {s1 : ByteArray} {v2 : Value} {Q : Value → World → Prop} {w : World} (h : L203 s1 v2 Q w) : CallR Tryz.prog 203 [.string s1, v2] w Q :=
  fun_calls (A := A203) mixed Tryz.func203 (c := (Tryz.f203.body).getD .skip) rfl (by kernel_rfl) (Eq.mp (by kernel_rfl) h)
def A160 : Ann := ⟨[], [], [], [], [], []⟩
def L160 (s1 : ByteArray) (v2 : Value) (Q : Value → World → Prop) (w : World) : Prop :=
  CallR Tryz.prog 203 [.string s1, v2] w (fun (r4 : Value) (w1 : World) =>
  ∃ (n3 : Int), r4 = .int .i64 n3 ∧
  Q (.bool (decide (n3 ≥ 0))) w1)
theorem C160 {s1 : ByteArray} {v2 : Value} {Q : Value → World → Prop} {w : World} (h : L160 s1 v2 Q w) : CallR Tryz.prog 160 [.string s1, v2] w Q :=
  fun_calls (A := A160) mixed Tryz.func160 (c := (Tryz.f160.body).getD .skip) rfl (by kernel_rfl) (Eq.mp (by kernel_rfl) h)
def A62 : Ann := ⟨[], [], [], [], [], []⟩
def L62 (s1 : ByteArray) (Q : Value → World → Prop) (w : World) : Prop :=
  cond (!(ByteArray.toList s1 == ByteArray.toList (ByteArray.mk #[])))
  (cond (decide ((((ByteArray.size s1 : Nat) : Int)) ≤ 64))
  (CallR Tryz.prog 160 [.string s1, .func (.func 161) #[] #[]] w (fun (r3 : Value) (w1 : World) =>
  ∃ (b2 : Bool), r3 = .bool b2 ∧
  Q (.bool (!b2)) w1))
  (Q (.bool false) w))
  (Q (.bool false) w)
theorem C62 {s1 : ByteArray} {Q : Value → World → Prop} {w : World} (h : L62 s1 Q w) : CallR Tryz.prog 62 [.string s1] w Q :=
  fun_calls (A := A62) mixed Tryz.func62 (c := (Tryz.f62.body).getD .skip) rfl (by kernel_rfl) (Eq.mp (by kernel_rfl) h)
def A61 : Ann := ⟨[], [], [], [], [], []⟩
def L61 (s1 : ByteArray) (p2 : Option Addr) (Q : Value → World → Prop) (w : World) : Prop :=
  CallR Tryz.prog 62 [.string s1] w (fun (r4 : Value) (w1 : World) =>
  ∃ (b3 : Bool), r4 = .bool b3 ∧
  cond (!b3)
  (Q (.int .i64 61) w1)
  (nn p2 (fun (q5 : Addr) =>
  ∃ (m6 : Option Nat), w1.cell? q5 = some ((.map m6 : Value)) ∧
  ∃ (b7 : Bool) (w2 : World), Sem.run Tryz.prog (Instr.lookup 137 (.map m6) (.string s1) false) w1 = .ok ((.bool b7 : Value)) w2 ∧
  cond b7
  (Q (.int .i64 6) w2)
  (nn p2 (fun (q8 : Addr) =>
  ∃ (m9 : Option Nat), w2.cell? q8 = some ((.map m9 : Value)) ∧
  ∃ (w3 : World), Sem.run Tryz.prog (Instr.mapUpdate 137 (.map m9) (.string s1) (.bool true)) w2 = .ok () w3 ∧
  Q (.int .i64 0) w3)))))
theorem C61 {s1 : ByteArray} {p2 : Option Addr} {Q : Value → World → Prop} {w : World} (h : L61 s1 p2 Q w) : CallR Tryz.prog 61 [.string s1, .pointer p2] w Q :=
  funI_calls (A := A61) Tryz.func61 (c := (Tryz.f61.body).getD .skip) rfl (by kernel_rfl) (Eq.mp (by kernel_rfl) h)
def A12 : Ann := ⟨[(6, [(28, .one (.int .i64))]), (15, [(47, .one (.int .i64))])], [], [], [], [], []⟩
def L12 (a1 : Option Addr) (l1 : Nat) (c1 : Nat) (a2 : Option Addr) (l2 : Nat) (c2 : Nat) (a3 : Option Addr) (l3 : Nat) (c3 : Nat) (Q : Value → World → Prop) (w : World) : Prop :=
  let w1 := World.alloc w (Obj.cells #[.slice a1 l1 c1, .slice a2 l2 c2, .slice a3 l3 c3] 28);
  ∃ (a4 : Option Addr) (l4 : Nat) (c4 : Nat), w1.cell? (Addr.mk w.heap.size 0 none) = some ((.slice a4 l4 c4 : Value)) ∧
  ∃ (a5 : Option Addr) (l5 : Nat) (c5 : Nat), w1.cell? (Addr.mk w.heap.size 1 none) = some ((.slice a5 l5 c5 : Value)) ∧
  inI ((((l4 : Nat) : Int)) + (((l5 : Nat) : Int))) ∧
  cond (decide (((((l4 : Nat) : Int)) + (((l5 : Nat) : Int))) > 256))
  (Q (.int .i64 3) w1)
  (let w2 := World.alloc w1 (Obj.map #[] 0);
  let w3 := World.alloc w2 (Obj.cells #[.map none] 137);
  stC (Addr.mk w2.heap.size 0 none) (.map (some w1.heap.size)) w3 (fun (w4 : World) =>
  ∃ (a6 : Option Addr) (l6 : Nat) (c6 : Nat), w4.cell? (Addr.mk w.heap.size 0 none) = some ((.slice a6 l6 c6 : Value)) ∧
  ∃ (I7 : List Value → World → Prop) (mu8 : List Value → World → Nat),
  I7 [.int .i64 0] w4 ∧
  ∀ (_ : Env) (n9 : Int) (w5 : World), I7 [.int .i64 n9] w5 →
  cond (decide (n9 < (((l6 : Nat) : Int))))
  ((0 ≤ (n9 : Int) ∧ (n9 : Int) < ((l6 : Nat) : Int)) ∧
  nn a6 (fun (q10 : Addr) =>
  ∃ (s11 : ByteArray) (a12 : Option Addr) (l12 : Nat) (c12 : Nat), w5.cell? (Addr.add q10 (Int.toNat n9 * 2)) = some ((.string s11 : Value)) ∧ w5.cell? (Addr.add (Addr.add q10 (Int.toNat n9 * 2)) 1) = some ((.slice a12 l12 c12 : Value)) ∧ 
  let w6 := World.alloc w5 (Obj.cells #[.string (ByteArray.mk #[]), .slice none 0 0] 122);
  stC (Addr.mk w5.heap.size 0 none) (.string s11) w6 (fun (w7 : World) =>
  stC (Addr.mk w5.heap.size 1 none) (.slice a12 l12 c12) w7 (fun (w8 : World) =>
  ∃ (s13 : ByteArray), w8.cell? (Addr.mk w5.heap.size 0 none) = some ((.string s13 : Value)) ∧
  ∃ (k14 : FuncId) (xs15 : Array Value) (xs16 : Array Value), (.func (.func 61) #[] #[.pointer (some (Addr.mk w2.heap.size 0 none))] : Value) = .func (.func k14) xs15 xs16 ∧ bodyB Tryz.prog k14 = true ∧
  CallR Tryz.prog k14 (Array.toList xs15 ++ ([.string s13] ++ Array.toList xs16)) w8 (fun (r18 : Value) (w9 : World) =>
  ∃ (n17 : Int), r18 = .int .i64 n17 ∧
  cond (n17 != 0)
  (Q (.int .i64 n17) w9)
  (∃ (a19 : Option Addr) (l19 : Nat) (c19 : Nat), w9.cell? (Addr.mk w5.heap.size 1 none) = some ((.slice a19 l19 c19 : Value)) ∧
  cond (decide ((((l19 : Nat) : Int)) > 1048576))
  (Q (.int .i64 5) w9)
  (inI (n9 + 1) ∧
  I7 [.int .i64 (n9 + 1)] w9 ∧ mu8 [.int .i64 (n9 + 1)] w9 < mu8 [.int .i64 n9] w5)))))))
  (∃ (a20 : Option Addr) (l20 : Nat) (c20 : Nat), w5.cell? (Addr.mk w.heap.size 1 none) = some ((.slice a20 l20 c20 : Value)) ∧
  ∃ (I21 : List Value → World → Prop) (mu22 : List Value → World → Nat),
  I21 [.int .i64 0] w5 ∧
  ∀ (_ : Env) (n23 : Int) (w10 : World), I21 [.int .i64 n23] w10 →
  cond (decide (n23 < (((l20 : Nat) : Int))))
  ((0 ≤ (n23 : Int) ∧ (n23 : Int) < ((l20 : Nat) : Int)) ∧
  nn a20 (fun (q24 : Addr) =>
  ∃ (s25 : ByteArray) (a26 : Option Addr) (l26 : Nat) (c26 : Nat), w10.cell? (Addr.add q24 (Int.toNat n23 * 2)) = some ((.string s25 : Value)) ∧ w10.cell? (Addr.add (Addr.add q24 (Int.toNat n23 * 2)) 1) = some ((.slice a26 l26 c26 : Value)) ∧ 
  let w11 := World.alloc w10 (Obj.cells #[.string (ByteArray.mk #[]), .slice none 0 0] 127);
  stC (Addr.mk w10.heap.size 0 none) (.string s25) w11 (fun (w12 : World) =>
  stC (Addr.mk w10.heap.size 1 none) (.slice a26 l26 c26) w12 (fun (w13 : World) =>
  ∃ (s27 : ByteArray), w13.cell? (Addr.mk w10.heap.size 0 none) = some ((.string s27 : Value)) ∧
  ∃ (k28 : FuncId) (xs29 : Array Value) (xs30 : Array Value), (.func (.func 61) #[] #[.pointer (some (Addr.mk w2.heap.size 0 none))] : Value) = .func (.func k28) xs29 xs30 ∧ bodyB Tryz.prog k28 = true ∧
  CallR Tryz.prog k28 (Array.toList xs29 ++ ([.string s27] ++ Array.toList xs30)) w13 (fun (r32 : Value) (w14 : World) =>
  ∃ (n31 : Int), r32 = .int .i64 n31 ∧
  cond (n31 != 0)
  (Q (.int .i64 n31) w14)
  (∃ (a33 : Option Addr) (l33 : Nat) (c33 : Nat), w14.cell? (Addr.mk w10.heap.size 1 none) = some ((.slice a33 l33 c33 : Value)) ∧
  CallR Tryz.prog 55 [.slice a33 l33 c33] w14 (fun (r36 : Value) (w15 : World) =>
  ∃ (p34 : Option Addr) (n35 : Int), r36 = .tuple #[.pointer p34, .int .i64 n35] ∧
  cond (n35 != 0)
  (Q (.int .i64 n35) w15)
  (inI (n23 + 1) ∧
  I21 [.int .i64 (n23 + 1)] w15 ∧ mu22 [.int .i64 (n23 + 1)] w15 < mu22 [.int .i64 n23] w10))))))))
  (∃ (a37 : Option Addr) (l37 : Nat) (c37 : Nat), w10.cell? (Addr.mk w.heap.size 2 none) = some ((.slice a37 l37 c37 : Value)) ∧
  CallR Tryz.prog 63 [.slice a37 l37 c37] w10 (fun (r40 : Value) (w16 : World) =>
  ∃ (n38 : Int) (n39 : Int), r40 = .tuple #[.int .i64 n38, .int .i64 n39] ∧
  Q (.int .i64 n38) w16)))))
theorem C12 {a1 : Option Addr} {l1 : Nat} {c1 : Nat} {a2 : Option Addr} {l2 : Nat} {c2 : Nat} {a3 : Option Addr} {l3 : Nat} {c3 : Nat} {Q : Value → World → Prop} {w : World} (h : L12 a1 l1 c1 a2 l2 c2 a3 l3 c3 Q w) : CallR Tryz.prog 12 [.agg #[.slice a1 l1 c1, .slice a2 l2 c2, .slice a3 l3 c3]] w Q :=
  fun_calls (A := A12) mixed Tryz.func12 (c := (Tryz.f12.body).getD .skip) rfl (by kernel_rfl) (Eq.mp (by kernel_rfl) h)
def A8 : Ann := ⟨[(7, [(32, .one (.int .i64))]), (12, [(52, .one (.int .i64))])], [], [], [], [(9, [0, 1, 2, 3, 4, 5, 6, 7, 8, 9, 10, 11], 12, []), (14, [0, 1, 2, 3, 4, 5, 6, 7, 8, 9, 10, 11], 12, [])], []⟩
def L8 (a1 : Option Addr) (l1 : Nat) (c1 : Nat) (a2 : Option Addr) (l2 : Nat) (c2 : Nat) (a3 : Option Addr) (l3 : Nat) (c3 : Nat) (Q : Value → World → Prop) (w : World) : Prop :=
  let w1 := World.alloc w (Obj.cells #[.slice a1 l1 c1, .slice a2 l2 c2, .slice a3 l3 c3] 28);
  ∃ (a4 : Option Addr) (l4 : Nat) (c4 : Nat) (a5 : Option Addr) (l5 : Nat) (c5 : Nat) (a6 : Option Addr) (l6 : Nat) (c6 : Nat), w1.cell? (Addr.mk w.heap.size 0 none) = some ((.slice a4 l4 c4 : Value)) ∧ w1.cell? (Addr.mk w.heap.size 1 none) = some ((.slice a5 l5 c5 : Value)) ∧ w1.cell? (Addr.mk w.heap.size 2 none) = some ((.slice a6 l6 c6 : Value)) ∧ 
  CallR Tryz.prog 12 [.agg #[.slice a4 l4 c4, .slice a5 l5 c5, .slice a6 l6 c6]] w1 (fun (r8 : Value) (w2 : World) =>
  ∃ (n7 : Int), r8 = .int .i64 n7 ∧
  cond (n7 != 0)
  (Q (.tuple #[.pointer none, .int .i64 n7]) w2)
  (let w3 := World.alloc w2 (Obj.map #[] 0);
  let w4 := World.alloc w3 (Obj.map #[] 0);
  let w5 := World.alloc w4 (Obj.map #[] 0);
  let w6 := World.alloc w5 (Obj.cells #[.bool true, .map (some w2.heap.size), .map (some w3.heap.size), .map (some w4.heap.size), .int .i64 1, .pointer none, .int .i64 0, .int .i64 0] 118);
  ∃ (a9 : Option Addr) (l9 : Nat) (c9 : Nat), w6.cell? (Addr.mk w.heap.size 2 none) = some ((.slice a9 l9 c9 : Value)) ∧
  CallR Tryz.prog 53 [.slice a9 l9 c9] w6 (fun (r12 : Value) (w7 : World) =>
  ∃ (p10 : Option Addr) (n11 : Int), r12 = .tuple #[.pointer p10, .int .i64 n11] ∧
  stC (Addr.mk w5.heap.size 5 none) (.pointer p10) w7 (fun (w8 : World) =>
  ∃ (a13 : Option Addr) (l13 : Nat) (c13 : Nat), w8.cell? (Addr.mk w.heap.size 0 none) = some ((.slice a13 l13 c13 : Value)) ∧
  ∃ (I14 : List Value → World → Prop) (mu15 : List Value → World → Nat),
  I14 [.int .i64 0] w8 ∧
  ∀ (_ : Env) (n16 : Int) (w9 : World), I14 [.int .i64 n16] w9 →
  cond (decide (n16 < (((l13 : Nat) : Int))))
  ((0 ≤ (n16 : Int) ∧ (n16 : Int) < ((l13 : Nat) : Int)) ∧
  nn a13 (fun (q17 : Addr) =>
  ∃ (s18 : ByteArray) (a19 : Option Addr) (l19 : Nat) (c19 : Nat), w9.cell? (Addr.add q17 (Int.toNat n16 * 2)) = some ((.string s18 : Value)) ∧ w9.cell? (Addr.add (Addr.add q17 (Int.toNat n16 * 2)) 1) = some ((.slice a19 l19 c19 : Value)) ∧ 
  let w10 := World.alloc w9 (Obj.cells #[.string (ByteArray.mk #[]), .slice none 0 0] 122);
  stC (Addr.mk w9.heap.size 0 none) (.string s18) w10 (fun (w11 : World) =>
  stC (Addr.mk w9.heap.size 1 none) (.slice a19 l19 c19) w11 (fun (w12 : World) =>
  ∃ (S20 : World → Prop), S20 (World.drew w12) ∧
  let w13 := World.drew w12;
  ∃ (m21 : Option Nat), (∀ wS : World, S20 wS → wS.cell? (Addr.mk w5.heap.size 1 none) = some ((.map m21 : Value))) ∧
  ∃ (s22 : ByteArray), (∀ wS : World, S20 wS → wS.cell? (Addr.mk w9.heap.size 0 none) = some ((.string s22 : Value))) ∧
  ∃ (a23 : Option Addr) (l23 : Nat) (c23 : Nat), (∀ wS : World, S20 wS → wS.cell? (Addr.mk w9.heap.size 1 none) = some ((.slice a23 l23 c23 : Value))) ∧
  CallR Tryz.prog 54 [.slice a23 l23 c23] w13 (fun (r26 : Value) (w14 : World) =>
  ∃ (p24 : Option Addr) (n25 : Int), r26 = .tuple #[.pointer p24, .int .i64 n25] ∧
  S20 w14 ∧
  ∃ (w15 : World), Sem.run Tryz.prog (Instr.mapUpdate 112 (.map m21) (.string s22) (.pointer p24)) w14 = .ok () w15 ∧
  inI (n16 + 1) ∧
  I14 [.int .i64 (n16 + 1)] w15 ∧ mu15 [.int .i64 (n16 + 1)] w15 < mu15 [.int .i64 n16] w9)))))
  (∃ (a27 : Option Addr) (l27 : Nat) (c27 : Nat), w9.cell? (Addr.mk w.heap.size 1 none) = some ((.slice a27 l27 c27 : Value)) ∧
  ∃ (I28 : List Value → World → Prop) (mu29 : List Value → World → Nat),
  I28 [.int .i64 0] w9 ∧
  ∀ (_ : Env) (n30 : Int) (w16 : World), I28 [.int .i64 n30] w16 →
  cond (decide (n30 < (((l27 : Nat) : Int))))
  ((0 ≤ (n30 : Int) ∧ (n30 : Int) < ((l27 : Nat) : Int)) ∧
  nn a27 (fun (q31 : Addr) =>
  ∃ (s32 : ByteArray) (a33 : Option Addr) (l33 : Nat) (c33 : Nat), w16.cell? (Addr.add q31 (Int.toNat n30 * 2)) = some ((.string s32 : Value)) ∧ w16.cell? (Addr.add (Addr.add q31 (Int.toNat n30 * 2)) 1) = some ((.slice a33 l33 c33 : Value)) ∧ 
  let w17 := World.alloc w16 (Obj.cells #[.string (ByteArray.mk #[]), .slice none 0 0] 127);
  stC (Addr.mk w16.heap.size 0 none) (.string s32) w17 (fun (w18 : World) =>
  stC (Addr.mk w16.heap.size 1 none) (.slice a33 l33 c33) w18 (fun (w19 : World) =>
  ∃ (S34 : World → Prop), S34 (World.drew w19) ∧
  let w20 := World.drew w19;
  ∃ (m35 : Option Nat), (∀ wS : World, S34 wS → wS.cell? (Addr.mk w5.heap.size 2 none) = some ((.map m35 : Value))) ∧
  ∃ (s36 : ByteArray), (∀ wS : World, S34 wS → wS.cell? (Addr.mk w16.heap.size 0 none) = some ((.string s36 : Value))) ∧
  ∃ (a37 : Option Addr) (l37 : Nat) (c37 : Nat), (∀ wS : World, S34 wS → wS.cell? (Addr.mk w16.heap.size 1 none) = some ((.slice a37 l37 c37 : Value))) ∧
  CallR Tryz.prog 55 [.slice a37 l37 c37] w20 (fun (r40 : Value) (w21 : World) =>
  ∃ (p38 : Option Addr) (n39 : Int), r40 = .tuple #[.pointer p38, .int .i64 n39] ∧
  S34 w21 ∧
  ∃ (w22 : World), Sem.run Tryz.prog (Instr.mapUpdate 113 (.map m35) (.string s36) (.pointer p38)) w21 = .ok () w22 ∧
  inI (n30 + 1) ∧
  I28 [.int .i64 (n30 + 1)] w22 ∧ mu29 [.int .i64 (n30 + 1)] w22 < mu29 [.int .i64 n30] w16)))))
  (Q (.tuple #[.pointer (some (Addr.mk w5.heap.size 0 none)), .int .i64 0]) w16))))))
theorem C8 {a1 : Option Addr} {l1 : Nat} {c1 : Nat} {a2 : Option Addr} {l2 : Nat} {c2 : Nat} {a3 : Option Addr} {l3 : Nat} {c3 : Nat} {Q : Value → World → Prop} {w : World} (h : L8 a1 l1 c1 a2 l2 c2 a3 l3 c3 Q w) : CallR Tryz.prog 8 [.agg #[.slice a1 l1 c1, .slice a2 l2 c2, .slice a3 l3 c3]] w Q :=
  fun_calls (A := A8) mixed Tryz.func8 (c := (Tryz.f8.body).getD .skip) rfl (by kernel_rfl) (Eq.mp (by kernel_rfl) h)
def A118 : Ann := ⟨[], [], [], [], [], []⟩
def L118 (p1 : Option Addr) (Q : Value → World → Prop) (w : World) : Prop :=
  cond (Option.isNone p1)
  (Q (.bool true) w)
  (nn p1 (fun (q2 : Addr) =>
  ∃ (b3 : Bool), w.cell? q2 = some ((.bool b3 : Value)) ∧
  Q (.bool (!b3)) w))
theorem C118 {p1 : Option Addr} {Q : Value → World → Prop} {w : World} (h : L118 p1 Q w) : CallR Tryz.prog 118 [.pointer p1] w Q :=
  fun_calls (A := A118) mixed Tryz.func118 (c := (Tryz.f118.body).getD .skip) rfl (by kernel_rfl) (Eq.mp (by kernel_rfl) h)
def A121 : Ann := ⟨[], [], [], [], [], []⟩
def L121 (p1 : Option Addr) (t2 : TypeId) (v2 : Value) (n3 : Int) (Q : Value → World → Prop) (w : World) : Prop :=
  nn p1 (fun (q4 : Addr) =>
  ∃ (n5 : Int), w.cell? (Addr.add q4 4) = some ((.int .i64 n5 : Value)) ∧
  nn p1 (fun (q6 : Addr) =>
  ∃ (n7 : Int), w.cell? (Addr.add q6 4) = some ((.int .i64 n7 : Value)) ∧
  inI (n7 + 1) ∧
  nn p1 (fun (q8 : Addr) =>
  stC (Addr.add q8 4) (.int .i64 (n7 + 1)) w (fun (w1 : World) =>
  nn p1 (fun (q9 : Addr) =>
  ∃ (m10 : Option Nat), w1.cell? (Addr.add q9 3) = some ((.map m10 : Value)) ∧
  let w2 := World.alloc w1 (Obj.cells #[.iface t2 v2, .int .i64 n3, .int .i64 0, .int .i64 1] 264);
  ∃ (w3 : World), Sem.run Tryz.prog (Instr.mapUpdate 114 (.map m10) (.int .i64 n5) (.pointer (some (Addr.mk w1.heap.size 0 none)))) w2 = .ok () w3 ∧
  Q (.int .i64 n5) w3)))))
theorem C121 {p1 : Option Addr} {t2 : TypeId} {v2 : Value} {n3 : Int} {Q : Value → World → Prop} {w : World} (h : L121 p1 t2 v2 n3 Q w) : CallR Tryz.prog 121 [.pointer p1, .iface t2 v2, .int .i64 n3] w Q :=
  fun_calls (A := A121) mixed Tryz.func121 (c := (Tryz.f121.body).getD .skip) rfl (by kernel_rfl) (Eq.mp (by kernel_rfl) h)
def A123 : Ann := ⟨[], [], [], [], [], []⟩
def L123 (n1 : Int) (Q : Value → World → Prop) (w : World) : Prop :=
  cond (decide (n1 ≥ 0))
  (cond (decide (n1 ≤ 63))
  (cond ((IntKind.wrap .i64 ↑(BitVec.ofInt (IntKind.bits .i64) n1 &&& BitVec.ofInt (IntKind.bits .i64) 3).toNat) != 0)
  (cond ((IntKind.wrap .i64 ↑(BitVec.ofInt (IntKind.bits .i64) n1 &&& BitVec.ofInt (IntKind.bits .i64) 2).toNat) != 0)
  (cond ((IntKind.wrap .i64 ↑(BitVec.ofInt (IntKind.bits .i64) n1 &&& BitVec.ofInt (IntKind.bits .i64) 8).toNat) != 0)
  (Q (.bool true) w)
  (Q (.bool ((IntKind.wrap .i64 ↑(BitVec.ofInt (IntKind.bits .i64) n1 &&& BitVec.ofInt (IntKind.bits .i64) 32).toNat) == 0)) w))
  (cond ((IntKind.wrap .i64 ↑(BitVec.ofInt (IntKind.bits .i64) n1 &&& BitVec.ofInt (IntKind.bits .i64) 20).toNat) == 0)
  (cond ((IntKind.wrap .i64 ↑(BitVec.ofInt (IntKind.bits .i64) n1 &&& BitVec.ofInt (IntKind.bits .i64) 8).toNat) != 0)
  (Q (.bool true) w)
  (Q (.bool ((IntKind.wrap .i64 ↑(BitVec.ofInt (IntKind.bits .i64) n1 &&& BitVec.ofInt (IntKind.bits .i64) 32).toNat) == 0)) w))
  (Q (.bool false) w)))
  (Q (.bool false) w))
  (Q (.bool false) w))
  (Q (.bool false) w)
theorem C123 {n1 : Int} {Q : Value → World → Prop} {w : World} (h : L123 n1 Q w) : CallR Tryz.prog 123 [.int .i64 n1] w Q :=
  fun_calls (A := A123) mixed Tryz.func123 (c := (Tryz.f123.body).getD .skip) rfl (by kernel_rfl) (Eq.mp (by kernel_rfl) h)
def A30 : Ann := ⟨[], [(20, [(8, .one (.ptr))])], [], [], [(18, [0, 1, 2, 3, 5, 6, 7, 8, 4], 9, [10, 11, 12])], []⟩
def L30 (p1 : Option Addr) (s2 : ByteArray) (n3 : Int) (Q : Value → World → Prop) (w : World) : Prop :=
  CallR Tryz.prog 118 [.pointer p1] w (fun (r5 : Value) (w1 : World) =>
  ∃ (b4 : Bool), r5 = .bool b4 ∧
  cond b4
  (Q (.tuple #[.int .i64 0, .int .i64 2]) w1)
  (CallR Tryz.prog 62 [.string s2] w1 (fun (r7 : Value) (w2 : World) =>
  ∃ (b6 : Bool), r7 = .bool b6 ∧
  cond (!b6)
  (Q (.tuple #[.int .i64 0, .int .i64 61]) w2)
  (CallR Tryz.prog 123 [.int .i64 n3] w2 (fun (r9 : Value) (w3 : World) =>
  ∃ (b8 : Bool), r9 = .bool b8 ∧
  cond (!b8)
  (Q (.tuple #[.int .i64 0, .int .i64 65]) w3)
  (nn p1 (fun (q10 : Addr) =>
  ∃ (m11 : Option Nat), w3.cell? (Addr.add q10 3) = some ((.map m11 : Value)) ∧
  ∃ (n12 : Int) (w4 : World), Sem.run Tryz.prog (Builtin.len_ #[114] 3 #[.map m11]) w3 = .ok ((.int .i64 n12 : Value)) w4 ∧
  cond (decide (n12 ≥ 256))
  (Q (.tuple #[.int .i64 0, .int .i64 3]) w4)
  (nn p1 (fun (q13 : Addr) =>
  ∃ (m14 : Option Nat), w4.cell? (Addr.add q13 1) = some ((.map m14 : Value)) ∧
  ∃ (p15 : Option Addr) (b16 : Bool) (w5 : World), Sem.run Tryz.prog (Instr.lookup 112 (.map m14) (.string s2) true) w4 = .ok ((.tuple #[.pointer p15, .bool b16] : Value)) w5 ∧
  nn p1 (fun (q17 : Addr) =>
  ∃ (m18 : Option Nat), w5.cell? (Addr.add q17 2) = some ((.map m18 : Value)) ∧
  ∃ (p19 : Option Addr) (b20 : Bool) (w6 : World), Sem.run Tryz.prog (Instr.lookup 113 (.map m18) (.string s2) true) w5 = .ok ((.tuple #[.pointer p19, .bool b20] : Value)) w6 ∧
  ∃ (J21 : List Value → World → Prop),
  (cond b16
  (cond ((IntKind.wrap .i64 ↑(BitVec.ofInt (IntKind.bits .i64) n3 &&& BitVec.ofInt (IntKind.bits .i64) 32).toNat) != 0)
  (Q (.tuple #[.int .i64 0, .int .i64 63]) w6)
  (J21 [.pointer p15] w6))
  (cond b20
  (cond ((IntKind.wrap .i64 ↑(BitVec.ofInt (IntKind.bits .i64) n3 &&& BitVec.ofInt (IntKind.bits .i64) 32).toNat) != 0)
  (Q (.tuple #[.int .i64 0, .int .i64 63]) w6)
  (J21 [.pointer p15] w6))
  (cond ((IntKind.wrap .i64 ↑(BitVec.ofInt (IntKind.bits .i64) n3 &&& BitVec.ofInt (IntKind.bits .i64) 8).toNat) == 0)
  (Q (.tuple #[.int .i64 0, .int .i64 62]) w6)
  (∃ (S22 : World → Prop), S22 (World.drew w6) ∧
  let w7 := World.drew w6;
  nn p1 (fun (q23 : Addr) =>
  ∃ (m24 : Option Nat), (∀ wS : World, S22 wS → wS.cell? (Addr.add q23 1) = some ((.map m24 : Value))) ∧
  nn p1 (fun (q25 : Addr) =>
  ∃ (m26 : Option Nat), (∀ wS : World, S22 wS → wS.cell? (Addr.add q25 2) = some ((.map m26 : Value))) ∧
  ∃ (n27 : Int) (w8 : World), Sem.run Tryz.prog (Builtin.len_ #[112] 3 #[.map m24]) w7 = .ok ((.int .i64 n27 : Value)) w8 ∧
  S22 w8 ∧
  ∃ (n28 : Int) (w9 : World), Sem.run Tryz.prog (Builtin.len_ #[113] 3 #[.map m26]) w8 = .ok ((.int .i64 n28 : Value)) w9 ∧
  inI (n27 + n28) ∧
  cond (decide ((n27 + n28) ≥ 256))
  (Q (.tuple #[.int .i64 0, .int .i64 3]) w9)
  (CallR Tryz.prog 54 [.slice none 0 0] w9 (fun (r31 : Value) (w10 : World) =>
  ∃ (p29 : Option Addr) (n30 : Int), r31 = .tuple #[.pointer p29, .int .i64 n30] ∧
  nn p1 (fun (q32 : Addr) =>
  ∃ (m33 : Option Nat), w10.cell? (Addr.add q32 1) = some ((.map m33 : Value)) ∧
  ∃ (w11 : World), Sem.run Tryz.prog (Instr.mapUpdate 112 (.map m33) (.string s2) (.pointer p29)) w10 = .ok () w11 ∧
  J21 [.pointer p29] w11))))))))) ∧
  (∀ (_ : Env) (p34 : Option Addr) (w12 : World), J21 [.pointer p34] w12 →
  cond b20
  (CallR Tryz.prog 121 [.pointer p1, .iface 207 (.agg #[.pointer p19]), .int .i64 n3] w12 (fun (r36 : Value) (w13 : World) =>
  ∃ (n35 : Int), r36 = .int .i64 n35 ∧
  Q (.tuple #[.int .i64 n35, .int .i64 0]) w13))
  (cond ((IntKind.wrap .i64 ↑(BitVec.ofInt (IntKind.bits .i64) n3 &&& BitVec.ofInt (IntKind.bits .i64) 16).toNat) != 0)
  (CallR Tryz.prog 124 [.pointer p34, .int .i64 0] w12 (fun (r38 : Value) (w14 : World) =>
  ∃ (n37 : Int), r38 = .int .i64 n37 ∧
  CallR Tryz.prog 121 [.pointer p1, .iface 209 (.agg #[.pointer p34]), .int .i64 n3] w14 (fun (r40 : Value) (w15 : World) =>
  ∃ (n39 : Int), r40 = .int .i64 n39 ∧
  Q (.tuple #[.int .i64 n39, .int .i64 0]) w15)))
  (CallR Tryz.prog 121 [.pointer p1, .iface 209 (.agg #[.pointer p34]), .int .i64 n3] w12 (fun (r42 : Value) (w16 : World) =>
  ∃ (n41 : Int), r42 = .int .i64 n41 ∧
  Q (.tuple #[.int .i64 n41, .int .i64 0]) w16))))))))))))))
theorem C30 {p1 : Option Addr} {s2 : ByteArray} {n3 : Int} {Q : Value → World → Prop} {w : World} (h : L30 p1 s2 n3 Q w) : CallR Tryz.prog 30 [.pointer p1, .string s2, .int .i64 n3] w Q :=
  fun_calls (A := A30) mixed Tryz.func30 (c := (Tryz.f30.body).getD .skip) rfl (by kernel_rfl) (Eq.mp (by kernel_rfl) h)
def A165 : Ann := ⟨[], [], [], [], [], []⟩
def L165 (p1 : Option Addr) (n2 : Int) (n3 : Int) (Q : Value → World → Prop) (w : World) : Prop :=
  CallR Tryz.prog 118 [.pointer p1] w (fun (r5 : Value) (w1 : World) =>
  ∃ (b4 : Bool), r5 = .bool b4 ∧
  cond b4
  (Q (.tuple #[.pointer none, .int .i64 2]) w1)
  (nn p1 (fun (q6 : Addr) =>
  ∃ (m7 : Option Nat), w1.cell? (Addr.add q6 3) = some ((.map m7 : Value)) ∧
  ∃ (p8 : Option Addr) (b9 : Bool) (w2 : World), Sem.run Tryz.prog (Instr.lookup 114 (.map m7) (.int .i64 n2) true) w1 = .ok ((.tuple #[.pointer p8, .bool b9] : Value)) w2 ∧
  cond (!b9)
  (Q (.tuple #[.pointer none, .int .i64 64]) w2)
  (nn p8 (fun (q10 : Addr) =>
  ∃ (n11 : Int), w2.cell? (Addr.add q10 1) = some ((.int .i64 n11 : Value)) ∧
  cond ((IntKind.wrap .i64 ↑(BitVec.ofInt (IntKind.bits .i64) n11 &&& BitVec.ofInt (IntKind.bits .i64) n3).toNat) != n3)
  (Q (.tuple #[.pointer none, .int .i64 65]) w2)
  (Q (.tuple #[.pointer p8, .int .i64 0]) w2))))))
theorem C165 {p1 : Option Addr} {n2 : Int} {n3 : Int} {Q : Value → World → Prop} {w : World} (h : L165 p1 n2 n3 Q w) : CallR Tryz.prog 165 [.pointer p1, .int .i64 n2, .int .i64 n3] w Q :=
  fun_calls (A := A165) mixed Tryz.func165 (c := (Tryz.f165.body).getD .skip) rfl (by kernel_rfl) (Eq.mp (by kernel_rfl) h)
def A166 : Ann := ⟨[], [], [], [], [], []⟩
def L166 (p1 : Option Addr) (Q : Value → World → Prop) (w : World) : Prop :=
  nn p1 (fun (q2 : Addr) =>
  ∃ (v3 : Value), w.cell? q2 = some v3 ∧
  ∃ (p4 : Option Addr) (b5 : Bool) (w1 : World), Sem.run Tryz.prog (Instr.typeAssert v3 262 194 true) w = .ok ((.tuple #[.agg #[.pointer p4], .bool b5] : Value)) w1 ∧
  let w2 := World.alloc w1 (Obj.cells #[.pointer none] 194);
  stC (Addr.mk w1.heap.size 0 none) (.pointer p4) w2 (fun (w3 : World) =>
  cond b5
  (∃ (p6 : Option Addr), w3.cell? (Addr.mk w1.heap.size 0 none) = some ((.pointer p6 : Value)) ∧
  CallR Tryz.prog 204 [.pointer p6] w3 (fun (r8 : Value) (w4 : World) =>
  ∃ (b7 : Bool), r8 = .bool b7 ∧
  Q (.bool (!b7)) w4))
  (Q (.bool false) w3)))
theorem C166 {p1 : Option Addr} {Q : Value → World → Prop} {w : World} (h : L166 p1 Q w) : CallR Tryz.prog 166 [.pointer p1] w Q :=
  fun_calls (A := A166) mixed Tryz.func166 (c := (Tryz.f166.body).getD .skip) rfl (by kernel_rfl) (Eq.mp (by kernel_rfl) h)
def A64 : Ann := ⟨[], [], [], [(10, [0, 1, 2, 3, 4, 5, 6, 7, 8, 9])], [], []⟩
def L64 (p1 : Option Addr) (n2 : Int) (n3 : Int) (Q : Value → World → Prop) (w : World) : Prop :=
  CallR Tryz.prog 165 [.pointer p1, .int .i64 n2, .int .i64 1] w (fun (r6 : Value) (w1 : World) =>
  ∃ (p4 : Option Addr) (n5 : Int), r6 = .tuple #[.pointer p4, .int .i64 n5] ∧
  cond (n5 != 0)
  (Q (.tuple #[.slice none 0 0, .int .i64 n5]) w1)
  (cond (decide (n3 < 0))
  (Q (.tuple #[.slice none 0 0, .int .i64 4]) w1)
  (cond (decide (n3 > 1048576))
  (Q (.tuple #[.slice none 0 0, .int .i64 4]) w1)
  (cond (n3 == 0)
  (Q (.tuple #[.slice none 0 0, .int .i64 0]) w1)
  (CallR Tryz.prog 166 [.pointer p4] w1 (fun (r8 : Value) (w2 : World) =>
  ∃ (b7 : Bool), r8 = .bool b7 ∧
  cond b7
  (Q (.tuple #[.slice none 0 0, .int .i64 52]) w2)
  (let w3 := World.drew w2;
  nn p1 (fun (q9 : Addr) =>
  (0 ≤ (0 : Int) ∧ (0 : Int) < ((2 : Nat) : Int)) ∧
  ∃ (n10 : Int), w3.cell? (Addr.add (Addr.add q9 6) (Int.toNat 0)) = some ((.int .i64 n10 : Value)) ∧
  inI (n10 + 1) ∧
  nn p1 (fun (q11 : Addr) =>
  (0 ≤ (0 : Int) ∧ (0 : Int) < ((2 : Nat) : Int)) ∧
  stC (Addr.add (Addr.add q11 6) (Int.toNat 0)) (.int .i64 (n10 + 1)) w3 (fun (w4 : World) =>
  nn p1 (fun (q12 : Addr) =>
  ∃ (p13 : Option Addr), w4.cell? (Addr.add q12 5) = some ((.pointer p13 : Value)) ∧
  CallR Tryz.prog 167 [.pointer p13, .int .i64 n3] w4 (fun (r16 : Value) (w5 : World) =>
  ∃ (n14 : Int) (n15 : Int), r16 = .tuple #[.int .i64 n14, .int .i64 n15] ∧
  cond (n15 != 0)
  (Q (.tuple #[.slice none 0 0, .int .i64 n15]) w5)
  (nn p4 (fun (q17 : Addr) =>
  ∃ (v18 : Value), w5.cell? q17 = some v18 ∧
  ∃ (f19 : FuncId) (xs20 : Array Value) (w6 : World), Sem.run Tryz.prog (callMethod v18 "millrace/kern.read" #[.pointer p4, .int .i64 n14]) w5 = .ok (.enter f19 xs20) w6 ∧
  CallR Tryz.prog f19 (Array.toList xs20) w6 (fun (r22 : Value) (w7 : World) =>
  ∃ (a21 : Option Addr) (l21 : Nat) (c21 : Nat), r22 = .slice a21 l21 c21 ∧
  Q (.tuple #[.slice a21 l21 c21, .int .i64 0]) w7)))))))))))))))
theorem C64 {p1 : Option Addr} {n2 : Int} {n3 : Int} {Q : Value → World → Prop} {w : World} (h : L64 p1 n2 n3 Q w) : CallR Tryz.prog 64 [.pointer p1, .int .i64 n2, .int .i64 n3] w Q :=
  fun_calls (A := A64) mixed Tryz.func64 (c := (Tryz.f64.body).getD .skip) rfl (by kernel_rfl) (Eq.mp (by kernel_rfl) h)
def A66 : Ann := ⟨[], [], [], [(11, [0, 1, 2, 3, 4, 5, 6, 7, 8, 9])], [], []⟩
def L66 (p1 : Option Addr) (n2 : Int) (a3 : Option Addr) (l3 : Nat) (c3 : Nat) (Q : Value → World → Prop) (w : World) : Prop :=
  CallR Tryz.prog 165 [.pointer p1, .int .i64 n2, .int .i64 2] w (fun (r6 : Value) (w1 : World) =>
  ∃ (p4 : Option Addr) (n5 : Int), r6 = .tuple #[.pointer p4, .int .i64 n5] ∧
  cond (n5 != 0)
  (Q (.tuple #[.int .i64 0, .int .i64 n5]) w1)
  (cond (decide ((((l3 : Nat) : Int)) > 1048576))
  (Q (.tuple #[.int .i64 0, .int .i64 5]) w1)
  (cond ((((l3 : Nat) : Int)) == 0)
  (Q (.tuple #[.int .i64 0, .int .i64 0]) w1)
  (nn p4 (fun (q7 : Addr) =>
  ∃ (v8 : Value), w1.cell? q7 = some v8 ∧
  ∃ (f9 : FuncId) (xs10 : Array Value) (w2 : World), Sem.run Tryz.prog (callMethod v8 "millrace/kern.room" #[.pointer p4, .int .i64 (((l3 : Nat) : Int))]) w1 = .ok (.enter f9 xs10) w2 ∧
  CallR Tryz.prog f9 (Array.toList xs10) w2 (fun (r13 : Value) (w3 : World) =>
  ∃ (n11 : Int) (n12 : Int), r13 = .tuple #[.int .i64 n11, .int .i64 n12] ∧
  cond (n12 != 0)
  (Q (.tuple #[.int .i64 0, .int .i64 n12]) w3)
  (let w4 := World.drew w3;
  nn p1 (fun (q14 : Addr) =>
  (0 ≤ (1 : Int) ∧ (1 : Int) < ((2 : Nat) : Int)) ∧
  ∃ (n15 : Int), w4.cell? (Addr.add (Addr.add q14 6) (Int.toNat 1)) = some ((.int .i64 n15 : Value)) ∧
  inI (n15 + 1) ∧
  nn p1 (fun (q16 : Addr) =>
  (0 ≤ (1 : Int) ∧ (1 : Int) < ((2 : Nat) : Int)) ∧
  stC (Addr.add (Addr.add q16 6) (Int.toNat 1)) (.int .i64 (n15 + 1)) w4 (fun (w5 : World) =>
  nn p1 (fun (q17 : Addr) =>
  ∃ (p18 : Option Addr), w5.cell? (Addr.add q17 5) = some ((.pointer p18 : Value)) ∧
  CallR Tryz.prog 167 [.pointer p18, .int .i64 (((l3 : Nat) : Int))] w5 (fun (r21 : Value) (w6 : World) =>
  ∃ (n19 : Int) (n20 : Int), r21 = .tuple #[.int .i64 n19, .int .i64 n20] ∧
  cond (n20 != 0)
  (Q (.tuple #[.int .i64 0, .int .i64 n20]) w6)
  (nn p4 (fun (q22 : Addr) =>
  ∃ (v23 : Value), w6.cell? q22 = some v23 ∧
  ∃ (f24 : FuncId) (xs25 : Array Value) (w7 : World), Sem.run Tryz.prog (callMethod v23 "millrace/kern.write" #[.pointer p4, .slice a3 l3 c3, .int .i64 (mn n19 n11)]) w6 = .ok (.enter f24 xs25) w7 ∧
  CallR Tryz.prog f24 (Array.toList xs25) w7 (fun (r27 : Value) (w8 : World) =>
  ∃ (n26 : Int), r27 = .int .i64 n26 ∧
  Q (.tuple #[.int .i64 n26, .int .i64 0]) w8)))))))))))))))
theorem C66 {p1 : Option Addr} {n2 : Int} {a3 : Option Addr} {l3 : Nat} {c3 : Nat} {Q : Value → World → Prop} {w : World} (h : L66 p1 n2 a3 l3 c3 Q w) : CallR Tryz.prog 66 [.pointer p1, .int .i64 n2, .slice a3 l3 c3] w Q :=
  fun_calls (A := A66) mixed Tryz.func66 (c := (Tryz.f66.body).getD .skip) rfl (by kernel_rfl) (Eq.mp (by kernel_rfl) h)
def A68 : Ann := ⟨[], [], [(9, [0, 1, 2, 3, 4, 5, 8, 6, 7, 9, 10])], [], [], []⟩
def L68 (p1 : Option Addr) (n2 : Int) (n3 : Int) (n4 : Int) (Q : Value → World → Prop) (w : World) : Prop :=
  CallR Tryz.prog 165 [.pointer p1, .int .i64 n2, .int .i64 0] w (fun (r7 : Value) (w1 : World) =>
  ∃ (p5 : Option Addr) (n6 : Int), r7 = .tuple #[.pointer p5, .int .i64 n6] ∧
  cond (n6 != 0)
  (Q (.tuple #[.int .i64 0, .int .i64 n6]) w1)
  (nn p5 (fun (q8 : Addr) =>
  ∃ (v9 : Value), w1.cell? q8 = some v9 ∧
  ∃ (p10 : Option Addr) (b11 : Bool) (w2 : World), Sem.run Tryz.prog (Instr.typeAssert v9 262 209 true) w1 = .ok ((.tuple #[.agg #[.pointer p10], .bool b11] : Value)) w2 ∧
  let w3 := World.alloc w2 (Obj.cells #[.pointer none] 209);
  stC (Addr.mk w2.heap.size 0 none) (.pointer p10) w3 (fun (w4 : World) =>
  cond (!b11)
  (Q (.tuple #[.int .i64 0, .int .i64 66]) w4)
  (cond (decide (n4 < 0))
  (Q (.tuple #[.int .i64 0, .int .i64 1]) w4)
  (cond (decide (n4 > 2))
  (Q (.tuple #[.int .i64 0, .int .i64 1]) w4)
  (∃ (S12 : World → Prop), S12 (World.drew w4) ∧
  let w5 := World.drew w4;
  nn p5 (fun (q13 : Addr) =>
  ∃ (n14 : Int), (∀ wS : World, S12 wS → wS.cell? (Addr.add q13 2) = some ((.int .i64 n14 : Value))) ∧
  ∃ (p15 : Option Addr), (∀ wS : World, S12 wS → wS.cell? (Addr.mk w2.heap.size 0 none) = some ((.pointer p15 : Value))) ∧
  CallR Tryz.prog 178 [.pointer p15] w5 (fun (r17 : Value) (w6 : World) =>
  ∃ (n16 : Int), r17 = .int .i64 n16 ∧
  S12 w6 ∧
  (0 ≤ (n4 : Int) ∧ (n4 : Int) < ((3 : Nat) : Int)) ∧
  ∃ (n18 : Int), (#[.int .i64 0, .int .i64 n14, .int .i64 n16] : Array Value)[Int.toNat n4]? = some (.int .i64 n18) ∧
  inI ((0 : Int) - n18) ∧
  cond (decide (n3 < ((0 : Int) - n18)))
  (Q (.tuple #[.int .i64 0, .int .i64 4]) w6)
  (inI ((1048576 : Int) - n18) ∧
  cond (decide (n3 > ((1048576 : Int) - n18)))
  (Q (.tuple #[.int .i64 0, .int .i64 4]) w6)
  (inI (n18 + n3) ∧
  nn p5 (fun (q19 : Addr) =>
  stC (Addr.add q19 2) (.int .i64 (n18 + n3)) w6 (fun (w7 : World) =>
  nn p5 (fun (q20 : Addr) =>
  ∃ (n21 : Int), w7.cell? (Addr.add q20 2) = some ((.int .i64 n21 : Value)) ∧
  Q (.tuple #[.int .i64 n21, .int .i64 0]) w7))))))))))))))
theorem C68 {p1 : Option Addr} {n2 : Int} {n3 : Int} {n4 : Int} {Q : Value → World → Prop} {w : World} (h : L68 p1 n2 n3 n4 Q w) : CallR Tryz.prog 68 [.pointer p1, .int .i64 n2, .int .i64 n3, .int .i64 n4] w Q :=
  fun_calls (A := A68) mixed Tryz.func68 (c := (Tryz.f68.body).getD .skip) rfl (by kernel_rfl) (Eq.mp (by kernel_rfl) h)
def A190 : Ann := ⟨[], [], [], [], [], []⟩
def L190 (p1 : Option Addr) (n2 : Int) (n3 : Int) (Q : Value → World → Prop) (w : World) : Prop :=
  let w1 := World.alloc w (Obj.cells #[.pointer p1, .int .i64 n2] 70);
  ∃ (p4 : Option Addr), w1.cell? (Addr.mk w.heap.size 0 none) = some ((.pointer p4 : Value)) ∧
  ∃ (n5 : Int), w1.cell? (Addr.mk w.heap.size 1 none) = some ((.int .i64 n5 : Value)) ∧
  CallR Tryz.prog 64 [.pointer p4, .int .i64 n5, .int .i64 n3] w1 (fun (r8 : Value) (w2 : World) =>
  ∃ (a6 : Option Addr) (l6 : Nat) (c6 : Nat) (n7 : Int), r8 = .tuple #[.slice a6 l6 c6, .int .i64 n7] ∧
  Q (.tuple #[.slice a6 l6 c6, .int .i64 n7]) w2)
theorem C190 {p1 : Option Addr} {n2 : Int} {n3 : Int} {Q : Value → World → Prop} {w : World} (h : L190 p1 n2 n3 Q w) : CallR Tryz.prog 190 [.agg #[.pointer p1, .int .i64 n2], .int .i64 n3] w Q :=
  fun_calls (A := A190) mixed Tryz.func190 (c := (Tryz.f190.body).getD .skip) rfl (by kernel_rfl) (Eq.mp (by kernel_rfl) h)
def A191 : Ann := ⟨[], [], [], [], [], []⟩
def L191 (p1 : Option Addr) (n2 : Int) (a3 : Option Addr) (l3 : Nat) (c3 : Nat) (Q : Value → World → Prop) (w : World) : Prop :=
  let w1 := World.alloc w (Obj.cells #[.pointer p1, .int .i64 n2] 70);
  ∃ (p4 : Option Addr), w1.cell? (Addr.mk w.heap.size 0 none) = some ((.pointer p4 : Value)) ∧
  ∃ (n5 : Int), w1.cell? (Addr.mk w.heap.size 1 none) = some ((.int .i64 n5 : Value)) ∧
  CallR Tryz.prog 66 [.pointer p4, .int .i64 n5, .slice a3 l3 c3] w1 (fun (r8 : Value) (w2 : World) =>
  ∃ (n6 : Int) (n7 : Int), r8 = .tuple #[.int .i64 n6, .int .i64 n7] ∧
  Q (.tuple #[.int .i64 n6, .int .i64 n7]) w2)
theorem C191 {p1 : Option Addr} {n2 : Int} {a3 : Option Addr} {l3 : Nat} {c3 : Nat} {Q : Value → World → Prop} {w : World} (h : L191 p1 n2 a3 l3 c3 Q w) : CallR Tryz.prog 191 [.agg #[.pointer p1, .int .i64 n2], .slice a3 l3 c3] w Q :=
  fun_calls (A := A191) mixed Tryz.func191 (c := (Tryz.f191.body).getD .skip) rfl (by kernel_rfl) (Eq.mp (by kernel_rfl) h)
def A261 : Ann := ⟨[], [], [], [], [], []⟩
def L261 (p1 : Option Addr) (p2 : Option Addr) (n3 : Int) (Q : Value → World → Prop) (w : World) : Prop :=
  let w1 := World.alloc w (Obj.cells #[.pointer p1] 194);
  ∃ (p4 : Option Addr), w1.cell? (Addr.mk w.heap.size 0 none) = some ((.pointer p4 : Value)) ∧
  CallR Tryz.prog 253 [.pointer p4, .int .i64 n3] w1 (fun (r7 : Value) (w2 : World) =>
  ∃ (a5 : Option Addr) (l5 : Nat) (c5 : Nat) (n6 : Int), r7 = .tuple #[.slice a5 l5 c5, .int .i64 n6] ∧
  Q (.slice a5 l5 c5) w2)
theorem C261 {p1 : Option Addr} {p2 : Option Addr} {n3 : Int} {Q : Value → World → Prop} {w : World} (h : L261 p1 p2 n3 Q w) : CallR Tryz.prog 261 [.agg #[.pointer p1], .pointer p2, .int .i64 n3] w Q :=
  fun_calls (A := A261) mixed Tryz.func261 (c := (Tryz.f261.body).getD .skip) rfl (by kernel_rfl) (Eq.mp (by kernel_rfl) h)
def A262 : Ann := ⟨[], [], [], [], [], []⟩
def L262 (p1 : Option Addr) (p2 : Option Addr) (n3 : Int) (Q : Value → World → Prop) (w : World) : Prop :=
  let w1 := World.alloc w (Obj.cells #[.pointer p1] 194);
  ∃ (p4 : Option Addr), w1.cell? (Addr.mk w.heap.size 0 none) = some ((.pointer p4 : Value)) ∧
  CallR Tryz.prog 265 [.pointer p4] w1 (fun (r7 : Value) (w2 : World) =>
  ∃ (n5 : Int) (n6 : Int), r7 = .tuple #[.int .i64 n5, .int .i64 n6] ∧
  cond (n5 == 0)
  (Q (.tuple #[.int .i64 0, .int .i64 53]) w2)
  (∃ (p8 : Option Addr), w2.cell? (Addr.mk w.heap.size 0 none) = some ((.pointer p8 : Value)) ∧
  CallR Tryz.prog 266 [.pointer p8, .int .i64 n3] w2 (fun (r10 : Value) (w3 : World) =>
  ∃ (b9 : Bool), r10 = .bool b9 ∧
  cond (!b9)
  (Q (.tuple #[.int .i64 0, .int .i64 52]) w3)
  (Q (.tuple #[.int .i64 n3, .int .i64 0]) w3))))
theorem C262 {p1 : Option Addr} {p2 : Option Addr} {n3 : Int} {Q : Value → World → Prop} {w : World} (h : L262 p1 p2 n3 Q w) : CallR Tryz.prog 262 [.agg #[.pointer p1], .pointer p2, .int .i64 n3] w Q :=
  fun_calls (A := A262) mixed Tryz.func262 (c := (Tryz.f262.body).getD .skip) rfl (by kernel_rfl) (Eq.mp (by kernel_rfl) h)
def A263 : Ann := ⟨[], [], [], [], [], []⟩
def L263 (p1 : Option Addr) (p2 : Option Addr) (a3 : Option Addr) (l3 : Nat) (c3 : Nat) (n4 : Int) (Q : Value → World → Prop) (w : World) : Prop :=
  let w1 := World.alloc w (Obj.cells #[.pointer p1] 194);
  ∃ (p5 : Option Addr), w1.cell? (Addr.mk w.heap.size 0 none) = some ((.pointer p5 : Value)) ∧
  CallR Tryz.prog 254 [.pointer p5, .slice a3 l3 c3, .int .i64 n4] w1 (fun (r8 : Value) (w2 : World) =>
  ∃ (n6 : Int) (n7 : Int), r8 = .tuple #[.int .i64 n6, .int .i64 n7] ∧
  Q (.int .i64 n6) w2)
theorem C263 {p1 : Option Addr} {p2 : Option Addr} {a3 : Option Addr} {l3 : Nat} {c3 : Nat} {n4 : Int} {Q : Value → World → Prop} {w : World} (h : L263 p1 p2 a3 l3 c3 n4 Q w) : CallR Tryz.prog 263 [.agg #[.pointer p1], .pointer p2, .slice a3 l3 c3, .int .i64 n4] w Q :=
  fun_calls (A := A263) mixed Tryz.func263 (c := (Tryz.f263.body).getD .skip) rfl (by kernel_rfl) (Eq.mp (by kernel_rfl) h)
def A270 : Ann := ⟨[], [], [], [], [], []⟩
def L270 (p1 : Option Addr) (p2 : Option Addr) (n3 : Int) (Q : Value → World → Prop) (w : World) : Prop :=
  let w1 := World.alloc w (Obj.cells #[.pointer p1] 207);
  ∃ (p4 : Option Addr), w1.cell? (Addr.mk w.heap.size 0 none) = some ((.pointer p4 : Value)) ∧
  CallR Tryz.prog 251 [.pointer p4, .int .i64 n3] w1 (fun (r7 : Value) (w2 : World) =>
  ∃ (a5 : Option Addr) (l5 : Nat) (c5 : Nat) (n6 : Int), r7 = .tuple #[.slice a5 l5 c5, .int .i64 n6] ∧
  Q (.slice a5 l5 c5) w2)
theorem C270 {p1 : Option Addr} {p2 : Option Addr} {n3 : Int} {Q : Value → World → Prop} {w : World} (h : L270 p1 p2 n3 Q w) : CallR Tryz.prog 270 [.agg #[.pointer p1], .pointer p2, .int .i64 n3] w Q :=
  fun_calls (A := A270) mixed Tryz.func270 (c := (Tryz.f270.body).getD .skip) rfl (by kernel_rfl) (Eq.mp (by kernel_rfl) h)
def A271 : Ann := ⟨[], [], [], [], [], []⟩
def L271 (p1 : Option Addr) (p2 : Option Addr) (n3 : Int) (Q : Value → World → Prop) (w : World) : Prop :=
  let w1 := World.alloc w (Obj.cells #[.pointer p1] 207);
  ∃ (p4 : Option Addr), w1.cell? (Addr.mk w.heap.size 0 none) = some ((.pointer p4 : Value)) ∧
  CallR Tryz.prog 183 [.pointer p4] w1 (fun (r6 : Value) (w2 : World) =>
  ∃ (a5 : Option Addr) (l5 : Nat) (c5 : Nat), r6 = .slice a5 l5 c5 ∧
  inI ((1048576 : Int) - (((l5 : Nat) : Int))) ∧
  cond (decide (((1048576 : Int) - (((l5 : Nat) : Int))) > 0))
  (Q (.tuple #[.int .i64 (mn n3 ((1048576 : Int) - (((l5 : Nat) : Int)))), .int .i64 0]) w2)
  (Q (.tuple #[.int .i64 0, .int .i64 31]) w2))
theorem C271 {p1 : Option Addr} {p2 : Option Addr} {n3 : Int} {Q : Value → World → Prop} {w : World} (h : L271 p1 p2 n3 Q w) : CallR Tryz.prog 271 [.agg #[.pointer p1], .pointer p2, .int .i64 n3] w Q :=
  fun_calls (A := A271) mixed Tryz.func271 (c := (Tryz.f271.body).getD .skip) rfl (by kernel_rfl) (Eq.mp (by kernel_rfl) h)
def A272 : Ann := ⟨[], [], [], [], [], []⟩
def L272 (p1 : Option Addr) (p2 : Option Addr) (a3 : Option Addr) (l3 : Nat) (c3 : Nat) (n4 : Int) (Q : Value → World → Prop) (w : World) : Prop :=
  let w1 := World.alloc w (Obj.cells #[.pointer p1] 207);
  (0 ≤ (mn (((l3 : Nat) : Int)) n4 : Int) ∧ (mn (((l3 : Nat) : Int)) n4 : Int) ≤ ((c3 : Nat) : Int)) ∧
  ∃ (p5 : Option Addr), w1.cell? (Addr.mk w.heap.size 0 none) = some ((.pointer p5 : Value)) ∧
  CallR Tryz.prog 252 [.pointer p5, .slice a3 (Int.toNat (mn (((l3 : Nat) : Int)) n4)) c3] w1 (fun (r7 : Value) (w2 : World) =>
  ∃ (n6 : Int), r7 = .int .i64 n6 ∧
  Q (.int .i64 (((Int.toNat (mn (((l3 : Nat) : Int)) n4) : Nat) : Int))) w2)
theorem C272 {p1 : Option Addr} {p2 : Option Addr} {a3 : Option Addr} {l3 : Nat} {c3 : Nat} {n4 : Int} {Q : Value → World → Prop} {w : World} (h : L272 p1 p2 a3 l3 c3 n4 Q w) : CallR Tryz.prog 272 [.agg #[.pointer p1], .pointer p2, .slice a3 l3 c3, .int .i64 n4] w Q :=
  fun_calls (A := A272) mixed Tryz.func272 (c := (Tryz.f272.body).getD .skip) rfl (by kernel_rfl) (Eq.mp (by kernel_rfl) h)
def A275 : Ann := ⟨[], [], [], [(1, [0, 1, 2, 3, 4, 5, 6, 7, 8, 9, 10, 11, 12])], [], []⟩
def L275 (p1 : Option Addr) (p2 : Option Addr) (n3 : Int) (Q : Value → World → Prop) (w : World) : Prop :=
  let w1 := World.alloc w (Obj.cells #[.pointer p1] 209);
  let w2 := World.drew w1;
  ∃ (p4 : Option Addr), w2.cell? (Addr.mk w.heap.size 0 none) = some ((.pointer p4 : Value)) ∧
  nn p2 (fun (q5 : Addr) =>
  ∃ (n6 : Int), w2.cell? (Addr.add q5 2) = some ((.int .i64 n6 : Value)) ∧
  CallR Tryz.prog 278 [.pointer p4, .int .i64 n6, .int .i64 n3] w2 (fun (r9 : Value) (w3 : World) =>
  ∃ (a7 : Option Addr) (l7 : Nat) (c7 : Nat) (n8 : Int), r9 = .tuple #[.slice a7 l7 c7, .int .i64 n8] ∧
  nn p2 (fun (q10 : Addr) =>
  ∃ (n11 : Int), w3.cell? (Addr.add q10 2) = some ((.int .i64 n11 : Value)) ∧
  inI (n11 + (((l7 : Nat) : Int))) ∧
  nn p2 (fun (q12 : Addr) =>
  stC (Addr.add q12 2) (.int .i64 (n11 + (((l7 : Nat) : Int)))) w3 (fun (w4 : World) =>
  Q (.slice a7 l7 c7) w4)))))
theorem C275 {p1 : Option Addr} {p2 : Option Addr} {n3 : Int} {Q : Value → World → Prop} {w : World} (h : L275 p1 p2 n3 Q w) : CallR Tryz.prog 275 [.agg #[.pointer p1], .pointer p2, .int .i64 n3] w Q :=
  fun_calls (A := A275) mixed Tryz.func275 (c := (Tryz.f275.body).getD .skip) rfl (by kernel_rfl) (Eq.mp (by kernel_rfl) h)
def A276 : Ann := ⟨[], [], [], [], [], []⟩
def L276 (p1 : Option Addr) (p2 : Option Addr) (n3 : Int) (Q : Value → World → Prop) (w : World) : Prop :=
  let w1 := World.alloc w (Obj.cells #[.pointer p1] 209);
  ∃ (p4 : Option Addr), w1.cell? (Addr.mk w.heap.size 0 none) = some ((.pointer p4 : Value)) ∧ 
  CallR Tryz.prog 279 [.agg #[.pointer p4], .pointer p2] w1 (fun (r6 : Value) (w2 : World) =>
  ∃ (n5 : Int), r6 = .int .i64 n5 ∧
  inI ((1048576 : Int) - n5) ∧
  cond (decide (((1048576 : Int) - n5) > 0))
  (Q (.tuple #[.int .i64 (mn n3 ((1048576 : Int) - n5)), .int .i64 0]) w2)
  (Q (.tuple #[.int .i64 0, .int .i64 31]) w2))
theorem C276 {p1 : Option Addr} {p2 : Option Addr} {n3 : Int} {Q : Value → World → Prop} {w : World} (h : L276 p1 p2 n3 Q w) : CallR Tryz.prog 276 [.agg #[.pointer p1], .pointer p2, .int .i64 n3] w Q :=
  fun_calls (A := A276) mixed Tryz.func276 (c := (Tryz.f276.body).getD .skip) rfl (by kernel_rfl) (Eq.mp (by kernel_rfl) h)
def A277 : Ann := ⟨[], [], [], [(3, [0, 1, 2, 3, 4, 5, 6, 7])], [], []⟩
def L277 (p1 : Option Addr) (p2 : Option Addr) (a3 : Option Addr) (l3 : Nat) (c3 : Nat) (n4 : Int) (Q : Value → World → Prop) (w : World) : Prop :=
  let w1 := World.alloc w (Obj.cells #[.pointer p1] 209);
  (0 ≤ (mn (((l3 : Nat) : Int)) n4 : Int) ∧ (mn (((l3 : Nat) : Int)) n4 : Int) ≤ ((c3 : Nat) : Int)) ∧
  ∃ (p5 : Option Addr), w1.cell? (Addr.mk w.heap.size 0 none) = some ((.pointer p5 : Value)) ∧ 
  CallR Tryz.prog 279 [.agg #[.pointer p5], .pointer p2] w1 (fun (r7 : Value) (w2 : World) =>
  ∃ (n6 : Int), r7 = .int .i64 n6 ∧
  nn p2 (fun (q8 : Addr) =>
  stC (Addr.add q8 2) (.int .i64 n6) w2 (fun (w3 : World) =>
  let w4 := World.drew w3;
  ∃ (p9 : Option Addr), w4.cell? (Addr.mk w.heap.size 0 none) = some ((.pointer p9 : Value)) ∧
  nn p2 (fun (q10 : Addr) =>
  ∃ (n11 : Int), w4.cell? (Addr.add q10 2) = some ((.int .i64 n11 : Value)) ∧
  CallR Tryz.prog 280 [.pointer p9, .int .i64 n11, .slice a3 (Int.toNat (mn (((l3 : Nat) : Int)) n4)) c3] w4 (fun (r13 : Value) (w5 : World) =>
  ∃ (n12 : Int), r13 = .int .i64 n12 ∧
  nn p2 (fun (q14 : Addr) =>
  ∃ (n15 : Int), w5.cell? (Addr.add q14 2) = some ((.int .i64 n15 : Value)) ∧
  inI (n15 + (((Int.toNat (mn (((l3 : Nat) : Int)) n4) : Nat) : Int))) ∧
  nn p2 (fun (q16 : Addr) =>
  stC (Addr.add q16 2) (.int .i64 (n15 + (((Int.toNat (mn (((l3 : Nat) : Int)) n4) : Nat) : Int)))) w5 (fun (w6 : World) =>
  Q (.int .i64 (((Int.toNat (mn (((l3 : Nat) : Int)) n4) : Nat) : Int))) w6))))))))
theorem C277 {p1 : Option Addr} {p2 : Option Addr} {a3 : Option Addr} {l3 : Nat} {c3 : Nat} {n4 : Int} {Q : Value → World → Prop} {w : World} (h : L277 p1 p2 a3 l3 c3 n4 Q w) : CallR Tryz.prog 277 [.agg #[.pointer p1], .pointer p2, .slice a3 l3 c3, .int .i64 n4] w Q :=
  fun_calls (A := A277) mixed Tryz.func277 (c := (Tryz.f277.body).getD .skip) rfl (by kernel_rfl) (Eq.mp (by kernel_rfl) h)
def A279 : Ann := ⟨[], [], [], [], [], []⟩
def L279 (p1 : Option Addr) (p2 : Option Addr) (Q : Value → World → Prop) (w : World) : Prop :=
  let w1 := World.alloc w (Obj.cells #[.pointer p1] 209);
  nn p2 (fun (q3 : Addr) =>
  ∃ (n4 : Int), w1.cell? (Addr.add q3 1) = some ((.int .i64 n4 : Value)) ∧
  cond ((IntKind.wrap .i64 ↑(BitVec.ofInt (IntKind.bits .i64) n4 &&& BitVec.ofInt (IntKind.bits .i64) 4).toNat) != 0)
  (∃ (p5 : Option Addr), w1.cell? (Addr.mk w.heap.size 0 none) = some ((.pointer p5 : Value)) ∧
  CallR Tryz.prog 178 [.pointer p5] w1 (fun (r7 : Value) (w2 : World) =>
  ∃ (n6 : Int), r7 = .int .i64 n6 ∧
  Q (.int .i64 n6) w2))
  (nn p2 (fun (q8 : Addr) =>
  ∃ (n9 : Int), w1.cell? (Addr.add q8 2) = some ((.int .i64 n9 : Value)) ∧
  Q (.int .i64 n9) w1)))
theorem C279 {p1 : Option Addr} {p2 : Option Addr} {Q : Value → World → Prop} {w : World} (h : L279 p1 p2 Q w) : CallR Tryz.prog 279 [.agg #[.pointer p1], .pointer p2] w Q :=
  fun_calls (A := A279) mixed Tryz.func279 (c := (Tryz.f279.body).getD .skip) rfl (by kernel_rfl) (Eq.mp (by kernel_rfl) h)
end Go.Proofs.YtpoaacnnhgebfaaGreat
set_option maxRecDepth 512
namespace Go.Lw
open Go.MapKept
def MapO (w : World) (r : Nat) (d : TypeDesc) (m : List (Value × Value)) : Prop :=
  ∃ es clock, w.heap[r]? = some (.map es clock) ∧ Stamped es clock ∧ (∀ x ∈ es.toList, IsKey d x.key) ∧ es.toList.map (fun e => (e.key, e.val)) = m
theorem MapO.lt {w : World} {r : Nat} {d : TypeDesc} {m : List (Value × Value)} (h : MapO w r d m) : r < w.heap.size := by
  obtain ⟨es, clock, hb, _⟩ := h
  exact (Array.getElem?_eq_some_iff.1 hb).1
theorem MapO.keep {w w' : World} {r : Nat} {d : TypeDesc} {m : List (Value × Value)} (h : MapO w r d m) {S : Nat → Prop} (k : Kept S w w') (hn : ¬ S r) : MapO w' r d m := by
  obtain ⟨es, clock, hb, h⟩ := h
  exact ⟨es, clock, (k.block _ (Array.getElem?_eq_some_iff.1 hb).1 hn).trans hb, h⟩
theorem MapO.new (w : World) (d : TypeDesc) : MapO (w.alloc (.map #[] 0)) w.heap.size d [] :=
  ⟨#[], 0, heap_alloc_new w _, stamped_empty 0, by simp, rfl⟩
theorem MapO.uniq {w : World} {r : Nat} {d : TypeDesc} {m : List (Value × Value)} (h : MapO w r d m) : (m.map (·.1)).Nodup := by
  obtain ⟨es, clock, hb, hs, hks, rfl⟩ := h
  rw [List.map_map]
  exact hs.2.2
section
variable {P : Program} {w : World} {mty kt et : TypeId} {d : TypeDesc} {r : Nat} {m : List (Value × Value)} {k : Value}
theorem Kept.setMap {es : Array MapEntry} {clock : Nat} (hb : w.heap[r]? = some (.map es clock)) (o : Obj) : Kept (· = r) w { w with heap := w.heap.setIfInBounds r o } :=
  ⟨rfl, rfl, rfl, by simp, fun i _ hn => (heap_set hb).2 i hn⟩
theorem lookup_in (hm : P.underlying mty = some (.map kt et)) (hd : P.underlying kt = some d) (h : MapO w r d m) (hk : IsKey d k) {v : Value} (hin : (k, v) ∈ m) (c : Bool) :
    (Instr.lookup mty (.map (some r)) k c).run P w = .ok (if c then .tuple #[v, .bool true] else v) w := by
  obtain ⟨es, clock, hb, hs, hks, rfl⟩ := h
  obtain ⟨x, hx, hxe⟩ := List.mem_map.1 hin
  simp only [Prod.mk.injEq] at hxe
  rcases findNow_spec hk es.toList 0 hks with ⟨h1, h2⟩ | ⟨j, e, h1, h2, h3⟩
  · exact absurd hxe.1 (h2 x hx)
  · have he : e = x := by
      obtain ⟨i, hi, hxi⟩ := List.mem_iff_getElem.1 hx
      have hj := (List.getElem?_eq_some_iff.1 h2)
      obtain ⟨hj, hje⟩ := hj
      have hnd := hs.2.2
      have hij : i = j := by
        have h4 : (es.toList.map (·.key))[i]'(by simpa using hi) = (es.toList.map (·.key))[j]'(by simpa using hj) := by
          rw [List.getElem_map, List.getElem_map, hxi, hje, h3, hxe.1]
        exact (List.getElem_inj hnd).1 h4
      subst hij
      rw [← hje, ← hxi]
    subst he
    have hv : e.val = v := hxe.2
    cases c <;> simp [Instr.lookup, run_underlying hm, MapKept.run_getObj_map hb, run_checkKey hd hk, run_findKey hd h1, Result.andThen, hv]
theorem lookup_out (hm : P.underlying mty = some (.map kt et)) (hd : P.underlying kt = some d) (h : MapO w r d m) (hk : IsKey d k) (hout : ∀ x ∈ m, x.1 ≠ k) {z : Value} (hz : (zeroValue et).run P w = .ok z w) (c : Bool) :
    (Instr.lookup mty (.map (some r)) k c).run P w = .ok (if c then .tuple #[z, .bool false] else z) w := by
  obtain ⟨es, clock, hb, hs, hks, rfl⟩ := h
  rcases findNow_spec hk es.toList 0 hks with ⟨h1, h2⟩ | ⟨j, e, h1, h2, h3⟩
  · cases c <;> simp [Instr.lookup, run_underlying hm, MapKept.run_getObj_map hb, run_checkKey hd hk, run_findKey hd h1, Result.andThen, hz]
  · have : e ∈ es.toList := List.mem_iff_getElem?.2 ⟨j, h2⟩
    exact absurd h3 (hout (e.key, e.val) (List.mem_map.2 ⟨e, this, rfl⟩))
theorem update_new (hm : P.underlying mty = some (.map kt et)) (hd : P.underlying kt = some d) (h : MapO w r d m) (hk : IsKey d k) (hout : ∀ x ∈ m, x.1 ≠ k) (v : Value) :
    ∃ w', (Instr.mapUpdate mty (.map (some r)) k v).run P w = .ok () w' ∧ MapO w' r d (m ++ [(k, v)]) ∧ Kept (· = r) w w' ∧ w'.heap.size = w.heap.size := by
  obtain ⟨es, clock, hb, hs, hks, rfl⟩ := h
  rcases findNow_spec hk es.toList 0 hks with ⟨h1, h2⟩ | ⟨j, e, h1, h2, h3⟩
  · refine ⟨{ w with heap := w.heap.setIfInBounds r (.map (es.push { key := k, val := v, born := clock }) (clock + 1)) }, ?_, ⟨_, _, (heap_set hb).1, stamped_push hs h2, ?_, by simp⟩, Kept.setMap hb _, by simp⟩
    · simp [Instr.mapUpdate, run_underlying hm, MapKept.run_getObj_map hb, run_checkKey hd hk, run_findKey hd h1, run_setObj_map _ hb, Result.andThen]
    · intro x hx
      simp only [Array.toList_push, List.mem_append, List.mem_singleton] at hx
      rcases hx with hx | rfl
      · exact hks x hx
      · exact hk
  · have : e ∈ es.toList := List.mem_iff_getElem?.2 ⟨j, h2⟩
    exact absurd h3 (hout (e.key, e.val) (List.mem_map.2 ⟨e, this, rfl⟩))
theorem len_map (hm : P.underlying mty = some (.map kt et)) (h : MapO w r d m) (t : TypeId) : (Builtin.len_ #[mty] t #[.map (some r)]).run P w = .ok (.int .i64 (m.length : Int)) w := by
  obtain ⟨es, clock, hb, hs, hks, rfl⟩ := h
  simp [Builtin.len_, run_underlying hm, MapKept.run_getObj_map hb, Result.andThen, goInt]
end
end Go.Lw
namespace Go.Proofs.YtpoaacnnhgebfaaGreat
open Go.Lw
def plainS (s : ByteArray) : Prop := ∀ i, (h : i < s.size) → 33 ≤ (s[i]'h).toNat ∧ (s[i]'h).toNat ≤ 126
instance (s : ByteArray) : Decidable (plainS s) := by unfold plainS; infer_instance
def namedS (s : ByteArray) : Bool := decide (s.size ≠ 0 ∧ s.size ≤ 64 ∧ plainS s)
theorem Kept.iterB (w : World) (k : Nat) (s : ByteArray) (p : Nat) : Kept (· = k) w (w.iterAt k s p) :=
  ⟨rfl, rfl, rfl, by rw [Lib.iterAt_size]; exact Nat.le_refl _, fun j _ hn => Lib.iterAt_other w k j s p hn⟩
theorem indexFunc_ok {w : World} (s : ByteArray) : CallR Tryz.prog 210 [.string s, .func (.func 161) #[] #[], .bool true] w fun v w' => ∃ n : Int, v = .int .i64 n ∧ (0 ≤ n ↔ ¬ plainS s) ∧ Kept No w w' := by
  refine C210 ?_
  unfold L210
  have hit : (w.iter s 0).heap[w.heap.size]? = some (.stringIter s 0) := World.iter_heap _ _ _
  have hk1 : Kept No w (w.iter s 0) := Kept.alloc _ _ _
  refine ⟨_, run_range_string w 9 s (by kernel_rfl), ?_⟩
  generalize w.iter s 0 = w1 at hit hk1 ⊢
  refine ⟨fun vs w' => vs = [] ∧ ∃ p : Nat, w'.heap[w.heap.size]? = some (.stringIter s p) ∧ Kept No w w' ∧ ∀ i, (h : i < s.size) → i < p → 33 ≤ (s[i]'h).toNat ∧ (s[i]'h).toNat ≤ 126,
    fun _ w' => match w'.heap[w.heap.size]? with | some (.stringIter _ p) => s.size - p | _ => 0, ⟨rfl, 0, hit, hk1, fun i _ h => by omega⟩, ?_⟩
  rintro _ w2 ⟨_, p, hp, hk2, hall⟩
  by_cases hps : p < s.size
  · right
    refine ⟨_, _, _, Lib.run_next_any_at w2 w.heap.size s p 0 hp hps, _, rfl, _, rfl, 161, #[], #[], rfl, by kernel_rfl, ?_⟩
    have hk3 := Kept.iterB w2 w.heap.size s (p + (Utf8.decode s p).2)
    have hit3 := Lib.iterAt_heap w2 w.heap.size s p (p + (Utf8.decode s p).2) hp
    have hk03 : Kept No w (w2.iterAt w.heap.size s (p + (Utf8.decode s p).2)) := hk2.fresh hk3 (fun x e => by omega)
    generalize w2.iterAt w.heap.size s (p + (Utf8.decode s p).2) = w3 at hk3 hit3 hk03 ⊢
    have stop : ¬ (33 ≤ (s[p]'hps).toNat ∧ (s[p]'hps).toNat ≤ 126) → ∃ n : Int, Value.int .i64 (p : Int) = .int .i64 n ∧ (0 ≤ n ↔ ¬ plainS s) ∧ Kept No w w3 := fun hb =>
      ⟨p, rfl, ⟨fun _ hpl => hb (hpl p hps), fun _ => by omega⟩, hk03⟩
    by_cases ha : (s[p]'hps).toNat < 128
    · rw [decode_ascii s p hps ha] at hit3 ⊢
      refine C161 (condP (fun hlt => ⟨_, rfl, condT rfl (stop (by omega))⟩) (fun hge => ⟨_, rfl, ?_⟩))
      refine condI (fun hb => stop ?_) (fun hb => ?_)
      · simp at hb; omega
      · have hb : ¬ (((s[p]'hps).toNat : Nat) : Int) > 126 := by simpa using hb
        refine ⟨⟨rfl, p + 1, hit3, hk03, fun i h hi => ?_⟩, ?_⟩
        · by_cases e : i = p
          · subst e; dsimp only at hge hb; omega
          · exact hall i h (by omega)
        · dsimp only; rw [hit3, hp]; dsimp only; omega
    · have hd := (decode_high s p hps (by omega)).1
      refine C161 (condF (by simp; omega) ⟨_, rfl, condT (by simp; omega) (stop (by omega))⟩)
  · left
    refine ⟨_, Lib.run_next_end_at w2 w.heap.size s p 0 hp hps, -1, rfl, ⟨fun h => by omega, fun h => absurd (fun i hi => hall i hi (by omega)) h⟩, hk2⟩
theorem named_ok {w : World} (s : ByteArray) : CallR Tryz.prog 62 [.string s] w fun v w' => v = .bool (namedS s) ∧ Kept No w w' := by
  refine C62 ?_
  unfold L62
  have hemp : (ByteArray.toList s == ByteArray.toList (ByteArray.mk #[])) = decide (s.size = 0) := by
    rw [ByteArray.toList_eq, ByteArray.toList_eq]
    show (s.data.toList == []) = _
    cases h : s.data.toList with
    | nil =>
      have : s.size = 0 := by show s.data.size = 0; rw [← Array.length_toList, h]; rfl
      simp [this]
    | cons x l =>
      have : s.size ≠ 0 := by show s.data.size ≠ 0; rw [← Array.length_toList, h]; simp
      simp [this]
  rw [hemp]
  refine condI (fun h1 => condP (fun h2 => ?_) (fun h2 => ⟨?_, Kept.refl _ _⟩)) (fun h1 => ⟨?_, Kept.refl _ _⟩)
  · have h1 : s.size ≠ 0 := by simpa using h1
    refine C160 (C203 (CallR.mono (indexFunc_ok s) ?_))
    rintro v w1 ⟨n, rfl, hn, hk⟩
    refine ⟨_, rfl, _, rfl, _, rfl, ?_, hk⟩
    unfold namedS
    by_cases hp : plainS s
    · have e1 : decide (n ≥ 0) = false := decide_eq_false (fun h => (hn.1 h) hp)
      have e2 : decide (s.size ≠ 0 ∧ s.size ≤ 64 ∧ plainS s) = true := decide_eq_true ⟨h1, by omega, hp⟩
      rw [e1, e2]; rfl
    · have e1 : decide (n ≥ 0) = true := decide_eq_true (hn.2 hp)
      have e2 : decide (s.size ≠ 0 ∧ s.size ≤ 64 ∧ plainS s) = false := decide_eq_false (fun h => hp h.2.2)
      rw [e1, e2]; rfl
  · unfold namedS
    have : ¬ s.size ≤ 64 := by omega
    simp [this]
  · have h1 : s.size = 0 := by simpa using h1
    unfold namedS
    simp [h1]
end Go.Proofs.YtpoaacnnhgebfaaGreat
namespace Go.Proofs.YtpoaacnnhgebfaaGreat
open Go.Lw
def seenM (seen : List ByteArray) : List (Value × Value) := seen.map fun s => (.string s, .bool true)
theorem seen_in {seen : List ByteArray} {s : ByteArray} (h : s ∈ seen) : ((.string s, .bool true) : Value × Value) ∈ seenM seen := List.mem_map.2 ⟨s, h, rfl⟩
theorem seen_out {seen : List ByteArray} {s : ByteArray} (h : s ∉ seen) : ∀ x ∈ seenM seen, x.1 ≠ .string s := by
  intro x hx e
  obtain ⟨t, ht, rfl⟩ := List.mem_map.1 hx
  simp only [Value.string.injEq] at e
  subst e
  exact h ht
instance instDecBytes : DecidableEq ByteArray := fun a b => decidable_of_iff (a.data = b.data) ⟨fun h => by cases a; cases b; simp only at h; rw [h], fun h => by rw [h]⟩
def decMem (s : ByteArray) : ∀ l : List ByteArray, Decidable (s ∈ l)
  | [] => isFalse (by simp)
  | t :: r => if h : s = t then isTrue (by simp [h]) else match decMem s r with
    | isTrue h2 => isTrue (.tail _ h2)
    | isFalse h2 => isFalse (by simp [h, h2])
instance instDecMem (s : ByteArray) (l : List ByteArray) : Decidable (s ∈ l) := decMem s l
def freshK (seen : List ByteArray) (s : ByteArray) : Int := if namedS s = false then 61 else if s ∈ seen then 6 else 0
theorem fresh_ok {w : World} {g r : Nat} {seen : List ByteArray} (hb : Blk w g #[.map (some r)]) (hm : MapO w r .string (seenM seen)) (hgr : g ≠ r) (s : ByteArray) :
    CallR Tryz.prog 61 [.string s, .pointer (some ⟨g, 0, none⟩)] w fun v w' => v = .int .i64 (freshK seen s) ∧ (freshK seen s = 0 → MapO w' r .string (seenM (seen ++ [s]))) ∧ Kept (· = r) w w' := by
  refine C61 ?_
  unfold L61
  refine CallR.mono (named_ok s) ?_
  rintro v w1 ⟨rfl, hk1⟩
  have hT : Tryz.prog.underlying 137 = some (.map 9 4) := by kernel_rfl
  have hS : Tryz.prog.underlying 9 = some .string := by kernel_rfl
  have hb1 := hb.keep hk1 (fun e => e)
  have hm1 := hm.keep hk1 (fun e => e)
  have k1 : Kept (· = r) w w1 := hk1.mono fun _ _ e => e.elim
  refine ⟨_, rfl, condI (fun h => ?_) (fun h => ?_)⟩
  · have h := notT h
    have e : freshK seen s = 61 := by unfold freshK; rw [if_pos h]
    rw [e]
    exact ⟨rfl, fun e => by omega, k1⟩
  · have h := notF h
    refine nnI ⟨some r, (hb1.cell 0).trans rfl, ?_⟩
    by_cases hin : s ∈ seen
    · have e : freshK seen s = 6 := by unfold freshK; rw [if_neg (by rw [h]; simp), if_pos hin]
      rw [e]
      refine ⟨true, w1, lookup_in hT hS hm1 (k := .string s) trivial (seen_in hin) false, condT rfl ⟨rfl, fun e => by omega, k1⟩⟩
    · have e : freshK seen s = 0 := by unfold freshK; rw [if_neg (by rw [h]; simp), if_neg hin]
      rw [e]
      refine ⟨false, w1, lookup_out hT hS hm1 (k := .string s) trivial (seen_out hin) (z := .bool false) (by kernel_rfl) false, condF rfl (nnI ⟨some r, (hb1.cell 0).trans rfl, ?_⟩)⟩
      obtain ⟨w2, hrun, hm2, hk2, _⟩ := update_new hT hS hm1 (k := .string s) trivial (seen_out hin) (.bool true)
      refine ⟨w2, hrun, rfl, fun _ => ?_, k1.trans hk2 fun _ _ e => e⟩
      have : seenM (seen ++ [s]) = seenM seen ++ [(.string s, .bool true)] := by simp [seenM]
      rw [this]
      exact hm2
end Go.Proofs.YtpoaacnnhgebfaaGreat
set_option maxRecDepth 100000
namespace Go.Proofs.YtpoaacnnhgebfaaGreat
open Go.Lw
def A164 : Ann := ⟨[], [], [], [], [], []⟩
def L164 (n1 : Int) (n2 : Int) (Q : Value → World → Prop) (w : World) : Prop :=
  let w1 := World.alloc w (Obj.cells #[.int .i64 n1, .int .i64 n2] 188);
  ∃ (n3 : Int), w1.cell? (Addr.mk w.heap.size 0 none) = some ((.int .i64 n3 : Value)) ∧
  cond (n3 == 1)
  (∃ (n4 : Int), w1.cell? (Addr.mk w.heap.size 1 none) = some ((.int .i64 n4 : Value)) ∧
  cond (decide (n4 ≥ 1))
  (∃ (n5 : Int), w1.cell? (Addr.mk w.heap.size 1 none) = some ((.int .i64 n5 : Value)) ∧
  Q (.bool (decide (n5 ≤ 1048576))) w1)
  (Q (.bool false) w1))
  (cond (n3 == 0)
  (cond (n3 == 0)
  (∃ (n6 : Int), w1.cell? (Addr.mk w.heap.size 1 none) = some ((.int .i64 n6 : Value)) ∧
  Q (.bool (n6 == 0)) w1)
  (Q (.bool false) w1))
  (cond (n3 == 2)
  (cond (n3 == 2)
  (∃ (n7 : Int), w1.cell? (Addr.mk w.heap.size 1 none) = some ((.int .i64 n7 : Value)) ∧
  Q (.bool (n7 == 0)) w1)
  (Q (.bool false) w1))
  (cond (n3 == 3)
  (∃ (n8 : Int), w1.cell? (Addr.mk w.heap.size 1 none) = some ((.int .i64 n8 : Value)) ∧
  Q (.bool (n8 == 0)) w1)
  (Q (.bool false) w1))))
theorem C164 {n1 : Int} {n2 : Int} {Q : Value → World → Prop} {w : World} (h : L164 n1 n2 Q w) : CallR Tryz.prog 164 [.agg #[.int .i64 n1, .int .i64 n2]] w Q :=
  fun_calls (A := A164) mixed Tryz.func164 (c := (Tryz.f164.body).getD .skip) rfl (by kernel_rfl) (Eq.mp (by kernel_rfl) h)
def A63 : Ann := ⟨[], [], [], [], [], []⟩
def L63 (a1 : Option Addr) (l1 : Nat) (c1 : Nat) (Q : Value → World → Prop) (w : World) : Prop :=
  cond (decide ((((l1 : Nat) : Int)) > 4096))
  (Q (.tuple #[.int .i64 3, .int .i64 0]) w)
  (CallR Tryz.prog 162 [.slice a1 l1 c1, .func (.func 163) #[] #[]] w (fun (r3 : Value) (w1 : World) =>
  ∃ (n2 : Int), r3 = .int .i64 n2 ∧
  cond (decide (n2 ≥ 0))
  (Q (.tuple #[.int .i64 21, .int .i64 n2]) w1)
  (Q (.tuple #[.int .i64 0, .int .i64 (((l1 : Nat) : Int))]) w1)))
theorem C63 {a1 : Option Addr} {l1 : Nat} {c1 : Nat} {Q : Value → World → Prop} {w : World} (h : L63 a1 l1 c1 Q w) : CallR Tryz.prog 63 [.slice a1 l1 c1] w Q :=
  fun_calls (A := A63) mixed Tryz.func63 (c := (Tryz.f63.body).getD .skip) rfl (by kernel_rfl) (Eq.mp (by kernel_rfl) h)
def A163 : Ann := ⟨[], [], [], [], [], []⟩
def L163 (n1 : Int) (n2 : Int) (Q : Value → World → Prop) (w : World) : Prop :=
  let w1 := World.alloc w (Obj.cells #[.int .i64 n1, .int .i64 n2] 188);
  ∃ (n3 : Int) (n4 : Int), w1.cell? (Addr.mk w.heap.size 0 none) = some ((.int .i64 n3 : Value)) ∧ w1.cell? (Addr.mk w.heap.size 1 none) = some ((.int .i64 n4 : Value)) ∧ 
  CallR Tryz.prog 164 [.agg #[.int .i64 n3, .int .i64 n4]] w1 (fun (r6 : Value) (w2 : World) =>
  ∃ (b5 : Bool), r6 = .bool b5 ∧
  Q (.bool (!b5)) w2)
theorem C163 {n1 : Int} {n2 : Int} {Q : Value → World → Prop} {w : World} (h : L163 n1 n2 Q w) : CallR Tryz.prog 163 [.agg #[.int .i64 n1, .int .i64 n2]] w Q :=
  fun_calls (A := A163) mixed Tryz.func163 (c := (Tryz.f163.body).getD .skip) rfl (by kernel_rfl) (Eq.mp (by kernel_rfl) h)
def A53 : Ann := ⟨[], [], [], [], [], []⟩
def L53 (a1 : Option Addr) (l1 : Nat) (c1 : Nat) (Q : Value → World → Prop) (w : World) : Prop :=
  CallR Tryz.prog 63 [.slice a1 l1 c1] w (fun (r4 : Value) (w1 : World) =>
  ∃ (n2 : Int) (n3 : Int), r4 = .tuple #[.int .i64 n2, .int .i64 n3] ∧
  cond (n2 != 0)
  (Q (.tuple #[.pointer none, .int .i64 n2]) w1)
  (CallR Tryz.prog 156 [.slice a1 l1 c1] w1 (fun (r6 : Value) (w2 : World) =>
  ∃ (a5 : Option Addr) (l5 : Nat) (c5 : Nat), r6 = .slice a5 l5 c5 ∧
  let w3 := World.alloc w2 (Obj.cells #[.bool true, .slice a5 l5 c5] 245);
  Q (.tuple #[.pointer (some (Addr.mk w2.heap.size 0 none)), .int .i64 0]) w3)))
theorem C53 {a1 : Option Addr} {l1 : Nat} {c1 : Nat} {Q : Value → World → Prop} {w : World} (h : L53 a1 l1 c1 Q w) : CallR Tryz.prog 53 [.slice a1 l1 c1] w Q :=
  fun_calls (A := A53) mixed Tryz.func53 (c := (Tryz.f53.body).getD .skip) rfl (by kernel_rfl) (Eq.mp (by kernel_rfl) h)
def A167 : Ann := ⟨[], [(8, [])], [], [], [(7, [0, 1, 2, 3, 4, 5, 6, 7, 8, 9, 10, 11, 12, 13, 14], 15, [])], []⟩
def L167 (p1 : Option Addr) (n2 : Int) (Q : Value → World → Prop) (w : World) : Prop :=
  cond (Option.isNone p1)
  (Q (.tuple #[.int .i64 0, .int .i64 2]) w)
  (nn p1 (fun (q3 : Addr) =>
  ∃ (b4 : Bool), w.cell? q3 = some ((.bool b4 : Value)) ∧
  cond (!b4)
  (Q (.tuple #[.int .i64 0, .int .i64 2]) w)
  (cond (decide (n2 < 1))
  (Q (.tuple #[.int .i64 0, .int .i64 4]) w)
  (cond (decide (n2 > 1048576))
  (Q (.tuple #[.int .i64 0, .int .i64 4]) w)
  (let w1 := World.alloc w (Obj.cells #[.int .i64 0, .int .i64 0] 188);
  ∃ (J5 : List Value → World → Prop),
  (nn p1 (fun (q6 : Addr) =>
  ∃ (a7 : Option Addr) (l7 : Nat) (c7 : Nat), w1.cell? (Addr.add q6 1) = some ((.slice a7 l7 c7 : Value)) ∧
  cond (decide ((((l7 : Nat) : Int)) > 0))
  (∃ (S8 : World → Prop), S8 (World.drew w1) ∧
  let w2 := World.drew w1;
  nn p1 (fun (q9 : Addr) =>
  ∃ (a10 : Option Addr) (l10 : Nat) (c10 : Nat), (∀ wS : World, S8 wS → wS.cell? (Addr.add q9 1) = some ((.slice a10 l10 c10 : Value))) ∧
  (0 ≤ (0 : Int) ∧ (0 : Int) < ((l10 : Nat) : Int)) ∧
  nn a10 (fun (q11 : Addr) =>
  ∃ (n12 : Int) (n13 : Int), (∀ wS : World, S8 wS → wS.cell? (Addr.add q11 (Int.toNat 0 * 2)) = some ((.int .i64 n12 : Value)) ∧ wS.cell? (Addr.add (Addr.add q11 (Int.toNat 0 * 2)) 1) = some ((.int .i64 n13 : Value)) ∧ True) ∧
  nn p1 (fun (q14 : Addr) =>
  ∃ (a15 : Option Addr) (l15 : Nat) (c15 : Nat), (∀ wS : World, S8 wS → wS.cell? (Addr.add q14 1) = some ((.slice a15 l15 c15 : Value))) ∧
  (0 ≤ (1 : Int) ∧ (1 : Int) ≤ ((l15 : Nat) : Int)) ∧
  stC (Addr.mk w.heap.size 0 none) (.int .i64 n12) w2 (fun (w3 : World) =>
  stC (Addr.mk w.heap.size 1 none) (.int .i64 n13) w3 (fun (w4 : World) =>
  S8 w4 ∧
  nn p1 (fun (q16 : Addr) =>
  stC (Addr.add q16 1) (.slice (adv a15 (Int.toNat 1) c15 2) (l15 - Int.toNat 1) (c15 - Int.toNat 1)) w4 (fun (w5 : World) =>
  J5 [] w5))))))))
  (J5 [] w1))) ∧
  (∀ (_ : Env) (w6 : World), J5 [] w6 →
  ∃ (n17 : Int), w6.cell? (Addr.mk w.heap.size 0 none) = some ((.int .i64 n17 : Value)) ∧
  cond (n17 == 1)
  (∃ (n18 : Int), w6.cell? (Addr.mk w.heap.size 1 none) = some ((.int .i64 n18 : Value)) ∧
  Q (.tuple #[.int .i64 (mn n2 n18), .int .i64 0]) w6)
  (cond (n17 == 2)
  (Q (.tuple #[.int .i64 0, .int .i64 22]) w6)
  (cond (n17 == 3)
  (Q (.tuple #[.int .i64 0, .int .i64 23]) w6)
  (Q (.tuple #[.int .i64 n2, .int .i64 0]) w6)))))))))
theorem C167 {p1 : Option Addr} {n2 : Int} {Q : Value → World → Prop} {w : World} (h : L167 p1 n2 Q w) : CallR Tryz.prog 167 [.pointer p1, .int .i64 n2] w Q :=
  fun_calls (A := A167) mixed Tryz.func167 (c := (Tryz.f167.body).getD .skip) rfl (by kernel_rfl) (Eq.mp (by kernel_rfl) h)
def A162 : Ann := ⟨[(2, [(8, .one (.int .i64))])], [], [], [], [], []⟩
def L162 (a1 : Option Addr) (l1 : Nat) (c1 : Nat) (v2 : Value) (Q : Value → World → Prop) (w : World) : Prop :=
  ∃ (I3 : List Value → World → Prop) (mu4 : List Value → World → Nat),
  I3 [.int .i64 0] w ∧
  ∀ (_ : Env) (n5 : Int) (w1 : World), I3 [.int .i64 n5] w1 →
  cond (decide (n5 < (((l1 : Nat) : Int))))
  ((0 ≤ (n5 : Int) ∧ (n5 : Int) < ((l1 : Nat) : Int)) ∧
  nn a1 (fun (q6 : Addr) =>
  ∃ (n7 : Int) (n8 : Int), w1.cell? (Addr.add q6 (Int.toNat n5 * 2)) = some ((.int .i64 n7 : Value)) ∧ w1.cell? (Addr.add (Addr.add q6 (Int.toNat n5 * 2)) 1) = some ((.int .i64 n8 : Value)) ∧ 
  ∃ (k9 : FuncId) (xs10 : Array Value) (xs11 : Array Value), (v2 : Value) = .func (.func k9) xs10 xs11 ∧ bodyB Tryz.prog k9 = true ∧
  CallR Tryz.prog k9 (Array.toList xs10 ++ ([.agg #[.int .i64 n7, .int .i64 n8]] ++ Array.toList xs11)) w1 (fun (r13 : Value) (w2 : World) =>
  ∃ (b12 : Bool), r13 = .bool b12 ∧
  cond b12
  (Q (.int .i64 n5) w2)
  (inI (n5 + 1) ∧
  I3 [.int .i64 (n5 + 1)] w2 ∧ mu4 [.int .i64 (n5 + 1)] w2 < mu4 [.int .i64 n5] w1))))
  (Q (.int .i64 ((-1))) w1)
theorem C162 {a1 : Option Addr} {l1 : Nat} {c1 : Nat} {v2 : Value} {Q : Value → World → Prop} {w : World} (h : L162 a1 l1 c1 v2 Q w) : CallR Tryz.prog 162 [.slice a1 l1 c1, v2] w Q :=
  fun_calls (A := A162) mixed Tryz.func162 (c := (Tryz.f162.body).getD .skip) rfl (by kernel_rfl) (Eq.mp (by kernel_rfl) h)
def A156 : Ann := ⟨[], [], [], [], [], []⟩
def L156 (a1 : Option Addr) (l1 : Nat) (c1 : Nat) (Q : Value → World → Prop) (w : World) : Prop :=
  cond (Option.isNone a1)
  (Q (.slice none 0 0) w)
  (let w1 := World.alloc w (Obj.cells #[] 188);
  ∃ (a2 : Option Addr) (l2 : Nat) (c2 : Nat) (w2 : World), Sem.run Tryz.prog (Builtin.append_ #[24, 24] 24 #[.slice (some (Addr.mk w.heap.size 0 none)) 0 0, .slice a1 l1 c1]) w1 = .ok ((.slice a2 l2 c2 : Value)) w2 ∧
  Q (.slice a2 l2 c2) w2)
theorem C156 {a1 : Option Addr} {l1 : Nat} {c1 : Nat} {Q : Value → World → Prop} {w : World} (h : L156 a1 l1 c1 Q w) : CallR Tryz.prog 156 [.slice a1 l1 c1] w Q :=
  fun_calls (A := A156) mixed Tryz.func156 (c := (Tryz.f156.body).getD .skip) rfl (by kernel_rfl) (Eq.mp (by kernel_rfl) h)
def A195 : Ann := ⟨[(2, [(7, .one (.int .i64))])], [], [], [], [], []⟩
def L195 (a1 : Option Addr) (l1 : Nat) (c1 : Nat) (Q : Value → World → Prop) (w : World) : Prop :=
  ∃ (I2 : List Value → World → Prop) (mu3 : List Value → World → Nat),
  I2 [.int .i64 0] w ∧
  ∀ (_ : Env) (n4 : Int) (w1 : World), I2 [.int .i64 n4] w1 →
  cond (decide (n4 < (((l1 : Nat) : Int))))
  ((0 ≤ (n4 : Int) ∧ (n4 : Int) < ((l1 : Nat) : Int)) ∧
  nn a1 (fun (q5 : Addr) =>
  ∃ (n6 : Int), w1.cell? (Addr.add q5 (Int.toNat n4)) = some ((.int .i64 n6 : Value)) ∧
  cond (decide (n6 < 0))
  (Q (.bool false) w1)
  (cond (decide (n6 > 1048576))
  (Q (.bool false) w1)
  (inI (n4 + 1) ∧
  I2 [.int .i64 (n4 + 1)] w1 ∧ mu3 [.int .i64 (n4 + 1)] w1 < mu3 [.int .i64 n4] w1))))
  (Q (.bool true) w1)
theorem C195 {a1 : Option Addr} {l1 : Nat} {c1 : Nat} {Q : Value → World → Prop} {w : World} (h : L195 a1 l1 c1 Q w) : CallR Tryz.prog 195 [.slice a1 l1 c1] w Q :=
  fun_calls (A := A195) mixed Tryz.func195 (c := (Tryz.f195.body).getD .skip) rfl (by kernel_rfl) (Eq.mp (by kernel_rfl) h)
def A196 : Ann := ⟨[], [], [], [(1, [0, 1, 2, 3, 4, 5, 6, 7, 8, 9, 10, 11, 12, 13, 14, 15])], [], []⟩
def L196 (p1 : Option Addr) (n2 : Int) (Q : Value → World → Prop) (w : World) : Prop :=
  nn p1 (fun (q3 : Addr) =>
  ∃ (a4 : Option Addr) (l4 : Nat) (c4 : Nat), w.cell? (Addr.add q3 1) = some ((.slice a4 l4 c4 : Value)) ∧
  cond (decide (n2 > (((l4 : Nat) : Int))))
  (let w1 := World.drew w;
  nn p1 (fun (q5 : Addr) =>
  ∃ (a6 : Option Addr) (l6 : Nat) (c6 : Nat), w1.cell? (Addr.add q5 1) = some ((.slice a6 l6 c6 : Value)) ∧
  nn p1 (fun (q7 : Addr) =>
  ∃ (a8 : Option Addr) (l8 : Nat) (c8 : Nat), w1.cell? (Addr.add q7 1) = some ((.slice a8 l8 c8 : Value)) ∧
  inI (n2 - (((l8 : Nat) : Int))) ∧
  ∃ (a9 : Option Addr) (l9 : Nat) (c9 : Nat) (w2 : World), Sem.run Tryz.prog (Builtin.append_ #[40, 3] 40 #[.slice a6 l6 c6, .int .i64 (n2 - (((l8 : Nat) : Int)))]) w1 = .ok ((.slice a9 l9 c9 : Value)) w2 ∧
  nn p1 (fun (q10 : Addr) =>
  stC (Addr.add q10 1) (.slice a9 l9 c9) w2 (fun (w3 : World) =>
  Q (.tuple #[]) w3)))))
  (Q (.tuple #[]) w))
theorem C196 {p1 : Option Addr} {n2 : Int} {Q : Value → World → Prop} {w : World} (h : L196 p1 n2 Q w) : CallR Tryz.prog 196 [.pointer p1, .int .i64 n2] w Q :=
  fun_calls (A := A196) mixed Tryz.func196 (c := (Tryz.f196.body).getD .skip) rfl (by kernel_rfl) (Eq.mp (by kernel_rfl) h)
def A54 : Ann := ⟨[], [], [], [], [], []⟩
def L54 (a1 : Option Addr) (l1 : Nat) (c1 : Nat) (Q : Value → World → Prop) (w : World) : Prop :=
  cond (decide ((((l1 : Nat) : Int)) > 1048576))
  (Q (.tuple #[.pointer none, .int .i64 5]) w)
  (CallR Tryz.prog 157 [.slice a1 l1 c1] w (fun (r3 : Value) (w1 : World) =>
  ∃ (a2 : Option Addr) (l2 : Nat) (c2 : Nat), r3 = .slice a2 l2 c2 ∧
  let w2 := World.alloc w1 (Obj.cells #[.bool true, .slice a2 l2 c2] 247);
  Q (.tuple #[.pointer (some (Addr.mk w1.heap.size 0 none)), .int .i64 0]) w2))
theorem C54 {a1 : Option Addr} {l1 : Nat} {c1 : Nat} {Q : Value → World → Prop} {w : World} (h : L54 a1 l1 c1 Q w) : CallR Tryz.prog 54 [.slice a1 l1 c1] w Q :=
  fun_calls (A := A54) mixed Tryz.func54 (c := (Tryz.f54.body).getD .skip) rfl (by kernel_rfl) (Eq.mp (by kernel_rfl) h)
def A280 : Ann := ⟨[], [], [], [], [], []⟩
def L280 (p1 : Option Addr) (n2 : Int) (a3 : Option Addr) (l3 : Nat) (c3 : Nat) (Q : Value → World → Prop) (w : World) : Prop :=
  cond (Option.isNone p1)
  (Q (.int .i64 2) w)
  (nn p1 (fun (q4 : Addr) =>
  ∃ (b5 : Bool), w.cell? q4 = some ((.bool b5 : Value)) ∧
  cond (!b5)
  (Q (.int .i64 2) w)
  (let w1 := World.alloc w (Obj.cells #[.int .i64 n2] 3);
  CallR Tryz.prog 195 [.slice (some (Addr.mk w.heap.size 0 none)) 1 1] w1 (fun (r7 : Value) (w2 : World) =>
  ∃ (b6 : Bool), r7 = .bool b6 ∧
  cond (!b6)
  (Q (.int .i64 4) w2)
  (inI ((1048576 : Int) - n2) ∧
  cond (decide ((((l3 : Nat) : Int)) > ((1048576 : Int) - n2)))
  (Q (.int .i64 31) w2)
  (cond ((((l3 : Nat) : Int)) == 0)
  (Q (.int .i64 0) w2)
  (inI (n2 + (((l3 : Nat) : Int))) ∧
  CallR Tryz.prog 196 [.pointer p1, .int .i64 (n2 + (((l3 : Nat) : Int)))] w2 (fun (r8 : Value) (w3 : World) =>
  r8 = .tuple #[] ∧
  nn p1 (fun (q9 : Addr) =>
  ∃ (a10 : Option Addr) (l10 : Nat) (c10 : Nat), w3.cell? (Addr.add q9 1) = some ((.slice a10 l10 c10 : Value)) ∧
  (0 ≤ (n2 : Int) ∧ (n2 : Int) ≤ ((l10 : Nat) : Int)) ∧
  ∃ (n11 : Int) (w4 : World), Sem.run Tryz.prog (Builtin.copy_ #[40, 40] 3 #[.slice (adv a10 (Int.toNat n2) c10 1) (l10 - Int.toNat n2) (c10 - Int.toNat n2), .slice a3 l3 c3]) w3 = .ok ((.int .i64 n11 : Value)) w4 ∧
  Q (.int .i64 0) w4)))))))))
theorem C280 {p1 : Option Addr} {n2 : Int} {a3 : Option Addr} {l3 : Nat} {c3 : Nat} {Q : Value → World → Prop} {w : World} (h : L280 p1 n2 a3 l3 c3 Q w) : CallR Tryz.prog 280 [.pointer p1, .int .i64 n2, .slice a3 l3 c3] w Q :=
  fun_calls (A := A280) mixed Tryz.func280 (c := (Tryz.f280.body).getD .skip) rfl (by kernel_rfl) (Eq.mp (by kernel_rfl) h)
def A178 : Ann := ⟨[], [], [], [], [], []⟩
def L178 (p1 : Option Addr) (Q : Value → World → Prop) (w : World) : Prop :=
  cond (Option.isNone p1)
  (Q (.int .i64 0) w)
  (nn p1 (fun (q2 : Addr) =>
  ∃ (a3 : Option Addr) (l3 : Nat) (c3 : Nat), w.cell? (Addr.add q2 1) = some ((.slice a3 l3 c3 : Value)) ∧
  Q (.int .i64 (((l3 : Nat) : Int))) w))
theorem C178 {p1 : Option Addr} {Q : Value → World → Prop} {w : World} (h : L178 p1 Q w) : CallR Tryz.prog 178 [.pointer p1] w Q :=
  fun_calls (A := A178) mixed Tryz.func178 (c := (Tryz.f178.body).getD .skip) rfl (by kernel_rfl) (Eq.mp (by kernel_rfl) h)
def A278 : Ann := ⟨[], [], [], [(6, [0, 1, 2, 3, 4, 5, 6, 7, 8, 9, 10, 11, 12, 13, 14, 15, 16, 17])], [], []⟩
def L278 (p1 : Option Addr) (n2 : Int) (n3 : Int) (Q : Value → World → Prop) (w : World) : Prop :=
  cond (Option.isNone p1)
  (Q (.tuple #[.slice none 0 0, .int .i64 2]) w)
  (nn p1 (fun (q4 : Addr) =>
  ∃ (b5 : Bool), w.cell? q4 = some ((.bool b5 : Value)) ∧
  cond (!b5)
  (Q (.tuple #[.slice none 0 0, .int .i64 2]) w)
  (let w1 := World.alloc w (Obj.cells #[.int .i64 n2, .int .i64 n3] 3);
  CallR Tryz.prog 195 [.slice (some (Addr.mk w.heap.size 0 none)) 2 2] w1 (fun (r7 : Value) (w2 : World) =>
  ∃ (b6 : Bool), r7 = .bool b6 ∧
  cond (!b6)
  (Q (.tuple #[.slice none 0 0, .int .i64 4]) w2)
  (nn p1 (fun (q8 : Addr) =>
  ∃ (a9 : Option Addr) (l9 : Nat) (c9 : Nat), w2.cell? (Addr.add q8 1) = some ((.slice a9 l9 c9 : Value)) ∧
  let w3 := World.drew w2;
  nn p1 (fun (q10 : Addr) =>
  ∃ (a11 : Option Addr) (l11 : Nat) (c11 : Nat), w3.cell? (Addr.add q10 1) = some ((.slice a11 l11 c11 : Value)) ∧
  inI ((mn n2 (((l9 : Nat) : Int))) + n3) ∧
  nn p1 (fun (q12 : Addr) =>
  ∃ (a13 : Option Addr) (l13 : Nat) (c13 : Nat), w3.cell? (Addr.add q12 1) = some ((.slice a13 l13 c13 : Value)) ∧
  (0 ≤ (mn ((mn n2 (((l9 : Nat) : Int))) + n3) (((l13 : Nat) : Int)) : Int) ∧ (mn ((mn n2 (((l9 : Nat) : Int))) + n3) (((l13 : Nat) : Int)) : Int) ≤ ((c11 : Nat) : Int)) ∧
  (0 ≤ (mn n2 (((l9 : Nat) : Int)) : Int) ∧ (mn n2 (((l9 : Nat) : Int)) : Int) ≤ ((Int.toNat (mn ((mn n2 (((l9 : Nat) : Int))) + n3) (((l13 : Nat) : Int))) : Nat) : Int)) ∧
  CallR Tryz.prog 157 [.slice (adv a11 (Int.toNat (mn n2 (((l9 : Nat) : Int)))) c11 1) (Int.toNat (mn ((mn n2 (((l9 : Nat) : Int))) + n3) (((l13 : Nat) : Int))) - Int.toNat (mn n2 (((l9 : Nat) : Int)))) (c11 - Int.toNat (mn n2 (((l9 : Nat) : Int))))] w3 (fun (r15 : Value) (w4 : World) =>
  ∃ (a14 : Option Addr) (l14 : Nat) (c14 : Nat), r15 = .slice a14 l14 c14 ∧
  Q (.tuple #[.slice a14 l14 c14, .int .i64 0]) w4)))))))))
theorem C278 {p1 : Option Addr} {n2 : Int} {n3 : Int} {Q : Value → World → Prop} {w : World} (h : L278 p1 n2 n3 Q w) : CallR Tryz.prog 278 [.pointer p1, .int .i64 n2, .int .i64 n3] w Q :=
  fun_calls (A := A278) mixed Tryz.func278 (c := (Tryz.f278.body).getD .skip) rfl (by kernel_rfl) (Eq.mp (by kernel_rfl) h)
def A124 : Ann := ⟨[], [], [], [], [], []⟩
def L124 (p1 : Option Addr) (n2 : Int) (Q : Value → World → Prop) (w : World) : Prop :=
  cond (Option.isNone p1)
  (Q (.int .i64 2) w)
  (nn p1 (fun (q3 : Addr) =>
  ∃ (b4 : Bool), w.cell? q3 = some ((.bool b4 : Value)) ∧
  cond (!b4)
  (Q (.int .i64 2) w)
  (let w1 := World.alloc w (Obj.cells #[.int .i64 n2] 3);
  CallR Tryz.prog 195 [.slice (some (Addr.mk w.heap.size 0 none)) 1 1] w1 (fun (r6 : Value) (w2 : World) =>
  ∃ (b5 : Bool), r6 = .bool b5 ∧
  cond (!b5)
  (Q (.int .i64 4) w2)
  (CallR Tryz.prog 196 [.pointer p1, .int .i64 n2] w2 (fun (r7 : Value) (w3 : World) =>
  r7 = .tuple #[] ∧
  nn p1 (fun (q8 : Addr) =>
  ∃ (a9 : Option Addr) (l9 : Nat) (c9 : Nat), w3.cell? (Addr.add q8 1) = some ((.slice a9 l9 c9 : Value)) ∧
  (0 ≤ (n2 : Int) ∧ (n2 : Int) ≤ ((c9 : Nat) : Int)) ∧
  (0 ≤ (n2 : Int) ∧ (n2 : Int) ≤ ((Int.toNat n2 : Nat) : Int)) ∧
  nn p1 (fun (q10 : Addr) =>
  stC (Addr.add q10 1) (.slice a9 (Int.toNat n2) (Int.toNat n2)) w3 (fun (w4 : World) =>
  Q (.int .i64 0) w4)))))))))
theorem C124 {p1 : Option Addr} {n2 : Int} {Q : Value → World → Prop} {w : World} (h : L124 p1 n2 Q w) : CallR Tryz.prog 124 [.pointer p1, .int .i64 n2] w Q :=
  fun_calls (A := A124) mixed Tryz.func124 (c := (Tryz.f124.body).getD .skip) rfl (by kernel_rfl) (Eq.mp (by kernel_rfl) h)
def A181 : Ann := ⟨[], [], [], [], [], []⟩
def L181 (p1 : Option Addr) (Q : Value → World → Prop) (w : World) : Prop :=
  cond (Option.isNone p1)
  (Q (.slice none 0 0) w)
  (nn p1 (fun (q2 : Addr) =>
  ∃ (a3 : Option Addr) (l3 : Nat) (c3 : Nat), w.cell? (Addr.add q2 1) = some ((.slice a3 l3 c3 : Value)) ∧
  CallR Tryz.prog 157 [.slice a3 l3 c3] w (fun (r5 : Value) (w1 : World) =>
  ∃ (a4 : Option Addr) (l4 : Nat) (c4 : Nat), r5 = .slice a4 l4 c4 ∧
  Q (.slice a4 l4 c4) w1)))
theorem C181 {p1 : Option Addr} {Q : Value → World → Prop} {w : World} (h : L181 p1 Q w) : CallR Tryz.prog 181 [.pointer p1] w Q :=
  fun_calls (A := A181) mixed Tryz.func181 (c := (Tryz.f181.body).getD .skip) rfl (by kernel_rfl) (Eq.mp (by kernel_rfl) h)
def A193 : Ann := ⟨[], [], [], [], [], []⟩
def L193 (p1 : Option Addr) (Q : Value → World → Prop) (w : World) : Prop :=
  cond (Option.isNone p1)
  (Q (.bool true) w)
  (nn p1 (fun (q2 : Addr) =>
  ∃ (b3 : Bool), w.cell? (Addr.add q2 4098) = some ((.bool b3 : Value)) ∧
  Q (.bool (!b3)) w))
theorem C193 {p1 : Option Addr} {Q : Value → World → Prop} {w : World} (h : L193 p1 Q w) : CallR Tryz.prog 193 [.pointer p1] w Q :=
  fun_calls (A := A193) mixed Tryz.func193 (c := (Tryz.f193.body).getD .skip) rfl (by kernel_rfl) (Eq.mp (by kernel_rfl) h)
def A208 : Ann := ⟨[(3, [(11, .one (.int .i64))])], [], [], [(5, [0, 1, 2, 3, 4, 5, 6, 7, 8, 9, 10, 11, 12, 13, 14, 15])], [], []⟩
def L208 (p1 : Option Addr) (n2 : Int) (Q : Value → World → Prop) (w : World) : Prop :=
  ∃ (a3 : Option Addr) (l3 : Nat) (c3 : Nat) (w1 : World), Sem.run Tryz.prog (Instr.makeSlice 40 (.int .i64 n2) (.int .i64 n2)) w = .ok ((.slice a3 l3 c3 : Value)) w1 ∧
  ∃ (I4 : List Value → World → Prop) (mu5 : List Value → World → Nat),
  I4 [.int .i64 0] w1 ∧
  ∀ (_ : Env) (n6 : Int) (w2 : World), I4 [.int .i64 n6] w2 →
  cond (decide (n6 < (((l3 : Nat) : Int))))
  (let w3 := World.drew w2;
  nn p1 (fun (q7 : Addr) =>
  ∃ (n8 : Int), w3.cell? (Addr.add q7 4096) = some ((.int .i64 n8 : Value)) ∧
  inI (n8 + n6) ∧
  (4096 : Int) ≠ 0 ∧
  nn p1 (fun (q9 : Addr) =>
  (0 ≤ (Int.tmod (n8 + n6) (4096 : Int) : Int) ∧ (Int.tmod (n8 + n6) (4096 : Int) : Int) < ((4096 : Nat) : Int)) ∧
  ∃ (n10 : Int), w3.cell? (Addr.add q9 (Int.toNat (Int.tmod (n8 + n6) (4096 : Int)))) = some ((.int .u8 n10 : Value)) ∧
  (0 ≤ (n6 : Int) ∧ (n6 : Int) < ((l3 : Nat) : Int)) ∧
  nn a3 (fun (q11 : Addr) =>
  stC (Addr.add q11 (Int.toNat n6)) (.int .u8 n10) w3 (fun (w4 : World) =>
  inI (n6 + 1) ∧
  I4 [.int .i64 (n6 + 1)] w4 ∧ mu5 [.int .i64 (n6 + 1)] w4 < mu5 [.int .i64 n6] w2)))))
  (Q (.slice a3 l3 c3) w2)
theorem C208 {p1 : Option Addr} {n2 : Int} {Q : Value → World → Prop} {w : World} (h : L208 p1 n2 Q w) : CallR Tryz.prog 208 [.pointer p1, .int .i64 n2] w Q :=
  fun_calls (A := A208) mixed Tryz.func208 (c := (Tryz.f208.body).getD .skip) rfl (by kernel_rfl) (Eq.mp (by kernel_rfl) h)
def A255 : Ann := ⟨[], [], [], [], [], []⟩
def L255 (p1 : Option Addr) (n2 : Int) (Q : Value → World → Prop) (w : World) : Prop :=
  nn p1 (fun (q3 : Addr) =>
  ∃ (n4 : Int), w.cell? (Addr.add q3 4096) = some ((.int .i64 n4 : Value)) ∧
  inI (n4 + n2) ∧
  (4096 : Int) ≠ 0 ∧
  nn p1 (fun (q5 : Addr) =>
  stC (Addr.add q5 4096) (.int .i64 (Int.tmod (n4 + n2) (4096 : Int))) w (fun (w1 : World) =>
  nn p1 (fun (q6 : Addr) =>
  ∃ (n7 : Int), w1.cell? (Addr.add q6 4097) = some ((.int .i64 n7 : Value)) ∧
  inI (n7 - n2) ∧
  nn p1 (fun (q8 : Addr) =>
  stC (Addr.add q8 4097) (.int .i64 (n7 - n2)) w1 (fun (w2 : World) =>
  Q (.tuple #[]) w2))))))
theorem C255 {p1 : Option Addr} {n2 : Int} {Q : Value → World → Prop} {w : World} (h : L255 p1 n2 Q w) : CallR Tryz.prog 255 [.pointer p1, .int .i64 n2] w Q :=
  fun_calls (A := A255) mixed Tryz.func255 (c := (Tryz.f255.body).getD .skip) rfl (by kernel_rfl) (Eq.mp (by kernel_rfl) h)
def A257 : Ann := ⟨[(1, [(8, .one (.int .i64))])], [], [], [(3, [0, 1, 2, 3, 4, 5, 6, 7, 8, 9, 10, 11, 12, 13, 14, 15])], [], []⟩
def L257 (p1 : Option Addr) (a2 : Option Addr) (l2 : Nat) (c2 : Nat) (Q : Value → World → Prop) (w : World) : Prop :=
  ∃ (I3 : List Value → World → Prop) (mu4 : List Value → World → Nat),
  I3 [.int .i64 0] w ∧
  ∀ (_ : Env) (n5 : Int) (w1 : World), I3 [.int .i64 n5] w1 →
  cond (decide (n5 < (((l2 : Nat) : Int))))
  ((0 ≤ (n5 : Int) ∧ (n5 : Int) < ((l2 : Nat) : Int)) ∧
  nn a2 (fun (q6 : Addr) =>
  ∃ (n7 : Int), w1.cell? (Addr.add q6 (Int.toNat n5)) = some ((.int .u8 n7 : Value)) ∧
  let w2 := World.drew w1;
  nn p1 (fun (q8 : Addr) =>
  ∃ (n9 : Int), w2.cell? (Addr.add q8 4096) = some ((.int .i64 n9 : Value)) ∧
  nn p1 (fun (q10 : Addr) =>
  ∃ (n11 : Int), w2.cell? (Addr.add q10 4097) = some ((.int .i64 n11 : Value)) ∧
  inI (n9 + n11) ∧
  (4096 : Int) ≠ 0 ∧
  nn p1 (fun (q12 : Addr) =>
  (0 ≤ (Int.tmod (n9 + n11) (4096 : Int) : Int) ∧ (Int.tmod (n9 + n11) (4096 : Int) : Int) < ((4096 : Nat) : Int)) ∧
  stC (Addr.add q12 (Int.toNat (Int.tmod (n9 + n11) (4096 : Int)))) (.int .u8 n7) w2 (fun (w3 : World) =>
  nn p1 (fun (q13 : Addr) =>
  ∃ (n14 : Int), w3.cell? (Addr.add q13 4097) = some ((.int .i64 n14 : Value)) ∧
  inI (n14 + 1) ∧
  nn p1 (fun (q15 : Addr) =>
  stC (Addr.add q15 4097) (.int .i64 (n14 + 1)) w3 (fun (w4 : World) =>
  inI (n5 + 1) ∧
  I3 [.int .i64 (n5 + 1)] w4 ∧ mu4 [.int .i64 (n5 + 1)] w4 < mu4 [.int .i64 n5] w1)))))))))
  (Q (.tuple #[]) w1)
theorem C257 {p1 : Option Addr} {a2 : Option Addr} {l2 : Nat} {c2 : Nat} {Q : Value → World → Prop} {w : World} (h : L257 p1 a2 l2 c2 Q w) : CallR Tryz.prog 257 [.pointer p1, .slice a2 l2 c2] w Q :=
  fun_calls (A := A257) mixed Tryz.func257 (c := (Tryz.f257.body).getD .skip) rfl (by kernel_rfl) (Eq.mp (by kernel_rfl) h)
def A258 : Ann := ⟨[], [], [], [], [], []⟩
def L258 (p1 : Option Addr) (Q : Value → World → Prop) (w : World) : Prop :=
  nn p1 (fun (q2 : Addr) =>
  ∃ (n3 : Int), w.cell? (Addr.add q2 4097) = some ((.int .i64 n3 : Value)) ∧
  inI ((4096 : Int) - n3) ∧
  Q (.int .i64 ((4096 : Int) - n3)) w)
theorem C258 {p1 : Option Addr} {Q : Value → World → Prop} {w : World} (h : L258 p1 Q w) : CallR Tryz.prog 258 [.pointer p1] w Q :=
  fun_calls (A := A258) mixed Tryz.func258 (c := (Tryz.f258.body).getD .skip) rfl (by kernel_rfl) (Eq.mp (by kernel_rfl) h)
def A256 : Ann := ⟨[], [], [], [], [], []⟩
def L256 (p1 : Option Addr) (n2 : Int) (Q : Value → World → Prop) (w : World) : Prop :=
  cond (decide (n2 ≤ 512))
  (nn p1 (fun (q3 : Addr) =>
  CallR Tryz.prog 258 [.pointer (some q3)] w (fun (r5 : Value) (w1 : World) =>
  ∃ (n4 : Int), r5 = .int .i64 n4 ∧
  cond (decide (n4 < n2))
  (Q (.int .i64 0) w1)
  (nn p1 (fun (q6 : Addr) =>
  CallR Tryz.prog 258 [.pointer (some q6)] w1 (fun (r8 : Value) (w2 : World) =>
  ∃ (n7 : Int), r8 = .int .i64 n7 ∧
  Q (.int .i64 (mn n2 n7)) w2))))))
  (nn p1 (fun (q9 : Addr) =>
  CallR Tryz.prog 258 [.pointer (some q9)] w (fun (r11 : Value) (w3 : World) =>
  ∃ (n10 : Int), r11 = .int .i64 n10 ∧
  Q (.int .i64 (mn n2 n10)) w3)))
theorem C256 {p1 : Option Addr} {n2 : Int} {Q : Value → World → Prop} {w : World} (h : L256 p1 n2 Q w) : CallR Tryz.prog 256 [.pointer p1, .int .i64 n2] w Q :=
  fun_calls (A := A256) mixed Tryz.func256 (c := (Tryz.f256.body).getD .skip) rfl (by kernel_rfl) (Eq.mp (by kernel_rfl) h)
def A253 : Ann := ⟨[], [], [], [], [], []⟩
def L253 (p1 : Option Addr) (n2 : Int) (Q : Value → World → Prop) (w : World) : Prop :=
  CallR Tryz.prog 193 [.pointer p1] w (fun (r4 : Value) (w1 : World) =>
  ∃ (b3 : Bool), r4 = .bool b3 ∧
  cond b3
  (Q (.tuple #[.slice none 0 0, .int .i64 2]) w1)
  (cond (decide (n2 < 1))
  (Q (.tuple #[.slice none 0 0, .int .i64 4]) w1)
  (cond (decide (n2 > 1048576))
  (Q (.tuple #[.slice none 0 0, .int .i64 4]) w1)
  (nn p1 (fun (q5 : Addr) =>
  (0 ≤ (0 : Int) ∧ (0 : Int) < ((2 : Nat) : Int)) ∧
  ∃ (n6 : Int), w1.cell? (Addr.add (Addr.add q5 4099) (Int.toNat 0)) = some ((.int .i64 n6 : Value)) ∧
  cond (n6 == 0)
  (Q (.tuple #[.slice none 0 0, .int .i64 51]) w1)
  (CallR Tryz.prog 204 [.pointer p1] w1 (fun (r8 : Value) (w2 : World) =>
  ∃ (b7 : Bool), r8 = .bool b7 ∧
  cond (!b7)
  (Q (.tuple #[.slice none 0 0, .int .i64 52]) w2)
  (nn p1 (fun (q9 : Addr) =>
  ∃ (n10 : Int), w2.cell? (Addr.add q9 4097) = some ((.int .i64 n10 : Value)) ∧
  nn p1 (fun (q11 : Addr) =>
  CallR Tryz.prog 208 [.pointer (some q11), .int .i64 (mn n2 n10)] w2 (fun (r13 : Value) (w3 : World) =>
  ∃ (a12 : Option Addr) (l12 : Nat) (c12 : Nat), r13 = .slice a12 l12 c12 ∧
  nn p1 (fun (q14 : Addr) =>
  CallR Tryz.prog 255 [.pointer (some q14), .int .i64 (mn n2 n10)] w3 (fun (r15 : Value) (w4 : World) =>
  r15 = .tuple #[] ∧
  Q (.tuple #[.slice a12 l12 c12, .int .i64 0]) w4)))))))))))))
theorem C253 {p1 : Option Addr} {n2 : Int} {Q : Value → World → Prop} {w : World} (h : L253 p1 n2 Q w) : CallR Tryz.prog 253 [.pointer p1, .int .i64 n2] w Q :=
  fun_calls (A := A253) mixed Tryz.func253 (c := (Tryz.f253.body).getD .skip) rfl (by kernel_rfl) (Eq.mp (by kernel_rfl) h)
def A254 : Ann := ⟨[], [], [], [(18, [0, 1, 2, 3, 4, 5, 6])], [], []⟩
def L254 (p1 : Option Addr) (a2 : Option Addr) (l2 : Nat) (c2 : Nat) (n3 : Int) (Q : Value → World → Prop) (w : World) : Prop :=
  CallR Tryz.prog 193 [.pointer p1] w (fun (r5 : Value) (w1 : World) =>
  ∃ (b4 : Bool), r5 = .bool b4 ∧
  cond b4
  (Q (.tuple #[.int .i64 0, .int .i64 2]) w1)
  (cond (decide ((((l2 : Nat) : Int)) > 1048576))
  (Q (.tuple #[.int .i64 0, .int .i64 5]) w1)
  (cond (decide (n3 < 1))
  (Q (.tuple #[.int .i64 0, .int .i64 4]) w1)
  (cond (decide (n3 > 1048576))
  (Q (.tuple #[.int .i64 0, .int .i64 4]) w1)
  (nn p1 (fun (q6 : Addr) =>
  (0 ≤ (1 : Int) ∧ (1 : Int) < ((2 : Nat) : Int)) ∧
  ∃ (n7 : Int), w1.cell? (Addr.add (Addr.add q6 4099) (Int.toNat 1)) = some ((.int .i64 n7 : Value)) ∧
  cond (n7 == 0)
  (Q (.tuple #[.int .i64 0, .int .i64 51]) w1)
  (nn p1 (fun (q8 : Addr) =>
  (0 ≤ (0 : Int) ∧ (0 : Int) < ((2 : Nat) : Int)) ∧
  ∃ (n9 : Int), w1.cell? (Addr.add (Addr.add q8 4099) (Int.toNat 0)) = some ((.int .i64 n9 : Value)) ∧
  cond (n9 == 0)
  (Q (.tuple #[.int .i64 0, .int .i64 53]) w1)
  (cond ((((l2 : Nat) : Int)) == 0)
  (Q (.tuple #[.int .i64 0, .int .i64 0]) w1)
  (CallR Tryz.prog 256 [.pointer p1, .int .i64 (((l2 : Nat) : Int))] w1 (fun (r11 : Value) (w2 : World) =>
  ∃ (n10 : Int), r11 = .int .i64 n10 ∧
  cond (n10 == 0)
  (Q (.tuple #[.int .i64 0, .int .i64 52]) w2)
  (cond (decide ((((l2 : Nat) : Int)) > 512))
  (let w3 := World.drew w2;
  nn p1 (fun (q12 : Addr) =>
  (0 ≤ (mn n10 n3 : Int) ∧ (mn n10 n3 : Int) ≤ ((c2 : Nat) : Int)) ∧
  CallR Tryz.prog 257 [.pointer (some q12), .slice a2 (Int.toNat (mn n10 n3)) c2] w3 (fun (r13 : Value) (w4 : World) =>
  r13 = .tuple #[] ∧
  Q (.tuple #[.int .i64 (mn n10 n3), .int .i64 0]) w4)))
  (let w5 := World.drew w2;
  nn p1 (fun (q14 : Addr) =>
  (0 ≤ (n10 : Int) ∧ (n10 : Int) ≤ ((c2 : Nat) : Int)) ∧
  CallR Tryz.prog 257 [.pointer (some q14), .slice a2 (Int.toNat n10) c2] w5 (fun (r15 : Value) (w6 : World) =>
  r15 = .tuple #[] ∧
  Q (.tuple #[.int .i64 n10, .int .i64 0]) w6)))))))))))))))
theorem C254 {p1 : Option Addr} {a2 : Option Addr} {l2 : Nat} {c2 : Nat} {n3 : Int} {Q : Value → World → Prop} {w : World} (h : L254 p1 a2 l2 c2 n3 Q w) : CallR Tryz.prog 254 [.pointer p1, .slice a2 l2 c2, .int .i64 n3] w Q :=
  fun_calls (A := A254) mixed Tryz.func254 (c := (Tryz.f254.body).getD .skip) rfl (by kernel_rfl) (Eq.mp (by kernel_rfl) h)
def A265 : Ann := ⟨[], [], [], [], [], []⟩
def L265 (p1 : Option Addr) (Q : Value → World → Prop) (w : World) : Prop :=
  CallR Tryz.prog 193 [.pointer p1] w (fun (r3 : Value) (w1 : World) =>
  ∃ (b2 : Bool), r3 = .bool b2 ∧
  cond b2
  (Q (.tuple #[.int .i64 0, .int .i64 0]) w1)
  (nn p1 (fun (q5 : Addr) =>
  (0 ≤ (0 : Int) ∧ (0 : Int) < ((2 : Nat) : Int)) ∧
  ∃ (n6 : Int), w1.cell? (Addr.add (Addr.add q5 4099) (Int.toNat 0)) = some ((.int .i64 n6 : Value)) ∧
  nn p1 (fun (q7 : Addr) =>
  (0 ≤ (1 : Int) ∧ (1 : Int) < ((2 : Nat) : Int)) ∧
  ∃ (n8 : Int), w1.cell? (Addr.add (Addr.add q7 4099) (Int.toNat 1)) = some ((.int .i64 n8 : Value)) ∧
  ∀ nd4 : Nat, let w2 := World.drewN w1 nd4;
  Q (.tuple #[.int .i64 n6, .int .i64 n8]) w2))))
theorem C265 {p1 : Option Addr} {Q : Value → World → Prop} {w : World} (h : L265 p1 Q w) : CallR Tryz.prog 265 [.pointer p1] w Q :=
  fun_calls (A := A265) mixed Tryz.func265 (c := (Tryz.f265.body).getD .skip) rfl (by kernel_rfl) (Eq.mp (by kernel_rfl) h)
def A204 : Ann := ⟨[], [], [], [], [], []⟩
def L204 (p1 : Option Addr) (Q : Value → World → Prop) (w : World) : Prop :=
  CallR Tryz.prog 193 [.pointer p1] w (fun (r3 : Value) (w1 : World) =>
  ∃ (b2 : Bool), r3 = .bool b2 ∧
  cond (!b2)
  (nn p1 (fun (q4 : Addr) =>
  (0 ≤ (0 : Int) ∧ (0 : Int) < ((2 : Nat) : Int)) ∧
  ∃ (n5 : Int), w1.cell? (Addr.add (Addr.add q4 4099) (Int.toNat 0)) = some ((.int .i64 n5 : Value)) ∧
  cond (decide (n5 > 0))
  (nn p1 (fun (q6 : Addr) =>
  ∃ (n7 : Int), w1.cell? (Addr.add q6 4097) = some ((.int .i64 n7 : Value)) ∧
  cond (decide (n7 > 0))
  (Q (.bool true) w1)
  (nn p1 (fun (q8 : Addr) =>
  (0 ≤ (1 : Int) ∧ (1 : Int) < ((2 : Nat) : Int)) ∧
  ∃ (n9 : Int), w1.cell? (Addr.add (Addr.add q8 4099) (Int.toNat 1)) = some ((.int .i64 n9 : Value)) ∧
  Q (.bool (n9 == 0)) w1))))
  (Q (.bool false) w1)))
  (Q (.bool false) w1))
theorem C204 {p1 : Option Addr} {Q : Value → World → Prop} {w : World} (h : L204 p1 Q w) : CallR Tryz.prog 204 [.pointer p1] w Q :=
  fun_calls (A := A204) mixed Tryz.func204 (c := (Tryz.f204.body).getD .skip) rfl (by kernel_rfl) (Eq.mp (by kernel_rfl) h)
def A266 : Ann := ⟨[], [], [], [], [], []⟩
def L266 (p1 : Option Addr) (n2 : Int) (Q : Value → World → Prop) (w : World) : Prop :=
  CallR Tryz.prog 193 [.pointer p1] w (fun (r4 : Value) (w1 : World) =>
  ∃ (b3 : Bool), r4 = .bool b3 ∧
  cond (!b3)
  (nn p1 (fun (q5 : Addr) =>
  (0 ≤ (1 : Int) ∧ (1 : Int) < ((2 : Nat) : Int)) ∧
  ∃ (n6 : Int), w1.cell? (Addr.add (Addr.add q5 4099) (Int.toNat 1)) = some ((.int .i64 n6 : Value)) ∧
  cond (decide (n6 > 0))
  (cond (decide (n2 ≥ 1))
  (cond (decide (n2 ≤ 1048576))
  (nn p1 (fun (q7 : Addr) =>
  (0 ≤ (0 : Int) ∧ (0 : Int) < ((2 : Nat) : Int)) ∧
  ∃ (n8 : Int), w1.cell? (Addr.add (Addr.add q7 4099) (Int.toNat 0)) = some ((.int .i64 n8 : Value)) ∧
  cond (n8 == 0)
  (Q (.bool true) w1)
  (CallR Tryz.prog 256 [.pointer p1, .int .i64 n2] w1 (fun (r10 : Value) (w2 : World) =>
  ∃ (n9 : Int), r10 = .int .i64 n9 ∧
  Q (.bool (decide (n9 > 0))) w2))))
  (Q (.bool false) w1))
  (Q (.bool false) w1))
  (Q (.bool false) w1)))
  (Q (.bool false) w1))
theorem C266 {p1 : Option Addr} {n2 : Int} {Q : Value → World → Prop} {w : World} (h : L266 p1 n2 Q w) : CallR Tryz.prog 266 [.pointer p1, .int .i64 n2] w Q :=
  fun_calls (A := A266) mixed Tryz.func266 (c := (Tryz.f266.body).getD .skip) rfl (by kernel_rfl) (Eq.mp (by kernel_rfl) h)
def A55 : Ann := ⟨[(5, [(14, .one (.int .i64))])], [], [], [], [(9, [0, 1, 2, 3, 4, 5, 6, 7], 8, [9, 10, 11])], []⟩
def L55 (a1 : Option Addr) (l1 : Nat) (c1 : Nat) (Q : Value → World → Prop) (w : World) : Prop :=
  cond (decide ((((l1 : Nat) : Int)) > 256))
  (Q (.tuple #[.pointer none, .int .i64 3]) w)
  (let w1 := World.alloc w (Obj.cells #[.bool true, .slice none 0 0, .int .i64 0, .slice none 0 0] 249);
  ∃ (I2 : List Value → World → Prop) (mu3 : List Value → World → Nat),
  I2 [.int .i64 0] w1 ∧
  ∀ (_ : Env) (n4 : Int) (w2 : World), I2 [.int .i64 n4] w2 →
  cond (decide (n4 < (((l1 : Nat) : Int))))
  ((0 ≤ (n4 : Int) ∧ (n4 : Int) < ((l1 : Nat) : Int)) ∧
  nn a1 (fun (q5 : Addr) =>
  ∃ (a6 : Option Addr) (l6 : Nat) (c6 : Nat), w2.cell? (Addr.add q5 (Int.toNat n4)) = some ((.slice a6 l6 c6 : Value)) ∧
  cond (decide ((((l6 : Nat) : Int)) > 4096))
  (Q (.tuple #[.pointer none, .int .i64 5]) w2)
  (∃ (S7 : World → Prop), S7 (World.drew w2) ∧
  let w3 := World.drew w2;
  ∃ (a8 : Option Addr) (l8 : Nat) (c8 : Nat), (∀ wS : World, S7 wS → wS.cell? (Addr.mk w.heap.size 1 none) = some ((.slice a8 l8 c8 : Value))) ∧
  CallR Tryz.prog 157 [.slice a6 l6 c6] w3 (fun (r10 : Value) (w4 : World) =>
  ∃ (a9 : Option Addr) (l9 : Nat) (c9 : Nat), r10 = .slice a9 l9 c9 ∧
  S7 w4 ∧
  let w5 := World.alloc w4 (Obj.cells #[.slice a9 l9 c9] 40);
  S7 w5 ∧
  ∃ (a11 : Option Addr) (l11 : Nat) (c11 : Nat) (w6 : World), Sem.run Tryz.prog (Builtin.append_ #[84, 84] 84 #[.slice a8 l8 c8, .slice (some (Addr.mk w4.heap.size 0 none)) 1 1]) w5 = .ok ((.slice a11 l11 c11 : Value)) w6 ∧
  stC (Addr.mk w.heap.size 1 none) (.slice a11 l11 c11) w6 (fun (w7 : World) =>
  inI (n4 + 1) ∧
  I2 [.int .i64 (n4 + 1)] w7 ∧ mu3 [.int .i64 (n4 + 1)] w7 < mu3 [.int .i64 n4] w2)))))
  (Q (.tuple #[.pointer (some (Addr.mk w.heap.size 0 none)), .int .i64 0]) w2))
theorem C55 {a1 : Option Addr} {l1 : Nat} {c1 : Nat} {Q : Value → World → Prop} {w : World} (h : L55 a1 l1 c1 Q w) : CallR Tryz.prog 55 [.slice a1 l1 c1] w Q :=
  fun_calls (A := A55) mixed Tryz.func55 (c := (Tryz.f55.body).getD .skip) rfl (by kernel_rfl) (Eq.mp (by kernel_rfl) h)
def A251 : Ann := ⟨[], [], [], [], [], []⟩
def L251 (p1 : Option Addr) (n2 : Int) (Q : Value → World → Prop) (w : World) : Prop :=
  cond (Option.isNone p1)
  (Q (.tuple #[.slice none 0 0, .int .i64 2]) w)
  (nn p1 (fun (q3 : Addr) =>
  ∃ (b4 : Bool), w.cell? q3 = some ((.bool b4 : Value)) ∧
  cond (!b4)
  (Q (.tuple #[.slice none 0 0, .int .i64 2]) w)
  (cond (decide (n2 < 1))
  (Q (.tuple #[.slice none 0 0, .int .i64 4]) w)
  (cond (decide (n2 > 1048576))
  (Q (.tuple #[.slice none 0 0, .int .i64 4]) w)
  (nn p1 (fun (q5 : Addr) =>
  ∃ (a6 : Option Addr) (l6 : Nat) (c6 : Nat), w.cell? (Addr.add q5 1) = some ((.slice a6 l6 c6 : Value)) ∧
  cond ((((l6 : Nat) : Int)) == 0)
  (Q (.tuple #[.slice none 0 0, .int .i64 0]) w)
  (nn p1 (fun (q8 : Addr) =>
  ∃ (a9 : Option Addr) (l9 : Nat) (c9 : Nat), w.cell? (Addr.add q8 1) = some ((.slice a9 l9 c9 : Value)) ∧
  (0 ≤ (0 : Int) ∧ (0 : Int) < ((l9 : Nat) : Int)) ∧
  nn a9 (fun (q10 : Addr) =>
  ∃ (a11 : Option Addr) (l11 : Nat) (c11 : Nat), w.cell? (Addr.add q10 (Int.toNat 0)) = some ((.slice a11 l11 c11 : Value)) ∧
  nn p1 (fun (q12 : Addr) =>
  ∃ (n13 : Int), w.cell? (Addr.add q12 2) = some ((.int .i64 n13 : Value)) ∧
  (0 ≤ (n13 : Int) ∧ (n13 : Int) ≤ ((l11 : Nat) : Int)) ∧
  ∀ nd7 : Nat, let w1 := World.drewN w nd7;
  (0 ≤ (mn n2 (((l11 - Int.toNat n13 : Nat) : Int)) : Int) ∧ (mn n2 (((l11 - Int.toNat n13 : Nat) : Int)) : Int) ≤ ((c11 - Int.toNat n13 : Nat) : Int)) ∧
  nn p1 (fun (q14 : Addr) =>
  ∃ (n15 : Int), w1.cell? (Addr.add q14 2) = some ((.int .i64 n15 : Value)) ∧
  inI (n15 + (((Int.toNat (mn n2 (((l11 - Int.toNat n13 : Nat) : Int))) : Nat) : Int))) ∧
  nn p1 (fun (q16 : Addr) =>
  stC (Addr.add q16 2) (.int .i64 (n15 + (((Int.toNat (mn n2 (((l11 - Int.toNat n13 : Nat) : Int))) : Nat) : Int)))) w1 (fun (w2 : World) =>
  cond ((((Int.toNat (mn n2 (((l11 - Int.toNat n13 : Nat) : Int))) : Nat) : Int)) == (((l11 - Int.toNat n13 : Nat) : Int)))
  (nn p1 (fun (q17 : Addr) =>
  ∃ (a18 : Option Addr) (l18 : Nat) (c18 : Nat), w2.cell? (Addr.add q17 1) = some ((.slice a18 l18 c18 : Value)) ∧
  (0 ≤ (1 : Int) ∧ (1 : Int) ≤ ((l18 : Nat) : Int)) ∧
  nn p1 (fun (q19 : Addr) =>
  stC (Addr.add q19 1) (.slice (adv a18 (Int.toNat 1) c18 1) (l18 - Int.toNat 1) (c18 - Int.toNat 1)) w2 (fun (w3 : World) =>
  nn p1 (fun (q20 : Addr) =>
  stC (Addr.add q20 2) (.int .i64 0) w3 (fun (w4 : World) =>
  CallR Tryz.prog 157 [.slice (adv a11 (Int.toNat n13) c11 1) (Int.toNat (mn n2 (((l11 - Int.toNat n13 : Nat) : Int)))) (c11 - Int.toNat n13)] w4 (fun (r22 : Value) (w5 : World) =>
  ∃ (a21 : Option Addr) (l21 : Nat) (c21 : Nat), r22 = .slice a21 l21 c21 ∧
  Q (.tuple #[.slice a21 l21 c21, .int .i64 0]) w5)))))))
  (CallR Tryz.prog 157 [.slice (adv a11 (Int.toNat n13) c11 1) (Int.toNat (mn n2 (((l11 - Int.toNat n13 : Nat) : Int)))) (c11 - Int.toNat n13)] w2 (fun (r24 : Value) (w6 : World) =>
  ∃ (a23 : Option Addr) (l23 : Nat) (c23 : Nat), r24 = .slice a23 l23 c23 ∧
  Q (.tuple #[.slice a23 l23 c23, .int .i64 0]) w6)))))))))))))))
theorem C251 {p1 : Option Addr} {n2 : Int} {Q : Value → World → Prop} {w : World} (h : L251 p1 n2 Q w) : CallR Tryz.prog 251 [.pointer p1, .int .i64 n2] w Q :=
  fun_calls (A := A251) mixed Tryz.func251 (c := (Tryz.f251.body).getD .skip) rfl (by kernel_rfl) (Eq.mp (by kernel_rfl) h)
def A252 : Ann := ⟨[], [], [], [], [], []⟩
def L252 (p1 : Option Addr) (a2 : Option Addr) (l2 : Nat) (c2 : Nat) (Q : Value → World → Prop) (w : World) : Prop :=
  cond (Option.isNone p1)
  (Q (.int .i64 2) w)
  (nn p1 (fun (q3 : Addr) =>
  ∃ (b4 : Bool), w.cell? q3 = some ((.bool b4 : Value)) ∧
  cond (!b4)
  (Q (.int .i64 2) w)
  (nn p1 (fun (q5 : Addr) =>
  ∃ (a6 : Option Addr) (l6 : Nat) (c6 : Nat), w.cell? (Addr.add q5 3) = some ((.slice a6 l6 c6 : Value)) ∧
  inI ((1048576 : Int) - (((l6 : Nat) : Int))) ∧
  cond (decide ((((l2 : Nat) : Int)) > ((1048576 : Int) - (((l6 : Nat) : Int)))))
  (Q (.int .i64 31) w)
  (nn p1 (fun (q7 : Addr) =>
  ∃ (a8 : Option Addr) (l8 : Nat) (c8 : Nat), w.cell? (Addr.add q7 3) = some ((.slice a8 l8 c8 : Value)) ∧
  ∃ (a9 : Option Addr) (l9 : Nat) (c9 : Nat) (w1 : World), Sem.run Tryz.prog (Builtin.append_ #[40, 40] 40 #[.slice a8 l8 c8, .slice a2 l2 c2]) w = .ok ((.slice a9 l9 c9 : Value)) w1 ∧
  nn p1 (fun (q10 : Addr) =>
  stC (Addr.add q10 3) (.slice a9 l9 c9) w1 (fun (w2 : World) =>
  Q (.int .i64 0) w2))))))))
theorem C252 {p1 : Option Addr} {a2 : Option Addr} {l2 : Nat} {c2 : Nat} {Q : Value → World → Prop} {w : World} (h : L252 p1 a2 l2 c2 Q w) : CallR Tryz.prog 252 [.pointer p1, .slice a2 l2 c2] w Q :=
  fun_calls (A := A252) mixed Tryz.func252 (c := (Tryz.f252.body).getD .skip) rfl (by kernel_rfl) (Eq.mp (by kernel_rfl) h)
def A183 : Ann := ⟨[], [], [], [], [], []⟩
def L183 (p1 : Option Addr) (Q : Value → World → Prop) (w : World) : Prop :=
  cond (Option.isNone p1)
  (Q (.slice none 0 0) w)
  (nn p1 (fun (q2 : Addr) =>
  ∃ (a3 : Option Addr) (l3 : Nat) (c3 : Nat), w.cell? (Addr.add q2 3) = some ((.slice a3 l3 c3 : Value)) ∧
  ∃ (a4 : Option Addr) (l4 : Nat) (c4 : Nat) (w1 : World), Sem.run Tryz.prog (Instr.makeSlice 40 (.int .i64 (((l3 : Nat) : Int))) (.int .i64 (((l3 : Nat) : Int)))) w = .ok ((.slice a4 l4 c4 : Value)) w1 ∧
  nn p1 (fun (q5 : Addr) =>
  ∃ (a6 : Option Addr) (l6 : Nat) (c6 : Nat), w1.cell? (Addr.add q5 3) = some ((.slice a6 l6 c6 : Value)) ∧
  ∃ (n7 : Int) (w2 : World), Sem.run Tryz.prog (Builtin.copy_ #[40, 40] 3 #[.slice a4 l4 c4, .slice a6 l6 c6]) w1 = .ok ((.int .i64 n7 : Value)) w2 ∧
  Q (.slice a4 l4 c4) w2)))
theorem C183 {p1 : Option Addr} {Q : Value → World → Prop} {w : World} (h : L183 p1 Q w) : CallR Tryz.prog 183 [.pointer p1] w Q :=
  fun_calls (A := A183) mixed Tryz.func183 (c := (Tryz.f183.body).getD .skip) rfl (by kernel_rfl) (Eq.mp (by kernel_rfl) h)
end Go.Proofs.YtpoaacnnhgebfaaGreat
set_option maxRecDepth 512
namespace Go.Proofs.YtpoaacnnhgebfaaGreat
open Go.Lw
def Fv (fs : List (Int × Int)) : List Value := fs.flatMap fun f => [.int .i64 f.1, .int .i64 f.2]
theorem Fv_len : ∀ fs : List (Int × Int), (Fv fs).length = fs.length * 2
  | [] => rfl
  | f :: r => by
    have := Fv_len r
    show (_ :: _ :: Fv r).length = _
    simp only [List.length_cons, this]
    omega
theorem Fv_at : ∀ {fs : List (Int × Int)} {i : Nat} (h : i < fs.length), (Fv fs)[i * 2]? = some (.int .i64 fs[i].1) ∧ (Fv fs)[i * 2 + 1]? = some (.int .i64 fs[i].2)
  | [], i, h => by simp at h
  | f :: r, 0, h => ⟨rfl, rfl⟩
  | f :: r, i + 1, h => by
    have := Fv_at (fs := r) (i := i) (by simpa using h)
    rw [show (i + 1) * 2 = i * 2 + 2 by omega]
    exact this
theorem Fv_one (fs : List (Int × Int)) : ∀ u ∈ Fv fs, u.oneCell' = true := by
  intro u hu
  simp only [Fv, List.mem_flatMap, List.mem_cons, List.not_mem_nil, or_false] at hu
  obtain ⟨f, _, h | h⟩ := hu
  · subst h; rfl
  · subst h; rfl
theorem Fv_drop : ∀ (fs : List (Int × Int)) (n : Nat), Fv (fs.drop n) = (Fv fs).drop (n * 2)
  | [], n => by simp [Fv]
  | f :: r, 0 => rfl
  | f :: r, n + 1 => by
    have := Fv_drop r n
    show Fv (r.drop n) = _
    rw [this, show (n + 1) * 2 = n * 2 + 2 by omega]
    rfl
def mayP (f : Int × Int) : Prop := (f.1 = 1 ∧ 1 ≤ f.2 ∧ f.2 ≤ 1048576) ∨ ((f.1 = 0 ∨ f.1 = 2 ∨ f.1 = 3) ∧ f.2 = 0)
instance (f : Int × Int) : Decidable (mayP f) := by unfold mayP; infer_instance
theorem may_ok {w : World} (f : Int × Int) : CallR Tryz.prog 164 [.agg #[.int .i64 f.1, .int .i64 f.2]] w fun v w' => v = .bool (decide (mayP f)) ∧ Kept No w w' := by
  refine C164 ?_
  unfold L164
  intro w1
  have hb : Blk w1 w.heap.size #[.int .i64 f.1, .int .i64 f.2] := Blk.alloc _ _ _
  have hk : Kept No w w1 := Kept.alloc _ _ _
  clear_value w1
  have c0 : ∀ {b : Bool}, (b = decide (mayP f)) → (Value.bool b = .bool (decide (mayP f)) ∧ Kept No w w1) := fun h => ⟨by rw [h], hk⟩
  refine ⟨_, (hb.cell 0).trans rfl, condI (fun h1 => ⟨_, (hb.cell 1).trans rfl, condP (fun h2 => ⟨_, (hb.cell 1).trans rfl, c0 ?_⟩) (fun h2 => c0 ?_)⟩) (fun h1 => condI (fun h2 => condI (fun h3 => ⟨_, (hb.cell 1).trans rfl, c0 ?_⟩) (fun h3 => c0 ?_)) (fun h2 => condI (fun h3 => condI (fun h4 => ⟨_, (hb.cell 1).trans rfl, c0 ?_⟩) (fun h4 => c0 ?_)) (fun h3 => condI (fun h4 => ⟨_, (hb.cell 1).trans rfl, c0 ?_⟩) (fun h4 => c0 ?_))))⟩
  · have h1 : f.1 = 1 := by simpa using h1
    rw [decide_eq_decide]; unfold mayP; omega
  · have h1 : f.1 = 1 := by simpa using h1
    symm; rw [decide_eq_false_iff_not]; unfold mayP; omega
  · have h1 : f.1 = 0 := by simpa using h2
    rw [show (f.2 == 0) = decide (f.2 = 0) from rfl, decide_eq_decide]; unfold mayP; omega
  · rw [h2] at h3; cases h3
  · have h1 : f.1 = 2 := by simpa using h3
    rw [show (f.2 == 0) = decide (f.2 = 0) from rfl, decide_eq_decide]; unfold mayP; omega
  · rw [h3] at h4; cases h4
  · have h1 : f.1 = 3 := by simpa using h4
    rw [show (f.2 == 0) = decide (f.2 = 0) from rfl, decide_eq_decide]; unfold mayP; omega
  · have h1 : f.1 ≠ 1 := by simpa using h1
    have h2 : f.1 ≠ 0 := by simpa using h2
    have h3 : f.1 ≠ 2 := by simpa using h3
    have h4 : f.1 ≠ 3 := by simpa using h4
    symm; rw [decide_eq_false_iff_not]; unfold mayP; omega
theorem may1_ok {w : World} (f : Int × Int) : CallR Tryz.prog 163 [.agg #[.int .i64 f.1, .int .i64 f.2]] w fun v w' => v = .bool (!decide (mayP f)) ∧ Kept No w w' := by
  refine C163 ?_
  unfold L163
  intro w1
  have hb : Blk w1 w.heap.size #[.int .i64 f.1, .int .i64 f.2] := Blk.alloc _ _ _
  have hk : Kept No w w1 := Kept.alloc _ _ _
  clear_value w1
  refine ⟨_, _, (hb.cell 0).trans rfl, (hb.cell 1).trans rfl, CallR.mono (may_ok f) ?_⟩
  rintro v w2 ⟨rfl, hk2⟩
  exact ⟨_, rfl, rfl, hk.no hk2⟩
def badF (fs : List (Int × Int)) : Option Nat := fs.findIdx? fun f => !decide (mayP f)
def ixF (fs : List (Int × Int)) : Int := match badF fs with | some i => i | none => -1
theorem ixF_at {fs : List (Int × Int)} {i : Nat} (h : i < fs.length) (hb : ¬ mayP fs[i]) (hall : ∀ j, (hj : j < i) → mayP (fs[j]'(by omega))) : ixF fs = i := by
  have : badF fs = some i := by
    unfold badF
    rw [List.findIdx?_eq_some_iff_getElem]
    exact ⟨h, by simp [hb], fun j hj => by simp [hall j hj]⟩
  unfold ixF
  rw [this]
theorem ixF_none {fs : List (Int × Int)} (hall : ∀ j, (hj : j < fs.length) → mayP fs[j]) : ixF fs = -1 ∧ badF fs = none := by
  have : badF fs = none := by
    unfold badF
    rw [List.findIdx?_eq_none_iff]
    intro f hf
    obtain ⟨j, hj, rfl⟩ := List.mem_iff_getElem.1 hf
    simp [hall j hj]
  unfold ixF
  rw [this]
  exact ⟨rfl, rfl⟩
theorem ix_ok {w : World} {a : Option Addr} {l c : Nat} {fs : List (Int × Int)} (h : RdS 2 w a l c (Fv fs)) (hl : l ≤ 4096) :
    CallR Tryz.prog 162 [.slice a l c, .func (.func 163) #[] #[]] w fun v w' => v = .int .i64 (ixF fs) ∧ Kept No w w' := by
  refine C162 ?_
  unfold L162
  have hlen : fs.length = l := by have := h.1; rw [Fv_len] at this; omega
  refine ⟨fun vs w' => ∃ n : Nat, vs = [.int .i64 (n : Int)] ∧ n ≤ l ∧ Kept No w w' ∧ (∀ j, (hj : j < n) → (hl : j < fs.length) → mayP fs[j]), fun vs _ => l - ix vs, ⟨0, rfl, Nat.zero_le _, Kept.refl _ _, fun j hj => by omega⟩, ?_⟩
  intro _ n5 w1 hI
  obtain ⟨n, hvs, hn, hk, hall⟩ := hI
  simp only [List.cons.injEq, Value.int.injEq, true_and, and_true] at hvs
  subst hvs
  refine condP (fun hlt => ?_) (fun hge => ?_)
  · have hn' : n < fs.length := by omega
    obtain ⟨e1, e2⟩ := Fv_at hn'
    have h1 := h.keep hk (fun _ _ _ e => e)
    cases ha : a with
    | none => have := RdS.isNone h ha; omega
    | some q =>
      refine ⟨⟨by omega, by omega⟩, nnI ⟨fs[n].1, fs[n].2, ?_, ?_, 163, #[], #[], rfl, by kernel_rfl, ?_⟩⟩
      · have := h1.2.2.2 q ha _ _ e1
        simpa using this
      · have := h1.2.2.2 q ha _ _ e2
        rw [← Lw.add_add] at this
        simpa using this
      refine CallR.mono (may1_ok fs[n]) ?_
      rintro v w2 ⟨rfl, hk2⟩
      refine ⟨_, rfl, condI (fun hb => ?_) (fun hb => ?_)⟩
      · have hb : ¬ mayP fs[n] := by simpa using hb
        exact ⟨by rw [ixF_at hn' hb (fun j hj => hall j hj (by omega))], hk.no hk2⟩
      · have hb : mayP fs[n] := by simpa using hb
        refine ⟨⟨by omega, by omega⟩, ⟨n + 1, by simp, by omega, hk.no hk2, fun j hj hl => ?_⟩, by simp only [ix]; omega⟩
        by_cases e : j = n
        · subst e; exact hb
        · exact hall j (by omega) hl
  · have hnl : n = l := by omega
    exact ⟨by rw [(ixF_none (fun j hj => hall j (by omega) hj)).1], hk⟩
def ckF (fs : List (Int × Int)) : Int := if 4096 < fs.length then 3 else if badF fs = none then 0 else 21
theorem fcheck_ok {w : World} {a : Option Addr} {l c : Nat} {fs : List (Int × Int)} (h : RdS 2 w a l c (Fv fs)) :
    CallR Tryz.prog 63 [.slice a l c] w fun v w' => (∃ n, v = .tuple #[.int .i64 (ckF fs), .int .i64 n]) ∧ Kept No w w' := by
  refine C63 ?_
  unfold L63
  have hlen : fs.length = l := by have := h.1; rw [Fv_len] at this; omega
  refine condP (fun hlt => ⟨⟨_, by unfold ckF; rw [if_pos (by omega)]⟩, Kept.refl _ _⟩) (fun hge => ?_)
  refine CallR.mono (ix_ok h (by omega)) ?_
  rintro v w1 ⟨rfl, hk⟩
  unfold ckF
  rw [if_neg (by omega)]
  refine ⟨_, rfl, condP (fun h0 => ⟨⟨ixF fs, ?_⟩, hk⟩) (fun h0 => ⟨⟨(l : Int), ?_⟩, hk⟩)⟩
  · unfold ixF at h0
    cases hb : badF fs with
    | none => rw [hb] at h0; simp at h0
    | some i => rw [if_neg (by simp)]
  · unfold ixF at h0
    cases hb : badF fs with
    | none => rw [if_pos rfl]
    | some i => rw [hb] at h0; dsimp only at h0; omega
structure PlO (w : World) (g : Nat) (a : Option Addr) (l c : Nat) (fs : List (Int × Int)) : Prop where
  blk : Blk w g #[.bool true, .slice a l c]
  rd : RdS 2 w a l c (Fv fs)
  ne : ∀ b, inA a b → b ≠ g
theorem PlO.keep {w w' : World} {g : Nat} {a : Option Addr} {l c : Nat} {fs : List (Int × Int)} (h : PlO w g a l c fs) {S : Nat → Prop} (k : Kept S w w') (hg : ¬ S g) (hn : ∀ b, b < w.heap.size → inA a b → ¬ S b) : PlO w' g a l c fs :=
  ⟨h.blk.keep k hg, h.rd.keep k hn, h.ne⟩
theorem fclone_ok {w : World} {a : Option Addr} {l c : Nat} {fs : List (Int × Int)} (h : RdS 2 w a l c (Fv fs)) (hl : l ≤ 4096) :
    CallR Tryz.prog 156 [.slice a l c] w fun v w' => ∃ a' c', v = .slice a' l c' ∧ SlO 2 w' a' l c' (Fv fs) ∧ Kept No w w' ∧ Fresh w a' := by
  refine C156 ?_
  unfold L156
  refine condI (fun hn => ?_) (fun hn => ?_)
  · have ha : a = none := by simpa using hn
    obtain ⟨h1, _, h3⟩ := RdS.isNone h ha
    subst h1 ha
    refine ⟨none, 0, rfl, ?_, Kept.refl _ _, Fresh.none w⟩
    rw [h3]; exact SlO.nil 2 w
  · intro w1
    have hk1 : Kept No w w1 := Kept.alloc _ w _
    have hs0 : SlO 2 w1 (some ⟨w.heap.size, 0, none⟩) 0 0 [] := SlO.of_blk (Blk.alloc w #[] _) (by simp)
    obtain ⟨a', c', w2, hrun, hs, hk, hat, hnn⟩ := run_app_sl (P := Tryz.prog) (t := 24) (t2 := 24) (ty := 24) (by kernel_rfl : slTyB Tryz.prog 24 2 16 = true) (by kernel_rfl) hs0 (h.keep hk1 (fun _ _ _ e => e)) (Fv_one fs) (by omega) (by omega)
    simp only [Nat.zero_add, List.nil_append] at hrun hs
    refine ⟨a', l, c', w2, hrun, a', c', rfl, hs, ?_, ?_⟩
    · exact hk1.trans hk (fun b hb hin => by rw [inA_some] at hin; subst hin; omega)
    · exact hat.fresh (fun b hb => by rw [inA_some] at hb; omega) (by exact hk1.size)
theorem fnew_ok {w : World} {a : Option Addr} {l c : Nat} {fs : List (Int × Int)} (h : RdS 2 w a l c (Fv fs)) :
    CallR Tryz.prog 53 [.slice a l c] w fun v w' => (ckF fs ≠ 0 ∧ v = .tuple #[.pointer none, .int .i64 (ckF fs)] ∨
      ckF fs = 0 ∧ ∃ g a' c', v = .tuple #[.pointer (some ⟨g, 0, none⟩), .int .i64 0] ∧ PlO w' g a' l c' fs ∧ w.heap.size ≤ g ∧ ∀ b, inA a' b → w.heap.size ≤ b ∧ b < w'.heap.size) ∧ Kept No w w' := by
  refine C53 ?_
  unfold L53
  have hlen : fs.length = l := by have := h.1; rw [Fv_len] at this; omega
  refine CallR.mono (fcheck_ok h) ?_
  rintro v w1 ⟨⟨n, rfl⟩, hk1⟩
  refine ⟨_, _, rfl, condI (fun he => ?_) (fun he => ?_)⟩
  · exact ⟨.inl ⟨by simpa using he, rfl⟩, hk1⟩
  · have he : ckF fs = 0 := by simpa using he
    have hl : l ≤ 4096 := by
      unfold ckF at he
      by_cases hx : 4096 < fs.length
      · rw [if_pos hx] at he; omega
      · omega
    refine CallR.mono (fclone_ok (h.keep hk1 fun _ _ _ e => e) hl) ?_
    rintro v w2 ⟨a', c', rfl, hs, hk2, hf⟩
    refine ⟨_, _, _, rfl, ?_⟩
    intro w3
    have hb3 : Blk w3 w2.heap.size #[.bool true, .slice a' l c'] := Blk.alloc _ _ _
    have hk3 : Kept No w2 w3 := Kept.alloc _ _ _
    clear_value w3
    have hlt := hs.lt
    have z1 := hk1.size
    have z2 := hk2.size
    exact ⟨.inr ⟨he, w2.heap.size, a', c', rfl, ⟨hb3, hs.rd.keep hk3 fun _ _ _ e => e, fun b hb e => by have := hlt b hb; omega⟩, by omega, fun b hb => by have := hf b hb; have := hlt b hb; have := hk3.size; omega⟩, (hk1.no hk2).no hk3⟩
def metF (fs : List (Int × Int)) (n : Int) : Int × Int := match fs with
  | [] => (n, 0)
  | f :: _ => if f.1 = 1 then (min n f.2, 0) else if f.1 = 2 then (0, 22) else if f.1 = 3 then (0, 23) else (n, 0)
theorem fnext_ok {w : World} {g : Nat} {a : Option Addr} {l c : Nat} {fs : List (Int × Int)} {n : Int} (h : PlO w g a l c fs) (h1 : 1 ≤ n) (h2 : n ≤ 1048576) (hl : l ≤ 4096) :
    CallR Tryz.prog 167 [.pointer (some ⟨g, 0, none⟩), .int .i64 n] w fun v w' => v = .tuple #[.int .i64 (metF fs n).1, .int .i64 (metF fs n).2] ∧ (∃ a' c', (∀ b, inA a' b → inA a b) ∧ PlO w' g a' (l - 1) c' (fs.drop 1)) ∧ Kept (· = g) w w' := by
  refine C167 ?_
  unfold L167
  obtain ⟨hb, hrd, hne⟩ := h
  have hlen : fs.length = l := by have := hrd.1; rw [Fv_len] at this; omega
  refine condF rfl (nnI ⟨_, hb.at0 rfl, condF rfl (condF (by simp; omega) (condF (by simp; omega) ?_))⟩)
  intro w1
  have hf1 : Blk w1 w.heap.size #[.int .i64 0, .int .i64 0] := Blk.alloc _ _ _
  have hk1 : Kept No w w1 := Kept.alloc _ _ _
  clear_value w1
  have hglt := hb.lt
  have hb1 := hb.keep hk1 (fun e => e)
  have hr1 := hrd.keep hk1 (fun _ _ _ e => e)
  have hf1lt := hf1.lt
  refine ⟨fun vs w' => vs = [] ∧ (∃ a' c', (∀ b, inA a' b → inA a b) ∧ PlO w' g a' (l - 1) c' (fs.drop 1)) ∧ Kept (· = g) w w' ∧ Blk w' w.heap.size #[.int .i64 (fs.headD (0, 0)).1, .int .i64 (fs.headD (0, 0)).2], ?_, ?_⟩
  · refine nnI ⟨_, _, _, hb1.at (i := 1) rfl, condP (fun hlt => ?_) (fun hge => ?_)⟩
    · have h0l : 0 < fs.length := by omega
      obtain ⟨e1, e2⟩ := Fv_at h0l
      have hhd : fs.headD (0, 0) = fs[0] := by
        cases fs with
        | nil => simp at h0l
        | cons f r => rfl
      rw [hhd]
      cases ha : a with
      | none => have := RdS.isNone hrd ha; omega
      | some q =>
        rw [ha] at hb1 hr1 hne
        have hcl : l ≤ c := hrd.2.1
        refine ⟨fun wS => Blk wS g #[.bool true, .slice (some q) l c] ∧ RdS 2 wS (some q) l c (Fv fs), ⟨hb1.drew, hr1.drew⟩, nnI ⟨_, _, _, fun wS hS => hS.1.at (i := 1) rfl, ⟨by omega, by omega⟩, nnI ⟨fs[0].1, fs[0].2, fun wS hS => ⟨?_, ?_, trivial⟩, nnI ⟨_, _, _, fun wS hS => hS.1.at (i := 1) rfl, ⟨by omega, by omega⟩, ?_⟩⟩⟩⟩
        · have := hS.2.2.2.2 q rfl _ _ e1
          simpa using this
        · have := hS.2.2.2.2 q rfl _ _ e2
          rw [← Lw.add_add] at this
          simpa using this
        have hb2 : Blk (World.drew w1) g #[.bool true, .slice (some q) l c] := hb1.drew
        have hf2 : Blk (World.drew w1) w.heap.size #[.int .i64 0, .int .i64 0] := hf1.drew
        have hr2 : RdS 2 (World.drew w1) (some q) l c (Fv fs) := hr1.drew
        have hk2 : Kept No w (World.drew w1) := hk1.no (Kept.drew _ _)
        generalize World.drew w1 = w2 at hb2 hf2 hr2 hk2 ⊢
        refine stC_blk hf2 (by simp) fun w3 hf3 hk3 _ => stC_blk hf3 (by simp) fun w4 hf4 hk4 _ => ?_
        have hk34 : Kept (· = w.heap.size) w2 w4 := hk3.trans hk4 fun _ _ e => e
        have hold : ∀ b, b < w.heap.size → inA (some q) b → b < w.heap.size := fun b hb _ => hb
        have hqw : ∀ b, inA (some q) b → b < w.heap.size := RdS.old (ha ▸ hrd) (fun e => by have := Fv_len fs; rw [e] at this; simp at this; omega)
        have hb4 := hb2.keep hk34 (by omega)
        have hr4 := hr2.keep hk34 (fun b _ hb e => by have := hqw b hb; omega)
        refine ⟨⟨hb4, hr4⟩, nnI (stC_at hb4 (i := 1) (by simp) fun w5 hb5 hk5 _ => ?_)⟩
        have hr5 := hr4.keep hk5 (fun b _ hb e => hne b hb e)
        have hk05 : Kept (· = g) w w5 := ((hk2.fresh hk34 (fun x e => by omega)).mono fun _ _ e => e.elim).trans hk5 fun _ _ e => e
        refine ⟨rfl, ⟨adv (some q) 1 c 2, c - 1, fun b hb => inA_adv.1 hb, hb5, ?_, fun b hb => hne b (inA_adv.1 hb)⟩, hk05, ?_⟩
        · have := hr5.from 1 (by omega)
          rw [Fv_drop]
          exact this
        · have := hf4.keep hk5 (by omega)
          simpa using this
    · have hl0 : fs = [] := List.eq_nil_of_length_eq_zero (by omega)
      refine ⟨rfl, ⟨a, c, fun b hb => hb, ?_⟩, hk1.mono (fun _ _ e => e.elim), ?_⟩
      · rw [show l - 1 = l by omega, hl0, ← hl0]
        have : fs.drop 1 = fs := by rw [hl0]; rfl
        rw [this]
        exact ⟨hb1, hr1, hne⟩
      · rw [hl0]; exact hf1
  · rintro _ w6 ⟨_, hp, hk, hf⟩
    have fin : ∀ {x : Int × Int}, x = metF fs n → Value.tuple #[.int .i64 x.1, .int .i64 x.2] = .tuple #[.int .i64 (metF fs n).1, .int .i64 (metF fs n).2] ∧ (∃ a' c', (∀ b, inA a' b → inA a b) ∧ PlO w6 g a' (l - 1) c' (fs.drop 1)) ∧ Kept (· = g) w w6 := fun h => ⟨by rw [h], hp, hk⟩
    refine ⟨_, (hf.cell 0).trans rfl, condI (fun e1 => ⟨_, (hf.cell 1).trans rfl, ?_⟩) (fun e1 => condI (fun e2 => ?_) (fun e2 => condI (fun e3 => ?_) (fun e3 => ?_)))⟩
    · have e1 : (fs.headD (0, 0)).1 = 1 := by simpa using e1
      refine fin (x := (mn n (fs.headD (0, 0)).2, 0)) ?_
      cases fs with
      | nil => simp at e1
      | cons f r =>
        have e1 : f.1 = 1 := e1
        show (mn n f.2, (0 : Int)) = if f.1 = 1 then _ else _
        rw [if_pos e1]
        congr 1
        unfold mn; omega
    · have e2 : (fs.headD (0, 0)).1 = 2 := by simpa using e2
      refine fin (x := (0, 22)) ?_
      cases fs with
      | nil => simp at e2
      | cons f r =>
        have e2 : f.1 = 2 := e2
        show _ = if f.1 = 1 then _ else if f.1 = 2 then _ else _
        rw [if_neg (by omega), if_pos e2]
    · have e3 : (fs.headD (0, 0)).1 = 3 := by simpa using e3
      refine fin (x := (0, 23)) ?_
      cases fs with
      | nil => simp at e3
      | cons f r =>
        have e3 : f.1 = 3 := e3
        show _ = if f.1 = 1 then _ else if f.1 = 2 then _ else if f.1 = 3 then _ else _
        rw [if_neg (by omega), if_neg (by omega), if_pos e3]
    · have e1 : (fs.headD (0, 0)).1 ≠ 1 := by simpa using e1
      have e2 : (fs.headD (0, 0)).1 ≠ 2 := by simpa using e2
      have e3 : (fs.headD (0, 0)).1 ≠ 3 := by simpa using e3
      refine fin (x := (n, 0)) ?_
      cases fs with
      | nil => rfl
      | cons f r =>
        have e1 : f.1 ≠ 1 := e1
        have e2 : f.1 ≠ 2 := e2
        have e3 : f.1 ≠ 3 := e3
        show _ = if f.1 = 1 then _ else if f.1 = 2 then _ else if f.1 = 3 then _ else _
        rw [if_neg e1, if_neg e2, if_neg e3]
end Go.Proofs.YtpoaacnnhgebfaaGreat
namespace Go.Proofs.YtpoaacnnhgebfaaGreat
open Go.Lw
abbrev ptt (b : Nat) : Value := .pointer (some ⟨b, 0, none⟩)
theorem tyB' : ∃ e i, SlTy Tryz.prog 40 e i (.int .u8 0) 1 1 := slTyZ (by kernel_rfl) (by kernel_rfl)
def Cur (raw : List (List Int)) (i : Nat) (LL : List (List Int)) : Prop :=
  (raw = [] ∧ LL = []) ∨ ∃ x r, raw = x :: r ∧ i ≤ x.length ∧ LL = x.drop i :: r
def TermO (F R : Nat → Prop) (w : World) (b : Nat) (LL : List (List Int)) (scr : List Int) : Prop :=
  ∃ (la : Option Addr) (ll lc i : Nat) (sa : Option Addr) (sl sc : Nat) (raw : List (List Int)), Blk w b #[.bool true, .slice la ll lc, .int .i64 (i : Int), .slice sa sl sc] ∧ RdL R w la ll lc raw ∧ Cur raw i LL ∧
    OB w sa sl sc scr ∧ ¬ inA sa b ∧ scr.length ≤ 1048576 ∧ (∀ k, F k ↔ k = b ∨ inA sa k) ∧ (∀ k, R k → ¬ F k) ∧ (∀ k, R k → k < w.heap.size) ∧ raw.length ≤ 256 ∧ ∀ x ∈ raw, x.length ≤ 4096
theorem TermO.keep {F R S : Nat → Prop} {w w' : World} {b : Nat} {LL : List (List Int)} {scr : List Int} (h : TermO F R w b LL scr) (k : Kept S w w') (hf : ∀ x, F x → ¬ S x) (hr : ∀ x, R x → ¬ S x) : TermO F R w' b LL scr := by
  obtain ⟨la, ll, lc, i, sa, sl, sc, raw, hb, hl, hc, ho, hna, hs, hF, hR, hlt, h1, h2⟩ := h
  exact ⟨la, ll, lc, i, sa, sl, sc, raw, hb.keep k (hf b ((hF b).2 (.inl rfl))), hl.keep k hr, hc, ho.keep k (fun x hx => hf x ((hF x).2 (.inr hx))), hna, hs, hF, hR, fun k' hk => Nat.lt_of_lt_of_le (hlt k' hk) k.size, h1, h2⟩
theorem TermO.lt {F R : Nat → Prop} {w : World} {b : Nat} {LL : List (List Int)} {scr : List Int} (h : TermO F R w b LL scr) : ∀ k, F k ∨ R k → k < w.heap.size := by
  obtain ⟨la, ll, lc, i, sa, sl, sc, raw, hb, hl, hc, ho, hna, hs, hF, hR, hlt, h1, h2⟩ := h
  intro k hk
  rcases hk with hk | hk
  · rcases (hF k).1 hk with rfl | hk
    · exact hb.lt
    · exact SlO.lt ho k hk
  · exact hlt k hk
theorem TermO.scr {F R : Nat → Prop} {w : World} {b : Nat} {LL : List (List Int)} {scr : List Int} (h : TermO F R w b LL scr) : scr.length ≤ 1048576 := by
  obtain ⟨la, ll, lc, i, sa, sl, sc, raw, hb, hl, hc, ho, hna, hs, _⟩ := h; exact hs
theorem TermO.apart {F R : Nat → Prop} {w : World} {b : Nat} {LL : List (List Int)} {scr : List Int} (h : TermO F R w b LL scr) : ∀ k, R k → ¬ F k := by
  obtain ⟨la, ll, lc, i, sa, sl, sc, raw, hb, hl, hc, ho, hna, hs, hF, hR, _⟩ := h; exact hR
theorem Cur.len {raw LL : List (List Int)} {i : Nat} (h : Cur raw i LL) : LL.length = raw.length := by
  rcases h with ⟨rfl, rfl⟩ | ⟨x, r, rfl, _, rfl⟩ <;> rfl
def newT (LL : List (List Int)) : Int := if 256 < LL.length then 3 else if LL.all (fun x => decide (x.length ≤ 4096)) then 0 else 5
theorem tnew_ok {R0 : Nat → Prop} {w : World} {a : Option Addr} {l c : Nat} {LL : List (List Int)} (h : RdL R0 w a l c LL) (hl : ∀ x ∈ LL, x.length ≤ 140737488355328) :
    CallR Tryz.prog 55 [.slice a l c] w fun v w' => Kept No w w' ∧ ((newT LL ≠ 0 ∧ v = .tuple #[.pointer none, .int .i64 (newT LL)]) ∨
      (newT LL = 0 ∧ ∃ b F R, v = .tuple #[ptt b, .int .i64 0] ∧ TermO F R w' b LL [] ∧ ∀ k, F k ∨ R k → w.heap.size ≤ k)) := by
  have hlen := h.len
  refine C55 ?_
  unfold L55
  refine condP (fun hgt => ⟨Kept.refl _ _, .inl ?_⟩) (fun hle => ?_)
  · have : newT LL = 3 := by unfold newT; rw [if_pos (by omega)]
    rw [this]; exact ⟨by decide, rfl⟩
  intro w1
  have hb1 : Blk w1 w.heap.size #[.bool true, .slice none 0 0, .int .i64 0, .slice none 0 0] := Blk.alloc w _ _
  have hk1 : Kept No w w1 := Kept.alloc _ _ _
  clear_value w1
  refine ⟨fun vs w2 => ∃ (i : Nat) (la : Option Addr) (lc : Nat) (es : List Slc), vs = [.int .i64 (i : Int)] ∧ i ≤ l ∧ Blk w2 w.heap.size #[.bool true, .slice la i lc, .int .i64 0, .slice none 0 0] ∧
      SlO 1 w2 la i lc (es.map slv) ∧ (∀ k, inA la k → w.heap.size < k) ∧ (∀ (j : Nat) (e : Slc), es[j]? = some e → ∃ xs, LL[j]? = some xs ∧ RdB w2 e.1 e.2.1 e.2.2 xs ∧ (∀ k, inA e.1 k → w.heap.size < k ∧ k < w2.heap.size ∧ ¬ inA la k)) ∧
      (LL.take i).all (fun x => decide (x.length ≤ 4096)) = true ∧ Kept No w w2, fun vs _ => match vs with | [.int _ i] => (l - i).toNat | _ => 0,
    ⟨0, none, 0, [], rfl, Nat.zero_le _, hb1, SlO.nil 1 w1, fun k hk => absurd hk (inA_none k), fun j e he => by simp at he, by simp, hk1⟩, ?_⟩
  intro _ n4 w2 hI
  obtain ⟨i, la, lc, es, hv, hi, hb2, hs2, hla, hes, hall, hk2⟩ := hI
  simp only [List.cons.injEq, Value.int.injEq, true_and, and_true] at hv
  subst hv
  have hesl : es.length = i := by have := hs2.1; simpa using this
  refine condP (fun hlt => ?_) (fun hge => ?_)
  · have hil : i < LL.length := by omega
    obtain ⟨q, ⟨ea, el, ec⟩, hq, hc, hrd, _⟩ := (h.keep hk2 (fun _ _ e => e)).get hil
    subst hq
    simp only at hc hrd
    obtain rfl : LL[i].length = el := hrd.len
    have hLi := hl LL[i] (List.getElem_mem hil)
    refine ⟨⟨by omega, by omega⟩, nnI ⟨_, _, _, hc, condP (fun hbig => ⟨hk2, .inl ?_⟩) (fun hsmall => ?_)⟩⟩
    · have h1 : ¬ 256 < LL.length := by omega
      have h2 : LL.all (fun x => decide (x.length ≤ 4096)) = false := by
        cases hx : LL.all (fun x => decide (x.length ≤ 4096)) with
        | false => rfl
        | true =>
          have := List.all_eq_true.1 hx LL[i] (List.getElem_mem hil)
          have := of_decide_eq_true this
          omega
      have : newT LL = 5 := by unfold newT; rw [if_neg h1, h2]; rfl
      rw [this]; exact ⟨by decide, rfl⟩
    · refine ⟨fun wS => Blk wS w.heap.size #[.bool true, .slice la i lc, .int .i64 0, .slice none 0 0], hb2, ?_⟩
      intro w3
      have hk3 : Kept No w2 w3 := Kept.drew _ _
      have hb3 : Blk w3 w.heap.size #[.bool true, .slice la i lc, .int .i64 0, .slice none 0 0] := hb2
      have hrd3 := hrd.keep hk3 (fun _ _ _ e => e)
      have hsz3 : w3.heap.size = w2.heap.size := rfl
      clear_value w3
      refine ⟨la, i, lc, fun wS hS => (hS.cell 1).trans rfl, (clone_ok hrd3 (by omega)).mono fun v w4 ⟨a4, c4, hv4, ho4, hk4, hf4, _⟩ => ⟨_, _, _, hv4, hb3.keep hk4 (fun e => e), ?_⟩⟩
      have hb4 := hb3.keep hk4 (fun e => e)
      intro w5
      have hk5 : Kept No w4 w5 := Kept.alloc _ _ _
      have hnew5 : SlO 1 w5 (some ⟨w4.heap.size, 0, none⟩) 1 1 ([(a4, LL[i].length, c4)].map slv) := by
        exact SlO.of_blk (sz := 1) (n := 1) (Blk.alloc w4 #[slv (a4, LL[i].length, c4)] 40) rfl
      clear_value w5
      have hk35 := hk4.no hk5
      have hk25 := hk3.no hk35
      have hs5 := hs2.keep hk25 (fun _ _ e => e)
      obtain ⟨a6, c6, w6, hrun, hs6, hk6, hat, _⟩ := run_app_sl (P := Tryz.prog) (t := 84) (t2 := 84) (ty := 84) (by kernel_rfl : slTyB Tryz.prog 84 1 24 = true) (by kernel_rfl) hs5 hnew5.rd (slv_one _) (by omega) (by omega)
      refine ⟨hb4.keep hk5 (fun e => e), a6, _, c6, w6, hrun, ?_⟩
      have hlt5 : ∀ k, inA a4 k → k < w5.heap.size := fun k hk => Nat.lt_of_lt_of_le (SlO.lt ho4 k hk) hk5.size
      have hb6 : Blk w6 w.heap.size _ := (hb4.keep hk5 (fun e => e)).keep hk6 (fun hx => by have := hla _ hx; omega)
      have hla6 : ∀ k, inA a6 k → w.heap.size < k := fun k hk => by
        rcases hat.in hk with h | rfl
        · exact hla k h
        · have := hb4.lt; have := hk5.size; omega
      refine stC_blk hb6 (by simp) fun w7 hb7 hk7 hsz7 => ⟨by unfold inI; omega, ⟨i + 1, a6, c6, es ++ [(a4, LL[i].length, c4)], rfl, by omega, hb7, ?_, hla6, ?_, ?_, ?_⟩, ?_⟩
      · rw [List.map_append]
        exact SlO.keep hs6 hk7 (fun k hk e => by have := hla6 k hk; omega)
      · intro j e he
        have hg : ∀ k, k = w.heap.size → ¬ (w.heap.size < k) := fun k e => by omega
        by_cases hj : j < i
        · rw [List.getElem?_append_left (by omega)] at he
          obtain ⟨xs, hx, hr, hin⟩ := hes j e he
          refine ⟨xs, hx, ?_, fun k hk => ?_⟩
          · refine RdB.keep0 (RdB.keep0 (hr.keep0 hk25 (fun _ _ _ e => e)) hk6 (fun _ k hk h => (hin k hk).2.2 h)) hk7 (fun _ k hk e => by have := (hin k hk).1; omega)
          · obtain ⟨h1, h2, h3⟩ := hin k hk
            refine ⟨h1, ?_, fun hx => ?_⟩
            · have := hk25.size; have := hk6.size; omega
            · rcases hat.in hx with h | rfl
              · exact h3 h
              · have := hk25.size; omega
        · have hje : j = i := by
            have := (List.getElem?_eq_some_iff.1 he).1
            simp at this; omega
          subst hje
          rw [List.getElem?_append_right (by omega), hesl, Nat.sub_self] at he
          simp at he
          subst he
          refine ⟨LL[j], by simp [hil], ?_, fun k hk => ?_⟩
          · refine RdB.keep0 (RdB.keep0 (OB.rd (ho4.keep hk5 (fun _ _ e => e))) hk6 (fun _ k hk h => ?_)) hk7 (fun _ k hk e => ?_)
            · have h1 := hf4 k hk; have h2 := SlO.lt hs2 k h; omega
            · have h1 := hf4 k hk; have := hk2.size; have h3 := hb2.lt; omega
          · have h1 := hf4 k hk
            have h3 := hb2.lt
            refine ⟨by omega, ?_, fun hx => ?_⟩
            · have := hlt5 k hk; have := hk6.size; omega
            · rcases hat.in hx with h | rfl
              · have h2 := SlO.lt hs2 k h; omega
              · have := hlt5 _ hk; omega
      · rw [List.take_add_one, List.getElem?_eq_getElem hil]
        simp only [Option.toList_some, List.all_append, hall, Bool.true_and]
        have : LL[i].length ≤ 4096 := by omega
        simp [this]
      · exact ((hk2.no hk25).fresh hk6 (fun k hk => Nat.le_of_lt (hla k hk))).fresh hk7 (fun k e => by rw [e]; exact Nat.le_refl _)
      · show ((l : Int) - ((i : Int) + 1)).toNat < ((l : Int) - (i : Int)).toNat
        omega
  · have hil : i = l := by omega
    subst hil
    rw [List.take_of_length_le (by omega)] at hall
    have hn0 : newT LL = 0 := by unfold newT; rw [if_neg (by omega), hall]; rfl
    refine ⟨hk2, .inr ⟨hn0, w.heap.size, fun k => k = w.heap.size, fun k => inA la k ∨ ∃ e ∈ es, inA e.1 k, rfl, ⟨la, i, lc, 0, none, 0, 0, LL, hb2, ⟨es, hs2.rd, by omega, fun _ k hk => .inl hk, fun j e xs he hx => ?_⟩, ?_, OB.nil w2, inA_none _, by simp, fun k => ⟨fun h => .inl h, fun h => ?_⟩, fun k hk e => ?_, fun k hk => ?_, by omega, fun x hx => ?_⟩, fun k hk => ?_⟩⟩
    · obtain ⟨xs', hx', hr, _⟩ := hes j e he
      rw [hx] at hx'; cases hx'
      exact ⟨hr, fun _ k hk => .inr ⟨e, List.mem_of_getElem? he, hk⟩⟩
    · cases LL with
      | nil => exact .inl ⟨rfl, rfl⟩
      | cons x r => exact .inr ⟨x, r, rfl, Nat.zero_le _, rfl⟩
    · rcases h with h | h
      · exact h
      · exact absurd h (inA_none k)
    · rcases hk with hk | ⟨e', he', hk⟩
      · have := hla k hk; omega
      · obtain ⟨j, hj⟩ := List.mem_iff_getElem?.1 he'
        obtain ⟨_, _, _, h3⟩ := hes j e' hj
        have := (h3 k hk).1; omega
    · rcases hk with hk | ⟨e', he', hk⟩
      · exact SlO.lt hs2 k hk
      · obtain ⟨j, hj⟩ := List.mem_iff_getElem?.1 he'
        obtain ⟨_, _, _, h3⟩ := hes j e' hj
        exact (h3 k hk).2.1
    · have := List.all_eq_true.1 hall x hx
      exact of_decide_eq_true this
    · rcases hk with rfl | hk | ⟨e', he', hk⟩
      · exact Nat.le_refl _
      · exact Nat.le_of_lt (hla k hk)
      · obtain ⟨j, hj⟩ := List.mem_iff_getElem?.1 he'
        obtain ⟨_, _, _, h3⟩ := hes j e' hj
        exact Nat.le_of_lt (h3 k hk).1
def readT (n : Int) (LL : List (List Int)) : Int × List Int × List (List Int) :=
  if n < 1 ∨ n > 1048576 then (4, [], LL) else
  match LL with
  | [] => (0, [], [])
  | x :: r => (0, x.take n.toNat, if x.length ≤ n.toNat then r else x.drop n.toNat :: r)
theorem tread_ok {F R : Nat → Prop} {w : World} {b : Nat} {LL : List (List Int)} {scr : List Int} (h : TermO F R w b LL scr) (n : Int) :
    CallR Tryz.prog 251 [ptt b, .int .i64 n] w fun v w' => ∃ a' c', v = .tuple #[.slice a' (readT n LL).2.1.length c', .int .i64 (readT n LL).1] ∧ OB w' a' (readT n LL).2.1.length c' (readT n LL).2.1 ∧ Fresh w a' ∧ Kept (· = b) w w' ∧ TermO F R w' b (readT n LL).2.2 scr := by
  have ht := h
  obtain ⟨la, ll, lc, i, sa, sl, sc, raw, hb, hl, hc, ho, hna, hs, hF, hR, hlt, h1, h2⟩ := h
  have hrl := hl.len
  refine C251 ?_
  unfold L251
  refine condF rfl (nnI ⟨true, hb.at0 rfl, condF rfl (condP (fun hsm => ?_) (fun hge => condP (fun hbig => ?_) (fun hle => ?_)))⟩)
  · have e : readT n LL = (4, [], LL) := by unfold readT; rw [if_pos (.inl hsm)]
    rw [e]; exact ⟨none, 0, rfl, OB.nil w, Fresh.none w, Kept.refl _ _, ht⟩
  · have e : readT n LL = (4, [], LL) := by unfold readT; rw [if_pos (.inr hbig)]
    rw [e]; exact ⟨none, 0, rfl, OB.nil w, Fresh.none w, Kept.refl _ _, ht⟩
  · have hn : ¬ (n < 1 ∨ n > 1048576) := by omega
    refine nnI ⟨la, ll, lc, hb.at rfl, condI (fun h0 => ?_) (fun h0 => ?_)⟩
    · have hll : ll = 0 := by simpa using h0
      have hLL : LL = [] := List.eq_nil_of_length_eq_zero (by rw [hc.len]; omega)
      have e : readT n LL = (0, [], LL) := by unfold readT; rw [if_neg hn, hLL]
      rw [e]; exact ⟨none, 0, rfl, OB.nil w, Fresh.none w, Kept.refl _ _, ht⟩
    · have hll : ¬ ll = 0 := by simpa using h0
      rcases hc with ⟨rfl, rfl⟩ | ⟨x, r, rfl, hix, rfl⟩
      · simp at hrl; omega
      · have hx4 := h2 x (by simp)
        obtain ⟨q, ⟨ea, el, ec⟩, hq, hce, hrd, hRe⟩ := hl.get (i := 0) (by simp)
        subst hq
        simp only [List.getElem_cons_zero] at hce hrd hRe
        obtain rfl : x.length = el := hrd.len
        have hlec : x.length ≤ ec := hrd.2.1
        refine nnI ⟨_, ll, lc, hb.at rfl, ⟨by omega, by omega⟩, nnI ⟨ea, x.length, ec, hce, nnI ⟨i, hb.at rfl, ⟨by omega, by omega⟩, fun nd => ?_⟩⟩⟩
        simp only [mn_eq, Int.toNat_natCast]
        generalize hm : (min n ((x.length - i : Nat) : Int)).toNat = m
        have hmm : min n ((x.length - i : Nat) : Int) = (m : Int) := by omega
        rw [hmm]
        have hml : m ≤ x.length - i := by omega
        have hb1 : Blk (w.drewN nd) b _ := hb.drewN nd
        refine ⟨by omega, nnI ⟨i, hb1.at rfl, by unfold inI; omega, nnI (stC_at hb1 (by simp) fun w2 hb2 hk2 hsz2 => ?_)⟩⟩
        have hk02 : Kept (· = b) w w2 := (Kept.drewN _ w nd).trans hk2 (fun _ _ e => e)
        have hRb : ∀ k, R k → k ≠ b := fun k hk e => hR k hk ((hF k).2 (.inl e))
        have hrd2 : RdB w2 ea x.length ec x := hrd.keep0 hk02 (fun hne k hk e => hRb k (hRe hne k hk) e)
        have hcut : RdB w2 (adv ea i ec 1) m (ec - i) ((x.drop i).take m) := by
          have := RdS.cut hrd2 i (i + m) (by omega) (by omega)
          have e1 : i + m - i = m := by omega
          rw [e1] at this
          unfold RdB; rw [By_take, By_drop]
          have e2 : ((By x).take ((i + m) * 1)).drop (i * 1) = ((By x).drop i).take m := by
            rw [Nat.mul_one, Nat.mul_one, List.drop_take, e1]
          rw [e2] at this; exact this
        have hd : ((x.drop i).take m) = (x.drop i).take n.toNat := by
          by_cases hnx : n ≤ ((x.length - i : Nat) : Int)
          · have : m = n.toNat := by omega
            rw [this]
          · rw [List.take_of_length_le (by simp; omega), List.take_of_length_le (by simp; omega)]
        have hml2 : ((x.drop i).take n.toNat).length = m := by rw [← hd, List.length_take, List.length_drop]; omega
        rw [hd] at hcut
        refine condI (fun hall => ?_) (fun hsome => ?_)
        · -- the line's end
          have hmx : m = x.length - i := by
            have h3 : (m : Int) = ((x.length - i : Nat) : Int) := by simpa using hall
            omega
          refine nnI ⟨_, ll, lc, hb2.at rfl, ⟨by omega, by omega⟩, nnI (stC_at hb2 (by simp) fun w3 hb3 hk3 hsz3 => nnI (stC_at hb3 (by simp) fun w4 hb4 hk4 hsz4 => ?_))⟩
          have hk24 : Kept (· = b) w2 w4 := hk3.trans hk4 (fun _ _ e => e)
          have hk04 : Kept (· = b) w w4 := hk02.trans hk24 (fun _ _ e => e)
          refine (clone_ok (hcut.keep0 hk24 (fun hne k hk e => hRb k (hRe (fun e => hne (by rw [e]; simp)) k (inA_adv.1 hk)) e)) (by omega)).mono fun v w5 ⟨a5, c5, hv5, ho5, hk5, hf5, _⟩ => ⟨a5, m, c5, hv5, ?_⟩
          have e : readT n (x.drop i :: r) = (0, (x.drop i).take n.toNat, r) := by
            unfold readT; rw [if_neg hn]; simp only; rw [if_pos (by simp; omega)]
          rw [e]
          have hk05 := hk04.no hk5
          refine ⟨a5, c5, by rw [hml2], ho5, fun k hk => by have := hf5 k hk; have := hk04.size; omega, hk05, ?_⟩
          refine ⟨adv (some q) 1 lc 1, ll - 1, lc - 1, 0, sa, sl, sc, r, (by exact hb4.keep hk5 (fun e => e)), ?_, ?_, ?_, hna, hs, hF, hR, fun k hk => Nat.lt_of_lt_of_le (hlt k hk) hk05.size, by simp at h1; omega, fun y hy => h2 y (by simp [hy])⟩
          · have := (hl.from 1 (by omega)).keep hk05 (fun k hk e => hRb k hk e)
            simpa using this
          · cases r with
            | nil => exact .inl ⟨rfl, rfl⟩
            | cons y r => exact .inr ⟨y, r, rfl, Nat.zero_le _, rfl⟩
          · exact ho.keep hk05 (fun k hk e => hna (e ▸ hk))
        · have hmx : ¬ m = x.length - i := by
            have h3 : ¬ (m : Int) = ((x.length - i : Nat) : Int) := by simpa using hsome
            omega
          refine (clone_ok hcut (by omega)).mono fun v w5 ⟨a5, c5, hv5, ho5, hk5, hf5, _⟩ => ⟨a5, m, c5, hv5, ?_⟩
          have e : readT n (x.drop i :: r) = (0, (x.drop i).take n.toNat, (x.drop i).drop n.toNat :: r) := by
            unfold readT; rw [if_neg hn]; simp only; rw [if_neg (by simp; omega)]
          rw [e]
          have hk05 := hk02.no hk5
          refine ⟨a5, c5, by rw [hml2], ho5, fun k hk => by have := hf5 k hk; have := hk02.size; omega, hk05, ?_⟩
          refine ⟨some q, ll, lc, i + m, sa, sl, sc, x :: r, (by exact hb2.keep hk5 (fun e => e)), hl.keep hk05 (fun k hk e => hRb k hk e), .inr ⟨x, r, rfl, by omega, ?_⟩, ho.keep hk05 (fun k hk e => hna (e ▸ hk)), hna, hs, hF, hR, fun k hk => Nat.lt_of_lt_of_le (hlt k hk) hk05.size, h1, h2⟩
          have : m = n.toNat := by omega
          rw [List.drop_drop, this]
def writeT (ds scr : List Int) : Int × List Int := if 1048576 < scr.length + ds.length then (31, scr) else (0, scr ++ ds)
theorem twrite_ok {F R : Nat → Prop} {w : World} {b : Nat} {LL : List (List Int)} {scr : List Int} (h : TermO F R w b LL scr) {a2 : Option Addr} {l2 c2 : Nat} {ds : List Int} (hd : RdB w a2 l2 c2 ds) (hl2 : l2 ≤ 140737488355328) :
    CallR Tryz.prog 252 [ptt b, .slice a2 l2 c2] w fun v w' => v = .int .i64 (writeT ds scr).1 ∧ ∃ F', TermO F' R w' b LL (writeT ds scr).2 ∧ (∀ k, F' k → F k ∨ w.heap.size ≤ k) ∧ Kept F w w' := by
  have ht := h
  obtain ⟨la, ll, lc, i, sa, sl, sc, raw, hb, hl, hc, ho, hna, hs, hF, hR, hlt, h1, h2⟩ := h
  have hsl := ho.len
  have hdl := hd.len
  refine C252 ?_
  unfold L252
  refine condF rfl (nnI ⟨true, hb.at0 rfl, condF rfl (nnI ⟨sa, sl, sc, hb.at rfl, by unfold inI; omega, condP (fun hfull => ?_) (fun hfit => ?_)⟩)⟩)
  · have e : writeT ds scr = (31, scr) := by unfold writeT; rw [if_pos (by omega)]
    rw [e]; exact ⟨rfl, F, ht, fun k hk => .inl hk, Kept.refl _ _⟩
  · have e : writeT ds scr = (0, scr ++ ds) := by unfold writeT; rw [if_neg (by omega)]
    rw [e]
    obtain ⟨a', c', w2, hrun, hs2, hk, hat, _⟩ := run_app_sl (P := Tryz.prog) (t := 40) (t2 := 40) (ty := 40) (by kernel_rfl : slTyB Tryz.prog 40 1 1 = true) (by kernel_rfl) ho hd (By_one ds) (by omega) (by omega)
    refine nnI ⟨sa, sl, sc, hb.at rfl, _, _, _, w2, hrun, nnI ?_⟩
    have hna' : ¬ inA a' b := fun hin => by
      rcases hat.in hin with hin | hin
      · exact hna hin
      · have := hb.lt; omega
    refine stC_at (hb.keep hk hna) (by simp) fun w3 hb3 hk3 hsz3 => ⟨rfl, fun k => k = b ∨ inA a' k, ?_, fun k hk' => ?_, (hk.mono fun x _ e => (hF x).2 (.inr e)).trans hk3 (fun x _ e => (hF x).2 (.inl e))⟩
    · have hkF : Kept F w w3 := (hk.mono fun x _ e => (hF x).2 (.inr e)).trans hk3 (fun x _ e => (hF x).2 (.inl e))
      refine ⟨la, ll, lc, i, a', sl + l2, c', raw, hb3, hl.keep hkF hR, hc, ?_, hna', by simp; omega, fun k => Iff.rfl, fun k hk' e => ?_, fun k hk' => Nat.lt_of_lt_of_le (hlt k hk') hkF.size, h1, h2⟩
      · rw [← By_append] at hs2; exact SlO.keep hs2 hk3 (fun k hk' e => hna' (e ▸ hk'))
      · rcases e with e | e
        · exact hR k hk' ((hF k).2 (.inl e))
        · rcases hat.in e with e | e
          · exact hR k hk' ((hF k).2 (.inr e))
          · have := hlt k hk'; omega
    · rcases hk' with rfl | hk'
      · exact .inl ((hF _).2 (.inl rfl))
      · rcases hat.in hk' with hin | rfl
        · exact .inl ((hF _).2 (.inr hin))
        · exact .inr (Nat.le_refl _)
theorem tscreen_ok {F R : Nat → Prop} {w : World} {b : Nat} {LL : List (List Int)} {scr : List Int} (h : TermO F R w b LL scr) :
    CallR Tryz.prog 183 [ptt b] w fun v w' => ∃ a' c', v = .slice a' scr.length c' ∧ OB w' a' scr.length c' scr ∧ Fresh w a' ∧ Kept No w w' := by
  obtain ⟨la, ll, lc, i, sa, sl, sc, raw, hb, hl, hc, ho, hna, hs, hF, hR, hlt, h1, h2⟩ := h
  have hsl := ho.len
  subst hsl
  refine C183 ?_
  unfold L183
  obtain ⟨w1, hrun1, hs1, hk1, hsz1⟩ := run_mk (P := Tryz.prog) (t := 40) tyB' (w := w) (k := .i64) (k' := .i64) (n := scr.length) (m := scr.length) (Nat.le_refl _) (by omega) (by omega)
  refine condF rfl (nnI ⟨sa, _, sc, hb.at rfl, _, _, _, w1, hrun1, nnI ⟨sa, _, sc, (hb.keep hk1 (fun e => e)).at rfl, ?_⟩⟩)
  obtain ⟨w2, hrun2, hs2, hk2, hsz2, _⟩ := run_copy_own (P := Tryz.prog) (t := 40) (t2 := 40) (ty := 3) (by kernel_rfl : slTyB Tryz.prog 40 1 1 = true) hs1 (ho.keep hk1 (fun _ _ e => e)).rd (By_one scr)
  refine ⟨_, w2, hrun2, _, _, rfl, ?_, fun k hk => by rw [inA_some] at hk; omega, hk1.fresh hk2 (fun k hk => by rw [inA_some] at hk; omega)⟩
  have e : over (Builtin.zeroCells (Value.int .u8 0).cells scr.length).toList ((By scr).take (min scr.length scr.length * 1)) 0 = By scr := by
    have hz : (Builtin.zeroCells (Value.int .u8 0).cells scr.length).toList = By (List.replicate scr.length 0) := By_zeros _
    rw [Nat.min_self, Nat.mul_one, hz]
    have hf : (By scr).take scr.length = By scr := List.take_of_length_le (by simp)
    rw [hf]
    unfold over
    rw [List.drop_of_length_le (by simp)]
    simp
  rw [e] at hs2
  exact hs2
end Go.Proofs.YtpoaacnnhgebfaaGreat
namespace Go.Proofs.YtpoaacnnhgebfaaGreat
open Go.Lw
def okN (n : Int) : Bool := decide (0 ≤ n ∧ n ≤ 1048576)
theorem within_ok {w : World} {a : Option Addr} {l c : Nat} {ns : List Int} (h : RdS 1 w a l c (In ns)) (hl : l ≤ 140737488355328) :
    CallR Tryz.prog 195 [.slice a l c] w fun v w' => v = .bool (ns.all okN) ∧ w' = w := by
  refine C195 ?_
  unfold L195
  have hlen : ns.length = l := by have := h.1; simpa using this
  refine ⟨fun vs w' => w' = w ∧ ∃ n : Nat, vs = [.int .i64 (n : Int)] ∧ n ≤ ns.length ∧ (ns.take n).all okN = true, fun vs _ => l - ix vs, ⟨rfl, 0, rfl, Nat.zero_le _, by simp⟩, fun _ n4 w1 hI => ?_⟩
  obtain ⟨rfl, n, hv, hn, hall⟩ := hI
  simp only [List.cons.injEq, Value.int.injEq, true_and, and_true] at hv
  subst hv
  refine condP (fun hlt => ?_) (fun hge => ?_)
  · have hlt' : n < ns.length := by omega
    refine ⟨⟨by omega, hlt⟩, ?_⟩
    cases a with
    | none => obtain ⟨h1, _, _⟩ := RdS.isNone h rfl; omega
    | some q =>
      have hg := h.2.2.2 q rfl n _ (In_get ns n hlt')
      refine ⟨_, by simpa using hg, ?_⟩
      have hsplit : ns.all okN = ((ns.take n).all okN && (okN ns[n] && (ns.drop (n + 1)).all okN)) := by
        rw [← List.all_cons, ← List.drop_eq_getElem_cons hlt', ← List.all_append, List.take_append_drop]
      refine condP (fun hneg => ⟨?_, rfl⟩) (fun hneg => condP (fun hbig => ⟨?_, rfl⟩) (fun hbig => ⟨by unfold inI; omega, ⟨rfl, n + 1, by simp, by omega, ?_⟩, ?_⟩))
      · rw [hsplit]; have : okN ns[n] = false := by unfold okN; simp; omega
        simp [this]
      · rw [hsplit]; have : okN ns[n] = false := by unfold okN; simp; omega
        simp [this]
      · rw [List.take_add_one]; simp only [List.getElem?_eq_getElem hlt', Option.toList_some, List.all_append, hall, Bool.true_and]
        have : okN ns[n] = true := by unfold okN; simp; omega
        simp [this]
      · simp only [ix]; omega
  · have : n = ns.length := by omega
    subst this
    rw [List.take_length] at hall
    exact ⟨by rw [hall], rfl⟩
def FileO (F : Nat → Prop) (w : World) (b : Nat) (bs : List Int) : Prop :=
  ∃ a l c, Blk w b #[.bool true, .slice a l c] ∧ OB w a l c bs ∧ ¬ inA a b ∧ bs.length ≤ 1048576 ∧ ∀ k, F k ↔ k = b ∨ inA a k
theorem FileO.keep {F S : Nat → Prop} {w w' : World} {b : Nat} {bs : List Int} (h : FileO F w b bs) (k : Kept S w w') (hn : ∀ k, F k → ¬ S k) : FileO F w' b bs := by
  obtain ⟨a, l, c, hb, ho, hna, hl, hF⟩ := h
  exact ⟨a, l, c, hb.keep k (hn b ((hF b).2 (.inl rfl))), ho.keep k fun x hx => hn x ((hF x).2 (.inr hx)), hna, hl, hF⟩
theorem FileO.lt {F : Nat → Prop} {w : World} {b : Nat} {bs : List Int} (h : FileO F w b bs) : ∀ k, F k → k < w.heap.size := by
  obtain ⟨a, l, c, hb, ho, hna, hl, hF⟩ := h
  intro k hk
  rcases (hF k).1 hk with rfl | hk
  · exact hb.lt
  · exact SlO.lt ho k hk
theorem FileO.len {F : Nat → Prop} {w : World} {b : Nat} {bs : List Int} (h : FileO F w b bs) : bs.length ≤ 1048576 := by
  obtain ⟨a, l, c, hb, ho, hna, hl, hF⟩ := h; exact hl
theorem grow_ok {F : Nat → Prop} {w : World} {b : Nat} {bs : List Int} (h : FileO F w b bs) {n : Nat} (hn : n ≤ 1048576) :
    CallR Tryz.prog 196 [pt b, .int .i64 (n : Int)] w fun v w' => v = .tuple #[] ∧ ∃ F', FileO F' w' b (grown bs n) ∧ Grew F w F' ∧ Kept F w w' := by
  obtain ⟨a, l, c, hb, ho, hna, hbl, hF⟩ := h
  have hlen := ho.len
  refine C196 ?_
  unfold L196
  refine nnI ⟨a, l, c, hb.at rfl, condP (fun hgt => ?_) (fun hle => ?_)⟩
  · intro w1
    have hk1 : Kept No w w1 := Kept.drew _ w
    refine nnI ⟨a, l, c, hb.drew.at rfl, nnI ⟨a, l, c, hb.drew.at rfl, by unfold inI; omega, ?_⟩⟩
    have hnl : (n : Int) - (l : Int) = ((n - l : Nat) : Int) := by omega
    rw [hnl]
    obtain ⟨a', c', w2, hrun, hs, hk, hat, hnn⟩ := run_app_zeros (P := Tryz.prog) (t := 40) (t2 := 3) (ty := 40) tyB (by kernel_rfl) (w := w1) ho.drew (k := .i64) (m := n - l) (by intro u hu; simp [Value.cells] at hu; subst hu; rfl) (by omega) (by omega)
    refine ⟨a', _, c', w2, hrun, nnI ?_⟩
    have hb2 : Blk w2 b #[.bool true, .slice a l c] := hb.drew.keep hk hna
    have hna' : ¬ inA a' b := fun hin => by
      rcases hat.in hin with hin | hin
      · exact hna hin
      · have := hb.lt; have : w1.heap.size = w.heap.size := rfl; omega
    refine stC_at hb2 (by simp) fun w3 hb3 hk3 hsz => ⟨rfl, fun k => k = b ∨ inA a' k, ⟨a', _, c', hb3, ?_, hna', ?_, fun k => Iff.rfl⟩, fun k hk' => ?_, ?_⟩
    · have hs3 := SlO.keep hs hk3 (fun x hx e => hna' (e ▸ hx))
      have e1 : By bs ++ (Builtin.zeroCells (Value.int .u8 0).cells (n - l)).toList = By (grown bs n) := by
        show By bs ++ (Builtin.zeroCells #[.int .u8 0] (n - l)).toList = _
        rw [By_zeros, ← By_append, grown, hlen]
      rw [e1] at hs3
      exact hs3
    · simp [grown]; omega
    · rcases hk' with rfl | hk'
      · exact .inl ((hF _).2 (.inl rfl))
      · rcases hat.in hk' with hin | rfl
        · exact .inl ((hF _).2 (.inr hin))
        · exact .inr (Nat.le_refl _)
    · exact ((Kept.drew F w).trans hk (fun x _ e => (hF x).2 (.inr e))).trans hk3 (fun x _ e => (hF x).2 (.inl e))
  · have hg : grown bs n = bs := by unfold grown; rw [Nat.sub_eq_zero_of_le (by omega)]; simp
    rw [hg]
    exact ⟨rfl, F, ⟨a, l, c, hb, ho, hna, hbl, hF⟩, .same, Kept.refl _ _⟩
theorem finew_ok {w : World} {a : Option Addr} {l c : Nat} {bs : List Int} (h : RdB w a l c bs) (hl : l ≤ 140737488355328) :
    CallR Tryz.prog 54 [.slice a l c] w fun v w' => (1048576 < bs.length ∧ v = .tuple #[.pointer none, .int .i64 5] ∧ w' = w) ∨
      (bs.length ≤ 1048576 ∧ ∃ b F, v = .tuple #[pt b, .int .i64 0] ∧ FileO F w' b bs ∧ Kept No w w' ∧ ∀ k, F k → w.heap.size ≤ k) := by
  have hlen := h.len
  refine C54 ?_
  unfold L54
  refine condP (fun hgt => .inl ⟨by omega, rfl, rfl⟩) (fun hle => ?_)
  refine (clone_ok h hl).mono fun v w1 ⟨a', c', hv, ho, hk, hf, _⟩ => ⟨a', l, c', hv, ?_⟩
  intro w2
  have hlen' : bs.length ≤ 1048576 := by omega
  have hk2 : Kept No w1 w2 := Kept.alloc _ w1 _
  refine .inr ⟨hlen', w1.heap.size, fun k => k = w1.heap.size ∨ inA a' k, rfl, ⟨a', l, c', Blk.alloc w1 _ _, ?_, ?_, hlen', fun k => Iff.rfl⟩, hk.trans hk2 (fun _ _ h => h), fun k hk' => ?_⟩
  · rw [← hlen]; exact ho.keep hk2 (fun _ _ e => e)
  · intro hin; have := SlO.lt ho _ hin; omega
  · rcases hk' with rfl | hk'
    · exact hk.size
    · exact hf k hk'
theorem readAt_ok {F : Nat → Prop} {w : World} {b : Nat} {bs : List Int} (h : FileO F w b bs) (off n : Int) :
    CallR Tryz.prog 278 [pt b, .int .i64 off, .int .i64 n] w fun v w' => ∃ a' c' cs e, v = .tuple #[.slice a' cs.length c', .int .i64 e] ∧ OB w' a' cs.length c' cs ∧ Fresh w a' ∧ Kept No w w' ∧
      (okN off = true → okN n = true → e = 0 ∧ cs = piece bs off n) ∧ ((okN off && okN n) = false → e = 4 ∧ cs = []) := by
  obtain ⟨a, l, c, hb, ho, hna, hbl, hF⟩ := h
  have hlen := ho.len
  refine C278 ?_
  unfold L278
  refine condF rfl (nnI ⟨true, hb.at0 rfl, condF rfl ?_⟩)
  intro w1
  have hk1 : Kept No w w1 := Kept.alloc _ w _
  have hrd : RdS 1 w1 (some ⟨w.heap.size, 0, none⟩) 2 2 (In [off, n]) := (SlO.of_blk (sz := 1) (n := 2) (Blk.alloc w #[.int .i64 off, .int .i64 n] _) rfl).rd
  refine (within_ok hrd (by omega)).mono fun v w2 ⟨hv, hw⟩ => ⟨_, hv, ?_⟩
  subst hw
  have hall : [off, n].all okN = (okN off && okN n) := by simp
  rw [hall]
  refine condI (fun hno => ?_) (fun hyes => ?_)
  · have hno' : (okN off && okN n) = false := notT hno
    refine ⟨none, 0, [], 4, rfl, OB.nil _, Fresh.none _, hk1, fun h1 h2 => ?_, fun _ => ⟨rfl, rfl⟩⟩
    rw [h1, h2] at hno'; cases hno'
  · have hyes' : (okN off && okN n) = true := notF hyes
    simp only [Bool.and_eq_true] at hyes'
    have ho1 : 0 ≤ off ∧ off ≤ 1048576 := by simpa [okN] using hyes'.1
    have ho2 : 0 ≤ n ∧ n ≤ 1048576 := by simpa [okN] using hyes'.2
    have hb1 : Blk w1 b _ := hb.keep hk1 (fun e => e)
    refine nnI ⟨a, l, c, hb1.at rfl, ?_⟩
    intro w3
    refine nnI ⟨a, l, c, hb1.at rfl, by simp only [mn_eq]; unfold inI; omega, nnI ⟨a, l, c, hb1.at rfl, ?_⟩⟩
    have hlc : l ≤ c := ho.rd.2.1
    simp only [mn_eq]
    refine ⟨by omega, by omega, ?_⟩
    have ho3 : RdB w3 a l c bs := RdB.keep ho.rd (hk1.trans (Kept.drew No _) (fun _ _ e => e)) (fun _ _ _ e => e)
    generalize hi : Int.toNat (min off (l : Int)) = i
    generalize hj : Int.toNat (min (min off (l : Int) + n) (l : Int)) = j
    have hij : i ≤ j := by omega
    have hjl : j ≤ l := by omega
    have hcut : RdB w3 (adv a i c 1) (j - i) (c - i) ((bs.take j).drop i) := by
      have := RdS.cut ho3 i j hij hjl
      unfold RdB; rw [By_drop, By_take]; simpa using this
    refine (clone_ok hcut (by omega)).mono fun v w4 ⟨a', c', hv, ho4, hk, hf, _⟩ => ⟨a', _, c', hv, ?_⟩
    have hcl := hcut.len
    refine ⟨a', c', _, 0, by rw [hcl], ho4, ?_, (hk1.trans (Kept.drew No _) (fun _ _ e => e)).trans hk (fun _ _ e => e), fun _ _ => ⟨rfl, ?_⟩, fun hno => by have := notF hyes; rw [this] at hno; cases hno⟩
    · intro x hx
      have h1 := hf x hx
      have h2 : w.heap.size ≤ w3.heap.size := (hk1.trans (Kept.drew No _) (fun _ _ e => e)).size
      omega
    · unfold piece
      rw [List.drop_take]
      by_cases hol : off ≤ l
      · have : i = off.toNat := by omega
        subst this
        by_cases hol2 : off + n ≤ l
        · have : j - off.toNat = n.toNat := by omega
          rw [this]
        · rw [List.take_of_length_le (by simp; omega), List.take_of_length_le (by simp; omega)]
      · rw [List.drop_of_length_le (by omega), List.drop_of_length_le (by omega)]; simp
def writeF (bs : List Int) (off : Int) (ds : List Int) : Int × List Int :=
  if okN off = false then (4, bs) else if 1048576 - off < (ds.length : Int) then (31, bs) else if ds.length = 0 then (0, bs) else (0, lay bs off.toNat ds)
theorem writeAt_ok {F : Nat → Prop} {w : World} {b : Nat} {bs : List Int} (h : FileO F w b bs) (off : Int) {a2 : Option Addr} {l2 c2 : Nat} {ds : List Int} (hd : RdB w a2 l2 c2 ds) (hl2 : l2 ≤ 140737488355328) (hap : ds ≠ [] → ∀ k, inA a2 k → ¬ F k) :
    CallR Tryz.prog 280 [pt b, .int .i64 off, .slice a2 l2 c2] w fun v w' => v = .int .i64 (writeF bs off ds).1 ∧ ∃ F', FileO F' w' b (writeF bs off ds).2 ∧ Grew F w F' ∧ Kept F w w' := by
  have hfo := h
  obtain ⟨a, l, c, hb, ho, hna, hbl, hF⟩ := h
  have hlen2 := hd.len
  refine C280 ?_
  unfold L280
  refine condF rfl (nnI ⟨true, hb.at0 rfl, condF rfl ?_⟩)
  intro w1
  have hk1 : Kept No w w1 := Kept.alloc _ w _
  have hrd : RdS 1 w1 (some ⟨w.heap.size, 0, none⟩) 1 1 (In [off]) := (SlO.of_blk (sz := 1) (n := 1) (Blk.alloc w #[.int .i64 off] _) rfl).rd
  refine (within_ok hrd (by omega)).mono fun v w2 ⟨hv, hw⟩ => ⟨_, hv, ?_⟩
  subst hw
  have hall : [off].all okN = okN off := by simp
  rw [hall]
  have hkF : Kept F w w1 := hk1.mono (fun _ _ e => e.elim)
  have hsame : FileO F w1 b bs := hfo.keep hk1 (fun _ _ e => e)
  have done : ∀ e : Int, writeF bs off ds = (e, bs) → (.int .i64 e : Value) = .int .i64 (writeF bs off ds).1 ∧ ∃ F', FileO F' w1 b (writeF bs off ds).2 ∧ Grew F w F' ∧ Kept F w w1 := fun e he => by
    rw [he]; exact ⟨rfl, F, hsame, .same, hkF⟩
  refine condI (fun hno => done 4 ?_) (fun hyes => ?_)
  · have : okN off = false := notT hno
    simp [writeF, this]
  · have hyes' : okN off = true := notF hyes
    have ho1 : 0 ≤ off ∧ off ≤ 1048576 := by simpa [okN] using hyes'
    refine ⟨by unfold inI; omega, condP (fun hfull => done 31 ?_) (fun hfit => condI (fun hz => done 0 ?_) (fun hnz => ⟨by unfold inI; omega, ?_⟩))⟩
    · have h1 : 1048576 - off < (ds.length : Int) := by rw [hlen2]; omega
      simp [writeF, hyes', h1]
    · have hz' : l2 = 0 := by simpa using hz
      have h1 : ¬ (1048576 - off < (ds.length : Int)) := by rw [hlen2]; omega
      have h2 : ds = [] := List.eq_nil_of_length_eq_zero (by omega)
      have h3 : ¬ (1048576 - off < 0) := by omega
      subst h2
      simp [writeF, hyes', h3]
    · have hnz' : ¬ l2 = 0 := by simpa using hnz
      have hsum : off + (l2 : Int) = ((off.toNat + l2 : Nat) : Int) := by omega
      rw [hsum]
      refine (grow_ok hsame (n := off.toNat + l2) (by omega)).mono fun v w3 ⟨hv, F3, hf3, hg3, hk3⟩ => ⟨hv, ?_⟩
      have hf3' := hf3
      obtain ⟨a3, l3, c3, hb3, ho3, hna3, hbl3, hF3⟩ := hf3'
      have hlen3 := ho3.len
      have hgl : (grown bs (off.toNat + l2)).length = max bs.length (off.toNat + l2) := by simp [grown]; omega
      refine nnI ⟨a3, l3, c3, hb3.at rfl, by omega, ?_⟩
      have hd3 : RdB w3 a2 l2 c2 ds := (hd.keep hk1 (fun _ _ _ e => e)).keep hk3 (fun x hx hin hFx => by
        exact hap (fun e => by rw [e] at hlen2; simp at hlen2; omega) x hin hFx)
      have hsub : SlO 1 w3 (adv a3 off.toNat c3 1) (l3 - off.toNat) (c3 - off.toNat) (By ((grown bs (off.toNat + l2)).drop off.toNat)) := OB.from ho3 off.toNat (by omega)
      obtain ⟨w4, hrun, hs4, hk4, hsz4, hcur⟩ := run_copy_own (P := Tryz.prog) (t := 40) (t2 := 40) (ty := 3) (by kernel_rfl : slTyB Tryz.prog 40 1 1 = true) hsub hd3 (By_one ds)
      refine ⟨_, w4, hrun, ?_⟩
      have h1 : ¬ (1048576 - off < (ds.length : Int)) := by rw [hlen2]; omega
      have hw : writeF bs off ds = (0, lay bs off.toNat ds) := by
        unfold writeF
        rw [if_neg (by rw [hyes']; simp), if_neg h1, if_neg (by omega)]
      rw [hw]
      have hmin : min l2 (l3 - off.toNat) = l2 := by omega
      refine ⟨rfl, F3, ⟨a3, l3, c3, hb3.keep hk4 (fun e => hna3 (inA_adv.1 e)), ?_, hna3, ?_, hF3⟩, ?_, ?_⟩
      · -- the bytes
        rcases ho3.2 with ⟨rfl, rfl, rfl⟩ | ⟨g, o, cur, rfl, hgb, hlc, hcs, htk⟩
        · exfalso; omega
        · have hadv : adv (some ⟨g, o, none⟩) off.toNat c3 1 = some ⟨g, o + off.toNat, none⟩ := by
            rw [adv_map _ _ _ _ (by omega)]; simp [add_none]
          have hb4 := hcur g (o + off.toNat) cur hadv hgb
          rw [hmin, Nat.mul_one, List.take_of_length_le (by simp; omega)] at hb4
          refine ⟨?_, .inr ⟨g, o, _, rfl, hb4, hlc, ?_, ?_⟩⟩
          · rw [By_length, Nat.mul_one, lay, over_length _ _ _ (by rw [hlen2]; omega), hlen2]; omega
          · simp only [List.size_toArray]
            rw [over_length _ _ _ (by simp; omega)]
            simpa using hcs
          · unfold lay
            rw [By_over, hlen2, ← htk, Nat.mul_one]
            exact over_window _ _ o l3 off.toNat (by simp; omega) (by simp; omega)
      · rw [lay, over_length _ _ _ (by rw [hlen2]; omega), hlen2]; omega
      · intro k hk
        rcases hg3 k hk with h | h
        · exact .inl h
        · right; have := hk1.size; omega
      · refine hkF.trans (hk3.trans (hk4.mono (S' := fun k => F k ∨ w1.heap.size ≤ k) fun x _ e => hg3 x ((hF3 x).2 (.inr (inA_adv.1 e)))) (fun x hx e => ?_)) (fun _ _ e => e)
        rcases e with e | e
        · exact e
        · omega
def truncF (bs : List Int) (n : Int) : Int × List Int :=
  if okN n = false then (4, bs) else (0, (grown bs n.toNat).take n.toNat)
theorem trunc_ok {F : Nat → Prop} {w : World} {b : Nat} {bs : List Int} (h : FileO F w b bs) (n : Int) :
    CallR Tryz.prog 124 [pt b, .int .i64 n] w fun v w' => v = .int .i64 (truncF bs n).1 ∧ ∃ F', FileO F' w' b (truncF bs n).2 ∧ Grew F w F' ∧ Kept F w w' := by
  have hfo := h
  obtain ⟨a, l, c, hb, ho, hna, hbl, hF⟩ := h
  refine C124 ?_
  unfold L124
  refine condF rfl (nnI ⟨true, hb.at0 rfl, condF rfl ?_⟩)
  intro w1
  have hk1 : Kept No w w1 := Kept.alloc _ w _
  have hrd : RdS 1 w1 (some ⟨w.heap.size, 0, none⟩) 1 1 (In [n]) := (SlO.of_blk (sz := 1) (n := 1) (Blk.alloc w #[.int .i64 n] _) rfl).rd
  refine (within_ok hrd (by omega)).mono fun v w2 ⟨hv, hw⟩ => ⟨_, hv, ?_⟩
  subst hw
  have hall : [n].all okN = okN n := by simp
  rw [hall]
  have hkF : Kept F w w1 := hk1.mono (fun _ _ e => e.elim)
  have hsame : FileO F w1 b bs := hfo.keep hk1 (fun _ _ e => e)
  refine condI (fun hno => ?_) (fun hyes => ?_)
  · have : okN n = false := notT hno
    have ht : truncF bs n = (4, bs) := by simp [truncF, this]
    rw [ht]; exact ⟨rfl, F, hsame, .same, hkF⟩
  · have hyes' : okN n = true := notF hyes
    have ho1 : 0 ≤ n ∧ n ≤ 1048576 := by simpa [okN] using hyes'
    have ht : truncF bs n = (0, (grown bs n.toNat).take n.toNat) := by simp [truncF, hyes']
    rw [ht]
    obtain ⟨m, rfl⟩ : ∃ m : Nat, n = (m : Int) := ⟨n.toNat, by omega⟩
    simp only [Int.toNat_natCast]
    refine (grow_ok hsame (n := m) (by omega)).mono fun v w3 ⟨hv, F3, hf3, hg3, hk3⟩ => ⟨hv, ?_⟩
    obtain ⟨a3, l3, c3, hb3, ho3, hna3, hbl3, hF3⟩ := hf3
    have hlen3 := ho3.len
    have hgl : (grown bs m).length = max bs.length m := by simp [grown]; omega
    have hlc3 : l3 ≤ c3 := ho3.rd.2.1
    refine nnI ⟨a3, l3, c3, hb3.at rfl, by omega, by omega, nnI (stC_at hb3 (by simp) fun w4 hb4 hk4 _ => ⟨trivial, F3, ⟨a3, m, m, hb4, ?_, hna3, by simp; omega, hF3⟩, ?_, ?_⟩)⟩
    · have := SlO.to3 ho3 m m (by omega) (Nat.le_refl _) (by omega)
      rw [Nat.mul_one, ← By_take] at this
      exact SlO.keep this hk4 (fun x hx e => hna3 (e ▸ hx))
    · intro k hk
      rcases hg3 k hk with h | h
      · exact .inl h
      · right; have := hk1.size; omega
    · refine hkF.trans (hk3.trans (hk4.mono (S' := fun k => F k ∨ w1.heap.size ≤ k) fun x _ e => hg3 x ((hF3 x).2 (.inl e))) (fun x hx e => ?_)) (fun _ _ e => e)
      rcases e with e | e
      · exact e
      · omega
theorem size_ok {F : Nat → Prop} {w : World} {b : Nat} {bs : List Int} (h : FileO F w b bs) :
    CallR Tryz.prog 178 [pt b] w fun v w' => v = .int .i64 (bs.length : Int) ∧ w' = w := by
  obtain ⟨a, l, c, hb, ho, hna, hbl, hF⟩ := h
  refine C178 ?_
  unfold L178
  exact condF rfl (nnI ⟨a, l, c, hb.at rfl, by rw [ho.len], rfl⟩)
theorem bytes_ok {F : Nat → Prop} {w : World} {b : Nat} {bs : List Int} (h : FileO F w b bs) :
    CallR Tryz.prog 181 [pt b] w fun v w' => ∃ a' c', v = .slice a' bs.length c' ∧ OB w' a' bs.length c' bs ∧ Fresh w a' ∧ Kept No w w' := by
  obtain ⟨a, l, c, hb, ho, hna, hbl, hF⟩ := h
  refine C181 ?_
  unfold L181
  have hlen := ho.len
  exact condF rfl (nnI ⟨a, l, c, hb.at rfl, (clone_ok ho.rd (by omega)).mono fun v w4 ⟨a', c', hv, ho4, hk, hf, _⟩ => ⟨a', _, c', hv, a', c', by rw [hlen], ho4, hf, hk⟩⟩)
end Go.Proofs.YtpoaacnnhgebfaaGreat
namespace Go.Proofs.YtpoaacnnhgebfaaGreat
open Go.Lw
theorem Blk.at2 {w : World} {g : Nat} {cur : Array Value} (h : Blk w g cur) {i j : Nat} {v : Value} (hi : cur[i + j]? = some v) : w.cell? (((⟨g, 0, none⟩ : Addr).add i).add j) = some v := by
  rw [Lw.add_add]; exact h.at hi
def PipeC (cur : Array Value) (bs : List Int) (e0 e1 : Nat) : Prop :=
  ∃ fr : Nat, cur.size = 4101 ∧ cur[4096]? = some (.int .i64 (fr : Int)) ∧ cur[4097]? = some (.int .i64 (bs.length : Int)) ∧ cur[4098]? = some (.bool true) ∧ cur[4099]? = some (.int .i64 (e0 : Int)) ∧ cur[4100]? = some (.int .i64 (e1 : Int)) ∧
    fr < 4096 ∧ bs.length ≤ 4096 ∧ e0 ≤ 1024 ∧ e1 ≤ 1024 ∧ ∀ (i : Nat) (x : Int), bs[i]? = some x → cur[(fr + i) % 4096]? = some (.int .u8 x)
def PipeO (w : World) (b : Nat) (bs : List Int) (e0 e1 : Nat) : Prop := ∃ cur, Blk w b cur ∧ PipeC cur bs e0 e1
theorem PipeO.keep {S : Nat → Prop} {w w' : World} {b : Nat} {bs : List Int} {e0 e1 : Nat} (h : PipeO w b bs e0 e1) (k : Kept S w w') (hn : ¬ S b) : PipeO w' b bs e0 e1 := by
  obtain ⟨cur, hb, hc⟩ := h; exact ⟨cur, hb.keep k hn, hc⟩
theorem PipeO.lt {w : World} {b : Nat} {bs : List Int} {e0 e1 : Nat} (h : PipeO w b bs e0 e1) : b < w.heap.size := by
  obtain ⟨cur, hb, hc⟩ := h; exact hb.lt
theorem PipeO.len {w : World} {b : Nat} {bs : List Int} {e0 e1 : Nat} (h : PipeO w b bs e0 e1) : bs.length ≤ 4096 := by
  obtain ⟨cur, hb, fr, _, _, _, _, _, _, _, h, _⟩ := h; exact h
theorem knone_to {w : World} {b : Nat} {bs : List Int} {e0 e1 : Nat} (h : PipeO w b bs e0 e1) {Q : Value → World → Prop} (hq : Q (.bool false) w) : CallR Tryz.prog 193 [pt b] w Q := by
  obtain ⟨cur, hb, fr, hsz, h1, h2, h3, h4, h5, h6, h7, h8, h9, h10⟩ := h
  refine C193 ?_
  unfold L193
  exact condF rfl (nnI ⟨true, hb.at h3, hq⟩)
theorem kroom_to {w : World} {b : Nat} {bs : List Int} {e0 e1 : Nat} (h : PipeO w b bs e0 e1) {Q : Value → World → Prop} (hq : Q (.int .i64 (4096 - (bs.length : Int))) w) : CallR Tryz.prog 258 [pt b] w Q := by
  obtain ⟨cur, hb, fr, hsz, h1, h2, h3, h4, h5, h6, h7, h8, h9, h10⟩ := h
  refine C258 ?_
  unfold L258
  exact nnI ⟨_, hb.at h2, by unfold inI; omega, hq⟩
def takesP (len : Nat) (n : Int) : Int := if n ≤ 512 ∧ 4096 - (len : Int) < n then 0 else min n (4096 - (len : Int))
theorem ktakes_to {w : World} {b : Nat} {bs : List Int} {e0 e1 : Nat} (h : PipeO w b bs e0 e1) (n : Int) {Q : Value → World → Prop} (hq : Q (.int .i64 (takesP bs.length n)) w) : CallR Tryz.prog 256 [pt b, .int .i64 n] w Q := by
  refine C256 ?_
  unfold L256
  refine condP (fun h1 => nnI (kroom_to h ⟨_, rfl, condP (fun h2 => ?_) (fun h2 => nnI (kroom_to h ⟨_, rfl, ?_⟩))⟩)) (fun h1 => nnI (kroom_to h ⟨_, rfl, ?_⟩))
  · have : takesP bs.length n = 0 := by unfold takesP; rw [if_pos ⟨h1, h2⟩]
    rw [this] at hq; exact hq
  · have : takesP bs.length n = min n (4096 - (bs.length : Int)) := by unfold takesP; rw [if_neg (by omega)]
    rw [this] at hq; rw [mn_eq]; exact hq
  · have : takesP bs.length n = min n (4096 - (bs.length : Int)) := by unfold takesP; rw [if_neg (by omega)]
    rw [this] at hq; rw [mn_eq]; exact hq
theorem tmod4096 {a : Nat} : Int.tmod ((a : Nat) : Int) 4096 = ((a % 4096 : Nat) : Int) := by
  rw [Int.tmod_eq_emod_of_nonneg (by omega)]; omega
theorem klook_ok {w : World} {b : Nat} {bs : List Int} {e0 e1 : Nat} (h : PipeO w b bs e0 e1) {k : Nat} (hk : k ≤ bs.length) :
    CallR Tryz.prog 208 [pt b, .int .i64 (k : Int)] w fun v w' => ∃ a c, v = .slice a k c ∧ OB w' a k c (bs.take k) ∧ Fresh w a ∧ Kept No w w' := by
  have hbl := h.len
  have hlt := h.lt
  refine C208 ?_
  unfold L208
  obtain ⟨w1, hrun, hs1, hk1, hsz1⟩ := run_mk (P := Tryz.prog) (t := 40) tyB (w := w) (k := .i64) (k' := .i64) (n := k) (m := k) (Nat.le_refl _) (by omega) (by omega)
  have hs1 : OB w1 (some ⟨w.heap.size, 0, none⟩) k k (List.replicate k 0) := by
    have e : (Builtin.zeroCells (Value.int .u8 0).cells k).toList = By (List.replicate k 0) := By_zeros k
    rw [e] at hs1; exact hs1
  refine ⟨_, _, _, w1, hrun, ?_⟩
  refine ⟨fun vs w' => ∃ i : Nat, vs = [.int .i64 (i : Int)] ∧ i ≤ k ∧ OB w' (some ⟨w.heap.size, 0, none⟩) k k (bs.take i ++ List.replicate (k - i) 0) ∧ Kept No w w', fun vs _ => match vs with | [.int _ i] => (k - i).toNat | _ => 0,
    ⟨0, rfl, Nat.zero_le _, by simpa using hs1, hk1⟩, ?_⟩
  intro _ n6 w2 hI
  obtain ⟨i, hvs, hi, ho, hk2⟩ := hI
  simp only [List.cons.injEq, Value.int.injEq, true_and, and_true] at hvs
  subst hvs
  refine condP (fun hlt' => ?_) (fun hge => ?_)
  · have hik : i < k := by omega
    intro w3
    have hk3 : Kept No w2 w3 := Kept.drew _ _
    have ho3 : OB w3 (some ⟨w.heap.size, 0, none⟩) k k (bs.take i ++ List.replicate (k - i) 0) := ho
    clear_value w3
    obtain ⟨cur, hb, fr, hsz, h1, h2, h3, h4, h5, h6, h7, h8, h9, h10⟩ := h.keep (hk2.no hk3) (fun e => e)
    have hmod : Int.tmod ((fr : Int) + (i : Int)) 4096 = (((fr + i) % 4096 : Nat) : Int) := by
      have : (fr : Int) + (i : Int) = ((fr + i : Nat) : Int) := by omega
      rw [this]; exact tmod4096
    have hib : i < bs.length := by omega
    have hm := Nat.mod_lt (fr + i) (show 0 < 4096 by decide)
    refine nnI ⟨_, hb.at h1, by unfold inI; omega, by decide, nnI ⟨by rw [hmod]; omega, bs[i], ?_, ⟨by omega, by omega⟩, nnI ?_⟩⟩
    · rw [hmod, Int.toNat_natCast]; exact hb.at (h10 i _ (by simp [hib]))
    refine stC_slo (j := i) ho3 rfl hik fun w4 ho4 hk4 hsz4 => ⟨by unfold inI; omega, ⟨i + 1, rfl, by omega, ?_, (hk2.no hk3).fresh hk4 (fun x hx => by rw [inA_some] at hx; omega)⟩, ?_⟩
    · rw [By_set] at ho4
      have e : (bs.take i ++ List.replicate (k - i) 0).set i bs[i] = bs.take (i + 1) ++ List.replicate (k - (i + 1)) 0 := by
        refine ext_getD (by simp; omega) fun j hj => ?_
        have htl : (bs.take i).length = i := by rw [List.length_take]; omega
        have htl1 : (bs.take (i + 1)).length = i + 1 := by rw [List.length_take]; omega
        simp only [List.getD_eq_getElem?_getD]
        by_cases hji : j = i
        · subst hji
          rw [List.getElem?_set_self (by simp; omega), List.getElem?_append_left (by omega), List.getElem?_take, if_pos (by omega), List.getElem?_eq_getElem hib]
        · rw [List.getElem?_set_ne (by omega)]
          by_cases hj2 : j < i
          · rw [List.getElem?_append_left (by omega), List.getElem?_append_left (by omega), List.getElem?_take, List.getElem?_take, if_pos hj2, if_pos (by omega)]
          · rw [List.getElem?_append_right (by omega), List.getElem?_append_right (by omega), List.getElem?_replicate, List.getElem?_replicate, htl, htl1]
            split <;> split <;> rfl
      rw [e] at ho4; exact ho4
    · show ((k : Int) - ((i : Int) + 1)).toNat < ((k : Int) - (i : Int)).toNat
      omega
  · have : i = k := by omega
    subst this
    rw [Nat.sub_self] at ho
    exact ⟨_, _, rfl, by simpa using ho, fun x hx => by rw [inA_some] at hx; omega, hk2⟩
theorem kdrop_ok {w : World} {b : Nat} {bs : List Int} {e0 e1 : Nat} (h : PipeO w b bs e0 e1) {k : Nat} (hk : k ≤ bs.length) :
    CallR Tryz.prog 255 [pt b, .int .i64 (k : Int)] w fun v w' => v = .tuple #[] ∧ PipeO w' b (bs.drop k) e0 e1 ∧ Kept (· = b) w w' := by
  obtain ⟨cur, hb, fr, hsz, h1, h2, h3, h4, h5, h6, h7, h8, h9, h10⟩ := h
  refine C255 ?_
  unfold L255
  have hmod : Int.tmod ((fr : Int) + (k : Int)) 4096 = (((fr + k) % 4096 : Nat) : Int) := by
    have : (fr : Int) + (k : Int) = ((fr + k : Nat) : Int) := by omega
    rw [this]; exact tmod4096
  have hm := Nat.mod_lt (fr + k) (show 0 < 4096 by decide)
  refine nnI ⟨_, hb.at h1, by unfold inI; omega, by decide, nnI (stC_at hb (by omega) fun w1 hb1 hk1 _ => nnI ⟨_, hb1.at (by rw [Array.getElem?_setIfInBounds_ne (by decide)]; exact h2), by unfold inI; omega, nnI (stC_at hb1 (by simp; omega) fun w2 hb2 hk2 _ => ⟨rfl, ⟨_, hb2, (fr + k) % 4096, ?_⟩, hk1.trans hk2 fun _ _ e => e⟩)⟩)⟩
  rw [hmod]
  refine ⟨by simp [hsz], ?_, ?_, ?_, ?_, ?_, hm, by simp; omega, h8, h9, fun i x hx => ?_⟩
  · rw [Array.getElem?_setIfInBounds_ne (by decide), Array.getElem?_setIfInBounds_self_of_lt (by omega)]
  · rw [Array.getElem?_setIfInBounds_self_of_lt (by simp; omega), List.length_drop]; congr 2; omega
  · rw [Array.getElem?_setIfInBounds_ne (by decide), Array.getElem?_setIfInBounds_ne (by decide)]; exact h3
  · rw [Array.getElem?_setIfInBounds_ne (by decide), Array.getElem?_setIfInBounds_ne (by decide)]; exact h4
  · rw [Array.getElem?_setIfInBounds_ne (by decide), Array.getElem?_setIfInBounds_ne (by decide)]; exact h5
  · have hm2 := Nat.mod_lt ((fr + k) % 4096 + i) (show 0 < 4096 by decide)
    rw [Array.getElem?_setIfInBounds_ne (by omega), Array.getElem?_setIfInBounds_ne (by omega)]
    rw [List.getElem?_drop] at hx
    have := h10 (k + i) x hx
    have e : ((fr + k) % 4096 + i) % 4096 = (fr + (k + i)) % 4096 := by omega
    rw [e]; exact this
theorem kput_ok {w : World} {b : Nat} {bs : List Int} {e0 e1 : Nat} (h : PipeO w b bs e0 e1) {a : Option Addr} {l c : Nat} {ds : List Int} (hd : RdB w a l c ds) (hab : ds ≠ [] → ¬ inA a b) (hl : bs.length + l ≤ 4096) :
    CallR Tryz.prog 257 [pt b, .slice a l c] w fun v w' => v = .tuple #[] ∧ PipeO w' b (bs ++ ds) e0 e1 ∧ Kept (· = b) w w' := by
  refine C257 ?_
  unfold L257
  have hlen := hd.len
  refine ⟨fun vs w' => ∃ i : Nat, vs = [.int .i64 (i : Int)] ∧ i ≤ l ∧ PipeO w' b (bs ++ ds.take i) e0 e1 ∧ Kept (· = b) w w', fun vs _ => l - ix vs, ⟨0, rfl, Nat.zero_le _, by simpa using h, Kept.refl _ _⟩, ?_⟩
  intro _ n5 w1 hI
  obtain ⟨i, hvs, hi, hp, hk⟩ := hI
  simp only [List.cons.injEq, Value.int.injEq, true_and, and_true] at hvs
  subst hvs
  refine condP (fun hlt => ?_) (fun hge => ?_)
  · have hid : i < ds.length := by omega
    obtain ⟨q, ha, hg⟩ := (hd.keep hk (fun x _ hx e => hab (by rintro rfl; simp at hid) (e ▸ hx))).get hid
    subst ha
    refine ⟨⟨by omega, hlt⟩, nnI ⟨_, by rw [Int.toNat_natCast]; exact hg, ?_⟩⟩
    intro w2
    have hk2 : Kept No w1 w2 := Kept.drew _ _
    have hp2 : PipeO w2 b (bs ++ ds.take i) e0 e1 := hp
    clear_value w2
    obtain ⟨cur, hb, fr, hsz, h1, h2, h3, h4, h5, h6, h7, h8, h9, h10⟩ := hp2
    have hL : (bs ++ ds.take i).length = bs.length + i := by rw [List.length_append, List.length_take]; omega
    rw [hL] at h2
    have hmod : Int.tmod ((fr : Int) + ((bs.length + i : Nat) : Int)) 4096 = (((fr + (bs.length + i)) % 4096 : Nat) : Int) := by
      have : (fr : Int) + ((bs.length + i : Nat) : Int) = ((fr + (bs.length + i) : Nat) : Int) := by omega
      rw [this]; exact tmod4096
    have hm := Nat.mod_lt (fr + (bs.length + i)) (show 0 < 4096 by decide)
    refine nnI ⟨_, hb.at h1, nnI ⟨_, hb.at h2, by unfold inI; omega, by decide, nnI ⟨by rw [hmod]; omega, ?_⟩⟩⟩
    rw [hmod, Int.toNat_natCast]
    refine stC_at hb (by omega) fun w3 hb3 hk3 _ => nnI ⟨_, hb3.at (by rw [Array.getElem?_setIfInBounds_ne (by omega)]; exact h2), by unfold inI; omega, nnI (stC_at hb3 (by simp; omega) fun w4 hb4 hk4 _ => ⟨by unfold inI; omega, ⟨i + 1, by simp, by omega, ⟨_, hb4, fr, ?_⟩, ((hk.no hk2).trans hk3 fun _ _ e => e).trans hk4 fun _ _ e => e⟩, by simp only [ix]; omega⟩)⟩
    have hT : bs ++ ds.take (i + 1) = (bs ++ ds.take i) ++ [ds[i]] := by
      rw [List.take_add_one, List.getElem?_eq_getElem hid, Option.toList_some, List.append_assoc]
    rw [hT]
    refine ⟨by simp [hsz], ?_, ?_, ?_, ?_, ?_, h6, by rw [List.length_append, hL]; simp; omega, h8, h9, fun j x hx => ?_⟩
    · rw [Array.getElem?_setIfInBounds_ne (by decide), Array.getElem?_setIfInBounds_ne (by omega)]; exact h1
    · rw [Array.getElem?_setIfInBounds_self_of_lt (by simp; omega), List.length_append, hL]; congr 2
    · rw [Array.getElem?_setIfInBounds_ne (by decide), Array.getElem?_setIfInBounds_ne (by omega)]; exact h3
    · rw [Array.getElem?_setIfInBounds_ne (by decide), Array.getElem?_setIfInBounds_ne (by omega)]; exact h4
    · rw [Array.getElem?_setIfInBounds_ne (by decide), Array.getElem?_setIfInBounds_ne (by omega)]; exact h5
    · have hjl : j < bs.length + i + 1 := by
        have := (List.getElem?_eq_some_iff.mp hx).1
        rw [List.length_append, hL] at this; simpa using this
      have hmj := Nat.mod_lt (fr + j) (show 0 < 4096 by decide)
      rw [Array.getElem?_setIfInBounds_ne (by omega)]
      by_cases hj : j = bs.length + i
      · subst hj
        rw [Array.getElem?_setIfInBounds_self_of_lt (by omega)]
        rw [List.getElem?_append_right (by omega), hL, Nat.sub_self] at hx
        simp at hx; rw [hx]
      · rw [Array.getElem?_setIfInBounds_ne (by omega)]
        rw [List.getElem?_append_left (by omega)] at hx
        exact h10 j x hx
  · have : i = l := by omega
    subst this
    rw [List.take_of_length_le (by omega)] at hp
    exact ⟨rfl, hp, hk⟩
end Go.Proofs.YtpoaacnnhgebfaaGreat
namespace Go.Proofs.YtpoaacnnhgebfaaGreat
open Go.Lw
def leaveP (wr : Bool) (e0 e1 : Nat) : Int × Nat × Nat :=
  if wr then (if e1 = 0 then (51, e0, e1) else (0, e0, e1 - 1)) else (if e0 = 0 then (51, e0, e1) else (0, e0 - 1, e1))
def readP (n : Int) (bs : List Int) (e0 e1 : Nat) : List Int × Int × List Int :=
  if n < 1 ∨ n > 1048576 then ([], 4, bs) else if e0 = 0 then ([], 51, bs) else if bs = [] ∧ e1 > 0 then ([], 52, bs) else (bs.take n.toNat, 0, bs.drop n.toNat)
def wtk (n : Nat) (most : Int) (len : Nat) : Int := if n > 512 then min (takesP len n) most else takesP len n
def writeP (ds : List Int) (most : Int) (bs : List Int) (e0 e1 : Nat) : Int × Int × List Int :=
  if ds.length > 1048576 then (0, 5, bs) else if most < 1 ∨ most > 1048576 then (0, 4, bs) else if e1 = 0 then (0, 51, bs) else if e0 = 0 then (0, 53, bs) else if ds = [] then (0, 0, bs) else
    if takesP bs.length ds.length = 0 then (0, 52, bs) else (wtk ds.length most bs.length, 0, bs ++ ds.take (wtk ds.length most bs.length).toNat)
def canRP (bs : List Int) (e0 e1 : Nat) : Bool := decide (0 < e0 ∧ (0 < bs.length ∨ e1 = 0))
def canWP (n : Int) (bs : List Int) (e0 e1 : Nat) : Bool := decide (0 < e1 ∧ n ≥ 1 ∧ n ≤ 1048576 ∧ (e0 = 0 ∨ takesP bs.length n > 0))
theorem kends_to {w : World} {b : Nat} {bs : List Int} {e0 e1 : Nat} (h : PipeO w b bs e0 e1) {Q : Value → World → Prop} (hq : ∀ nd, Q (.tuple #[.int .i64 (e0 : Int), .int .i64 (e1 : Int)]) (w.drewN nd)) : CallR Tryz.prog 265 [pt b] w Q := by
  refine C265 ?_
  unfold L265
  refine knone_to h ⟨false, rfl, condF rfl ?_⟩
  obtain ⟨cur, hb, fr, hsz, h1, h2, h3, h4, h5, h6, h7, h8, h9, h10⟩ := h
  exact nnI ⟨by decide, _, Blk.at2 hb h4, nnI ⟨by decide, _, Blk.at2 hb h5, hq⟩⟩
theorem kcanr_to {w : World} {b : Nat} {bs : List Int} {e0 e1 : Nat} (h : PipeO w b bs e0 e1) {Q : Value → World → Prop} (hq : Q (.bool (canRP bs e0 e1)) w) : CallR Tryz.prog 204 [pt b] w Q := by
  refine C204 ?_
  unfold L204
  refine knone_to h ⟨false, rfl, condT rfl ?_⟩
  obtain ⟨cur, hb, fr, hsz, h1, h2, h3, h4, h5, h6, h7, h8, h9, h10⟩ := h
  refine nnI ⟨by decide, _, Blk.at2 hb h4, condP (fun g => nnI ⟨_, hb.at h2, condP (fun g2 => ?_) (fun g2 => nnI ⟨by decide, _, Blk.at2 hb h5, ?_⟩)⟩) (fun g => ?_)⟩
  · have e : canRP bs e0 e1 = true := by unfold canRP; simp only [decide_eq_true_eq]; omega
    rw [e] at hq; exact hq
  · have e : canRP bs e0 e1 = ((e1 : Int) == 0) := by
      unfold canRP; rw [Bool.eq_iff_iff]; simp only [decide_eq_true_eq, beq_iff_eq]; omega
    rw [e] at hq; exact hq
  · have e : canRP bs e0 e1 = false := by unfold canRP; simp only [decide_eq_false_iff_not]; omega
    rw [e] at hq; exact hq
theorem kcanw_to {w : World} {b : Nat} {bs : List Int} {e0 e1 : Nat} (h : PipeO w b bs e0 e1) (n : Int) {Q : Value → World → Prop} (hq : Q (.bool (canWP n bs e0 e1)) w) : CallR Tryz.prog 266 [pt b, .int .i64 n] w Q := by
  refine C266 ?_
  unfold L266
  refine knone_to h ⟨false, rfl, condT rfl ?_⟩
  have h' := h
  obtain ⟨cur, hb, fr, hsz, h1, h2, h3, h4, h5, h6, h7, h8, h9, h10⟩ := h'
  refine nnI ⟨by decide, _, Blk.at2 hb h5, condP (fun g => condP (fun g2 => condP (fun g3 => nnI ⟨by decide, _, Blk.at2 hb h4, condI (fun g4 => ?_) (fun g4 => ktakes_to h n ⟨_, rfl, ?_⟩)⟩) (fun g3 => ?_)) (fun g2 => ?_)) (fun g => ?_)⟩
  · simp only [beq_iff_eq] at g4
    have e : canWP n bs e0 e1 = true := by unfold canWP; simp only [decide_eq_true_eq]; omega
    rw [e] at hq; exact hq
  · simp only [beq_eq_false_iff_ne] at g4
    have e : canWP n bs e0 e1 = decide (takesP bs.length n > 0) := by
      unfold canWP; rw [Bool.eq_iff_iff]; simp only [decide_eq_true_eq]; omega
    rw [e] at hq; exact hq
  all_goals
    have e : canWP n bs e0 e1 = false := by unfold canWP; simp only [decide_eq_false_iff_not]; omega
    rw [e] at hq; exact hq
theorem kread_ok {w : World} {b : Nat} {bs : List Int} {e0 e1 : Nat} (h : PipeO w b bs e0 e1) (n : Int) :
    CallR Tryz.prog 253 [pt b, .int .i64 n] w fun v w' => ∃ a l c, v = .tuple #[.slice a l c, .int .i64 (readP n bs e0 e1).2.1] ∧ OB w' a l c (readP n bs e0 e1).1 ∧ Fresh w a ∧ PipeO w' b (readP n bs e0 e1).2.2 e0 e1 ∧ Kept (· = b) w w' := by
  refine C253 ?_
  unfold L253
  have hbad : ∀ {k : Int}, readP n bs e0 e1 = ([], k, bs) → ∃ a l c, Value.tuple #[.slice none 0 0, .int .i64 k] = .tuple #[.slice a l c, .int .i64 (readP n bs e0 e1).2.1] ∧ OB w a l c (readP n bs e0 e1).1 ∧ Fresh w a ∧ PipeO w b (readP n bs e0 e1).2.2 e0 e1 ∧ Kept (· = b) w w := by
    intro k e; rw [e]; exact ⟨none, 0, 0, rfl, OB.nil w, Fresh.none w, h, Kept.refl _ _⟩
  refine knone_to h ⟨false, rfl, condF rfl (condP (fun g => hbad ?_) fun g => condP (fun g2 => hbad ?_) fun g2 => ?_)⟩
  · unfold readP; rw [if_pos (by omega)]
  · unfold readP; rw [if_pos (by omega)]
  have h' := h
  obtain ⟨cur, hb, fr, hsz, h1, h2, h3, h4, h5, h6, h7, h8, h9, h10⟩ := h'
  refine nnI ⟨by decide, _, Blk.at2 hb h4, condI (fun g3 => hbad ?_) (fun g3 => kcanr_to h ⟨_, rfl, condI (fun g4 => hbad ?_) (fun g4 => ?_)⟩)⟩
  · simp only [beq_iff_eq] at g3
    unfold readP; rw [if_neg (by omega), if_pos (by omega)]
  · simp only [beq_eq_false_iff_ne] at g3
    have g4 := notT g4
    unfold canRP at g4; simp only [decide_eq_false_iff_not] at g4
    have hb0 : bs = [] := List.eq_nil_of_length_eq_zero (by omega)
    unfold readP; rw [if_neg (by omega), if_neg (by omega), if_pos ⟨hb0, by omega⟩]
  · simp only [beq_eq_false_iff_ne] at g3
    have g4 := notF g4
    unfold canRP at g4; simp only [decide_eq_true_eq] at g4
    have e : readP n bs e0 e1 = (bs.take n.toNat, 0, bs.drop n.toNat) := by
      unfold readP; rw [if_neg (by omega), if_neg (by omega), if_neg]
      rintro ⟨rfl, _⟩; simp at g4; omega
    rw [e]
    have hmn : mn n (bs.length : Int) = ((min n.toNat bs.length : Nat) : Int) := by rw [mn_eq]; omega
    refine nnI ⟨_, hb.at h2, nnI ?_⟩
    rw [hmn]
    refine (klook_ok h (Nat.min_le_right _ _)).mono fun v w3 ⟨a, c, hv, ho, hf, hk⟩ => ⟨a, _, c, hv, nnI ((kdrop_ok (h.keep hk (fun e => e)) (Nat.min_le_right _ _)).mono fun v w4 ⟨hv4, hp4, hk4⟩ => ⟨hv4, a, _, c, rfl, ?_, hf, ?_, (hk.mono fun _ _ e => e.elim).trans hk4 fun _ _ e => e⟩)⟩
    · have := ho.keep hk4 (fun x hx e => by have := hf x hx; have := h.lt; omega)
      rw [show bs.take (min n.toNat bs.length) = bs.take n.toNat by rw [List.take_eq_take_iff]; omega] at this
      exact this
    · have e2 : bs.drop (min n.toNat bs.length) = bs.drop n.toNat := by
        rcases Nat.le_total n.toNat bs.length with hle | hle
        · rw [Nat.min_eq_left hle]
        · rw [Nat.min_eq_right hle, List.drop_length, List.drop_of_length_le hle]
      rw [e2] at hp4; exact hp4
theorem kwrite_ok {w : World} {b : Nat} {bs : List Int} {e0 e1 : Nat} (h : PipeO w b bs e0 e1) {a : Option Addr} {l c : Nat} {ds : List Int} (hd : RdB w a l c ds) (hab : ds ≠ [] → ¬ inA a b) (hcl : l ≤ c) (most : Int) :
    CallR Tryz.prog 254 [pt b, .slice a l c, .int .i64 most] w fun v w' => v = .tuple #[.int .i64 (writeP ds most bs e0 e1).1, .int .i64 (writeP ds most bs e0 e1).2.1] ∧ PipeO w' b (writeP ds most bs e0 e1).2.2 e0 e1 ∧ Kept (· = b) w w' := by
  refine C254 ?_
  unfold L254
  have hlen := hd.len
  have hbl := h.len
  have hbad : ∀ {k : Int}, writeP ds most bs e0 e1 = (0, k, bs) → Value.tuple #[.int .i64 0, .int .i64 k] = .tuple #[.int .i64 (writeP ds most bs e0 e1).1, .int .i64 (writeP ds most bs e0 e1).2.1] ∧ PipeO w b (writeP ds most bs e0 e1).2.2 e0 e1 ∧ Kept (· = b) w w := by
    intro k e; rw [e]; exact ⟨rfl, h, Kept.refl _ _⟩
  refine knone_to h ⟨false, rfl, condF rfl (condP (fun g => hbad ?_) fun g => condP (fun g2 => hbad ?_) fun g2 => condP (fun g3 => hbad ?_) fun g3 => ?_)⟩
  · unfold writeP; rw [if_pos (by omega)]
  · unfold writeP; rw [if_neg (by omega), if_pos (by omega)]
  · unfold writeP; rw [if_neg (by omega), if_pos (by omega)]
  have h' := h
  obtain ⟨cur, hb, fr, hsz, h1, h2, h3, h4, h5, h6, h7, h8, h9, h10⟩ := h'
  refine nnI ⟨by decide, _, Blk.at2 hb h5, condI (fun g4 => hbad ?_) (fun g4 => nnI ⟨by decide, _, Blk.at2 hb h4, condI (fun g5 => hbad ?_) (fun g5 => condI (fun g6 => hbad ?_) (fun g6 => ktakes_to h _ ⟨_, rfl, condI (fun g7 => hbad ?_) (fun g7 => ?_)⟩))⟩)⟩
  · simp only [beq_iff_eq] at g4
    unfold writeP; rw [if_neg (by omega), if_neg (by omega), if_pos (by omega)]
  all_goals simp only [beq_eq_false_iff_ne] at g4
  · simp only [beq_iff_eq] at g5
    unfold writeP; rw [if_neg (by omega), if_neg (by omega), if_neg (by omega), if_pos (by omega)]
  all_goals simp only [beq_eq_false_iff_ne] at g5
  · simp only [beq_iff_eq] at g6
    have : ds = [] := List.eq_nil_of_length_eq_zero (by omega)
    unfold writeP; rw [if_neg (by omega), if_neg (by omega), if_neg (by omega), if_neg (by omega), if_pos this]
  all_goals simp only [beq_eq_false_iff_ne] at g6
  all_goals have hne : ds ≠ [] := by rintro rfl; simp at hlen; omega
  · simp only [beq_iff_eq] at g7
    unfold writeP; rw [if_neg (by omega), if_neg (by omega), if_neg (by omega), if_neg (by omega), if_neg hne, if_pos (by rw [hlen]; exact g7)]
  simp only [beq_eq_false_iff_ne] at g7
  have e : writeP ds most bs e0 e1 = (wtk l most bs.length, 0, bs ++ ds.take (wtk l most bs.length).toNat) := by
    unfold writeP; rw [if_neg (by omega), if_neg (by omega), if_neg (by omega), if_neg (by omega), if_neg hne, if_neg (by rw [hlen]; exact g7), hlen]
  rw [e]
  have ht0 : 0 ≤ takesP bs.length l ∧ takesP bs.length l ≤ l ∧ (bs.length : Int) + takesP bs.length l ≤ 4096 := by unfold takesP; split <;> omega
  have hfin : ∀ {k : Int}, k = wtk l most bs.length → 0 ≤ k → k ≤ l → (bs.length : Int) + k ≤ 4096 → (0 ≤ k ∧ k ≤ (c : Int)) ∧ CallR Tryz.prog 257 [pt b, .slice a k.toNat c] w.drew fun r13 w4 => r13 = .tuple #[] ∧ (Value.tuple #[.int .i64 k, .int .i64 0] = .tuple #[.int .i64 (wtk l most bs.length), .int .i64 0] ∧ PipeO w4 b (bs ++ ds.take (wtk l most bs.length).toNat) e0 e1 ∧ Kept (· = b) w w4) := by
    intro k hk hk0 hkl hkr
    subst hk
    refine ⟨⟨hk0, by omega⟩, ?_⟩
    have hp : PipeO w.drew b bs e0 e1 := h
    have hd' : RdB w.drew a (wtk l most bs.length).toNat c (ds.take (wtk l most bs.length).toNat) := RdB.to (w := w.drew) (a := a) (l := l) (c := c) (bs := ds) (RdS.drew hd) (wtk l most bs.length).toNat (by omega)
    refine (kput_ok hp hd' (fun _ => hab hne) (by omega)).mono fun v w' ⟨hv, hp', hk'⟩ => ⟨hv, rfl, hp', (Kept.drew (· = b) w).trans hk' fun _ _ e => e⟩
  refine condP (fun g8 => nnI (hfin ?_ ?_ ?_ ?_)) (fun g8 => nnI (hfin ?_ ?_ ?_ ?_))
  · unfold wtk; rw [if_pos (by omega), mn_eq]
  · rw [mn_eq]; omega
  · rw [mn_eq]; omega
  · rw [mn_eq]; omega
  · unfold wtk; rw [if_neg (by omega)]
  · omega
  · omega
  · omega
end Go.Proofs.YtpoaacnnhgebfaaGreat
namespace Go.Proofs.YtpoaacnnhgebfaaGreat
open Go.Lw
theorem nnE2 {p : Option Addr} {q : Addr} {K : Addr → Prop} (h : p = some q) (hk : K q) : nn p K := by subst h; exact hk
theorem condN {a b : Int} {A B : Prop} (ha : a ≠ b → A) (hb : a = b → B) : cond (a != b) A B := condI (fun h => ha (by simpa using h)) (fun h => hb (by simpa using h))
def Nv (es : List (ByteArray × Slc)) : List Value := es.flatMap fun e => [.string e.1, .slice e.2.1 e.2.2.1 e.2.2.2]
theorem Nv_len : ∀ es : List (ByteArray × Slc), (Nv es).length = es.length * 2
  | [] => rfl
  | f :: r => by
    have := Nv_len r
    show (_ :: _ :: Nv r).length = _
    simp only [List.length_cons, this]
    omega
theorem Nv_at : ∀ {es : List (ByteArray × Slc)} {i : Nat} (h : i < es.length), (Nv es)[i * 2]? = some (.string es[i].1) ∧ (Nv es)[i * 2 + 1]? = some (.slice es[i].2.1 es[i].2.2.1 es[i].2.2.2)
  | [], i, h => by simp at h
  | f :: r, 0, h => ⟨rfl, rfl⟩
  | f :: r, i + 1, h => by
    have := Nv_at (es := r) (i := i) (by simpa using h)
    rw [show (i + 1) * 2 = i * 2 + 2 by omega]
    exact this
structure RdN {α : Type} (R : World → Slc → α → Prop) (w : World) (a : Option Addr) (l c : Nat) (fs : List (ByteArray × α)) (es : List (ByteArray × Slc)) : Prop where
  rd : RdS 2 w a l c (Nv es)
  len : es.length = fs.length
  each : ∀ i, (h : i < es.length) → (h2 : i < fs.length) → es[i].1 = fs[i].1 ∧ R w es[i].2 fs[i].2
theorem RdN.no {α : Type} {R : World → Slc → α → Prop} (hR : ∀ w w' s x, R w s x → Kept No w w' → R w' s x) {w w' : World} {a : Option Addr} {l c : Nat} {fs : List (ByteArray × α)} {es : List (ByteArray × Slc)} (h : RdN R w a l c fs es) (k : Kept No w w') : RdN R w' a l c fs es :=
  ⟨h.rd.keep k fun _ _ _ e => e, h.len, fun i h1 h2 => ⟨(h.each i h1 h2).1, hR _ _ _ _ (h.each i h1 h2).2 k⟩⟩
theorem RdN.at {α : Type} {R : World → Slc → α → Prop} {w : World} {a : Option Addr} {l c : Nat} {fs : List (ByteArray × α)} {es : List (ByteArray × Slc)} (h : RdN R w a l c fs es) {i : Nat} (hi : i < fs.length) :
    ∃ q s, a = some q ∧ w.cell? (q.add (i * 2)) = some (.string fs[i].1) ∧ w.cell? ((q.add (i * 2)).add 1) = some (.slice s.1 s.2.1 s.2.2) ∧ R w s fs[i].2 ∧ i < l := by
  have he : i < es.length := by rw [h.len]; exact hi
  obtain ⟨e1, e2⟩ := Nv_at he
  have hl : es.length = l := by have := h.rd.1; rw [Nv_len] at this; omega
  cases ha : a with
  | none => have := RdS.isNone h.rd ha; omega
  | some q =>
    refine ⟨q, es[i].2, rfl, ?_, ?_, (h.each i he hi).2, by omega⟩
    · rw [← (h.each i he hi).1]; exact h.rd.2.2.2 q ha _ _ e1
    · rw [Lw.add_add]; exact h.rd.2.2.2 q ha _ _ e2
def RB (w : World) (s : Slc) (bs : List Int) : Prop := RdB w s.1 s.2.1 s.2.2 bs
def RL (w : World) (s : Slc) (LL : List (List Int)) : Prop := RdL (fun _ => True) w s.1 s.2.1 s.2.2 LL ∧ ∀ x ∈ LL, x.length ≤ 140737488355328
def ckFs : List (ByteArray × List Int) → List ByteArray → Int × List ByteArray
  | [], seen => (0, seen)
  | f :: r, seen => if freshK seen f.1 ≠ 0 then (freshK seen f.1, seen) else if 1048576 < f.2.length then (5, seen ++ [f.1]) else ckFs r (seen ++ [f.1])
def ckTs : List (ByteArray × List (List Int)) → List ByteArray → Int × List ByteArray
  | [], seen => (0, seen)
  | f :: r, seen => if freshK seen f.1 ≠ 0 then (freshK seen f.1, seen) else if newT f.2 ≠ 0 then (newT f.2, seen ++ [f.1]) else ckTs r (seen ++ [f.1])
def checkK (fs : List (ByteArray × List Int)) (ts : List (ByteArray × List (List Int))) (ps : List (Int × Int)) : Int :=
  if 256 < fs.length + ts.length then 3 else if (ckFs fs []).1 ≠ 0 then (ckFs fs []).1 else if (ckTs ts (ckFs fs []).2).1 ≠ 0 then (ckTs ts (ckFs fs []).2).1 else ckF ps
theorem ckFs_cons {f : ByteArray × List Int} {r : List (ByteArray × List Int)} {seen : List ByteArray} : ckFs (f :: r) seen = if freshK seen f.1 ≠ 0 then (freshK seen f.1, seen) else if 1048576 < f.2.length then (5, seen ++ [f.1]) else ckFs r (seen ++ [f.1]) := rfl
theorem ckTs_cons {f : ByteArray × List (List Int)} {r : List (ByteArray × List (List Int))} {seen : List ByteArray} : ckTs (f :: r) seen = if freshK seen f.1 ≠ 0 then (freshK seen f.1, seen) else if newT f.2 ≠ 0 then (newT f.2, seen ++ [f.1]) else ckTs r (seen ++ [f.1]) := rfl
theorem RB.no {w w' : World} {s : Slc} {bs : List Int} (h : RB w s bs) (k : Kept No w w') : RB w' s bs := RdB.keep h k fun _ _ _ e => e
theorem RL.no {w w' : World} {s : Slc} {LL : List (List Int)} (h : RL w s LL) (k : Kept No w w') : RL w' s LL := ⟨RdL.keep h.1 k fun _ _ e => e, h.2⟩
theorem newPair {w : World} {e : TypeId} {v0 v1 u0 u1 : Value} {K : World → Prop} (hk : ∀ w', Blk w' w.heap.size #[v0, v1] → Kept No w w' → w.heap.size < w'.heap.size → K w') :
    stC (Addr.mk w.heap.size 0 none) v0 (w.alloc (.cells #[u0, u1] e)) fun w1 => stC (Addr.mk w.heap.size 1 none) v1 w1 K := by
  have hb : Blk (w.alloc (.cells #[u0, u1] e)) w.heap.size #[u0, u1] := Blk.alloc _ _ _
  have hk1 : Kept No w (w.alloc (.cells #[u0, u1] e)) := Kept.alloc _ _ _
  refine stC_blk hb (by simp) fun w2 h2 k2 s2 => stC_blk h2 (by simp) fun w3 h3 k3 s3 => ?_
  have h3' : Blk w3 w.heap.size #[v0, v1] := by simpa using h3
  exact hk w3 h3' ((hk1.fresh k2 (fun x e => by omega)).fresh k3 (fun x e => by omega)) h3'.lt
set_option maxHeartbeats 1000000 in
theorem kcheck_ok {w : World} {af : Option Addr} {lf cf : Nat} {fs : List (ByteArray × List Int)} {ef : List (ByteArray × Slc)} (hf : RdN RB w af lf cf fs ef) {at_ : Option Addr} {lt ct : Nat} {ts : List (ByteArray × List (List Int))} {et : List (ByteArray × Slc)} (ht : RdN RL w at_ lt ct ts et)
    {ap : Option Addr} {lp cp : Nat} {ps : List (Int × Int)} (hp : RdS 2 w ap lp cp (Fv ps)) (hlf : lf ≤ 140737488355328) (hlt : lt ≤ 140737488355328) :
    CallR Tryz.prog 12 [.agg #[.slice af lf cf, .slice at_ lt ct, .slice ap lp cp]] w fun v w' => v = .int .i64 (checkK fs ts ps) ∧ Kept No w w' := by
  refine C12 ?_
  unfold L12
  have hfl : fs.length = lf := by have := hf.rd.1; rw [Nv_len, hf.len] at this; omega
  have htl : ts.length = lt := by have := ht.rd.1; rw [Nv_len, ht.len] at this; omega
  intro w1
  have hb1 : Blk w1 w.heap.size #[.slice af lf cf, .slice at_ lt ct, .slice ap lp cp] := Blk.alloc _ _ _
  have hk1 : Kept No w w1 := Kept.alloc _ _ _
  clear_value w1
  refine ⟨_, _, _, (hb1.cell 0).trans rfl, _, _, _, (hb1.cell 1).trans rfl, ⟨by omega, by omega⟩, condP (fun hgt => ⟨by unfold checkK; rw [if_pos (by omega)], hk1⟩) (fun hle => ?_)⟩
  intro w2 w3
  have hm2 : MapO w2 w1.heap.size .string (seenM []) := MapO.new w1 _
  have hk2 : Kept No w1 w2 := Kept.alloc _ _ _
  clear_value w2
  have hbS : Blk w3 w2.heap.size #[.map none] := Blk.alloc _ _ _
  have hk3 : Kept No w2 w3 := Kept.alloc _ _ _
  clear_value w3
  have hz1 := hb1.lt
  have hz2 := hm2.lt
  have hz3 := hbS.lt
  refine stC_blk hbS (by simp) fun w4 hbS4 hk4 _ => ?_
  have hbS4 : Blk w4 w2.heap.size #[.map (some w1.heap.size)] := by simpa using hbS4
  have hm4 : MapO w4 w1.heap.size .string (seenM []) := (hm2.keep hk3 fun e => e).keep hk4 (by omega)
  have hb4 : Blk w4 w.heap.size #[.slice af lf cf, .slice at_ lt ct, .slice ap lp cp] := ((hb1.keep hk2 fun e => e).keep hk3 fun e => e).keep hk4 (by omega)
  have k4 : Kept No w w4 := ((hk1.no hk2).no hk3).fresh hk4 (fun x e => by omega)
  have hgr : w2.heap.size ≠ w1.heap.size := by omega
  have nok : checkK fs ts ps = if (ckFs fs []).1 ≠ 0 then (ckFs fs []).1 else if (ckTs ts (ckFs fs []).2).1 ≠ 0 then (ckTs ts (ckFs fs []).2).1 else ckF ps := by unfold checkK; rw [if_neg (by omega)]
  rw [nok]
  refine ⟨_, _, _, (hb4.cell 0).trans rfl, ?_⟩
  refine ⟨fun vs w' => ∃ (i : Nat) (seen : List ByteArray), vs = [.int .i64 (i : Int)] ∧ i ≤ lf ∧ ckFs fs [] = ckFs (fs.drop i) seen ∧ MapO w' w1.heap.size .string (seenM seen) ∧ Blk w' w2.heap.size #[.map (some w1.heap.size)] ∧ Blk w' w.heap.size #[.slice af lf cf, .slice at_ lt ct, .slice ap lp cp] ∧ Kept No w w' ∧ w4.heap.size ≤ w'.heap.size,
    fun vs _ => lf - ix vs, ⟨0, [], rfl, by omega, rfl, hm4, hbS4, hb4, k4, Nat.le_refl _⟩, ?_⟩
  intro _ n9 w5 hI
  obtain ⟨i, seen, hvs, hi, hck, hm5, hbS5, hb5, k5, hz5⟩ := hI
  simp only [List.cons.injEq, Value.int.injEq, true_and, and_true] at hvs
  subst hvs
  have hz4 : w3.heap.size ≤ w4.heap.size := hk4.size
  refine condP (fun hlt => ?_) (fun hge => ?_)
  · have hi' : i < fs.length := by omega
    obtain ⟨q, sl, haq, e1, e2, hR, _⟩ := (hf.no (fun _ _ _ _ h k => h.no k) k5).at hi'
    rw [List.drop_eq_getElem_cons hi', ckFs_cons] at hck
    refine ⟨⟨by omega, by omega⟩, nnE2 haq ⟨fs[i].1, sl.1, sl.2.1, sl.2.2, by simpa using e1, by simpa using e2, ?_⟩⟩
    refine newPair fun w8 hb8 hk8 hz8 => ⟨_, (hb8.cell 0).trans rfl, 61, #[], _, rfl, by kernel_rfl, ?_⟩
    have k8 := k5.no hk8
    refine CallR.mono (fresh_ok (hbS5.keep hk8 fun e => e) (hm5.keep hk8 fun e => e) hgr fs[i].1) ?_
    rintro v w9 ⟨rfl, hm9, hk9⟩
    have k9 : Kept No w w9 := k8.fresh hk9 (fun x e => by omega)
    refine ⟨_, rfl, condN (fun hne => ?_) (fun he => ?_)⟩
    · rw [if_pos hne] at hck
      refine ⟨?_, k9⟩
      rw [hck, if_pos hne]
    · rw [if_neg (by omega)] at hck
      refine ⟨_, _, _, ((hb8.keep hk9 (by omega)).cell 1).trans rfl, ?_⟩
      have hsl : fs[i].2.length = sl.2.1 := RdB.len hR
      refine condP (fun hbig => ?_) (fun hsm => ?_)
      · rw [if_pos (by omega)] at hck
        refine ⟨?_, k9⟩
        rw [hck, if_pos (by dsimp only; omega)]
      · rw [if_neg (by omega)] at hck
        have hz9 : w8.heap.size ≤ w9.heap.size := hk9.size
        refine ⟨⟨by omega, by omega⟩, ⟨i + 1, seen ++ [fs[i].1], rfl, by omega, hck, hm9 he, (hbS5.keep hk8 fun e => e).keep hk9 (by omega), (hb5.keep hk8 fun e => e).keep hk9 (by omega), k9, by omega⟩, ?_⟩
        simp only [ix]; omega
  · have hil : i = fs.length := by omega
    rw [List.drop_of_length_le (by omega)] at hck
    have hck : ckFs fs [] = (0, seen) := hck
    rw [hck, if_neg (by dsimp only; omega)]
    refine ⟨_, _, _, (hb5.cell 1).trans rfl, ?_⟩
    refine ⟨fun vs w' => ∃ (j : Nat) (seen2 : List ByteArray), vs = [.int .i64 (j : Int)] ∧ j ≤ lt ∧ ckTs ts seen = ckTs (ts.drop j) seen2 ∧ MapO w' w1.heap.size .string (seenM seen2) ∧ Blk w' w2.heap.size #[.map (some w1.heap.size)] ∧ Blk w' w.heap.size #[.slice af lf cf, .slice at_ lt ct, .slice ap lp cp] ∧ Kept No w w' ∧ w4.heap.size ≤ w'.heap.size,
      fun vs _ => lt - ix vs, ⟨0, seen, rfl, by omega, rfl, hm5, hbS5, hb5, k5, hz5⟩, ?_⟩
    intro _ n23 w10 hI
    obtain ⟨j, seen2, hvs, hj, hct, hm10, hbS10, hb10, k10, hz10⟩ := hI
    simp only [List.cons.injEq, Value.int.injEq, true_and, and_true] at hvs
    subst hvs
    refine condP (fun hlt => ?_) (fun hge => ?_)
    · have hj' : j < ts.length := by omega
      obtain ⟨q, sl, haq, e1, e2, hR, _⟩ := ht.at hj'
      have e1 := k10.cell e1 (fun e => e)
      have e2 := k10.cell e2 (fun e => e)
      rw [List.drop_eq_getElem_cons hj', ckTs_cons] at hct
      refine ⟨⟨by omega, by omega⟩, nnE2 haq ⟨ts[j].1, sl.1, sl.2.1, sl.2.2, by simpa using e1, by simpa using e2, ?_⟩⟩
      refine newPair fun w13 hb13 hk13 hz13 => ⟨_, (hb13.cell 0).trans rfl, 61, #[], _, rfl, by kernel_rfl, ?_⟩
      have k13 := k10.no hk13
      refine CallR.mono (fresh_ok (hbS10.keep hk13 fun e => e) (hm10.keep hk13 fun e => e) hgr ts[j].1) ?_
      rintro v w14 ⟨rfl, hm14, hk14⟩
      have k14 : Kept No w w14 := k13.fresh hk14 (fun x e => by omega)
      refine ⟨_, rfl, condN (fun hne => ?_) (fun he => ?_)⟩
      · rw [if_pos hne] at hct
        refine ⟨?_, k14⟩
        rw [hct, if_pos hne]
      · rw [if_neg (by omega)] at hct
        refine ⟨_, _, _, ((hb13.keep hk14 (by omega)).cell 1).trans rfl, ?_⟩
        have hR' : RL w14 sl ts[j].2 := hR.no k14
        refine CallR.mono (tnew_ok hR'.1 hR'.2) ?_
        rintro v w15 ⟨hk15, ⟨hne, rfl⟩ | ⟨he0, b, F, R, rfl, _, _⟩⟩
        · rw [if_pos hne] at hct
          refine ⟨_, _, rfl, condT (by simpa using hne) ⟨?_, k14.no hk15⟩⟩
          rw [hct, if_pos hne]
        · rw [if_neg (by omega)] at hct
          have hz14 : w13.heap.size ≤ w14.heap.size := hk14.size
          have hz15 : w14.heap.size ≤ w15.heap.size := hk15.size
          refine ⟨_, _, rfl, condF rfl ⟨⟨by omega, by omega⟩, ⟨j + 1, seen2 ++ [ts[j].1], rfl, by omega, hct, (hm14 he).keep hk15 (fun e => e), ((hbS10.keep hk13 fun e => e).keep hk14 (by omega)).keep hk15 (fun e => e), ((hb10.keep hk13 fun e => e).keep hk14 (by omega)).keep hk15 (fun e => e), k14.no hk15, by omega⟩, ?_⟩⟩
          simp only [ix]; omega
    · rw [List.drop_of_length_le (by omega)] at hct
      have hct : ckTs ts seen = (0, seen2) := hct
      rw [hct, if_neg (by dsimp only; omega)]
      refine ⟨_, _, _, (hb10.cell 2).trans rfl, CallR.mono (fcheck_ok (hp.keep k10 fun _ _ _ e => e)) ?_⟩
      rintro v w16 ⟨⟨n, rfl⟩, hk16⟩
      exact ⟨_, _, rfl, rfl, k10.no hk16⟩
end Go.Proofs.YtpoaacnnhgebfaaGreat
namespace Go.Proofs.YtpoaacnnhgebfaaGreat
open Go.Lw
inductive TK | disk | scr | con
  deriving DecidableEq
def TK.ty : TK → TypeId
  | .disk => 209
  | .scr => 207
  | .con => 194
def tv (k : TK) (b : Nat) : Value := .iface k.ty (.agg #[.pointer (some ⟨b, 0, none⟩)])
theorem call_of {P : Program} {t : TypeId} {name : String} {f : FuncId} (hm : ∀ recv w, (Go.method (P.types.size + Made.depth) t recv name).run P w = .ok (f, recv) w) (hb : bodyB P f = true) (u : Value) (args : Array Value) (w : World) :
    (callMethod (.iface t u) name args).run P w = .ok (.enter f (#[u] ++ args)) w := by
  rcases callMethod_tie P w t u name args with ⟨f', r, w', h1, h2⟩ | ⟨h, w', h1, _⟩
  · rw [hm] at h1
    cases h1
    exact h2.trans (bodyB_run hb _ _)
  · rw [hm] at h1
    cases h1
def readF : TK → FuncId
  | .disk => 275
  | .scr => 270
  | .con => 261
def roomF : TK → FuncId
  | .disk => 276
  | .scr => 271
  | .con => 262
def wrF : TK → FuncId
  | .disk => 277
  | .scr => 272
  | .con => 263
theorem tv_read (k : TK) (b : Nat) (args : Array Value) (w : World) : (callMethod (tv k b) "millrace/kern.read" args).run Tryz.prog w = .ok (.enter (readF k) (#[.agg #[.pointer (some ⟨b, 0, none⟩)]] ++ args)) w := by
  cases k
  · exact call_of (by intro recv w; kernel_rfl) (by kernel_rfl) _ _ _
  · exact call_of (by intro recv w; kernel_rfl) (by kernel_rfl) _ _ _
  · exact call_of (by intro recv w; kernel_rfl) (by kernel_rfl) _ _ _
theorem tv_room (k : TK) (b : Nat) (args : Array Value) (w : World) : (callMethod (tv k b) "millrace/kern.room" args).run Tryz.prog w = .ok (.enter (roomF k) (#[.agg #[.pointer (some ⟨b, 0, none⟩)]] ++ args)) w := by
  cases k
  · exact call_of (by intro recv w; kernel_rfl) (by kernel_rfl) _ _ _
  · exact call_of (by intro recv w; kernel_rfl) (by kernel_rfl) _ _ _
  · exact call_of (by intro recv w; kernel_rfl) (by kernel_rfl) _ _ _
theorem tv_write (k : TK) (b : Nat) (args : Array Value) (w : World) : (callMethod (tv k b) "millrace/kern.write" args).run Tryz.prog w = .ok (.enter (wrF k) (#[.agg #[.pointer (some ⟨b, 0, none⟩)]] ++ args)) w := by
  cases k
  · exact call_of (by intro recv w; kernel_rfl) (by kernel_rfl) _ _ _
  · exact call_of (by intro recv w; kernel_rfl) (by kernel_rfl) _ _ _
  · exact call_of (by intro recv w; kernel_rfl) (by kernel_rfl) _ _ _
theorem tv_con (k : TK) (b : Nat) (w : World) : (Instr.typeAssert (tv k b) 262 194 true).run Tryz.prog w = .ok (if k = .con then .tuple #[.agg #[.pointer (some ⟨b, 0, none⟩)], .bool true] else .tuple #[.agg #[.pointer none], .bool false]) w := by
  cases k
  · kernel_rfl
  · kernel_rfl
  · kernel_rfl
theorem tv_disk (k : TK) (b : Nat) (w : World) : (Instr.typeAssert (tv k b) 262 209 true).run Tryz.prog w = .ok (if k = .disk then .tuple #[.agg #[.pointer (some ⟨b, 0, none⟩)], .bool true] else .tuple #[.agg #[.pointer none], .bool false]) w := by
  cases k
  · kernel_rfl
  · kernel_rfl
  · kernel_rfl
end Go.Proofs.YtpoaacnnhgebfaaGreat
namespace Go.Proofs.YtpoaacnnhgebfaaGreat
open Go.Lw
def DsO (w : World) (bd : Nat) (k : TK) (b : Nat) (fl at_ hd : Int) : Prop := Blk w bd #[tv k b, .int .i64 fl, .int .i64 at_, .int .i64 hd]
def bitI (n m : Int) : Int := IntKind.wrap .i64 ↑(BitVec.ofInt (IntKind.bits .i64) n &&& BitVec.ofInt (IntKind.bits .i64) m).toNat
def placeF (fl at_ : Int) (bs : List Int) : Int := if bitI fl 4 ≠ 0 then (bs.length : Int) else at_
theorem place_ok {F : Nat → Prop} {w : World} {b bd : Nat} {bs : List Int} {fl at_ hd : Int} (h : FileO F w b bs) (hd' : DsO w bd .disk b fl at_ hd) :
    CallR Tryz.prog 279 [.agg #[.pointer (some ⟨b, 0, none⟩)], .pointer (some ⟨bd, 0, none⟩)] w fun v w' => v = .int .i64 (placeF fl at_ bs) ∧ Kept No w w' := by
  refine C279 ?_
  unfold L279
  intro w1
  have hb1 : Blk w1 w.heap.size #[.pointer (some ⟨b, 0, none⟩)] := Blk.alloc _ _ _
  have hk1 : Kept No w w1 := Kept.alloc _ _ _
  clear_value w1
  have hd1 : Blk w1 bd #[tv .disk b, .int .i64 fl, .int .i64 at_, .int .i64 hd] := Blk.keep hd' hk1 (fun e => e)
  have h1 := h.keep hk1 (fun _ _ e => e)
  refine nnI ⟨_, hd1.at (i := 1) rfl, condI (fun hb => ⟨_, (hb1.cell 0).trans rfl, CallR.mono (size_ok h1) ?_⟩) (fun hb => nnI ⟨_, hd1.at (i := 2) rfl, ?_⟩)⟩
  · rintro v w2 ⟨rfl, rfl⟩
    refine ⟨_, rfl, ?_, hk1⟩
    unfold placeF
    rw [if_pos (by simpa [bitI] using hb)]
  · refine ⟨?_, hk1⟩
    unfold placeF
    rw [if_neg (by simpa [bitI] using hb)]
theorem dread_ok {F : Nat → Prop} {w : World} {b bd : Nat} {bs : List Int} {fl hd n : Int} {k : Nat} (h : FileO F w b bs) (hd' : DsO w bd .disk b fl (k : Int) hd) (hk : k ≤ 1048576) (hn1 : 0 ≤ n) (hn2 : n ≤ 1048576) :
    CallR Tryz.prog 275 [.agg #[.pointer (some ⟨b, 0, none⟩)], .pointer (some ⟨bd, 0, none⟩), .int .i64 n] w fun v w' => ∃ a' c', v = .slice a' (piece bs k n).length c' ∧ OB w' a' (piece bs k n).length c' (piece bs k n) ∧ Fresh w a' ∧
      DsO w' bd .disk b fl ((k + (piece bs k n).length : Nat) : Int) hd ∧ Kept (· = bd) w w' := by
  refine C275 ?_
  unfold L275
  intro w1
  have hb1 : Blk w1 w.heap.size #[.pointer (some ⟨b, 0, none⟩)] := Blk.alloc _ _ _
  have hk1 : Kept No w w1 := Kept.alloc _ _ _
  clear_value w1
  intro w2
  have hb2 : Blk w2 w.heap.size #[.pointer (some ⟨b, 0, none⟩)] := hb1.drew
  have hk2 : Kept No w w2 := hk1.no (Kept.drew _ _)
  clear_value w2
  have hd2 : Blk w2 bd #[tv .disk b, .int .i64 fl, .int .i64 (k : Int), .int .i64 hd] := Blk.keep hd' hk2 (fun e => e)
  have h2 := h.keep hk2 (fun _ _ e => e)
  have hbd := Blk.lt hd'
  have hlen := h.len
  refine ⟨_, (hb2.cell 0).trans rfl, nnI ⟨_, hd2.at (i := 2) rfl, CallR.mono (readAt_ok h2 (k : Int) n) ?_⟩⟩
  rintro v w3 ⟨a', c', cs, e, rfl, ho, hf, hk3, hok, _⟩
  obtain ⟨rfl, rfl⟩ := hok (by unfold okN; simp; omega) (by unfold okN; simp; omega)
  have hd3 := hd2.keep hk3 (fun e => e)
  have hpl : (piece bs (k : Int) n).length ≤ 1048576 := by unfold piece; rw [List.length_take, List.length_drop]; omega
  have hlt := ho.lt
  have hz2 := hk2.size
  refine ⟨_, _, _, _, rfl, nnI ⟨_, hd3.at (i := 2) rfl, ⟨by omega, by omega⟩, nnI (stC_at hd3 (i := 2) (by simp) fun w4 hd4 hk4 hs4 => ?_)⟩⟩
  refine ⟨a', c', rfl, ho.keep hk4 (fun x hx e => by have := hf x hx; omega), fun x hx => by have := hf x hx; omega, ?_, ?_⟩
  · show Blk w4 bd _
    have : (((k + (piece bs (k : Int) n).length : Nat)) : Int) = (k : Int) + ((piece bs (k : Int) n).length : Int) := by omega
    rw [this]
    simpa using hd4
  · exact ((hk2.no hk3).mono fun _ _ e => e.elim).trans hk4 fun _ _ e => e
def roomD (p n : Int) : Int × Int := if 1048576 - p > 0 then (mn n (1048576 - p), 0) else (0, 31)
theorem droom_ok {F : Nat → Prop} {w : World} {b bd : Nat} {bs : List Int} {fl at_ hd n : Int} (h : FileO F w b bs) (hd' : DsO w bd .disk b fl at_ hd) (h0 : 0 ≤ at_) (h1 : at_ ≤ 1048576) :
    CallR Tryz.prog 276 [.agg #[.pointer (some ⟨b, 0, none⟩)], .pointer (some ⟨bd, 0, none⟩), .int .i64 n] w fun v w' => v = .tuple #[.int .i64 (roomD (placeF fl at_ bs) n).1, .int .i64 (roomD (placeF fl at_ bs) n).2] ∧ Kept No w w' := by
  refine C276 ?_
  unfold L276
  intro w1
  have hb1 : Blk w1 w.heap.size #[.pointer (some ⟨b, 0, none⟩)] := Blk.alloc _ _ _
  have hk1 : Kept No w w1 := Kept.alloc _ _ _
  clear_value w1
  have hd1 : DsO w1 bd .disk b fl at_ hd := Blk.keep hd' hk1 (fun e => e)
  have hf1 := h.keep hk1 (fun _ _ e => e)
  have hlen := h.len
  refine ⟨_, (hb1.cell 0).trans rfl, CallR.mono (place_ok hf1 hd1) ?_⟩
  rintro v w2 ⟨rfl, hk2⟩
  have hp : 0 ≤ placeF fl at_ bs ∧ placeF fl at_ bs ≤ 1048576 := by
    unfold placeF
    split <;> omega
  refine ⟨_, rfl, ⟨by omega, by omega⟩, condP (fun hr => ⟨?_, hk1.no hk2⟩) (fun hr => ⟨?_, hk1.no hk2⟩)⟩
  · unfold roomD; rw [if_pos hr]
  · unfold roomD; rw [if_neg hr]
theorem dwrite_ok {F : Nat → Prop} {w : World} {b bd : Nat} {bs : List Int} {fl at_ hd most : Int} {a : Option Addr} {l c : Nat} {ds : List Int} (h : FileO F w b bs) (hd' : DsO w bd .disk b fl at_ hd) (h0 : 0 ≤ at_) (h1 : at_ ≤ 1048576)
    (hr : RdB w a l c ds) (hl : l ≤ 140737488355328) (hap : ∀ k, inA a k → ¬ F k ∧ k ≠ bd) (hbF : ¬ F bd) (hm : 0 ≤ most) :
    CallR Tryz.prog 277 [.agg #[.pointer (some ⟨b, 0, none⟩)], .pointer (some ⟨bd, 0, none⟩), .slice a l c, .int .i64 most] w fun v w' => v = .int .i64 ((min l most.toNat : Nat) : Int) ∧
      (∃ F', FileO F' w' b (writeF bs (placeF fl at_ bs) (ds.take (min l most.toNat))).2 ∧ Grew F w F') ∧ DsO w' bd .disk b fl (placeF fl at_ bs + ((min l most.toNat : Nat) : Int)) hd ∧ Kept (fun z => F z ∨ z = bd) w w' := by
  refine C277 ?_
  unfold L277
  have hcl : l ≤ c := hr.2.1
  have hmn : mn (((l : Nat) : Int)) most = ((min l most.toNat : Nat) : Int) := by unfold mn; omega
  rw [hmn]
  have htn : Int.toNat ((min l most.toNat : Nat) : Int) = min l most.toNat := by omega
  rw [htn]
  intro w1
  have hb1 : Blk w1 w.heap.size #[.pointer (some ⟨b, 0, none⟩)] := Blk.alloc _ _ _
  have hk1 : Kept No w w1 := Kept.alloc _ _ _
  clear_value w1
  have hd1 : DsO w1 bd .disk b fl at_ hd := Blk.keep hd' hk1 (fun e => e)
  have hf1 := h.keep hk1 (fun _ _ e => e)
  have hlen := h.len
  have hbd := Blk.lt hd'
  have hflt := h.lt
  have hp : 0 ≤ placeF fl at_ bs ∧ placeF fl at_ bs ≤ 1048576 := by
    unfold placeF
    split <;> omega
  refine ⟨⟨by omega, by omega⟩, _, (hb1.cell 0).trans rfl, CallR.mono (place_ok hf1 hd1) ?_⟩
  rintro v w2 ⟨rfl, hk2⟩
  have hd2 : Blk w2 bd #[tv .disk b, .int .i64 fl, .int .i64 at_, .int .i64 hd] := Blk.keep hd1 hk2 (fun e => e)
  have hb2 := hb1.keep hk2 (fun e => e)
  have k2 := hk1.no hk2
  refine ⟨_, rfl, nnI (stC_at hd2 (i := 2) (by simp) fun w3 hd3 hk3 hs3 => ?_)⟩
  have hd3 : Blk w3 bd #[tv .disk b, .int .i64 fl, .int .i64 (placeF fl at_ bs), .int .i64 hd] := by simpa using hd3
  have hb3 := hb2.keep hk3 (by omega)
  have k3 : Kept (fun z => F z ∨ z = bd) w w3 := (k2.mono fun _ _ e => e.elim).trans hk3 fun _ _ e => .inr e
  have hf3 := (h.keep k2 (fun _ _ e => e)).keep hk3 (fun x hx e => hbF (by rw [← e]; exact hx))
  have hr3 := (hr.keep k2 (fun _ _ _ e => e)).keep hk3 (fun x _ hx e => (hap x hx).2 e)
  intro w4
  have hd4 : Blk w4 bd #[tv .disk b, .int .i64 fl, .int .i64 (placeF fl at_ bs), .int .i64 hd] := hd3.drew
  have hb4 : Blk w4 w.heap.size #[.pointer (some ⟨b, 0, none⟩)] := hb3.drew
  have hf4 : FileO F w4 b bs := hf3.keep (Kept.drew No _) (fun _ _ e => e)
  have hr4 : RdB w4 a l c ds := hr3.keep (Kept.drew No _) (fun _ _ _ e => e)
  have k4 : Kept (fun z => F z ∨ z = bd) w w4 := k3.no (Kept.drew _ _)
  clear_value w4
  have hz4 := k4.size
  refine ⟨_, (hb4.cell 0).trans rfl, nnI ⟨_, hd4.at (i := 2) rfl, CallR.mono (writeAt_ok hf4 (placeF fl at_ bs) (hr4.to (min l most.toNat) (by omega)) (by omega) (fun _ x hx => (hap x hx).1)) ?_⟩⟩
  rintro v w5 ⟨rfl, F', hf5, hg5, hk5⟩
  have hd5 := hd4.keep hk5 hbF
  have hk05 : Kept (fun z => F z ∨ z = bd) w w5 := k4.trans hk5 fun _ _ e => .inl e
  refine ⟨_, rfl, nnI ⟨_, hd5.at (i := 2) rfl, ⟨by omega, by omega⟩, nnI (stC_at hd5 (i := 2) (by simp) fun w6 hd6 hk6 hs6 => ?_)⟩⟩
  have hbF' : ¬ F' bd := fun e => by
    rcases hg5 bd e with e | e
    · exact hbF e
    · omega
  refine ⟨rfl, ⟨F', hf5.keep hk6 (fun x hx e => hbF' (by rw [← e]; exact hx)), fun x hx => ?_⟩, by show Blk w6 bd _; simpa using hd6, hk05.trans hk6 fun _ _ e => .inr e⟩
  rcases hg5 x hx with e | e
  · exact .inl e
  · right; omega
end Go.Proofs.YtpoaacnnhgebfaaGreat
namespace Go.Proofs.YtpoaacnnhgebfaaGreat
open Go.Lw
theorem condTr2 {A B : Prop} (h : A) : cond true A B := h
theorem condFa2 {A B : Prop} (h : B) : cond false A B := h
abbrev ag (b : Nat) : Value := .agg #[.pointer (some ⟨b, 0, none⟩)]
abbrev pd (b : Nat) : Value := .pointer (some ⟨b, 0, none⟩)
theorem sread_ok {F R : Nat → Prop} {w : World} {b bd : Nat} {LL : List (List Int)} {scr : List Int} (h : TermO F R w b LL scr) (n : Int) :
    CallR Tryz.prog 270 [ag b, pd bd, .int .i64 n] w fun v w' => ∃ a' c', v = .slice a' (readT n LL).2.1.length c' ∧ OB w' a' (readT n LL).2.1.length c' (readT n LL).2.1 ∧ Fresh w a' ∧ Kept (· = b) w w' ∧ TermO F R w' b (readT n LL).2.2 scr := by
  refine C270 ?_
  unfold L270
  intro w1
  have hb1 : Blk w1 w.heap.size #[.pointer (some ⟨b, 0, none⟩)] := Blk.alloc _ _ _
  have hk1 : Kept No w w1 := Kept.alloc _ _ _
  clear_value w1
  have hz := hk1.size
  refine ⟨_, (hb1.cell 0).trans rfl, CallR.mono (tread_ok (h.keep hk1 (fun _ _ e => e) (fun _ _ e => e)) n) ?_⟩
  rintro v w2 ⟨a', c', rfl, ho, hf, hk2, ht⟩
  exact ⟨_, _, _, _, rfl, a', c', rfl, ho, fun x hx => by have := hf x hx; omega, (hk1.mono fun _ _ e => e.elim).trans hk2 fun _ _ e => e, ht⟩
theorem sroom_ok {F R : Nat → Prop} {w : World} {b bd : Nat} {LL : List (List Int)} {scr : List Int} (h : TermO F R w b LL scr) (n : Int) :
    CallR Tryz.prog 271 [ag b, pd bd, .int .i64 n] w fun v w' => v = .tuple #[.int .i64 (roomD (scr.length : Int) n).1, .int .i64 (roomD (scr.length : Int) n).2] ∧ Kept No w w' := by
  refine C271 ?_
  unfold L271
  intro w1
  have hb1 : Blk w1 w.heap.size #[.pointer (some ⟨b, 0, none⟩)] := Blk.alloc _ _ _
  have hk1 : Kept No w w1 := Kept.alloc _ _ _
  clear_value w1
  have hs := h.scr
  refine ⟨_, (hb1.cell 0).trans rfl, CallR.mono (tscreen_ok (h.keep hk1 (fun _ _ e => e) (fun _ _ e => e))) ?_⟩
  rintro v w2 ⟨a', c', rfl, _, _, hk2⟩
  refine ⟨_, _, _, rfl, ⟨by omega, by omega⟩, condP (fun hr => ⟨?_, hk1.no hk2⟩) (fun hr => ⟨?_, hk1.no hk2⟩)⟩
  · unfold roomD; rw [if_pos hr]
  · unfold roomD; rw [if_neg hr]
theorem swrite_ok {F R : Nat → Prop} {w : World} {b bd : Nat} {LL : List (List Int)} {scr : List Int} (h : TermO F R w b LL scr) {a : Option Addr} {l c : Nat} {ds : List Int} (hr : RdB w a l c ds) (hl : l ≤ 140737488355328) {most : Int} (hm : 0 ≤ most) :
    CallR Tryz.prog 272 [ag b, pd bd, .slice a l c, .int .i64 most] w fun v w' => v = .int .i64 ((min l most.toNat : Nat) : Int) ∧ ∃ F', TermO F' R w' b LL (writeT (ds.take (min l most.toNat)) scr).2 ∧ (∀ k, F' k → F k ∨ w.heap.size ≤ k) ∧ Kept F w w' := by
  refine C272 ?_
  unfold L272
  have hcl : l ≤ c := hr.2.1
  have hmn : mn (((l : Nat) : Int)) most = ((min l most.toNat : Nat) : Int) := by unfold mn; omega
  rw [hmn]
  have htn : Int.toNat ((min l most.toNat : Nat) : Int) = min l most.toNat := by omega
  rw [htn]
  intro w1
  have hb1 : Blk w1 w.heap.size #[.pointer (some ⟨b, 0, none⟩)] := Blk.alloc _ _ _
  have hk1 : Kept No w w1 := Kept.alloc _ _ _
  clear_value w1
  have hz := hk1.size
  refine ⟨⟨by omega, by omega⟩, _, (hb1.cell 0).trans rfl, CallR.mono (twrite_ok (h.keep hk1 (fun _ _ e => e) (fun _ _ e => e)) ((hr.keep hk1 fun _ _ _ e => e).to (min l most.toNat) (by omega)) (by omega)) ?_⟩
  rintro v w2 ⟨rfl, F', ht, hg, hk2⟩
  exact ⟨_, rfl, rfl, F', ht, fun x hx => by
    rcases hg x hx with e | e
    · exact .inl e
    · right; omega, (hk1.mono fun _ _ e => e.elim).trans hk2 fun _ _ e => e⟩
theorem cread_ok' {w : World} {b bd : Nat} {bs : List Int} {e0 e1 : Nat} (h : PipeO w b bs e0 e1) (n : Int) :
    CallR Tryz.prog 261 [ag b, pd bd, .int .i64 n] w fun v w' => ∃ a l c, v = .slice a l c ∧ OB w' a l c (readP n bs e0 e1).1 ∧ Fresh w a ∧ PipeO w' b (readP n bs e0 e1).2.2 e0 e1 ∧ Kept (· = b) w w' := by
  refine C261 ?_
  unfold L261
  intro w1
  have hb1 : Blk w1 w.heap.size #[.pointer (some ⟨b, 0, none⟩)] := Blk.alloc _ _ _
  have hk1 : Kept No w w1 := Kept.alloc _ _ _
  clear_value w1
  have hz := hk1.size
  refine ⟨_, (hb1.cell 0).trans rfl, CallR.mono (kread_ok (h.keep hk1 (fun e => e)) n) ?_⟩
  rintro v w2 ⟨a, l, c, rfl, ho, hf, hp, hk2⟩
  exact ⟨_, _, _, _, rfl, a, l, c, rfl, ho, fun x hx => by have := hf x hx; omega, hp, (hk1.mono fun _ _ e => e.elim).trans hk2 fun _ _ e => e⟩
def roomC (n : Int) (bs : List Int) (e0 e1 : Nat) : Int × Int := if e0 = 0 then (0, 53) else if canWP n bs e0 e1 = false then (0, 52) else (n, 0)
theorem croom_ok {w : World} {b bd : Nat} {bs : List Int} {e0 e1 : Nat} (h : PipeO w b bs e0 e1) (n : Int) :
    CallR Tryz.prog 262 [ag b, pd bd, .int .i64 n] w fun v w' => v = .tuple #[.int .i64 (roomC n bs e0 e1).1, .int .i64 (roomC n bs e0 e1).2] ∧ Kept No w w' := by
  refine C262 ?_
  unfold L262
  intro w1
  have hb1 : Blk w1 w.heap.size #[.pointer (some ⟨b, 0, none⟩)] := Blk.alloc _ _ _
  have hk1 : Kept No w w1 := Kept.alloc _ _ _
  clear_value w1
  refine ⟨_, (hb1.cell 0).trans rfl, kends_to (h.keep hk1 (fun e => e)) fun nd => ?_⟩
  have hk2 : Kept No w (w1.drewN nd) := hk1.no (Kept.drewN _ _ _)
  have hb2 : Blk (w1.drewN nd) w.heap.size #[.pointer (some ⟨b, 0, none⟩)] := hb1.drewN nd
  generalize w1.drewN nd = w2 at hk2 hb2 ⊢
  refine ⟨_, _, rfl, condI (fun he => ⟨?_, hk2⟩) (fun he => ⟨_, (hb2.cell 0).trans rfl, kcanw_to (h.keep hk2 (fun e => e)) n ⟨_, rfl, condI (fun hc => ⟨?_, hk2⟩) (fun hc => ⟨?_, hk2⟩)⟩⟩)⟩
  · have : e0 = 0 := by simpa using he
    unfold roomC; rw [if_pos this]
  · have : ¬ e0 = 0 := by simpa using he
    unfold roomC; rw [if_neg this, if_pos (notT hc)]
  · have : ¬ e0 = 0 := by simpa using he
    unfold roomC; rw [if_neg this, if_neg (by rw [notF hc]; simp)]
theorem cwrite_ok' {w : World} {b bd : Nat} {bs : List Int} {e0 e1 : Nat} (h : PipeO w b bs e0 e1) {a : Option Addr} {l c : Nat} {ds : List Int} (hd : RdB w a l c ds) (hab : ds ≠ [] → ¬ inA a b) (most : Int) :
    CallR Tryz.prog 263 [ag b, pd bd, .slice a l c, .int .i64 most] w fun v w' => v = .int .i64 (writeP ds most bs e0 e1).1 ∧ PipeO w' b (writeP ds most bs e0 e1).2.2 e0 e1 ∧ Kept (· = b) w w' := by
  refine C263 ?_
  unfold L263
  intro w1
  have hb1 : Blk w1 w.heap.size #[.pointer (some ⟨b, 0, none⟩)] := Blk.alloc _ _ _
  have hk1 : Kept No w w1 := Kept.alloc _ _ _
  clear_value w1
  refine ⟨_, (hb1.cell 0).trans rfl, CallR.mono (kwrite_ok (h.keep hk1 (fun e => e)) (hd.keep hk1 fun _ _ _ e => e) hab hd.2.1 most) ?_⟩
  rintro v w2 ⟨rfl, hp, hk2⟩
  exact ⟨_, _, rfl, rfl, hp, (hk1.mono fun _ _ e => e.elim).trans hk2 fun _ _ e => e⟩
theorem waits_ok {w : World} {bd : Nat} {k : TK} {b : Nat} {fl at_ hd : Int} (h : DsO w bd k b fl at_ hd) {bs : List Int} {e0 e1 : Nat} (hp : k = .con → PipeO w b bs e0 e1) :
    CallR Tryz.prog 166 [pd bd] w fun v w' => v = .bool (if k = .con then !canRP bs e0 e1 else false) ∧ Kept No w w' := by
  refine C166 ?_
  unfold L166
  refine nnI ⟨_, Blk.at0 h rfl, ?_⟩
  by_cases hk : k = .con
  · have ht := tv_con k b w
    rw [if_pos hk] at ht
    refine ⟨_, _, _, ht, ?_⟩
    intro w2
    have hb2 : Blk w2 w.heap.size #[.pointer none] := Blk.alloc _ _ _
    have hk2 : Kept No w w2 := Kept.alloc _ _ _
    clear_value w2
    refine stC_blk hb2 (by simp) fun w3 hb3 hk3 _ => condTr2 ?_
    have hb3 : Blk w3 w.heap.size #[.pointer (some ⟨b, 0, none⟩)] := by simpa using hb3
    have k3 : Kept No w w3 := hk2.fresh hk3 (fun x e => by omega)
    refine ⟨_, (hb3.cell 0).trans rfl, kcanr_to ((hp hk).keep k3 (fun e => e)) ⟨_, rfl, ?_, k3⟩⟩
    rw [if_pos hk]
  · have ht := tv_con k b w
    rw [if_neg hk] at ht
    refine ⟨_, _, _, ht, ?_⟩
    intro w2
    have hb2 : Blk w2 w.heap.size #[.pointer none] := Blk.alloc _ _ _
    have hk2 : Kept No w w2 := Kept.alloc _ _ _
    clear_value w2
    refine stC_blk hb2 (by simp) fun w3 hb3 hk3 _ => condFa2 ⟨?_, hk2.fresh hk3 (fun x e => by omega)⟩
    rw [if_neg hk]
end Go.Proofs.YtpoaacnnhgebfaaGreat
