/-
  What some functions of the program ask of the world, printed by a program out of the loaded program; each text is held against the code by evaluation. Conditions: none.
-/
import Derived.Test.YtpoaacnnhgebfaaGreatProg
import Derived.Test.YtpoaacnnhgebfaaGreatLm
import Derived.Test.YtpoaacnnhgebfaaGreatLX
import Derived.Test.YtpoaacnnhgebfaaGreatRf
set_option linter.unusedVariables false
set_option maxRecDepth 100000
namespace Go.Proofs.YtpoaacnnhgebfaaGreat
open Go.Lw
/-- millrace/kern.named$1 -/
def A161 : Ann := ⟨[], [], [], [], [], []⟩
def L161 (n1 : Int) (Q : Value → World → Prop) (w : World) : Prop :=
  cond (decide (n1 < 33))
  (Q (.bool true) w)
  (Q (.bool (decide (n1 > 126))) w)
theorem C161 {n1 : Int} {Q : Value → World → Prop} {w : World} (h : L161 n1 Q w) : CallR Tryz.prog 161 [.int .i32 n1] w Q :=
  fun_calls (A := A161) mixed Tryz.func161 (c := (Tryz.f161.body).getD .skip) rfl (by kernel_rfl) (Eq.mp (by kernel_rfl) h)

/-- strings.indexFunc -/
def A210 : Ann := ⟨[(2, [])], [], [], [], [], []⟩
def L210 (s1 : ByteArray) (v2 : Value) (b3 : Bool) (Q : Value → World → Prop) (w : World) : Prop :=
  ∃ (w1 : World), Sem.run Tryz.prog (Instr.range 9 (.string s1)) w = .ok (.pointer (some (Addr.mk w.heap.size 0 none))) w1 ∧
  ∃ (I4 : List Value → World → Prop) (mu5 : List Value → World → Nat),
  I4 [] w1 ∧
  ∀ (_ : Env) (w2 : World), I4 [] w2 →
  (∃ (w3 : World), Sem.run Tryz.prog (Instr.next (.pointer (some (Addr.mk w.heap.size 0 none))) true 0) w2 = .ok (.tuple #[.bool false]) w3 ∧
  Q (.int .i64 ((-1))) w3) ∨
  (∃ (v6 : Value) (v7 : Value) (w4 : World), Sem.run Tryz.prog (Instr.next (.pointer (some (Addr.mk w.heap.size 0 none))) true 0) w2 = .ok (.tuple #[.bool true, v6, v7]) w4 ∧
  ∃ (n8 : Int), v6 = (.int .i64 n8 : Value) ∧
  ∃ (n9 : Int), v7 = (.int .i32 n9 : Value) ∧
  ∃ (k10 : FuncId) (xs11 : Array Value) (xs12 : Array Value), (v2 : Value) = .func (.func k10) xs11 xs12 ∧ bodyB Tryz.prog k10 = true ∧
  CallR Tryz.prog k10 (Array.toList xs11 ++ ([.int .i32 n9] ++ Array.toList xs12)) w4 (fun (r14 : Value) (w5 : World) =>
  ∃ (b13 : Bool), r14 = .bool b13 ∧
  cond (b13 == b3)
  (Q (.int .i64 n8) w5)
  (I4 [] w5 ∧ mu5 [] w5 < mu5 [] w2)))
theorem C210 {s1 : ByteArray} {v2 : Value} {b3 : Bool} {Q : Value → World → Prop} {w : World} (h : L210 s1 v2 b3 Q w) : CallR Tryz.prog 210 [.string s1, v2, .bool b3] w Q :=
  fun_calls (A := A210) mixed Tryz.func210 (c := (Tryz.f210.body).getD .skip) rfl (by kernel_rfl) (Eq.mp (by kernel_rfl) h)

/-- strings.IndexFunc -/
def A203 : Ann := ⟨[], [], [], [], [], []⟩
def L203 (s1 : ByteArray) (v2 : Value) (Q : Value → World → Prop) (w : World) : Prop :=
  CallR Tryz.prog 210 [.string s1, v2, .bool true] w (fun (r4 : Value) (w1 : World) =>
  ∃ (n3 : Int), r4 = .int .i64 n3 ∧
  Q (.int .i64 n3) w1)
theorem C203 {s1 : ByteArray} {v2 : Value} {Q : Value → World → Prop} {w : World} (h : L203 s1 v2 Q w) : CallR Tryz.prog 203 [.string s1, v2] w Q :=
  fun_calls (A := A203) mixed Tryz.func203 (c := (Tryz.f203.body).getD .skip) rfl (by kernel_rfl) (Eq.mp (by kernel_rfl) h)

/-- strings.ContainsFunc -/
def A160 : Ann := ⟨[], [], [], [], [], []⟩
def L160 (s1 : ByteArray) (v2 : Value) (Q : Value → World → Prop) (w : World) : Prop :=
  CallR Tryz.prog 203 [.string s1, v2] w (fun (r4 : Value) (w1 : World) =>
  ∃ (n3 : Int), r4 = .int .i64 n3 ∧
  Q (.bool (decide (n3 ≥ 0))) w1)
theorem C160 {s1 : ByteArray} {v2 : Value} {Q : Value → World → Prop} {w : World} (h : L160 s1 v2 Q w) : CallR Tryz.prog 160 [.string s1, v2] w Q :=
  fun_calls (A := A160) mixed Tryz.func160 (c := (Tryz.f160.body).getD .skip) rfl (by kernel_rfl) (Eq.mp (by kernel_rfl) h)

/-- millrace/kern.named -/
def A62 : Ann := ⟨[], [], [], [], [], []⟩
def L62 (s1 : ByteArray) (Q : Value → World → Prop) (w : World) : Prop :=
  cond (!(ByteArray.toList s1 == ByteArray.toList (ByteArray.mk #[])))
  (cond (decide ((((ByteArray.size s1 : Nat) : Int)) ≤ 64))
  (CallR Tryz.prog 160 [.string s1, .func (.func 161) #[] #[]] w (fun (r3 : Value) (w1 : World) =>
  ∃ (b2 : Bool), r3 = .bool b2 ∧
  Q (.bool (!b2)) w1))
  (Q (.bool false) w))
  (Q (.bool false) w)
theorem C62 {s1 : ByteArray} {Q : Value → World → Prop} {w : World} (h : L62 s1 Q w) : CallR Tryz.prog 62 [.string s1] w Q :=
  fun_calls (A := A62) mixed Tryz.func62 (c := (Tryz.f62.body).getD .skip) rfl (by kernel_rfl) (Eq.mp (by kernel_rfl) h)

/-- millrace/kern.Check$1 -/
def A61 : Ann := ⟨[], [], [], [], [], []⟩
def L61 (s1 : ByteArray) (p2 : Option Addr) (Q : Value → World → Prop) (w : World) : Prop :=
  CallR Tryz.prog 62 [.string s1] w (fun (r4 : Value) (w1 : World) =>
  ∃ (b3 : Bool), r4 = .bool b3 ∧
  cond (!b3)
  (Q (.int .i64 61) w1)
  (nn p2 (fun (q5 : Addr) =>
  ∃ (m6 : Option Nat), w1.cell? q5 = some ((.map m6 : Value)) ∧
  ∃ (b7 : Bool) (w2 : World), Sem.run Tryz.prog (Instr.lookup 137 (.map m6) (.string s1) false) w1 = .ok ((.bool b7 : Value)) w2 ∧
  cond b7
  (Q (.int .i64 6) w2)
  (nn p2 (fun (q8 : Addr) =>
  ∃ (m9 : Option Nat), w2.cell? q8 = some ((.map m9 : Value)) ∧
  ∃ (w3 : World), Sem.run Tryz.prog (Instr.mapUpdate 137 (.map m9) (.string s1) (.bool true)) w2 = .ok () w3 ∧
  Q (.int .i64 0) w3)))))
theorem C61 {s1 : ByteArray} {p2 : Option Addr} {Q : Value → World → Prop} {w : World} (h : L61 s1 p2 Q w) : CallR Tryz.prog 61 [.string s1, .pointer p2] w Q :=
  funI_calls (A := A61) Tryz.func61 (c := (Tryz.f61.body).getD .skip) rfl (by kernel_rfl) (Eq.mp (by kernel_rfl) h)

/-- millrace/kern.Check -/
def A12 : Ann := ⟨[(6, [(28, .one (.int .i64))]), (15, [(47, .one (.int .i64))])], [], [], [], [], []⟩
def L12 (a1 : Option Addr) (l1 : Nat) (c1 : Nat) (a2 : Option Addr) (l2 : Nat) (c2 : Nat) (a3 : Option Addr) (l3 : Nat) (c3 : Nat) (Q : Value → World → Prop) (w : World) : Prop :=
  let w1 := World.alloc w (Obj.cells #[.slice a1 l1 c1, .slice a2 l2 c2, .slice a3 l3 c3] 28);
  ∃ (a4 : Option Addr) (l4 : Nat) (c4 : Nat), w1.cell? (Addr.mk w.heap.size 0 none) = some ((.slice a4 l4 c4 : Value)) ∧
  ∃ (a5 : Option Addr) (l5 : Nat) (c5 : Nat), w1.cell? (Addr.mk w.heap.size 1 none) = some ((.slice a5 l5 c5 : Value)) ∧
  inI ((((l4 : Nat) : Int)) + (((l5 : Nat) : Int))) ∧
  cond (decide (((((l4 : Nat) : Int)) + (((l5 : Nat) : Int))) > 256))
  (Q (.int .i64 3) w1)
  (let w2 := World.alloc w1 (Obj.map #[] 0);
  let w3 := World.alloc w2 (Obj.cells #[.map none] 137);
  stC (Addr.mk w2.heap.size 0 none) (.map (some w1.heap.size)) w3 (fun (w4 : World) =>
  ∃ (a6 : Option Addr) (l6 : Nat) (c6 : Nat), w4.cell? (Addr.mk w.heap.size 0 none) = some ((.slice a6 l6 c6 : Value)) ∧
  ∃ (I7 : List Value → World → Prop) (mu8 : List Value → World → Nat),
  I7 [.int .i64 0] w4 ∧
  ∀ (_ : Env) (n9 : Int) (w5 : World), I7 [.int .i64 n9] w5 →
  cond (decide (n9 < (((l6 : Nat) : Int))))
  ((0 ≤ (n9 : Int) ∧ (n9 : Int) < ((l6 : Nat) : Int)) ∧
  nn a6 (fun (q10 : Addr) =>
  ∃ (s11 : ByteArray) (a12 : Option Addr) (l12 : Nat) (c12 : Nat), w5.cell? (Addr.add q10 (Int.toNat n9 * 2)) = some ((.string s11 : Value)) ∧ w5.cell? (Addr.add (Addr.add q10 (Int.toNat n9 * 2)) 1) = some ((.slice a12 l12 c12 : Value)) ∧ 
  let w6 := World.alloc w5 (Obj.cells #[.string (ByteArray.mk #[]), .slice none 0 0] 122);
  stC (Addr.mk w5.heap.size 0 none) (.string s11) w6 (fun (w7 : World) =>
  stC (Addr.mk w5.heap.size 1 none) (.slice a12 l12 c12) w7 (fun (w8 : World) =>
  ∃ (s13 : ByteArray), w8.cell? (Addr.mk w5.heap.size 0 none) = some ((.string s13 : Value)) ∧
  ∃ (k14 : FuncId) (xs15 : Array Value) (xs16 : Array Value), (.func (.func 61) #[] #[.pointer (some (Addr.mk w2.heap.size 0 none))] : Value) = .func (.func k14) xs15 xs16 ∧ bodyB Tryz.prog k14 = true ∧
  CallR Tryz.prog k14 (Array.toList xs15 ++ ([.string s13] ++ Array.toList xs16)) w8 (fun (r18 : Value) (w9 : World) =>
  ∃ (n17 : Int), r18 = .int .i64 n17 ∧
  cond (n17 != 0)
  (Q (.int .i64 n17) w9)
  (∃ (a19 : Option Addr) (l19 : Nat) (c19 : Nat), w9.cell? (Addr.mk w5.heap.size 1 none) = some ((.slice a19 l19 c19 : Value)) ∧
  cond (decide ((((l19 : Nat) : Int)) > 1048576))
  (Q (.int .i64 5) w9)
  (inI (n9 + 1) ∧
  I7 [.int .i64 (n9 + 1)] w9 ∧ mu8 [.int .i64 (n9 + 1)] w9 < mu8 [.int .i64 n9] w5)))))))
  (∃ (a20 : Option Addr) (l20 : Nat) (c20 : Nat), w5.cell? (Addr.mk w.heap.size 1 none) = some ((.slice a20 l20 c20 : Value)) ∧
  ∃ (I21 : List Value → World → Prop) (mu22 : List Value → World → Nat),
  I21 [.int .i64 0] w5 ∧
  ∀ (_ : Env) (n23 : Int) (w10 : World), I21 [.int .i64 n23] w10 →
  cond (decide (n23 < (((l20 : Nat) : Int))))
  ((0 ≤ (n23 : Int) ∧ (n23 : Int) < ((l20 : Nat) : Int)) ∧
  nn a20 (fun (q24 : Addr) =>
  ∃ (s25 : ByteArray) (a26 : Option Addr) (l26 : Nat) (c26 : Nat), w10.cell? (Addr.add q24 (Int.toNat n23 * 2)) = some ((.string s25 : Value)) ∧ w10.cell? (Addr.add (Addr.add q24 (Int.toNat n23 * 2)) 1) = some ((.slice a26 l26 c26 : Value)) ∧ 
  let w11 := World.alloc w10 (Obj.cells #[.string (ByteArray.mk #[]), .slice none 0 0] 127);
  stC (Addr.mk w10.heap.size 0 none) (.string s25) w11 (fun (w12 : World) =>
  stC (Addr.mk w10.heap.size 1 none) (.slice a26 l26 c26) w12 (fun (w13 : World) =>
  ∃ (s27 : ByteArray), w13.cell? (Addr.mk w10.heap.size 0 none) = some ((.string s27 : Value)) ∧
  ∃ (k28 : FuncId) (xs29 : Array Value) (xs30 : Array Value), (.func (.func 61) #[] #[.pointer (some (Addr.mk w2.heap.size 0 none))] : Value) = .func (.func k28) xs29 xs30 ∧ bodyB Tryz.prog k28 = true ∧
  CallR Tryz.prog k28 (Array.toList xs29 ++ ([.string s27] ++ Array.toList xs30)) w13 (fun (r32 : Value) (w14 : World) =>
  ∃ (n31 : Int), r32 = .int .i64 n31 ∧
  cond (n31 != 0)
  (Q (.int .i64 n31) w14)
  (∃ (a33 : Option Addr) (l33 : Nat) (c33 : Nat), w14.cell? (Addr.mk w10.heap.size 1 none) = some ((.slice a33 l33 c33 : Value)) ∧
  CallR Tryz.prog 55 [.slice a33 l33 c33] w14 (fun (r36 : Value) (w15 : World) =>
  ∃ (p34 : Option Addr) (n35 : Int), r36 = .tuple #[.pointer p34, .int .i64 n35] ∧
  cond (n35 != 0)
  (Q (.int .i64 n35) w15)
  (inI (n23 + 1) ∧
  I21 [.int .i64 (n23 + 1)] w15 ∧ mu22 [.int .i64 (n23 + 1)] w15 < mu22 [.int .i64 n23] w10))))))))
  (∃ (a37 : Option Addr) (l37 : Nat) (c37 : Nat), w10.cell? (Addr.mk w.heap.size 2 none) = some ((.slice a37 l37 c37 : Value)) ∧
  CallR Tryz.prog 63 [.slice a37 l37 c37] w10 (fun (r40 : Value) (w16 : World) =>
  ∃ (n38 : Int) (n39 : Int), r40 = .tuple #[.int .i64 n38, .int .i64 n39] ∧
  Q (.int .i64 n38) w16)))))
theorem C12 {a1 : Option Addr} {l1 : Nat} {c1 : Nat} {a2 : Option Addr} {l2 : Nat} {c2 : Nat} {a3 : Option Addr} {l3 : Nat} {c3 : Nat} {Q : Value → World → Prop} {w : World} (h : L12 a1 l1 c1 a2 l2 c2 a3 l3 c3 Q w) : CallR Tryz.prog 12 [.agg #[.slice a1 l1 c1, .slice a2 l2 c2, .slice a3 l3 c3]] w Q :=
  fun_calls (A := A12) mixed Tryz.func12 (c := (Tryz.f12.body).getD .skip) rfl (by kernel_rfl) (Eq.mp (by kernel_rfl) h)

/-- millrace/kern.New -/
def A8 : Ann := ⟨[(7, [(32, .one (.int .i64))]), (12, [(52, .one (.int .i64))])], [], [], [], [(9, [0, 1, 2, 3, 4, 5, 6, 7, 8, 9, 10, 11], 12, []), (14, [0, 1, 2, 3, 4, 5, 6, 7, 8, 9, 10, 11], 12, [])], []⟩
def L8 (a1 : Option Addr) (l1 : Nat) (c1 : Nat) (a2 : Option Addr) (l2 : Nat) (c2 : Nat) (a3 : Option Addr) (l3 : Nat) (c3 : Nat) (Q : Value → World → Prop) (w : World) : Prop :=
  let w1 := World.alloc w (Obj.cells #[.slice a1 l1 c1, .slice a2 l2 c2, .slice a3 l3 c3] 28);
  ∃ (a4 : Option Addr) (l4 : Nat) (c4 : Nat) (a5 : Option Addr) (l5 : Nat) (c5 : Nat) (a6 : Option Addr) (l6 : Nat) (c6 : Nat), w1.cell? (Addr.mk w.heap.size 0 none) = some ((.slice a4 l4 c4 : Value)) ∧ w1.cell? (Addr.mk w.heap.size 1 none) = some ((.slice a5 l5 c5 : Value)) ∧ w1.cell? (Addr.mk w.heap.size 2 none) = some ((.slice a6 l6 c6 : Value)) ∧ 
  CallR Tryz.prog 12 [.agg #[.slice a4 l4 c4, .slice a5 l5 c5, .slice a6 l6 c6]] w1 (fun (r8 : Value) (w2 : World) =>
  ∃ (n7 : Int), r8 = .int .i64 n7 ∧
  cond (n7 != 0)
  (Q (.tuple #[.pointer none, .int .i64 n7]) w2)
  (let w3 := World.alloc w2 (Obj.map #[] 0);
  let w4 := World.alloc w3 (Obj.map #[] 0);
  let w5 := World.alloc w4 (Obj.map #[] 0);
  let w6 := World.alloc w5 (Obj.cells #[.bool true, .map (some w2.heap.size), .map (some w3.heap.size), .map (some w4.heap.size), .int .i64 1, .pointer none, .int .i64 0, .int .i64 0] 118);
  ∃ (a9 : Option Addr) (l9 : Nat) (c9 : Nat), w6.cell? (Addr.mk w.heap.size 2 none) = some ((.slice a9 l9 c9 : Value)) ∧
  CallR Tryz.prog 53 [.slice a9 l9 c9] w6 (fun (r12 : Value) (w7 : World) =>
  ∃ (p10 : Option Addr) (n11 : Int), r12 = .tuple #[.pointer p10, .int .i64 n11] ∧
  stC (Addr.mk w5.heap.size 5 none) (.pointer p10) w7 (fun (w8 : World) =>
  ∃ (a13 : Option Addr) (l13 : Nat) (c13 : Nat), w8.cell? (Addr.mk w.heap.size 0 none) = some ((.slice a13 l13 c13 : Value)) ∧
  ∃ (I14 : List Value → World → Prop) (mu15 : List Value → World → Nat),
  I14 [.int .i64 0] w8 ∧
  ∀ (_ : Env) (n16 : Int) (w9 : World), I14 [.int .i64 n16] w9 →
  cond (decide (n16 < (((l13 : Nat) : Int))))
  ((0 ≤ (n16 : Int) ∧ (n16 : Int) < ((l13 : Nat) : Int)) ∧
  nn a13 (fun (q17 : Addr) =>
  ∃ (s18 : ByteArray) (a19 : Option Addr) (l19 : Nat) (c19 : Nat), w9.cell? (Addr.add q17 (Int.toNat n16 * 2)) = some ((.string s18 : Value)) ∧ w9.cell? (Addr.add (Addr.add q17 (Int.toNat n16 * 2)) 1) = some ((.slice a19 l19 c19 : Value)) ∧ 
  let w10 := World.alloc w9 (Obj.cells #[.string (ByteArray.mk #[]), .slice none 0 0] 122);
  stC (Addr.mk w9.heap.size 0 none) (.string s18) w10 (fun (w11 : World) =>
  stC (Addr.mk w9.heap.size 1 none) (.slice a19 l19 c19) w11 (fun (w12 : World) =>
  ∃ (S20 : World → Prop), S20 (World.drew w12) ∧
  let w13 := World.drew w12;
  ∃ (m21 : Option Nat), (∀ wS : World, S20 wS → wS.cell? (Addr.mk w5.heap.size 1 none) = some ((.map m21 : Value))) ∧
  ∃ (s22 : ByteArray), (∀ wS : World, S20 wS → wS.cell? (Addr.mk w9.heap.size 0 none) = some ((.string s22 : Value))) ∧
  ∃ (a23 : Option Addr) (l23 : Nat) (c23 : Nat), (∀ wS : World, S20 wS → wS.cell? (Addr.mk w9.heap.size 1 none) = some ((.slice a23 l23 c23 : Value))) ∧
  CallR Tryz.prog 54 [.slice a23 l23 c23] w13 (fun (r26 : Value) (w14 : World) =>
  ∃ (p24 : Option Addr) (n25 : Int), r26 = .tuple #[.pointer p24, .int .i64 n25] ∧
  S20 w14 ∧
  ∃ (w15 : World), Sem.run Tryz.prog (Instr.mapUpdate 112 (.map m21) (.string s22) (.pointer p24)) w14 = .ok () w15 ∧
  inI (n16 + 1) ∧
  I14 [.int .i64 (n16 + 1)] w15 ∧ mu15 [.int .i64 (n16 + 1)] w15 < mu15 [.int .i64 n16] w9)))))
  (∃ (a27 : Option Addr) (l27 : Nat) (c27 : Nat), w9.cell? (Addr.mk w.heap.size 1 none) = some ((.slice a27 l27 c27 : Value)) ∧
  ∃ (I28 : List Value → World → Prop) (mu29 : List Value → World → Nat),
  I28 [.int .i64 0] w9 ∧
  ∀ (_ : Env) (n30 : Int) (w16 : World), I28 [.int .i64 n30] w16 →
  cond (decide (n30 < (((l27 : Nat) : Int))))
  ((0 ≤ (n30 : Int) ∧ (n30 : Int) < ((l27 : Nat) : Int)) ∧
  nn a27 (fun (q31 : Addr) =>
  ∃ (s32 : ByteArray) (a33 : Option Addr) (l33 : Nat) (c33 : Nat), w16.cell? (Addr.add q31 (Int.toNat n30 * 2)) = some ((.string s32 : Value)) ∧ w16.cell? (Addr.add (Addr.add q31 (Int.toNat n30 * 2)) 1) = some ((.slice a33 l33 c33 : Value)) ∧ 
  let w17 := World.alloc w16 (Obj.cells #[.string (ByteArray.mk #[]), .slice none 0 0] 127);
  stC (Addr.mk w16.heap.size 0 none) (.string s32) w17 (fun (w18 : World) =>
  stC (Addr.mk w16.heap.size 1 none) (.slice a33 l33 c33) w18 (fun (w19 : World) =>
  ∃ (S34 : World → Prop), S34 (World.drew w19) ∧
  let w20 := World.drew w19;
  ∃ (m35 : Option Nat), (∀ wS : World, S34 wS → wS.cell? (Addr.mk w5.heap.size 2 none) = some ((.map m35 : Value))) ∧
  ∃ (s36 : ByteArray), (∀ wS : World, S34 wS → wS.cell? (Addr.mk w16.heap.size 0 none) = some ((.string s36 : Value))) ∧
  ∃ (a37 : Option Addr) (l37 : Nat) (c37 : Nat), (∀ wS : World, S34 wS → wS.cell? (Addr.mk w16.heap.size 1 none) = some ((.slice a37 l37 c37 : Value))) ∧
  CallR Tryz.prog 55 [.slice a37 l37 c37] w20 (fun (r40 : Value) (w21 : World) =>
  ∃ (p38 : Option Addr) (n39 : Int), r40 = .tuple #[.pointer p38, .int .i64 n39] ∧
  S34 w21 ∧
  ∃ (w22 : World), Sem.run Tryz.prog (Instr.mapUpdate 113 (.map m35) (.string s36) (.pointer p38)) w21 = .ok () w22 ∧
  inI (n30 + 1) ∧
  I28 [.int .i64 (n30 + 1)] w22 ∧ mu29 [.int .i64 (n30 + 1)] w22 < mu29 [.int .i64 n30] w16)))))
  (Q (.tuple #[.pointer (some (Addr.mk w5.heap.size 0 none)), .int .i64 0]) w16))))))
theorem C8 {a1 : Option Addr} {l1 : Nat} {c1 : Nat} {a2 : Option Addr} {l2 : Nat} {c2 : Nat} {a3 : Option Addr} {l3 : Nat} {c3 : Nat} {Q : Value → World → Prop} {w : World} (h : L8 a1 l1 c1 a2 l2 c2 a3 l3 c3 Q w) : CallR Tryz.prog 8 [.agg #[.slice a1 l1 c1, .slice a2 l2 c2, .slice a3 l3 c3]] w Q :=
  fun_calls (A := A8) mixed Tryz.func8 (c := (Tryz.f8.body).getD .skip) rfl (by kernel_rfl) (Eq.mp (by kernel_rfl) h)

/-- (*millrace/kern.Kernel).none -/
def A118 : Ann := ⟨[], [], [], [], [], []⟩
def L118 (p1 : Option Addr) (Q : Value → World → Prop) (w : World) : Prop :=
  cond (Option.isNone p1)
  (Q (.bool true) w)
  (nn p1 (fun (q2 : Addr) =>
  ∃ (b3 : Bool), w.cell? q2 = some ((.bool b3 : Value)) ∧
  Q (.bool (!b3)) w))
theorem C118 {p1 : Option Addr} {Q : Value → World → Prop} {w : World} (h : L118 p1 Q w) : CallR Tryz.prog 118 [.pointer p1] w Q :=
  fun_calls (A := A118) mixed Tryz.func118 (c := (Tryz.f118.body).getD .skip) rfl (by kernel_rfl) (Eq.mp (by kernel_rfl) h)

/-- (*millrace/kern.Kernel).describe -/
def A121 : Ann := ⟨[], [], [], [], [], []⟩
def L121 (p1 : Option Addr) (t2 : TypeId) (v2 : Value) (n3 : Int) (Q : Value → World → Prop) (w : World) : Prop :=
  nn p1 (fun (q4 : Addr) =>
  ∃ (n5 : Int), w.cell? (Addr.add q4 4) = some ((.int .i64 n5 : Value)) ∧
  nn p1 (fun (q6 : Addr) =>
  ∃ (n7 : Int), w.cell? (Addr.add q6 4) = some ((.int .i64 n7 : Value)) ∧
  inI (n7 + 1) ∧
  nn p1 (fun (q8 : Addr) =>
  stC (Addr.add q8 4) (.int .i64 (n7 + 1)) w (fun (w1 : World) =>
  nn p1 (fun (q9 : Addr) =>
  ∃ (m10 : Option Nat), w1.cell? (Addr.add q9 3) = some ((.map m10 : Value)) ∧
  let w2 := World.alloc w1 (Obj.cells #[.iface t2 v2, .int .i64 n3, .int .i64 0, .int .i64 1] 264);
  ∃ (w3 : World), Sem.run Tryz.prog (Instr.mapUpdate 114 (.map m10) (.int .i64 n5) (.pointer (some (Addr.mk w1.heap.size 0 none)))) w2 = .ok () w3 ∧
  Q (.int .i64 n5) w3)))))
theorem C121 {p1 : Option Addr} {t2 : TypeId} {v2 : Value} {n3 : Int} {Q : Value → World → Prop} {w : World} (h : L121 p1 t2 v2 n3 Q w) : CallR Tryz.prog 121 [.pointer p1, .iface t2 v2, .int .i64 n3] w Q :=
  fun_calls (A := A121) mixed Tryz.func121 (c := (Tryz.f121.body).getD .skip) rfl (by kernel_rfl) (Eq.mp (by kernel_rfl) h)

/-- millrace/kern.flagged -/
def A123 : Ann := ⟨[], [], [], [], [], []⟩
def L123 (n1 : Int) (Q : Value → World → Prop) (w : World) : Prop :=
  cond (decide (n1 ≥ 0))
  (cond (decide (n1 ≤ 63))
  (cond ((IntKind.wrap .i64 ↑(BitVec.ofInt (IntKind.bits .i64) n1 &&& BitVec.ofInt (IntKind.bits .i64) 3).toNat) != 0)
  (cond ((IntKind.wrap .i64 ↑(BitVec.ofInt (IntKind.bits .i64) n1 &&& BitVec.ofInt (IntKind.bits .i64) 2).toNat) != 0)
  (cond ((IntKind.wrap .i64 ↑(BitVec.ofInt (IntKind.bits .i64) n1 &&& BitVec.ofInt (IntKind.bits .i64) 8).toNat) != 0)
  (Q (.bool true) w)
  (Q (.bool ((IntKind.wrap .i64 ↑(BitVec.ofInt (IntKind.bits .i64) n1 &&& BitVec.ofInt (IntKind.bits .i64) 32).toNat) == 0)) w))
  (cond ((IntKind.wrap .i64 ↑(BitVec.ofInt (IntKind.bits .i64) n1 &&& BitVec.ofInt (IntKind.bits .i64) 20).toNat) == 0)
  (cond ((IntKind.wrap .i64 ↑(BitVec.ofInt (IntKind.bits .i64) n1 &&& BitVec.ofInt (IntKind.bits .i64) 8).toNat) != 0)
  (Q (.bool true) w)
  (Q (.bool ((IntKind.wrap .i64 ↑(BitVec.ofInt (IntKind.bits .i64) n1 &&& BitVec.ofInt (IntKind.bits .i64) 32).toNat) == 0)) w))
  (Q (.bool false) w)))
  (Q (.bool false) w))
  (Q (.bool false) w))
  (Q (.bool false) w)
theorem C123 {n1 : Int} {Q : Value → World → Prop} {w : World} (h : L123 n1 Q w) : CallR Tryz.prog 123 [.int .i64 n1] w Q :=
  fun_calls (A := A123) mixed Tryz.func123 (c := (Tryz.f123.body).getD .skip) rfl (by kernel_rfl) (Eq.mp (by kernel_rfl) h)

/-- (*millrace/kern.Kernel).Open -/
def A30 : Ann := ⟨[], [(20, [(8, .one (.ptr))])], [], [], [(18, [0, 1, 2, 3, 5, 6, 7, 8, 4], 9, [10, 11, 12])], []⟩
def L30 (p1 : Option Addr) (s2 : ByteArray) (n3 : Int) (Q : Value → World → Prop) (w : World) : Prop :=
  CallR Tryz.prog 118 [.pointer p1] w (fun (r5 : Value) (w1 : World) =>
  ∃ (b4 : Bool), r5 = .bool b4 ∧
  cond b4
  (Q (.tuple #[.int .i64 0, .int .i64 2]) w1)
  (CallR Tryz.prog 62 [.string s2] w1 (fun (r7 : Value) (w2 : World) =>
  ∃ (b6 : Bool), r7 = .bool b6 ∧
  cond (!b6)
  (Q (.tuple #[.int .i64 0, .int .i64 61]) w2)
  (CallR Tryz.prog 123 [.int .i64 n3] w2 (fun (r9 : Value) (w3 : World) =>
  ∃ (b8 : Bool), r9 = .bool b8 ∧
  cond (!b8)
  (Q (.tuple #[.int .i64 0, .int .i64 65]) w3)
  (nn p1 (fun (q10 : Addr) =>
  ∃ (m11 : Option Nat), w3.cell? (Addr.add q10 3) = some ((.map m11 : Value)) ∧
  ∃ (n12 : Int) (w4 : World), Sem.run Tryz.prog (Builtin.len_ #[114] 3 #[.map m11]) w3 = .ok ((.int .i64 n12 : Value)) w4 ∧
  cond (decide (n12 ≥ 256))
  (Q (.tuple #[.int .i64 0, .int .i64 3]) w4)
  (nn p1 (fun (q13 : Addr) =>
  ∃ (m14 : Option Nat), w4.cell? (Addr.add q13 1) = some ((.map m14 : Value)) ∧
  ∃ (p15 : Option Addr) (b16 : Bool) (w5 : World), Sem.run Tryz.prog (Instr.lookup 112 (.map m14) (.string s2) true) w4 = .ok ((.tuple #[.pointer p15, .bool b16] : Value)) w5 ∧
  nn p1 (fun (q17 : Addr) =>
  ∃ (m18 : Option Nat), w5.cell? (Addr.add q17 2) = some ((.map m18 : Value)) ∧
  ∃ (p19 : Option Addr) (b20 : Bool) (w6 : World), Sem.run Tryz.prog (Instr.lookup 113 (.map m18) (.string s2) true) w5 = .ok ((.tuple #[.pointer p19, .bool b20] : Value)) w6 ∧
  ∃ (J21 : List Value → World → Prop),
  (cond b16
  (cond ((IntKind.wrap .i64 ↑(BitVec.ofInt (IntKind.bits .i64) n3 &&& BitVec.ofInt (IntKind.bits .i64) 32).toNat) != 0)
  (Q (.tuple #[.int .i64 0, .int .i64 63]) w6)
  (J21 [.pointer p15] w6))
  (cond b20
  (cond ((IntKind.wrap .i64 ↑(BitVec.ofInt (IntKind.bits .i64) n3 &&& BitVec.ofInt (IntKind.bits .i64) 32).toNat) != 0)
  (Q (.tuple #[.int .i64 0, .int .i64 63]) w6)
  (J21 [.pointer p15] w6))
  (cond ((IntKind.wrap .i64 ↑(BitVec.ofInt (IntKind.bits .i64) n3 &&& BitVec.ofInt (IntKind.bits .i64) 8).toNat) == 0)
  (Q (.tuple #[.int .i64 0, .int .i64 62]) w6)
  (∃ (S22 : World → Prop), S22 (World.drew w6) ∧
  let w7 := World.drew w6;
  nn p1 (fun (q23 : Addr) =>
  ∃ (m24 : Option Nat), (∀ wS : World, S22 wS → wS.cell? (Addr.add q23 1) = some ((.map m24 : Value))) ∧
  nn p1 (fun (q25 : Addr) =>
  ∃ (m26 : Option Nat), (∀ wS : World, S22 wS → wS.cell? (Addr.add q25 2) = some ((.map m26 : Value))) ∧
  ∃ (n27 : Int) (w8 : World), Sem.run Tryz.prog (Builtin.len_ #[112] 3 #[.map m24]) w7 = .ok ((.int .i64 n27 : Value)) w8 ∧
  S22 w8 ∧
  ∃ (n28 : Int) (w9 : World), Sem.run Tryz.prog (Builtin.len_ #[113] 3 #[.map m26]) w8 = .ok ((.int .i64 n28 : Value)) w9 ∧
  inI (n27 + n28) ∧
  cond (decide ((n27 + n28) ≥ 256))
  (Q (.tuple #[.int .i64 0, .int .i64 3]) w9)
  (CallR Tryz.prog 54 [.slice none 0 0] w9 (fun (r31 : Value) (w10 : World) =>
  ∃ (p29 : Option Addr) (n30 : Int), r31 = .tuple #[.pointer p29, .int .i64 n30] ∧
  nn p1 (fun (q32 : Addr) =>
  ∃ (m33 : Option Nat), w10.cell? (Addr.add q32 1) = some ((.map m33 : Value)) ∧
  ∃ (w11 : World), Sem.run Tryz.prog (Instr.mapUpdate 112 (.map m33) (.string s2) (.pointer p29)) w10 = .ok () w11 ∧
  J21 [.pointer p29] w11))))))))) ∧
  (∀ (_ : Env) (p34 : Option Addr) (w12 : World), J21 [.pointer p34] w12 →
  cond b20
  (CallR Tryz.prog 121 [.pointer p1, .iface 207 (.agg #[.pointer p19]), .int .i64 n3] w12 (fun (r36 : Value) (w13 : World) =>
  ∃ (n35 : Int), r36 = .int .i64 n35 ∧
  Q (.tuple #[.int .i64 n35, .int .i64 0]) w13))
  (cond ((IntKind.wrap .i64 ↑(BitVec.ofInt (IntKind.bits .i64) n3 &&& BitVec.ofInt (IntKind.bits .i64) 16).toNat) != 0)
  (CallR Tryz.prog 124 [.pointer p34, .int .i64 0] w12 (fun (r38 : Value) (w14 : World) =>
  ∃ (n37 : Int), r38 = .int .i64 n37 ∧
  CallR Tryz.prog 121 [.pointer p1, .iface 209 (.agg #[.pointer p34]), .int .i64 n3] w14 (fun (r40 : Value) (w15 : World) =>
  ∃ (n39 : Int), r40 = .int .i64 n39 ∧
  Q (.tuple #[.int .i64 n39, .int .i64 0]) w15)))
  (CallR Tryz.prog 121 [.pointer p1, .iface 209 (.agg #[.pointer p34]), .int .i64 n3] w12 (fun (r42 : Value) (w16 : World) =>
  ∃ (n41 : Int), r42 = .int .i64 n41 ∧
  Q (.tuple #[.int .i64 n41, .int .i64 0]) w16))))))))))))))
theorem C30 {p1 : Option Addr} {s2 : ByteArray} {n3 : Int} {Q : Value → World → Prop} {w : World} (h : L30 p1 s2 n3 Q w) : CallR Tryz.prog 30 [.pointer p1, .string s2, .int .i64 n3] w Q :=
  fun_calls (A := A30) mixed Tryz.func30 (c := (Tryz.f30.body).getD .skip) rfl (by kernel_rfl) (Eq.mp (by kernel_rfl) h)

/-- (*millrace/kern.Kernel).Pipe -/
def A28 : Ann := ⟨[], [], [], [], [], []⟩
def L28 (p1 : Option Addr) (Q : Value → World → Prop) (w : World) : Prop :=
  CallR Tryz.prog 118 [.pointer p1] w (fun (r3 : Value) (w1 : World) =>
  ∃ (b2 : Bool), r3 = .bool b2 ∧
  cond b2
  (Q (.tuple #[.int .i64 0, .int .i64 0, .int .i64 2]) w1)
  (nn p1 (fun (q4 : Addr) =>
  ∃ (m5 : Option Nat), w1.cell? (Addr.add q4 3) = some ((.map m5 : Value)) ∧
  ∃ (n6 : Int) (w2 : World), Sem.run Tryz.prog (Builtin.len_ #[114] 3 #[.map m5]) w1 = .ok ((.int .i64 n6 : Value)) w2 ∧
  cond (decide (n6 > 254))
  (Q (.tuple #[.int .i64 0, .int .i64 0, .int .i64 3]) w2)
  (CallR Tryz.prog 119 [] w2 (fun (r8 : Value) (w3 : World) =>
  ∃ (p7 : Option Addr), r8 = .pointer p7 ∧
  CallR Tryz.prog 120 [.pointer p7, .bool false] w3 (fun (r10 : Value) (w4 : World) =>
  ∃ (n9 : Int), r10 = .int .i64 n9 ∧
  CallR Tryz.prog 120 [.pointer p7, .bool true] w4 (fun (r12 : Value) (w5 : World) =>
  ∃ (n11 : Int), r12 = .int .i64 n11 ∧
  CallR Tryz.prog 121 [.pointer p1, .iface 194 (.agg #[.pointer p7]), .int .i64 1] w5 (fun (r14 : Value) (w6 : World) =>
  ∃ (n13 : Int), r14 = .int .i64 n13 ∧
  CallR Tryz.prog 121 [.pointer p1, .iface 194 (.agg #[.pointer p7]), .int .i64 2] w6 (fun (r16 : Value) (w7 : World) =>
  ∃ (n15 : Int), r16 = .int .i64 n15 ∧
  Q (.tuple #[.int .i64 n13, .int .i64 n15, .int .i64 0]) w7)))))))))
theorem C28 {p1 : Option Addr} {Q : Value → World → Prop} {w : World} (h : L28 p1 Q w) : CallR Tryz.prog 28 [.pointer p1] w Q :=
  fun_calls (A := A28) mixed Tryz.func28 (c := (Tryz.f28.body).getD .skip) rfl (by kernel_rfl) (Eq.mp (by kernel_rfl) h)

/-- (*millrace/kern.Kernel).find -/
def A165 : Ann := ⟨[], [], [], [], [], []⟩
def L165 (p1 : Option Addr) (n2 : Int) (n3 : Int) (Q : Value → World → Prop) (w : World) : Prop :=
  CallR Tryz.prog 118 [.pointer p1] w (fun (r5 : Value) (w1 : World) =>
  ∃ (b4 : Bool), r5 = .bool b4 ∧
  cond b4
  (Q (.tuple #[.pointer none, .int .i64 2]) w1)
  (nn p1 (fun (q6 : Addr) =>
  ∃ (m7 : Option Nat), w1.cell? (Addr.add q6 3) = some ((.map m7 : Value)) ∧
  ∃ (p8 : Option Addr) (b9 : Bool) (w2 : World), Sem.run Tryz.prog (Instr.lookup 114 (.map m7) (.int .i64 n2) true) w1 = .ok ((.tuple #[.pointer p8, .bool b9] : Value)) w2 ∧
  cond (!b9)
  (Q (.tuple #[.pointer none, .int .i64 64]) w2)
  (nn p8 (fun (q10 : Addr) =>
  ∃ (n11 : Int), w2.cell? (Addr.add q10 1) = some ((.int .i64 n11 : Value)) ∧
  cond ((IntKind.wrap .i64 ↑(BitVec.ofInt (IntKind.bits .i64) n11 &&& BitVec.ofInt (IntKind.bits .i64) n3).toNat) != n3)
  (Q (.tuple #[.pointer none, .int .i64 65]) w2)
  (Q (.tuple #[.pointer p8, .int .i64 0]) w2))))))
theorem C165 {p1 : Option Addr} {n2 : Int} {n3 : Int} {Q : Value → World → Prop} {w : World} (h : L165 p1 n2 n3 Q w) : CallR Tryz.prog 165 [.pointer p1, .int .i64 n2, .int .i64 n3] w Q :=
  fun_calls (A := A165) mixed Tryz.func165 (c := (Tryz.f165.body).getD .skip) rfl (by kernel_rfl) (Eq.mp (by kernel_rfl) h)

/-- millrace/kern.waits -/
def A166 : Ann := ⟨[], [], [], [], [], []⟩
def L166 (p1 : Option Addr) (Q : Value → World → Prop) (w : World) : Prop :=
  nn p1 (fun (q2 : Addr) =>
  ∃ (v3 : Value), w.cell? q2 = some v3 ∧
  ∃ (p4 : Option Addr) (b5 : Bool) (w1 : World), Sem.run Tryz.prog (Instr.typeAssert v3 262 194 true) w = .ok ((.tuple #[.agg #[.pointer p4], .bool b5] : Value)) w1 ∧
  let w2 := World.alloc w1 (Obj.cells #[.pointer none] 194);
  stC (Addr.mk w1.heap.size 0 none) (.pointer p4) w2 (fun (w3 : World) =>
  cond b5
  (∃ (p6 : Option Addr), w3.cell? (Addr.mk w1.heap.size 0 none) = some ((.pointer p6 : Value)) ∧
  CallR Tryz.prog 204 [.pointer p6] w3 (fun (r8 : Value) (w4 : World) =>
  ∃ (b7 : Bool), r8 = .bool b7 ∧
  Q (.bool (!b7)) w4))
  (Q (.bool false) w3)))
theorem C166 {p1 : Option Addr} {Q : Value → World → Prop} {w : World} (h : L166 p1 Q w) : CallR Tryz.prog 166 [.pointer p1] w Q :=
  fun_calls (A := A166) mixed Tryz.func166 (c := (Tryz.f166.body).getD .skip) rfl (by kernel_rfl) (Eq.mp (by kernel_rfl) h)

/-- (*millrace/kern.Kernel).Read -/
def A64 : Ann := ⟨[], [], [], [(10, [0, 1, 2, 3, 4, 5, 6, 7, 8, 9])], [], []⟩
def L64 (p1 : Option Addr) (n2 : Int) (n3 : Int) (Q : Value → World → Prop) (w : World) : Prop :=
  CallR Tryz.prog 165 [.pointer p1, .int .i64 n2, .int .i64 1] w (fun (r6 : Value) (w1 : World) =>
  ∃ (p4 : Option Addr) (n5 : Int), r6 = .tuple #[.pointer p4, .int .i64 n5] ∧
  cond (n5 != 0)
  (Q (.tuple #[.slice none 0 0, .int .i64 n5]) w1)
  (cond (decide (n3 < 0))
  (Q (.tuple #[.slice none 0 0, .int .i64 4]) w1)
  (cond (decide (n3 > 1048576))
  (Q (.tuple #[.slice none 0 0, .int .i64 4]) w1)
  (cond (n3 == 0)
  (Q (.tuple #[.slice none 0 0, .int .i64 0]) w1)
  (CallR Tryz.prog 166 [.pointer p4] w1 (fun (r8 : Value) (w2 : World) =>
  ∃ (b7 : Bool), r8 = .bool b7 ∧
  cond b7
  (Q (.tuple #[.slice none 0 0, .int .i64 52]) w2)
  (let w3 := World.drew w2;
  nn p1 (fun (q9 : Addr) =>
  (0 ≤ (0 : Int) ∧ (0 : Int) < ((2 : Nat) : Int)) ∧
  ∃ (n10 : Int), w3.cell? (Addr.add (Addr.add q9 6) (Int.toNat 0)) = some ((.int .i64 n10 : Value)) ∧
  inI (n10 + 1) ∧
  nn p1 (fun (q11 : Addr) =>
  (0 ≤ (0 : Int) ∧ (0 : Int) < ((2 : Nat) : Int)) ∧
  stC (Addr.add (Addr.add q11 6) (Int.toNat 0)) (.int .i64 (n10 + 1)) w3 (fun (w4 : World) =>
  nn p1 (fun (q12 : Addr) =>
  ∃ (p13 : Option Addr), w4.cell? (Addr.add q12 5) = some ((.pointer p13 : Value)) ∧
  CallR Tryz.prog 167 [.pointer p13, .int .i64 n3] w4 (fun (r16 : Value) (w5 : World) =>
  ∃ (n14 : Int) (n15 : Int), r16 = .tuple #[.int .i64 n14, .int .i64 n15] ∧
  cond (n15 != 0)
  (Q (.tuple #[.slice none 0 0, .int .i64 n15]) w5)
  (nn p4 (fun (q17 : Addr) =>
  ∃ (v18 : Value), w5.cell? q17 = some v18 ∧
  ∃ (f19 : FuncId) (xs20 : Array Value) (w6 : World), Sem.run Tryz.prog (callMethod v18 "millrace/kern.read" #[.pointer p4, .int .i64 n14]) w5 = .ok (.enter f19 xs20) w6 ∧
  CallR Tryz.prog f19 (Array.toList xs20) w6 (fun (r22 : Value) (w7 : World) =>
  ∃ (a21 : Option Addr) (l21 : Nat) (c21 : Nat), r22 = .slice a21 l21 c21 ∧
  Q (.tuple #[.slice a21 l21 c21, .int .i64 0]) w7)))))))))))))))
theorem C64 {p1 : Option Addr} {n2 : Int} {n3 : Int} {Q : Value → World → Prop} {w : World} (h : L64 p1 n2 n3 Q w) : CallR Tryz.prog 64 [.pointer p1, .int .i64 n2, .int .i64 n3] w Q :=
  fun_calls (A := A64) mixed Tryz.func64 (c := (Tryz.f64.body).getD .skip) rfl (by kernel_rfl) (Eq.mp (by kernel_rfl) h)

/-- (*millrace/kern.Kernel).Write -/
def A66 : Ann := ⟨[], [], [], [(11, [0, 1, 2, 3, 4, 5, 6, 7, 8, 9])], [], []⟩
def L66 (p1 : Option Addr) (n2 : Int) (a3 : Option Addr) (l3 : Nat) (c3 : Nat) (Q : Value → World → Prop) (w : World) : Prop :=
  CallR Tryz.prog 165 [.pointer p1, .int .i64 n2, .int .i64 2] w (fun (r6 : Value) (w1 : World) =>
  ∃ (p4 : Option Addr) (n5 : Int), r6 = .tuple #[.pointer p4, .int .i64 n5] ∧
  cond (n5 != 0)
  (Q (.tuple #[.int .i64 0, .int .i64 n5]) w1)
  (cond (decide ((((l3 : Nat) : Int)) > 1048576))
  (Q (.tuple #[.int .i64 0, .int .i64 5]) w1)
  (cond ((((l3 : Nat) : Int)) == 0)
  (Q (.tuple #[.int .i64 0, .int .i64 0]) w1)
  (nn p4 (fun (q7 : Addr) =>
  ∃ (v8 : Value), w1.cell? q7 = some v8 ∧
  ∃ (f9 : FuncId) (xs10 : Array Value) (w2 : World), Sem.run Tryz.prog (callMethod v8 "millrace/kern.room" #[.pointer p4, .int .i64 (((l3 : Nat) : Int))]) w1 = .ok (.enter f9 xs10) w2 ∧
  CallR Tryz.prog f9 (Array.toList xs10) w2 (fun (r13 : Value) (w3 : World) =>
  ∃ (n11 : Int) (n12 : Int), r13 = .tuple #[.int .i64 n11, .int .i64 n12] ∧
  cond (n12 != 0)
  (Q (.tuple #[.int .i64 0, .int .i64 n12]) w3)
  (let w4 := World.drew w3;
  nn p1 (fun (q14 : Addr) =>
  (0 ≤ (1 : Int) ∧ (1 : Int) < ((2 : Nat) : Int)) ∧
  ∃ (n15 : Int), w4.cell? (Addr.add (Addr.add q14 6) (Int.toNat 1)) = some ((.int .i64 n15 : Value)) ∧
  inI (n15 + 1) ∧
  nn p1 (fun (q16 : Addr) =>
  (0 ≤ (1 : Int) ∧ (1 : Int) < ((2 : Nat) : Int)) ∧
  stC (Addr.add (Addr.add q16 6) (Int.toNat 1)) (.int .i64 (n15 + 1)) w4 (fun (w5 : World) =>
  nn p1 (fun (q17 : Addr) =>
  ∃ (p18 : Option Addr), w5.cell? (Addr.add q17 5) = some ((.pointer p18 : Value)) ∧
  CallR Tryz.prog 167 [.pointer p18, .int .i64 (((l3 : Nat) : Int))] w5 (fun (r21 : Value) (w6 : World) =>
  ∃ (n19 : Int) (n20 : Int), r21 = .tuple #[.int .i64 n19, .int .i64 n20] ∧
  cond (n20 != 0)
  (Q (.tuple #[.int .i64 0, .int .i64 n20]) w6)
  (nn p4 (fun (q22 : Addr) =>
  ∃ (v23 : Value), w6.cell? q22 = some v23 ∧
  ∃ (f24 : FuncId) (xs25 : Array Value) (w7 : World), Sem.run Tryz.prog (callMethod v23 "millrace/kern.write" #[.pointer p4, .slice a3 l3 c3, .int .i64 (mn n19 n11)]) w6 = .ok (.enter f24 xs25) w7 ∧
  CallR Tryz.prog f24 (Array.toList xs25) w7 (fun (r27 : Value) (w8 : World) =>
  ∃ (n26 : Int), r27 = .int .i64 n26 ∧
  Q (.tuple #[.int .i64 n26, .int .i64 0]) w8)))))))))))))))
theorem C66 {p1 : Option Addr} {n2 : Int} {a3 : Option Addr} {l3 : Nat} {c3 : Nat} {Q : Value → World → Prop} {w : World} (h : L66 p1 n2 a3 l3 c3 Q w) : CallR Tryz.prog 66 [.pointer p1, .int .i64 n2, .slice a3 l3 c3] w Q :=
  fun_calls (A := A66) mixed Tryz.func66 (c := (Tryz.f66.body).getD .skip) rfl (by kernel_rfl) (Eq.mp (by kernel_rfl) h)

/-- (*millrace/kern.Kernel).Seek -/
def A68 : Ann := ⟨[], [], [(9, [0, 1, 2, 3, 4, 5, 8, 6, 7, 9, 10])], [], [], []⟩
def L68 (p1 : Option Addr) (n2 : Int) (n3 : Int) (n4 : Int) (Q : Value → World → Prop) (w : World) : Prop :=
  CallR Tryz.prog 165 [.pointer p1, .int .i64 n2, .int .i64 0] w (fun (r7 : Value) (w1 : World) =>
  ∃ (p5 : Option Addr) (n6 : Int), r7 = .tuple #[.pointer p5, .int .i64 n6] ∧
  cond (n6 != 0)
  (Q (.tuple #[.int .i64 0, .int .i64 n6]) w1)
  (nn p5 (fun (q8 : Addr) =>
  ∃ (v9 : Value), w1.cell? q8 = some v9 ∧
  ∃ (p10 : Option Addr) (b11 : Bool) (w2 : World), Sem.run Tryz.prog (Instr.typeAssert v9 262 209 true) w1 = .ok ((.tuple #[.agg #[.pointer p10], .bool b11] : Value)) w2 ∧
  let w3 := World.alloc w2 (Obj.cells #[.pointer none] 209);
  stC (Addr.mk w2.heap.size 0 none) (.pointer p10) w3 (fun (w4 : World) =>
  cond (!b11)
  (Q (.tuple #[.int .i64 0, .int .i64 66]) w4)
  (cond (decide (n4 < 0))
  (Q (.tuple #[.int .i64 0, .int .i64 1]) w4)
  (cond (decide (n4 > 2))
  (Q (.tuple #[.int .i64 0, .int .i64 1]) w4)
  (∃ (S12 : World → Prop), S12 (World.drew w4) ∧
  let w5 := World.drew w4;
  nn p5 (fun (q13 : Addr) =>
  ∃ (n14 : Int), (∀ wS : World, S12 wS → wS.cell? (Addr.add q13 2) = some ((.int .i64 n14 : Value))) ∧
  ∃ (p15 : Option Addr), (∀ wS : World, S12 wS → wS.cell? (Addr.mk w2.heap.size 0 none) = some ((.pointer p15 : Value))) ∧
  CallR Tryz.prog 178 [.pointer p15] w5 (fun (r17 : Value) (w6 : World) =>
  ∃ (n16 : Int), r17 = .int .i64 n16 ∧
  S12 w6 ∧
  (0 ≤ (n4 : Int) ∧ (n4 : Int) < ((3 : Nat) : Int)) ∧
  ∃ (n18 : Int), (#[.int .i64 0, .int .i64 n14, .int .i64 n16] : Array Value)[Int.toNat n4]? = some (.int .i64 n18) ∧
  inI ((0 : Int) - n18) ∧
  cond (decide (n3 < ((0 : Int) - n18)))
  (Q (.tuple #[.int .i64 0, .int .i64 4]) w6)
  (inI ((1048576 : Int) - n18) ∧
  cond (decide (n3 > ((1048576 : Int) - n18)))
  (Q (.tuple #[.int .i64 0, .int .i64 4]) w6)
  (inI (n18 + n3) ∧
  nn p5 (fun (q19 : Addr) =>
  stC (Addr.add q19 2) (.int .i64 (n18 + n3)) w6 (fun (w7 : World) =>
  nn p5 (fun (q20 : Addr) =>
  ∃ (n21 : Int), w7.cell? (Addr.add q20 2) = some ((.int .i64 n21 : Value)) ∧
  Q (.tuple #[.int .i64 n21, .int .i64 0]) w7))))))))))))))
theorem C68 {p1 : Option Addr} {n2 : Int} {n3 : Int} {n4 : Int} {Q : Value → World → Prop} {w : World} (h : L68 p1 n2 n3 n4 Q w) : CallR Tryz.prog 68 [.pointer p1, .int .i64 n2, .int .i64 n3, .int .i64 n4] w Q :=
  fun_calls (A := A68) mixed Tryz.func68 (c := (Tryz.f68.body).getD .skip) rfl (by kernel_rfl) (Eq.mp (by kernel_rfl) h)

/-- (*millrace/kern.Kernel).Keep -/
def A70 : Ann := ⟨[], [], [], [], [], []⟩
def L70 (p1 : Option Addr) (n2 : Int) (Q : Value → World → Prop) (w : World) : Prop :=
  CallR Tryz.prog 165 [.pointer p1, .int .i64 n2, .int .i64 0] w (fun (r5 : Value) (w1 : World) =>
  ∃ (p3 : Option Addr) (n4 : Int), r5 = .tuple #[.pointer p3, .int .i64 n4] ∧
  cond (n4 != 0)
  (Q (.int .i64 n4) w1)
  (nn p3 (fun (q6 : Addr) =>
  ∃ (n7 : Int), w1.cell? (Addr.add q6 3) = some ((.int .i64 n7 : Value)) ∧
  cond (decide (n7 ≥ 1024))
  (Q (.int .i64 3) w1)
  (nn p3 (fun (q8 : Addr) =>
  ∃ (n9 : Int), w1.cell? (Addr.add q8 3) = some ((.int .i64 n9 : Value)) ∧
  inI (n9 + 1) ∧
  nn p3 (fun (q10 : Addr) =>
  stC (Addr.add q10 3) (.int .i64 (n9 + 1)) w1 (fun (w2 : World) =>
  Q (.int .i64 0) w2)))))))
theorem C70 {p1 : Option Addr} {n2 : Int} {Q : Value → World → Prop} {w : World} (h : L70 p1 n2 Q w) : CallR Tryz.prog 70 [.pointer p1, .int .i64 n2] w Q :=
  fun_calls (A := A70) mixed Tryz.func70 (c := (Tryz.f70.body).getD .skip) rfl (by kernel_rfl) (Eq.mp (by kernel_rfl) h)

/-- (*millrace/kern.Kernel).Drop -/
def A72 : Ann := ⟨[], [], [], [], [], []⟩
def L72 (p1 : Option Addr) (n2 : Int) (Q : Value → World → Prop) (w : World) : Prop :=
  CallR Tryz.prog 165 [.pointer p1, .int .i64 n2, .int .i64 0] w (fun (r5 : Value) (w1 : World) =>
  ∃ (p3 : Option Addr) (n4 : Int), r5 = .tuple #[.pointer p3, .int .i64 n4] ∧
  cond (n4 != 0)
  (Q (.int .i64 n4) w1)
  (nn p3 (fun (q6 : Addr) =>
  ∃ (n7 : Int), w1.cell? (Addr.add q6 3) = some ((.int .i64 n7 : Value)) ∧
  inI (n7 - 1) ∧
  nn p3 (fun (q8 : Addr) =>
  stC (Addr.add q8 3) (.int .i64 (n7 - 1)) w1 (fun (w2 : World) =>
  nn p3 (fun (q9 : Addr) =>
  ∃ (n10 : Int), w2.cell? (Addr.add q9 3) = some ((.int .i64 n10 : Value)) ∧
  cond (n10 == 0)
  (nn p1 (fun (q11 : Addr) =>
  ∃ (m12 : Option Nat), w2.cell? (Addr.add q11 3) = some ((.map m12 : Value)) ∧
  ∃ (w3 : World), Sem.run Tryz.prog (Builtin.delete_ #[114, 3] 0 #[.map m12, .int .i64 n2]) w2 = .ok ((.tuple #[] : Value)) w3 ∧
  nn p3 (fun (q13 : Addr) =>
  ∃ (v14 : Value), w3.cell? q13 = some v14 ∧
  ∃ (f15 : FuncId) (xs16 : Array Value) (w4 : World), Sem.run Tryz.prog (callMethod v14 "millrace/kern.drop" #[.pointer p3]) w3 = .ok (.enter f15 xs16) w4 ∧
  CallR Tryz.prog f15 (Array.toList xs16) w4 (fun (r17 : Value) (w5 : World) =>
  r17 = .tuple #[] ∧
  Q (.int .i64 0) w5))))
  (Q (.int .i64 0) w2)))))))
theorem C72 {p1 : Option Addr} {n2 : Int} {Q : Value → World → Prop} {w : World} (h : L72 p1 n2 Q w) : CallR Tryz.prog 72 [.pointer p1, .int .i64 n2] w Q :=
  fun_calls (A := A72) mixed Tryz.func72 (c := (Tryz.f72.body).getD .skip) rfl (by kernel_rfl) (Eq.mp (by kernel_rfl) h)

/-- (*millrace/kern.Kernel).CanRead -/
def A84 : Ann := ⟨[], [], [], [], [], []⟩
def L84 (p1 : Option Addr) (n2 : Int) (Q : Value → World → Prop) (w : World) : Prop :=
  CallR Tryz.prog 165 [.pointer p1, .int .i64 n2, .int .i64 1] w (fun (r5 : Value) (w1 : World) =>
  ∃ (p3 : Option Addr) (n4 : Int), r5 = .tuple #[.pointer p3, .int .i64 n4] ∧
  cond (n4 == 0)
  (CallR Tryz.prog 166 [.pointer p3] w1 (fun (r7 : Value) (w2 : World) =>
  ∃ (b6 : Bool), r7 = .bool b6 ∧
  Q (.bool (!b6)) w2))
  (Q (.bool false) w1))
theorem C84 {p1 : Option Addr} {n2 : Int} {Q : Value → World → Prop} {w : World} (h : L84 p1 n2 Q w) : CallR Tryz.prog 84 [.pointer p1, .int .i64 n2] w Q :=
  fun_calls (A := A84) mixed Tryz.func84 (c := (Tryz.f84.body).getD .skip) rfl (by kernel_rfl) (Eq.mp (by kernel_rfl) h)

/-- (*millrace/kern.Kernel).CanWrite -/
def A86 : Ann := ⟨[], [], [], [], [], []⟩
def L86 (p1 : Option Addr) (n2 : Int) (n3 : Int) (Q : Value → World → Prop) (w : World) : Prop :=
  CallR Tryz.prog 165 [.pointer p1, .int .i64 n2, .int .i64 2] w (fun (r6 : Value) (w1 : World) =>
  ∃ (p4 : Option Addr) (n5 : Int), r6 = .tuple #[.pointer p4, .int .i64 n5] ∧
  cond (n5 != 0)
  (Q (.bool false) w1)
  (cond (decide (n3 < 1))
  (Q (.bool false) w1)
  (cond (decide (n3 > 1048576))
  (Q (.bool false) w1)
  (nn p4 (fun (q7 : Addr) =>
  ∃ (v8 : Value), w1.cell? q7 = some v8 ∧
  ∃ (f9 : FuncId) (xs10 : Array Value) (w2 : World), Sem.run Tryz.prog (callMethod v8 "millrace/kern.room" #[.pointer p4, .int .i64 n3]) w1 = .ok (.enter f9 xs10) w2 ∧
  CallR Tryz.prog f9 (Array.toList xs10) w2 (fun (r13 : Value) (w3 : World) =>
  ∃ (n11 : Int) (n12 : Int), r13 = .tuple #[.int .i64 n11, .int .i64 n12] ∧
  Q (.bool (n12 != 52)) w3))))))
theorem C86 {p1 : Option Addr} {n2 : Int} {n3 : Int} {Q : Value → World → Prop} {w : World} (h : L86 p1 n2 n3 Q w) : CallR Tryz.prog 86 [.pointer p1, .int .i64 n2, .int .i64 n3] w Q :=
  fun_calls (A := A86) mixed Tryz.func86 (c := (Tryz.f86.body).getD .skip) rfl (by kernel_rfl) (Eq.mp (by kernel_rfl) h)

/-- (*millrace/kern.Kernel).Kind -/
def A82 : Ann := ⟨[], [], [], [], [], []⟩
def L82 (p1 : Option Addr) (n2 : Int) (Q : Value → World → Prop) (w : World) : Prop :=
  CallR Tryz.prog 165 [.pointer p1, .int .i64 n2, .int .i64 0] w (fun (r5 : Value) (w1 : World) =>
  ∃ (p3 : Option Addr) (n4 : Int), r5 = .tuple #[.pointer p3, .int .i64 n4] ∧
  cond (n4 != 0)
  (Q (.int .i64 0) w1)
  (nn p3 (fun (q6 : Addr) =>
  ∃ (v7 : Value), w1.cell? q6 = some v7 ∧
  ∃ (f8 : FuncId) (xs9 : Array Value) (w2 : World), Sem.run Tryz.prog (callMethod v7 "millrace/kern.kind" #[]) w1 = .ok (.enter f8 xs9) w2 ∧
  CallR Tryz.prog f8 (Array.toList xs9) w2 (fun (r11 : Value) (w3 : World) =>
  ∃ (n10 : Int), r11 = .int .i64 n10 ∧
  Q (.int .i64 n10) w3))))
theorem C82 {p1 : Option Addr} {n2 : Int} {Q : Value → World → Prop} {w : World} (h : L82 p1 n2 Q w) : CallR Tryz.prog 82 [.pointer p1, .int .i64 n2] w Q :=
  fun_calls (A := A82) mixed Tryz.func82 (c := (Tryz.f82.body).getD .skip) rfl (by kernel_rfl) (Eq.mp (by kernel_rfl) h)

/-- (*millrace/kern.Kernel).Held -/
def A88 : Ann := ⟨[], [], [], [], [], []⟩
def L88 (p1 : Option Addr) (n2 : Int) (Q : Value → World → Prop) (w : World) : Prop :=
  CallR Tryz.prog 165 [.pointer p1, .int .i64 n2, .int .i64 0] w (fun (r5 : Value) (w1 : World) =>
  ∃ (p3 : Option Addr) (n4 : Int), r5 = .tuple #[.pointer p3, .int .i64 n4] ∧
  cond (n4 != 0)
  (Q (.slice none 0 0) w1)
  (nn p3 (fun (q6 : Addr) =>
  ∃ (v7 : Value), w1.cell? q6 = some v7 ∧
  ∃ (p8 : Option Addr) (b9 : Bool) (w2 : World), Sem.run Tryz.prog (Instr.typeAssert v7 262 194 true) w1 = .ok ((.tuple #[.agg #[.pointer p8], .bool b9] : Value)) w2 ∧
  let w3 := World.alloc w2 (Obj.cells #[.pointer none] 194);
  stC (Addr.mk w2.heap.size 0 none) (.pointer p8) w3 (fun (w4 : World) =>
  cond (!b9)
  (Q (.slice none 0 0) w4)
  (∃ (p10 : Option Addr), w4.cell? (Addr.mk w2.heap.size 0 none) = some ((.pointer p10 : Value)) ∧
  CallR Tryz.prog 184 [.pointer p10] w4 (fun (r12 : Value) (w5 : World) =>
  ∃ (a11 : Option Addr) (l11 : Nat) (c11 : Nat), r12 = .slice a11 l11 c11 ∧
  Q (.slice a11 l11 c11) w5))))))
theorem C88 {p1 : Option Addr} {n2 : Int} {Q : Value → World → Prop} {w : World} (h : L88 p1 n2 Q w) : CallR Tryz.prog 88 [.pointer p1, .int .i64 n2] w Q :=
  fun_calls (A := A88) mixed Tryz.func88 (c := (Tryz.f88.body).getD .skip) rfl (by kernel_rfl) (Eq.mp (by kernel_rfl) h)

/-- (millrace/kern.Handle).Read -/
def A190 : Ann := ⟨[], [], [], [], [], []⟩
def L190 (p1 : Option Addr) (n2 : Int) (n3 : Int) (Q : Value → World → Prop) (w : World) : Prop :=
  let w1 := World.alloc w (Obj.cells #[.pointer p1, .int .i64 n2] 70);
  ∃ (p4 : Option Addr), w1.cell? (Addr.mk w.heap.size 0 none) = some ((.pointer p4 : Value)) ∧
  ∃ (n5 : Int), w1.cell? (Addr.mk w.heap.size 1 none) = some ((.int .i64 n5 : Value)) ∧
  CallR Tryz.prog 64 [.pointer p4, .int .i64 n5, .int .i64 n3] w1 (fun (r8 : Value) (w2 : World) =>
  ∃ (a6 : Option Addr) (l6 : Nat) (c6 : Nat) (n7 : Int), r8 = .tuple #[.slice a6 l6 c6, .int .i64 n7] ∧
  Q (.tuple #[.slice a6 l6 c6, .int .i64 n7]) w2)
theorem C190 {p1 : Option Addr} {n2 : Int} {n3 : Int} {Q : Value → World → Prop} {w : World} (h : L190 p1 n2 n3 Q w) : CallR Tryz.prog 190 [.agg #[.pointer p1, .int .i64 n2], .int .i64 n3] w Q :=
  fun_calls (A := A190) mixed Tryz.func190 (c := (Tryz.f190.body).getD .skip) rfl (by kernel_rfl) (Eq.mp (by kernel_rfl) h)

/-- (millrace/kern.Handle).Write -/
def A191 : Ann := ⟨[], [], [], [], [], []⟩
def L191 (p1 : Option Addr) (n2 : Int) (a3 : Option Addr) (l3 : Nat) (c3 : Nat) (Q : Value → World → Prop) (w : World) : Prop :=
  let w1 := World.alloc w (Obj.cells #[.pointer p1, .int .i64 n2] 70);
  ∃ (p4 : Option Addr), w1.cell? (Addr.mk w.heap.size 0 none) = some ((.pointer p4 : Value)) ∧
  ∃ (n5 : Int), w1.cell? (Addr.mk w.heap.size 1 none) = some ((.int .i64 n5 : Value)) ∧
  CallR Tryz.prog 66 [.pointer p4, .int .i64 n5, .slice a3 l3 c3] w1 (fun (r8 : Value) (w2 : World) =>
  ∃ (n6 : Int) (n7 : Int), r8 = .tuple #[.int .i64 n6, .int .i64 n7] ∧
  Q (.tuple #[.int .i64 n6, .int .i64 n7]) w2)
theorem C191 {p1 : Option Addr} {n2 : Int} {a3 : Option Addr} {l3 : Nat} {c3 : Nat} {Q : Value → World → Prop} {w : World} (h : L191 p1 n2 a3 l3 c3 Q w) : CallR Tryz.prog 191 [.agg #[.pointer p1, .int .i64 n2], .slice a3 l3 c3] w Q :=
  fun_calls (A := A191) mixed Tryz.func191 (c := (Tryz.f191.body).getD .skip) rfl (by kernel_rfl) (Eq.mp (by kernel_rfl) h)

/-- (millrace/kern.conduit).drop -/
def A259 : Ann := ⟨[], [], [], [(1, [0, 1, 2, 3, 4, 5, 6, 7, 8])], [], []⟩
def L259 (p1 : Option Addr) (p2 : Option Addr) (Q : Value → World → Prop) (w : World) : Prop :=
  let w1 := World.alloc w (Obj.cells #[.pointer p1] 194);
  let w2 := World.drew w1;
  ∃ (p3 : Option Addr), w2.cell? (Addr.mk w.heap.size 0 none) = some ((.pointer p3 : Value)) ∧
  nn p2 (fun (q4 : Addr) =>
  ∃ (n5 : Int), w2.cell? (Addr.add q4 1) = some ((.int .i64 n5 : Value)) ∧
  CallR Tryz.prog 264 [.pointer p3, .bool ((IntKind.wrap .i64 ↑(BitVec.ofInt (IntKind.bits .i64) n5 &&& BitVec.ofInt (IntKind.bits .i64) 2).toNat) != 0)] w2 (fun (r7 : Value) (w3 : World) =>
  ∃ (n6 : Int), r7 = .int .i64 n6 ∧
  Q (.tuple #[]) w3))
theorem C259 {p1 : Option Addr} {p2 : Option Addr} {Q : Value → World → Prop} {w : World} (h : L259 p1 p2 Q w) : CallR Tryz.prog 259 [.agg #[.pointer p1], .pointer p2] w Q :=
  fun_calls (A := A259) mixed Tryz.func259 (c := (Tryz.f259.body).getD .skip) rfl (by kernel_rfl) (Eq.mp (by kernel_rfl) h)

/-- (millrace/kern.conduit).kind -/
def A260 : Ann := ⟨[], [], [], [], [], []⟩
def L260 (p1 : Option Addr) (Q : Value → World → Prop) (w : World) : Prop :=
  let w1 := World.alloc w (Obj.cells #[.pointer p1] 194);
  Q (.int .i64 3) w1
theorem C260 {p1 : Option Addr} {Q : Value → World → Prop} {w : World} (h : L260 p1 Q w) : CallR Tryz.prog 260 [.agg #[.pointer p1]] w Q :=
  fun_calls (A := A260) mixed Tryz.func260 (c := (Tryz.f260.body).getD .skip) rfl (by kernel_rfl) (Eq.mp (by kernel_rfl) h)

/-- (millrace/kern.conduit).read -/
def A261 : Ann := ⟨[], [], [], [], [], []⟩
def L261 (p1 : Option Addr) (p2 : Option Addr) (n3 : Int) (Q : Value → World → Prop) (w : World) : Prop :=
  let w1 := World.alloc w (Obj.cells #[.pointer p1] 194);
  ∃ (p4 : Option Addr), w1.cell? (Addr.mk w.heap.size 0 none) = some ((.pointer p4 : Value)) ∧
  CallR Tryz.prog 253 [.pointer p4, .int .i64 n3] w1 (fun (r7 : Value) (w2 : World) =>
  ∃ (a5 : Option Addr) (l5 : Nat) (c5 : Nat) (n6 : Int), r7 = .tuple #[.slice a5 l5 c5, .int .i64 n6] ∧
  Q (.slice a5 l5 c5) w2)
theorem C261 {p1 : Option Addr} {p2 : Option Addr} {n3 : Int} {Q : Value → World → Prop} {w : World} (h : L261 p1 p2 n3 Q w) : CallR Tryz.prog 261 [.agg #[.pointer p1], .pointer p2, .int .i64 n3] w Q :=
  fun_calls (A := A261) mixed Tryz.func261 (c := (Tryz.f261.body).getD .skip) rfl (by kernel_rfl) (Eq.mp (by kernel_rfl) h)

/-- (millrace/kern.conduit).room -/
def A262 : Ann := ⟨[], [], [], [], [], []⟩
def L262 (p1 : Option Addr) (p2 : Option Addr) (n3 : Int) (Q : Value → World → Prop) (w : World) : Prop :=
  let w1 := World.alloc w (Obj.cells #[.pointer p1] 194);
  ∃ (p4 : Option Addr), w1.cell? (Addr.mk w.heap.size 0 none) = some ((.pointer p4 : Value)) ∧
  CallR Tryz.prog 265 [.pointer p4] w1 (fun (r7 : Value) (w2 : World) =>
  ∃ (n5 : Int) (n6 : Int), r7 = .tuple #[.int .i64 n5, .int .i64 n6] ∧
  cond (n5 == 0)
  (Q (.tuple #[.int .i64 0, .int .i64 53]) w2)
  (∃ (p8 : Option Addr), w2.cell? (Addr.mk w.heap.size 0 none) = some ((.pointer p8 : Value)) ∧
  CallR Tryz.prog 266 [.pointer p8, .int .i64 n3] w2 (fun (r10 : Value) (w3 : World) =>
  ∃ (b9 : Bool), r10 = .bool b9 ∧
  cond (!b9)
  (Q (.tuple #[.int .i64 0, .int .i64 52]) w3)
  (Q (.tuple #[.int .i64 n3, .int .i64 0]) w3))))
theorem C262 {p1 : Option Addr} {p2 : Option Addr} {n3 : Int} {Q : Value → World → Prop} {w : World} (h : L262 p1 p2 n3 Q w) : CallR Tryz.prog 262 [.agg #[.pointer p1], .pointer p2, .int .i64 n3] w Q :=
  fun_calls (A := A262) mixed Tryz.func262 (c := (Tryz.f262.body).getD .skip) rfl (by kernel_rfl) (Eq.mp (by kernel_rfl) h)

/-- (millrace/kern.conduit).write -/
def A263 : Ann := ⟨[], [], [], [], [], []⟩
def L263 (p1 : Option Addr) (p2 : Option Addr) (a3 : Option Addr) (l3 : Nat) (c3 : Nat) (n4 : Int) (Q : Value → World → Prop) (w : World) : Prop :=
  let w1 := World.alloc w (Obj.cells #[.pointer p1] 194);
  ∃ (p5 : Option Addr), w1.cell? (Addr.mk w.heap.size 0 none) = some ((.pointer p5 : Value)) ∧
  CallR Tryz.prog 254 [.pointer p5, .slice a3 l3 c3, .int .i64 n4] w1 (fun (r8 : Value) (w2 : World) =>
  ∃ (n6 : Int) (n7 : Int), r8 = .tuple #[.int .i64 n6, .int .i64 n7] ∧
  Q (.int .i64 n6) w2)
theorem C263 {p1 : Option Addr} {p2 : Option Addr} {a3 : Option Addr} {l3 : Nat} {c3 : Nat} {n4 : Int} {Q : Value → World → Prop} {w : World} (h : L263 p1 p2 a3 l3 c3 n4 Q w) : CallR Tryz.prog 263 [.agg #[.pointer p1], .pointer p2, .slice a3 l3 c3, .int .i64 n4] w Q :=
  fun_calls (A := A263) mixed Tryz.func263 (c := (Tryz.f263.body).getD .skip) rfl (by kernel_rfl) (Eq.mp (by kernel_rfl) h)

/-- (millrace/kern.screen).drop -/
def A268 : Ann := ⟨[], [], [], [], [], []⟩
def L268 (p1 : Option Addr) (p2 : Option Addr) (Q : Value → World → Prop) (w : World) : Prop :=
  let w1 := World.alloc w (Obj.cells #[.pointer p1] 207);
  Q (.tuple #[]) w1
theorem C268 {p1 : Option Addr} {p2 : Option Addr} {Q : Value → World → Prop} {w : World} (h : L268 p1 p2 Q w) : CallR Tryz.prog 268 [.agg #[.pointer p1], .pointer p2] w Q :=
  fun_calls (A := A268) mixed Tryz.func268 (c := (Tryz.f268.body).getD .skip) rfl (by kernel_rfl) (Eq.mp (by kernel_rfl) h)

/-- (millrace/kern.screen).kind -/
def A269 : Ann := ⟨[], [], [], [], [], []⟩
def L269 (p1 : Option Addr) (Q : Value → World → Prop) (w : World) : Prop :=
  let w1 := World.alloc w (Obj.cells #[.pointer p1] 207);
  Q (.int .i64 2) w1
theorem C269 {p1 : Option Addr} {Q : Value → World → Prop} {w : World} (h : L269 p1 Q w) : CallR Tryz.prog 269 [.agg #[.pointer p1]] w Q :=
  fun_calls (A := A269) mixed Tryz.func269 (c := (Tryz.f269.body).getD .skip) rfl (by kernel_rfl) (Eq.mp (by kernel_rfl) h)

/-- (millrace/kern.screen).read -/
def A270 : Ann := ⟨[], [], [], [], [], []⟩
def L270 (p1 : Option Addr) (p2 : Option Addr) (n3 : Int) (Q : Value → World → Prop) (w : World) : Prop :=
  let w1 := World.alloc w (Obj.cells #[.pointer p1] 207);
  ∃ (p4 : Option Addr), w1.cell? (Addr.mk w.heap.size 0 none) = some ((.pointer p4 : Value)) ∧
  CallR Tryz.prog 251 [.pointer p4, .int .i64 n3] w1 (fun (r7 : Value) (w2 : World) =>
  ∃ (a5 : Option Addr) (l5 : Nat) (c5 : Nat) (n6 : Int), r7 = .tuple #[.slice a5 l5 c5, .int .i64 n6] ∧
  Q (.slice a5 l5 c5) w2)
theorem C270 {p1 : Option Addr} {p2 : Option Addr} {n3 : Int} {Q : Value → World → Prop} {w : World} (h : L270 p1 p2 n3 Q w) : CallR Tryz.prog 270 [.agg #[.pointer p1], .pointer p2, .int .i64 n3] w Q :=
  fun_calls (A := A270) mixed Tryz.func270 (c := (Tryz.f270.body).getD .skip) rfl (by kernel_rfl) (Eq.mp (by kernel_rfl) h)

/-- (millrace/kern.screen).room -/
def A271 : Ann := ⟨[], [], [], [], [], []⟩
def L271 (p1 : Option Addr) (p2 : Option Addr) (n3 : Int) (Q : Value → World → Prop) (w : World) : Prop :=
  let w1 := World.alloc w (Obj.cells #[.pointer p1] 207);
  ∃ (p4 : Option Addr), w1.cell? (Addr.mk w.heap.size 0 none) = some ((.pointer p4 : Value)) ∧
  CallR Tryz.prog 183 [.pointer p4] w1 (fun (r6 : Value) (w2 : World) =>
  ∃ (a5 : Option Addr) (l5 : Nat) (c5 : Nat), r6 = .slice a5 l5 c5 ∧
  inI ((1048576 : Int) - (((l5 : Nat) : Int))) ∧
  cond (decide (((1048576 : Int) - (((l5 : Nat) : Int))) > 0))
  (Q (.tuple #[.int .i64 (mn n3 ((1048576 : Int) - (((l5 : Nat) : Int)))), .int .i64 0]) w2)
  (Q (.tuple #[.int .i64 0, .int .i64 31]) w2))
theorem C271 {p1 : Option Addr} {p2 : Option Addr} {n3 : Int} {Q : Value → World → Prop} {w : World} (h : L271 p1 p2 n3 Q w) : CallR Tryz.prog 271 [.agg #[.pointer p1], .pointer p2, .int .i64 n3] w Q :=
  fun_calls (A := A271) mixed Tryz.func271 (c := (Tryz.f271.body).getD .skip) rfl (by kernel_rfl) (Eq.mp (by kernel_rfl) h)

/-- (millrace/kern.screen).write -/
def A272 : Ann := ⟨[], [], [], [], [], []⟩
def L272 (p1 : Option Addr) (p2 : Option Addr) (a3 : Option Addr) (l3 : Nat) (c3 : Nat) (n4 : Int) (Q : Value → World → Prop) (w : World) : Prop :=
  let w1 := World.alloc w (Obj.cells #[.pointer p1] 207);
  (0 ≤ (mn (((l3 : Nat) : Int)) n4 : Int) ∧ (mn (((l3 : Nat) : Int)) n4 : Int) ≤ ((c3 : Nat) : Int)) ∧
  ∃ (p5 : Option Addr), w1.cell? (Addr.mk w.heap.size 0 none) = some ((.pointer p5 : Value)) ∧
  CallR Tryz.prog 252 [.pointer p5, .slice a3 (Int.toNat (mn (((l3 : Nat) : Int)) n4)) c3] w1 (fun (r7 : Value) (w2 : World) =>
  ∃ (n6 : Int), r7 = .int .i64 n6 ∧
  Q (.int .i64 (((Int.toNat (mn (((l3 : Nat) : Int)) n4) : Nat) : Int))) w2)
theorem C272 {p1 : Option Addr} {p2 : Option Addr} {a3 : Option Addr} {l3 : Nat} {c3 : Nat} {n4 : Int} {Q : Value → World → Prop} {w : World} (h : L272 p1 p2 a3 l3 c3 n4 Q w) : CallR Tryz.prog 272 [.agg #[.pointer p1], .pointer p2, .slice a3 l3 c3, .int .i64 n4] w Q :=
  fun_calls (A := A272) mixed Tryz.func272 (c := (Tryz.f272.body).getD .skip) rfl (by kernel_rfl) (Eq.mp (by kernel_rfl) h)

/-- (millrace/kern.disk).drop -/
def A273 : Ann := ⟨[], [], [], [], [], []⟩
def L273 (p1 : Option Addr) (p2 : Option Addr) (Q : Value → World → Prop) (w : World) : Prop :=
  let w1 := World.alloc w (Obj.cells #[.pointer p1] 209);
  Q (.tuple #[]) w1
theorem C273 {p1 : Option Addr} {p2 : Option Addr} {Q : Value → World → Prop} {w : World} (h : L273 p1 p2 Q w) : CallR Tryz.prog 273 [.agg #[.pointer p1], .pointer p2] w Q :=
  fun_calls (A := A273) mixed Tryz.func273 (c := (Tryz.f273.body).getD .skip) rfl (by kernel_rfl) (Eq.mp (by kernel_rfl) h)

/-- (millrace/kern.disk).kind -/
def A274 : Ann := ⟨[], [], [], [], [], []⟩
def L274 (p1 : Option Addr) (Q : Value → World → Prop) (w : World) : Prop :=
  let w1 := World.alloc w (Obj.cells #[.pointer p1] 209);
  Q (.int .i64 1) w1
theorem C274 {p1 : Option Addr} {Q : Value → World → Prop} {w : World} (h : L274 p1 Q w) : CallR Tryz.prog 274 [.agg #[.pointer p1]] w Q :=
  fun_calls (A := A274) mixed Tryz.func274 (c := (Tryz.f274.body).getD .skip) rfl (by kernel_rfl) (Eq.mp (by kernel_rfl) h)

/-- (millrace/kern.disk).read -/
def A275 : Ann := ⟨[], [], [], [(1, [0, 1, 2, 3, 4, 5, 6, 7, 8, 9, 10, 11, 12])], [], []⟩
def L275 (p1 : Option Addr) (p2 : Option Addr) (n3 : Int) (Q : Value → World → Prop) (w : World) : Prop :=
  let w1 := World.alloc w (Obj.cells #[.pointer p1] 209);
  let w2 := World.drew w1;
  ∃ (p4 : Option Addr), w2.cell? (Addr.mk w.heap.size 0 none) = some ((.pointer p4 : Value)) ∧
  nn p2 (fun (q5 : Addr) =>
  ∃ (n6 : Int), w2.cell? (Addr.add q5 2) = some ((.int .i64 n6 : Value)) ∧
  CallR Tryz.prog 278 [.pointer p4, .int .i64 n6, .int .i64 n3] w2 (fun (r9 : Value) (w3 : World) =>
  ∃ (a7 : Option Addr) (l7 : Nat) (c7 : Nat) (n8 : Int), r9 = .tuple #[.slice a7 l7 c7, .int .i64 n8] ∧
  nn p2 (fun (q10 : Addr) =>
  ∃ (n11 : Int), w3.cell? (Addr.add q10 2) = some ((.int .i64 n11 : Value)) ∧
  inI (n11 + (((l7 : Nat) : Int))) ∧
  nn p2 (fun (q12 : Addr) =>
  stC (Addr.add q12 2) (.int .i64 (n11 + (((l7 : Nat) : Int)))) w3 (fun (w4 : World) =>
  Q (.slice a7 l7 c7) w4)))))
theorem C275 {p1 : Option Addr} {p2 : Option Addr} {n3 : Int} {Q : Value → World → Prop} {w : World} (h : L275 p1 p2 n3 Q w) : CallR Tryz.prog 275 [.agg #[.pointer p1], .pointer p2, .int .i64 n3] w Q :=
  fun_calls (A := A275) mixed Tryz.func275 (c := (Tryz.f275.body).getD .skip) rfl (by kernel_rfl) (Eq.mp (by kernel_rfl) h)

/-- (millrace/kern.disk).room -/
def A276 : Ann := ⟨[], [], [], [], [], []⟩
def L276 (p1 : Option Addr) (p2 : Option Addr) (n3 : Int) (Q : Value → World → Prop) (w : World) : Prop :=
  let w1 := World.alloc w (Obj.cells #[.pointer p1] 209);
  ∃ (p4 : Option Addr), w1.cell? (Addr.mk w.heap.size 0 none) = some ((.pointer p4 : Value)) ∧ 
  CallR Tryz.prog 279 [.agg #[.pointer p4], .pointer p2] w1 (fun (r6 : Value) (w2 : World) =>
  ∃ (n5 : Int), r6 = .int .i64 n5 ∧
  inI ((1048576 : Int) - n5) ∧
  cond (decide (((1048576 : Int) - n5) > 0))
  (Q (.tuple #[.int .i64 (mn n3 ((1048576 : Int) - n5)), .int .i64 0]) w2)
  (Q (.tuple #[.int .i64 0, .int .i64 31]) w2))
theorem C276 {p1 : Option Addr} {p2 : Option Addr} {n3 : Int} {Q : Value → World → Prop} {w : World} (h : L276 p1 p2 n3 Q w) : CallR Tryz.prog 276 [.agg #[.pointer p1], .pointer p2, .int .i64 n3] w Q :=
  fun_calls (A := A276) mixed Tryz.func276 (c := (Tryz.f276.body).getD .skip) rfl (by kernel_rfl) (Eq.mp (by kernel_rfl) h)

/-- (millrace/kern.disk).write -/
def A277 : Ann := ⟨[], [], [], [(3, [0, 1, 2, 3, 4, 5, 6, 7])], [], []⟩
def L277 (p1 : Option Addr) (p2 : Option Addr) (a3 : Option Addr) (l3 : Nat) (c3 : Nat) (n4 : Int) (Q : Value → World → Prop) (w : World) : Prop :=
  let w1 := World.alloc w (Obj.cells #[.pointer p1] 209);
  (0 ≤ (mn (((l3 : Nat) : Int)) n4 : Int) ∧ (mn (((l3 : Nat) : Int)) n4 : Int) ≤ ((c3 : Nat) : Int)) ∧
  ∃ (p5 : Option Addr), w1.cell? (Addr.mk w.heap.size 0 none) = some ((.pointer p5 : Value)) ∧ 
  CallR Tryz.prog 279 [.agg #[.pointer p5], .pointer p2] w1 (fun (r7 : Value) (w2 : World) =>
  ∃ (n6 : Int), r7 = .int .i64 n6 ∧
  nn p2 (fun (q8 : Addr) =>
  stC (Addr.add q8 2) (.int .i64 n6) w2 (fun (w3 : World) =>
  let w4 := World.drew w3;
  ∃ (p9 : Option Addr), w4.cell? (Addr.mk w.heap.size 0 none) = some ((.pointer p9 : Value)) ∧
  nn p2 (fun (q10 : Addr) =>
  ∃ (n11 : Int), w4.cell? (Addr.add q10 2) = some ((.int .i64 n11 : Value)) ∧
  CallR Tryz.prog 280 [.pointer p9, .int .i64 n11, .slice a3 (Int.toNat (mn (((l3 : Nat) : Int)) n4)) c3] w4 (fun (r13 : Value) (w5 : World) =>
  ∃ (n12 : Int), r13 = .int .i64 n12 ∧
  nn p2 (fun (q14 : Addr) =>
  ∃ (n15 : Int), w5.cell? (Addr.add q14 2) = some ((.int .i64 n15 : Value)) ∧
  inI (n15 + (((Int.toNat (mn (((l3 : Nat) : Int)) n4) : Nat) : Int))) ∧
  nn p2 (fun (q16 : Addr) =>
  stC (Addr.add q16 2) (.int .i64 (n15 + (((Int.toNat (mn (((l3 : Nat) : Int)) n4) : Nat) : Int)))) w5 (fun (w6 : World) =>
  Q (.int .i64 (((Int.toNat (mn (((l3 : Nat) : Int)) n4) : Nat) : Int))) w6))))))))
theorem C277 {p1 : Option Addr} {p2 : Option Addr} {a3 : Option Addr} {l3 : Nat} {c3 : Nat} {n4 : Int} {Q : Value → World → Prop} {w : World} (h : L277 p1 p2 a3 l3 c3 n4 Q w) : CallR Tryz.prog 277 [.agg #[.pointer p1], .pointer p2, .slice a3 l3 c3, .int .i64 n4] w Q :=
  fun_calls (A := A277) mixed Tryz.func277 (c := (Tryz.f277.body).getD .skip) rfl (by kernel_rfl) (Eq.mp (by kernel_rfl) h)

/-- (millrace/kern.disk).place -/
def A279 : Ann := ⟨[], [], [], [], [], []⟩
def L279 (p1 : Option Addr) (p2 : Option Addr) (Q : Value → World → Prop) (w : World) : Prop :=
  let w1 := World.alloc w (Obj.cells #[.pointer p1] 209);
  nn p2 (fun (q3 : Addr) =>
  ∃ (n4 : Int), w1.cell? (Addr.add q3 1) = some ((.int .i64 n4 : Value)) ∧
  cond ((IntKind.wrap .i64 ↑(BitVec.ofInt (IntKind.bits .i64) n4 &&& BitVec.ofInt (IntKind.bits .i64) 4).toNat) != 0)
  (∃ (p5 : Option Addr), w1.cell? (Addr.mk w.heap.size 0 none) = some ((.pointer p5 : Value)) ∧
  CallR Tryz.prog 178 [.pointer p5] w1 (fun (r7 : Value) (w2 : World) =>
  ∃ (n6 : Int), r7 = .int .i64 n6 ∧
  Q (.int .i64 n6) w2))
  (nn p2 (fun (q8 : Addr) =>
  ∃ (n9 : Int), w1.cell? (Addr.add q8 2) = some ((.int .i64 n9 : Value)) ∧
  Q (.int .i64 n9) w1)))
theorem C279 {p1 : Option Addr} {p2 : Option Addr} {Q : Value → World → Prop} {w : World} (h : L279 p1 p2 Q w) : CallR Tryz.prog 279 [.agg #[.pointer p1], .pointer p2] w Q :=
  fun_calls (A := A279) mixed Tryz.func279 (c := (Tryz.f279.body).getD .skip) rfl (by kernel_rfl) (Eq.mp (by kernel_rfl) h)

end Go.Proofs.YtpoaacnnhgebfaaGreat
