/-
  Part 7 of 7 of the proof of MemoryPlays (the last part has its theorem): the program's functions as they are read, what each does, the law. Conditions: as each says; the theorem's: none.
-/
import Derived.Test.YtpoaacnnhgebfaaGreatRows
import Derived.JoinedOf
import Derived.WalkKit
import Derived.Deep.Quiet
import Derived.OrdersHeld
import Derived.ProofKit
import Derived.SizedLaws
import Derived.Carry
import Derived.OpenShut
import Derived.ChangeSame
import Derived.ChangeArms
import Derived.Deep.Slices
import Derived.Laws.BytesArg
import Derived.Lib.SlBytesConst
import Derived.Deep.CondSized
import Derived.Test.YtpoaacnnhgebfaaGreatProg
import Derived.Defers
import Derived.RangeFuncIn
import Derived.RangeFuncLeaves
import Derived.RangeFuncRecord
import Derived.TacticsIn
import Derived.MapKept
import Derived.Laws.RangeAny
import Derived.Lib.OthersKept
import Derived.FollowTie
import Derived.Test.YtpoaacnnhgebfaaGreatChecked
import Derived.Shelf.Sort.AssemblysIn
import Derived.Sort.EveryDepth
import Derived.Maps.RangeRun
import Derived.Sort.KeysCollected
import Derived.Sort.OwnSorted
import Derived.Laws.StructEq
import Derived.LaidEql
import Derived.Test.YtpoaacnnhgebfaaGreatKMemoryPlays6
set_option linter.unusedVariables false
set_option maxRecDepth 100000
namespace Go.Proofs.YtpoaacnnhgebfaaGreat
open Go.Lw
def A6 : Ann := ⟨[(5, [(7, .one (.int .i64))])], [], [], [(9, [0, 1, 2, 3, 4, 5, 6, 7, 8, 9, 10, 11, 12, 13, 14, 15, 16]), (10, [0, 1, 2, 3, 4, 5, 6, 7, 8, 9, 10, 11, 12, 13, 14]), (17, [0, 1, 2, 3, 4, 5, 6, 7, 8, 9, 10, 11, 12, 13, 14]), (22, [0, 1, 2, 3, 4, 5, 6, 7, 8, 9, 10, 11, 12, 13, 14, 15, 16, 17, 18, 19, 20, 21]), (23, [0, 1, 2, 3, 4, 5, 6, 7, 8, 9, 10, 11, 12, 13, 14, 15, 16, 17, 18, 19])], [], []⟩
def L6 (n1 : Int) (n2 : Int) (a3 : Option Addr) (l3 : Nat) (c3 : Nat) (a4 : Option Addr) (l4 : Nat) (c4 : Nat) (a5 : Option Addr) (l5 : Nat) (c5 : Nat) (a6 : Option Addr) (l6 : Nat) (c6 : Nat) (a7 : Option Addr) (l7 : Nat) (c7 : Nat) (n8 : Int) (b9 : Bool) (a10 : Option Addr) (l10 : Nat) (c10 : Nat) (Q : Value → World → Prop) (w : World) : Prop :=
  let w1 := World.alloc w (Obj.cells #[.int .i64 n1, .int .i64 n2, .slice a3 l3 c3, .slice a4 l4 c4, .slice a5 l5 c5, .slice a6 l6 c6, .slice a7 l7 c7, .int .i64 n8, .bool b9] 86);
  ∃ (n11 : Int) (n12 : Int) (a13 : Option Addr) (l13 : Nat) (c13 : Nat) (a14 : Option Addr) (l14 : Nat) (c14 : Nat) (a15 : Option Addr) (l15 : Nat) (c15 : Nat) (a16 : Option Addr) (l16 : Nat) (c16 : Nat) (a17 : Option Addr) (l17 : Nat) (c17 : Nat) (n18 : Int) (b19 : Bool), w1.cell? (Addr.mk w.heap.size 0 none) = some ((.int .i64 n11 : Value)) ∧ w1.cell? (Addr.mk w.heap.size 1 none) = some ((.int .i64 n12 : Value)) ∧ w1.cell? (Addr.mk w.heap.size 2 none) = some ((.slice a13 l13 c13 : Value)) ∧ w1.cell? (Addr.mk w.heap.size 3 none) = some ((.slice a14 l14 c14 : Value)) ∧ w1.cell? (Addr.mk w.heap.size 4 none) = some ((.slice a15 l15 c15 : Value)) ∧ w1.cell? (Addr.mk w.heap.size 5 none) = some ((.slice a16 l16 c16 : Value)) ∧ w1.cell? (Addr.mk w.heap.size 6 none) = some ((.slice a17 l17 c17 : Value)) ∧ w1.cell? (Addr.mk w.heap.size 7 none) = some ((.int .i64 n18 : Value)) ∧ w1.cell? (Addr.mk w.heap.size 8 none) = some ((.bool b19 : Value)) ∧ 
  CallR Tryz.prog 40 [.agg #[.int .i64 n11, .int .i64 n12, .slice a13 l13 c13, .slice a14 l14 c14, .slice a15 l15 c15, .slice a16 l16 c16, .slice a17 l17 c17, .int .i64 n18, .bool b19]] w1 (fun (r22 : Value) (w2 : World) =>
  ∃ (p20 : Option Addr) (b21 : Bool), r22 = .tuple #[.pointer p20, .bool b21] ∧
  cond (!b21)
  (CallR Tryz.prog 42 [] w2 (fun (r24 : Value) (w3 : World) =>
  ∃ (b23 : Bool), r24 = .bool b23 ∧
  Q (.bool b23) w3))
  (∃ (n25 : Int) (n26 : Int) (a27 : Option Addr) (l27 : Nat) (c27 : Nat) (a28 : Option Addr) (l28 : Nat) (c28 : Nat) (a29 : Option Addr) (l29 : Nat) (c29 : Nat) (a30 : Option Addr) (l30 : Nat) (c30 : Nat) (a31 : Option Addr) (l31 : Nat) (c31 : Nat) (n32 : Int) (b33 : Bool), w2.cell? (Addr.mk w.heap.size 0 none) = some ((.int .i64 n25 : Value)) ∧ w2.cell? (Addr.mk w.heap.size 1 none) = some ((.int .i64 n26 : Value)) ∧ w2.cell? (Addr.mk w.heap.size 2 none) = some ((.slice a27 l27 c27 : Value)) ∧ w2.cell? (Addr.mk w.heap.size 3 none) = some ((.slice a28 l28 c28 : Value)) ∧ w2.cell? (Addr.mk w.heap.size 4 none) = some ((.slice a29 l29 c29 : Value)) ∧ w2.cell? (Addr.mk w.heap.size 5 none) = some ((.slice a30 l30 c30 : Value)) ∧ w2.cell? (Addr.mk w.heap.size 6 none) = some ((.slice a31 l31 c31 : Value)) ∧ w2.cell? (Addr.mk w.heap.size 7 none) = some ((.int .i64 n32 : Value)) ∧ w2.cell? (Addr.mk w.heap.size 8 none) = some ((.bool b33 : Value)) ∧ 
  CallR Tryz.prog 41 [.agg #[.int .i64 n25, .int .i64 n26, .slice a27 l27 c27, .slice a28 l28 c28, .slice a29 l29 c29, .slice a30 l30 c30, .slice a31 l31 c31, .int .i64 n32, .bool b33]] w2 (fun (r35 : Value) (w4 : World) =>
  ∃ (b34 : Bool), r35 = .bool b34 ∧
  cond b34
  (CallR Tryz.prog 42 [] w4 (fun (r37 : Value) (w5 : World) =>
  ∃ (b36 : Bool), r37 = .bool b36 ∧
  Q (.bool b36) w5))
  (∃ (I38 : List Value → World → Prop) (mu39 : List Value → World → Nat),
  I38 [.int .i64 0] w4 ∧
  ∀ (_ : Env) (n40 : Int) (w6 : World), I38 [.int .i64 n40] w6 →
  cond (decide (n40 < (((l10 : Nat) : Int))))
  ((0 ≤ (n40 : Int) ∧ (n40 : Int) < ((l10 : Nat) : Int)) ∧
  nn a10 (fun (q41 : Addr) =>
  ∃ (n42 : Int), w6.cell? (Addr.add q41 (Int.toNat n40 * 4)) = some ((.int .i64 n42 : Value)) ∧
  cond (n42 == 0)
  (let w7 := World.drew w6;
  nn p20 (fun (q43 : Addr) =>
  ∃ (v44 : Value), w7.cell? q43 = some v44 ∧
  (0 ≤ (n40 : Int) ∧ (n40 : Int) < ((l10 : Nat) : Int)) ∧
  nn a10 (fun (q45 : Addr) =>
  ∃ (n46 : Int), w7.cell? (Addr.add (Addr.add q45 (Int.toNat n40 * 4)) 1) = some ((.int .i64 n46 : Value)) ∧
  nilS Tryz.prog v44 (fun (v47 : Value) =>
  ∃ (f48 : FuncId) (xs49 : Array Value) (w8 : World), Sem.run Tryz.prog (callMethod v44 "Read" #[.int .i64 n46]) w7 = .ok (.enter f48 xs49) w8 ∧
  CallR Tryz.prog f48 (Array.toList xs49) w8 (fun (r52 : Value) (w9 : World) =>
  ∃ (a50 : Option Addr) (l50 : Nat) (c50 : Nat) (n51 : Int), r52 = .tuple #[.slice a50 l50 c50, .int .i64 n51] ∧
  let w10 := World.drew w9;
  nn p20 (fun (q53 : Addr) =>
  ∃ (p54 : Option Addr), w10.cell? (Addr.add q53 1) = some ((.pointer p54 : Value)) ∧
  (0 ≤ (n40 : Int) ∧ (n40 : Int) < ((l10 : Nat) : Int)) ∧
  nn a10 (fun (q55 : Addr) =>
  ∃ (n56 : Int), w10.cell? (Addr.add (Addr.add q55 (Int.toNat n40 * 4)) 1) = some ((.int .i64 n56 : Value)) ∧
  CallR Tryz.prog 43 [.pointer p54, .int .i64 n56] w10 (fun (r59 : Value) (w11 : World) =>
  ∃ (a57 : Option Addr) (l57 : Nat) (c57 : Nat) (n58 : Int), r59 = .tuple #[.slice a57 l57 c57, .int .i64 n58] ∧
  CallR Tryz.prog 39 [.slice a50 l50 c50, .slice a57 l57 c57] w11 (fun (r61 : Value) (w12 : World) =>
  ∃ (b60 : Bool), r61 = .bool b60 ∧
  cond (!b60)
  (Q (.bool false) w12)
  (CallR Tryz.prog 44 [.int .i64 n51] w12 (fun (r63 : Value) (w13 : World) =>
  ∃ (n62 : Int), r63 = .int .i64 n62 ∧
  cond (n62 != n58)
  (Q (.bool false) w13)
  (CallR Tryz.prog 45 [.slice a50 l50 c50] w13 (fun (r64 : Value) (w14 : World) =>
  r64 = .tuple #[] ∧
  (4 : Int) ≠ 0 ∧
  cond ((Int.tmod n40 (4 : Int)) == 3)
  (CallR Tryz.prog 49 [.pointer p20] w14 (fun (r66 : Value) (w15 : World) =>
  ∃ (b65 : Bool), r66 = .bool b65 ∧
  cond (!b65)
  (Q (.bool false) w15)
  (inI (n40 + 1) ∧
  I38 [.int .i64 (n40 + 1)] w15 ∧ mu39 [.int .i64 (n40 + 1)] w15 < mu39 [.int .i64 n40] w6)))
  (inI (n40 + 1) ∧
  I38 [.int .i64 (n40 + 1)] w14 ∧ mu39 [.int .i64 (n40 + 1)] w14 < mu39 [.int .i64 n40] w6))))))))))))))
  (cond (n42 == 1)
  ((0 ≤ (n40 : Int) ∧ (n40 : Int) < ((l10 : Nat) : Int)) ∧
  nn a10 (fun (q67 : Addr) =>
  ∃ (a68 : Option Addr) (l68 : Nat) (c68 : Nat), w6.cell? (Addr.add (Addr.add q67 (Int.toNat n40 * 4)) 3) = some ((.slice a68 l68 c68 : Value)) ∧
  CallR Tryz.prog 46 [.slice a68 l68 c68] w6 (fun (r70 : Value) (w16 : World) =>
  ∃ (a69 : Option Addr) (l69 : Nat) (c69 : Nat), r70 = .slice a69 l69 c69 ∧
  nn p20 (fun (q71 : Addr) =>
  ∃ (v72 : Value), w16.cell? q71 = some v72 ∧
  ∃ (f73 : FuncId) (xs74 : Array Value) (w17 : World), Sem.run Tryz.prog (callMethod v72 "Write" #[.slice a69 l69 c69]) w16 = .ok (.enter f73 xs74) w17 ∧
  CallR Tryz.prog f73 (Array.toList xs74) w17 (fun (r77 : Value) (w18 : World) =>
  ∃ (n75 : Int) (n76 : Int), r77 = .tuple #[.int .i64 n75, .int .i64 n76] ∧
  let w19 := World.drew w18;
  nn p20 (fun (q78 : Addr) =>
  ∃ (p79 : Option Addr), w19.cell? (Addr.add q78 1) = some ((.pointer p79 : Value)) ∧
  (0 ≤ (n40 : Int) ∧ (n40 : Int) < ((l10 : Nat) : Int)) ∧
  nn a10 (fun (q80 : Addr) =>
  ∃ (a81 : Option Addr) (l81 : Nat) (c81 : Nat), w19.cell? (Addr.add (Addr.add q80 (Int.toNat n40 * 4)) 3) = some ((.slice a81 l81 c81 : Value)) ∧
  CallR Tryz.prog 47 [.pointer p79, .slice a81 l81 c81] w19 (fun (r84 : Value) (w20 : World) =>
  ∃ (n82 : Int) (n83 : Int), r84 = .tuple #[.int .i64 n82, .int .i64 n83] ∧
  cond (n75 != n82)
  (Q (.bool false) w20)
  (CallR Tryz.prog 44 [.int .i64 n76] w20 (fun (r86 : Value) (w21 : World) =>
  ∃ (n85 : Int), r86 = .int .i64 n85 ∧
  cond (n85 != n83)
  (Q (.bool false) w21)
  ((0 ≤ (n40 : Int) ∧ (n40 : Int) < ((l10 : Nat) : Int)) ∧
  nn a10 (fun (q87 : Addr) =>
  ∃ (a88 : Option Addr) (l88 : Nat) (c88 : Nat), w21.cell? (Addr.add (Addr.add q87 (Int.toNat n40 * 4)) 3) = some ((.slice a88 l88 c88 : Value)) ∧
  CallR Tryz.prog 39 [.slice a69 l69 c69, .slice a88 l88 c88] w21 (fun (r90 : Value) (w22 : World) =>
  ∃ (b89 : Bool), r90 = .bool b89 ∧
  cond (!b89)
  (Q (.bool false) w22)
  (CallR Tryz.prog 45 [.slice a69 l69 c69] w22 (fun (r91 : Value) (w23 : World) =>
  r91 = .tuple #[] ∧
  (4 : Int) ≠ 0 ∧
  cond ((Int.tmod n40 (4 : Int)) == 3)
  (CallR Tryz.prog 49 [.pointer p20] w23 (fun (r93 : Value) (w24 : World) =>
  ∃ (b92 : Bool), r93 = .bool b92 ∧
  cond (!b92)
  (Q (.bool false) w24)
  (inI (n40 + 1) ∧
  I38 [.int .i64 (n40 + 1)] w24 ∧ mu39 [.int .i64 (n40 + 1)] w24 < mu39 [.int .i64 n40] w6)))
  (inI (n40 + 1) ∧
  I38 [.int .i64 (n40 + 1)] w23 ∧ mu39 [.int .i64 (n40 + 1)] w23 < mu39 [.int .i64 n40] w6))))))))))))))))
  (cond (n42 == 2)
  (let w25 := World.drew w6;
  nn p20 (fun (q94 : Addr) =>
  ∃ (v95 : Value), w25.cell? q94 = some v95 ∧
  (0 ≤ (n40 : Int) ∧ (n40 : Int) < ((l10 : Nat) : Int)) ∧
  nn a10 (fun (q96 : Addr) =>
  ∃ (n97 : Int), w25.cell? (Addr.add (Addr.add q96 (Int.toNat n40 * 4)) 1) = some ((.int .i64 n97 : Value)) ∧
  (0 ≤ (n40 : Int) ∧ (n40 : Int) < ((l10 : Nat) : Int)) ∧
  nn a10 (fun (q98 : Addr) =>
  ∃ (n99 : Int), w25.cell? (Addr.add (Addr.add q98 (Int.toNat n40 * 4)) 2) = some ((.int .i64 n99 : Value)) ∧
  nilS Tryz.prog v95 (fun (v100 : Value) =>
  ∃ (f101 : FuncId) (xs102 : Array Value) (w26 : World), Sem.run Tryz.prog (callMethod v95 "Seek" #[.int .i64 n97, .int .i64 n99]) w25 = .ok (.enter f101 xs102) w26 ∧
  CallR Tryz.prog f101 (Array.toList xs102) w26 (fun (r105 : Value) (w27 : World) =>
  ∃ (n103 : Int) (n104 : Int), r105 = .tuple #[.int .i64 n103, .int .i64 n104] ∧
  let w28 := World.drew w27;
  nn p20 (fun (q106 : Addr) =>
  ∃ (p107 : Option Addr), w28.cell? (Addr.add q106 1) = some ((.pointer p107 : Value)) ∧
  (0 ≤ (n40 : Int) ∧ (n40 : Int) < ((l10 : Nat) : Int)) ∧
  nn a10 (fun (q108 : Addr) =>
  ∃ (n109 : Int), w28.cell? (Addr.add (Addr.add q108 (Int.toNat n40 * 4)) 1) = some ((.int .i64 n109 : Value)) ∧
  (0 ≤ (n40 : Int) ∧ (n40 : Int) < ((l10 : Nat) : Int)) ∧
  nn a10 (fun (q110 : Addr) =>
  ∃ (n111 : Int), w28.cell? (Addr.add (Addr.add q110 (Int.toNat n40 * 4)) 2) = some ((.int .i64 n111 : Value)) ∧
  CallR Tryz.prog 48 [.pointer p107, .int .i64 n109, .int .i64 n111] w28 (fun (r114 : Value) (w29 : World) =>
  ∃ (n112 : Int) (n113 : Int), r114 = .tuple #[.int .i64 n112, .int .i64 n113] ∧
  cond (n103 != n112)
  (Q (.bool false) w29)
  (CallR Tryz.prog 44 [.int .i64 n104] w29 (fun (r116 : Value) (w30 : World) =>
  ∃ (n115 : Int), r116 = .int .i64 n115 ∧
  cond (n115 != n113)
  (Q (.bool false) w30)
  ((4 : Int) ≠ 0 ∧
  cond ((Int.tmod n40 (4 : Int)) == 3)
  (CallR Tryz.prog 49 [.pointer p20] w30 (fun (r118 : Value) (w31 : World) =>
  ∃ (b117 : Bool), r118 = .bool b117 ∧
  cond (!b117)
  (Q (.bool false) w31)
  (inI (n40 + 1) ∧
  I38 [.int .i64 (n40 + 1)] w31 ∧ mu39 [.int .i64 (n40 + 1)] w31 < mu39 [.int .i64 n40] w6)))
  (inI (n40 + 1) ∧
  I38 [.int .i64 (n40 + 1)] w30 ∧ mu39 [.int .i64 (n40 + 1)] w30 < mu39 [.int .i64 n40] w6))))))))))))))
  ((4 : Int) ≠ 0 ∧
  cond ((Int.tmod n40 (4 : Int)) == 3)
  (CallR Tryz.prog 49 [.pointer p20] w6 (fun (r120 : Value) (w32 : World) =>
  ∃ (b119 : Bool), r120 = .bool b119 ∧
  cond (!b119)
  (Q (.bool false) w32)
  (inI (n40 + 1) ∧
  I38 [.int .i64 (n40 + 1)] w32 ∧ mu39 [.int .i64 (n40 + 1)] w32 < mu39 [.int .i64 n40] w6)))
  (inI (n40 + 1) ∧
  I38 [.int .i64 (n40 + 1)] w6 ∧ mu39 [.int .i64 (n40 + 1)] w6 < mu39 [.int .i64 n40] w6))))))
  (CallR Tryz.prog 49 [.pointer p20] w6 (fun (r122 : Value) (w33 : World) =>
  ∃ (b121 : Bool), r122 = .bool b121 ∧
  cond b121
  (CallR Tryz.prog 42 [] w33 (fun (r124 : Value) (w34 : World) =>
  ∃ (b123 : Bool), r124 = .bool b123 ∧
  Q (.bool b123) w34))
  (Q (.bool false) w33)))))))
theorem C6 {n1 : Int} {n2 : Int} {a3 : Option Addr} {l3 : Nat} {c3 : Nat} {a4 : Option Addr} {l4 : Nat} {c4 : Nat} {a5 : Option Addr} {l5 : Nat} {c5 : Nat} {a6 : Option Addr} {l6 : Nat} {c6 : Nat} {a7 : Option Addr} {l7 : Nat} {c7 : Nat} {n8 : Int} {b9 : Bool} {a10 : Option Addr} {l10 : Nat} {c10 : Nat} {Q : Value → World → Prop} {w : World} (h : L6 n1 n2 a3 l3 c3 a4 l4 c4 a5 l5 c5 a6 l6 c6 a7 l7 c7 n8 b9 a10 l10 c10 Q w) : CallR Tryz.prog 6 [.agg #[.int .i64 n1, .int .i64 n2, .slice a3 l3 c3, .slice a4 l4 c4, .slice a5 l5 c5, .slice a6 l6 c6, .slice a7 l7 c7, .int .i64 n8, .bool b9], .slice a10 l10 c10] w Q :=
  fun_calls (A := A6) mixed Tryz.func6 (c := (Tryz.f6.body).getD .skip) rfl (by kernel_rfl) (Eq.mp (by kernel_rfl) h)
def A40 : Ann := ⟨[], [(27, [(5, .one (.int .i64)), (6, .one (.int .i64))])], [], [(29, [0, 1, 2, 3, 4, 5, 6]), (30, [0, 1, 2, 3, 4, 5, 6])], [(19, [0, 1, 2, 4, 5, 3], 6, [7, 8, 9, 10, 11, 12, 13])], []⟩
def L40 (n1 : Int) (n2 : Int) (a3 : Option Addr) (l3 : Nat) (c3 : Nat) (a4 : Option Addr) (l4 : Nat) (c4 : Nat) (a5 : Option Addr) (l5 : Nat) (c5 : Nat) (a6 : Option Addr) (l6 : Nat) (c6 : Nat) (a7 : Option Addr) (l7 : Nat) (c7 : Nat) (n8 : Int) (b9 : Bool) (Q : Value → World → Prop) (w : World) : Prop :=
  let w1 := World.alloc w (Obj.cells #[.int .i64 n1, .int .i64 n2, .slice a3 l3 c3, .slice a4 l4 c4, .slice a5 l5 c5, .slice a6 l6 c6, .slice a7 l7 c7, .int .i64 n8, .bool b9] 86);
  let w2 := World.alloc w1 (Obj.cells #[.nilIface, .pointer none, .pointer none, .pointer none, .pointer none, .pointer none, .pointer none] 99);
  ∃ (J10 : List Value → World → Prop),
  (∃ (n11 : Int), w2.cell? (Addr.mk w.heap.size 0 none) = some ((.int .i64 n11 : Value)) ∧
  (6 : Int) ≠ 0 ∧
  inI ((Int.tmod n11 (6 : Int)) + 6) ∧
  (6 : Int) ≠ 0 ∧
  cond ((Int.tmod ((Int.tmod n11 (6 : Int)) + 6) (6 : Int)) == 0)
  (∃ (n12 : Int), w2.cell? (Addr.mk w.heap.size 1 none) = some ((.int .i64 n12 : Value)) ∧
  ∃ (a13 : Option Addr) (l13 : Nat) (c13 : Nat), w2.cell? (Addr.mk w.heap.size 2 none) = some ((.slice a13 l13 c13 : Value)) ∧
  CallR Tryz.prog 132 [.int .i64 n12, .slice a13 l13 c13] w2 (fun (r16 : Value) (w3 : World) =>
  ∃ (p14 : Option Addr) (n15 : Int), r16 = .tuple #[.pointer p14, .int .i64 n15] ∧
  stC (Addr.mk w1.heap.size 1 none) (.pointer p14) w3 (fun (w4 : World) =>
  ∃ (n17 : Int), w4.cell? (Addr.mk w.heap.size 1 none) = some ((.int .i64 n17 : Value)) ∧
  ∃ (a18 : Option Addr) (l18 : Nat) (c18 : Nat), w4.cell? (Addr.mk w.heap.size 2 none) = some ((.slice a18 l18 c18 : Value)) ∧
  CallR Tryz.prog 133 [.int .i64 n17, .slice a18 l18 c18] w4 (fun (r21 : Value) (w5 : World) =>
  ∃ (p19 : Option Addr) (n20 : Int), r21 = .tuple #[.pointer p19, .int .i64 n20] ∧
  stC (Addr.mk w1.heap.size 2 none) (.pointer p19) w5 (fun (w6 : World) =>
  ∃ (p22 : Option Addr), w6.cell? (Addr.mk w1.heap.size 2 none) = some ((.pointer p22 : Value)) ∧
  stC (Addr.mk w1.heap.size 0 none) (.iface 95 (.pointer p22)) w6 (fun (w7 : World) =>
  J10 [.int .i64 n20, .int .i64 n15] w7))))))
  (cond ((Int.tmod ((Int.tmod n11 (6 : Int)) + 6) (6 : Int)) == 1)
  (∃ (a23 : Option Addr) (l23 : Nat) (c23 : Nat), w2.cell? (Addr.mk w.heap.size 2 none) = some ((.slice a23 l23 c23 : Value)) ∧
  CallR Tryz.prog 134 [.slice a23 l23 c23] w2 (fun (r26 : Value) (w8 : World) =>
  ∃ (p24 : Option Addr) (n25 : Int), r26 = .tuple #[.pointer p24, .int .i64 n25] ∧
  stC (Addr.mk w1.heap.size 1 none) (.pointer p24) w8 (fun (w9 : World) =>
  ∃ (a27 : Option Addr) (l27 : Nat) (c27 : Nat), w9.cell? (Addr.mk w.heap.size 2 none) = some ((.slice a27 l27 c27 : Value)) ∧
  CallR Tryz.prog 135 [.slice a27 l27 c27] w9 (fun (r30 : Value) (w10 : World) =>
  ∃ (p28 : Option Addr) (n29 : Int), r30 = .tuple #[.pointer p28, .int .i64 n29] ∧
  stC (Addr.mk w1.heap.size 3 none) (.pointer p28) w10 (fun (w11 : World) =>
  ∃ (p31 : Option Addr), w11.cell? (Addr.mk w1.heap.size 3 none) = some ((.pointer p31 : Value)) ∧
  stC (Addr.mk w1.heap.size 0 none) (.iface 96 (.pointer p31)) w11 (fun (w12 : World) =>
  J10 [.int .i64 n29, .int .i64 n25] w12))))))
  (cond ((Int.tmod ((Int.tmod n11 (6 : Int)) + 6) (6 : Int)) == 2)
  (∃ (a32 : Option Addr) (l32 : Nat) (c32 : Nat), w2.cell? (Addr.mk w.heap.size 2 none) = some ((.slice a32 l32 c32 : Value)) ∧
  CallR Tryz.prog 136 [.slice a32 l32 c32] w2 (fun (r35 : Value) (w13 : World) =>
  ∃ (p33 : Option Addr) (n34 : Int), r35 = .tuple #[.pointer p33, .int .i64 n34] ∧
  stC (Addr.mk w1.heap.size 1 none) (.pointer p33) w13 (fun (w14 : World) =>
  ∃ (a36 : Option Addr) (l36 : Nat) (c36 : Nat), w14.cell? (Addr.mk w.heap.size 2 none) = some ((.slice a36 l36 c36 : Value)) ∧
  CallR Tryz.prog 137 [.slice a36 l36 c36] w14 (fun (r39 : Value) (w15 : World) =>
  ∃ (p37 : Option Addr) (n38 : Int), r39 = .tuple #[.pointer p37, .int .i64 n38] ∧
  stC (Addr.mk w1.heap.size 0 none) (.iface 227 (.pointer p37)) w15 (fun (w16 : World) =>
  J10 [.int .i64 n38, .int .i64 n34] w16)))))
  (cond ((Int.tmod ((Int.tmod n11 (6 : Int)) + 6) (6 : Int)) == 3)
  (∃ (a40 : Option Addr) (l40 : Nat) (c40 : Nat), w2.cell? (Addr.mk w.heap.size 3 none) = some ((.slice a40 l40 c40 : Value)) ∧
  ∃ (a41 : Option Addr) (l41 : Nat) (c41 : Nat), w2.cell? (Addr.mk w.heap.size 4 none) = some ((.slice a41 l41 c41 : Value)) ∧
  CallR Tryz.prog 138 [.slice a40 l40 c40, .slice a41 l41 c41] w2 (fun (r44 : Value) (w17 : World) =>
  ∃ (p42 : Option Addr) (n43 : Int), r44 = .tuple #[.pointer p42, .int .i64 n43] ∧
  stC (Addr.mk w1.heap.size 1 none) (.pointer p42) w17 (fun (w18 : World) =>
  ∃ (S45 : World → Prop), S45 (World.drew w18) ∧
  let w19 := World.drew w18;
  ∃ (a46 : Option Addr) (l46 : Nat) (c46 : Nat), (∀ wS : World, S45 wS → wS.cell? (Addr.mk w.heap.size 3 none) = some ((.slice a46 l46 c46 : Value))) ∧
  ∃ (a47 : Option Addr) (l47 : Nat) (c47 : Nat), (∀ wS : World, S45 wS → wS.cell? (Addr.mk w.heap.size 4 none) = some ((.slice a47 l47 c47 : Value))) ∧
  CallR Tryz.prog 140 [.slice a46 l46 c46] w19 (fun (r49 : Value) (w20 : World) =>
  ∃ (a48 : Option Addr) (l48 : Nat) (c48 : Nat), r49 = .slice a48 l48 c48 ∧
  S45 w20 ∧
  CallR Tryz.prog 139 [.slice a48 l48 c48, .slice a47 l47 c47] w20 (fun (r52 : Value) (w21 : World) =>
  ∃ (p50 : Option Addr) (n51 : Int), r52 = .tuple #[.pointer p50, .int .i64 n51] ∧
  stC (Addr.mk w1.heap.size 4 none) (.pointer p50) w21 (fun (w22 : World) =>
  ∃ (p53 : Option Addr), w22.cell? (Addr.mk w1.heap.size 4 none) = some ((.pointer p53 : Value)) ∧
  stC (Addr.mk w1.heap.size 0 none) (.iface 97 (.pointer p53)) w22 (fun (w23 : World) =>
  J10 [.int .i64 n51, .int .i64 n43] w23)))))))
  (cond ((Int.tmod ((Int.tmod n11 (6 : Int)) + 6) (6 : Int)) == 4)
  (∃ (n54 : Int) (n55 : Int) (a56 : Option Addr) (l56 : Nat) (c56 : Nat) (a57 : Option Addr) (l57 : Nat) (c57 : Nat) (a58 : Option Addr) (l58 : Nat) (c58 : Nat) (a59 : Option Addr) (l59 : Nat) (c59 : Nat) (a60 : Option Addr) (l60 : Nat) (c60 : Nat) (n61 : Int) (b62 : Bool), w2.cell? (Addr.mk w.heap.size 0 none) = some ((.int .i64 n54 : Value)) ∧ w2.cell? (Addr.mk w.heap.size 1 none) = some ((.int .i64 n55 : Value)) ∧ w2.cell? (Addr.mk w.heap.size 2 none) = some ((.slice a56 l56 c56 : Value)) ∧ w2.cell? (Addr.mk w.heap.size 3 none) = some ((.slice a57 l57 c57 : Value)) ∧ w2.cell? (Addr.mk w.heap.size 4 none) = some ((.slice a58 l58 c58 : Value)) ∧ w2.cell? (Addr.mk w.heap.size 5 none) = some ((.slice a59 l59 c59 : Value)) ∧ w2.cell? (Addr.mk w.heap.size 6 none) = some ((.slice a60 l60 c60 : Value)) ∧ w2.cell? (Addr.mk w.heap.size 7 none) = some ((.int .i64 n61 : Value)) ∧ w2.cell? (Addr.mk w.heap.size 8 none) = some ((.bool b62 : Value)) ∧ 
  CallR Tryz.prog 141 [.agg #[.int .i64 n54, .int .i64 n55, .slice a56 l56 c56, .slice a57 l57 c57, .slice a58 l58 c58, .slice a59 l59 c59, .slice a60 l60 c60, .int .i64 n61, .bool b62], .pointer (some (Addr.mk w1.heap.size 0 none)), .bool false] w2 (fun (r64 : Value) (w24 : World) =>
  ∃ (b63 : Bool), r64 = .bool b63 ∧
  cond (!b63)
  (Q (.tuple #[.pointer (some (Addr.mk w1.heap.size 0 none)), .bool false]) w24)
  (J10 [.int .i64 0, .int .i64 0] w24)))
  (cond ((Int.tmod ((Int.tmod n11 (6 : Int)) + 6) (6 : Int)) == 5)
  (∃ (n65 : Int) (n66 : Int) (a67 : Option Addr) (l67 : Nat) (c67 : Nat) (a68 : Option Addr) (l68 : Nat) (c68 : Nat) (a69 : Option Addr) (l69 : Nat) (c69 : Nat) (a70 : Option Addr) (l70 : Nat) (c70 : Nat) (a71 : Option Addr) (l71 : Nat) (c71 : Nat) (n72 : Int) (b73 : Bool), w2.cell? (Addr.mk w.heap.size 0 none) = some ((.int .i64 n65 : Value)) ∧ w2.cell? (Addr.mk w.heap.size 1 none) = some ((.int .i64 n66 : Value)) ∧ w2.cell? (Addr.mk w.heap.size 2 none) = some ((.slice a67 l67 c67 : Value)) ∧ w2.cell? (Addr.mk w.heap.size 3 none) = some ((.slice a68 l68 c68 : Value)) ∧ w2.cell? (Addr.mk w.heap.size 4 none) = some ((.slice a69 l69 c69 : Value)) ∧ w2.cell? (Addr.mk w.heap.size 5 none) = some ((.slice a70 l70 c70 : Value)) ∧ w2.cell? (Addr.mk w.heap.size 6 none) = some ((.slice a71 l71 c71 : Value)) ∧ w2.cell? (Addr.mk w.heap.size 7 none) = some ((.int .i64 n72 : Value)) ∧ w2.cell? (Addr.mk w.heap.size 8 none) = some ((.bool b73 : Value)) ∧ 
  CallR Tryz.prog 141 [.agg #[.int .i64 n65, .int .i64 n66, .slice a67 l67 c67, .slice a68 l68 c68, .slice a69 l69 c69, .slice a70 l70 c70, .slice a71 l71 c71, .int .i64 n72, .bool b73], .pointer (some (Addr.mk w1.heap.size 0 none)), .bool true] w2 (fun (r75 : Value) (w25 : World) =>
  ∃ (b74 : Bool), r75 = .bool b74 ∧
  cond (!b74)
  (Q (.tuple #[.pointer (some (Addr.mk w1.heap.size 0 none)), .bool false]) w25)
  (J10 [.int .i64 0, .int .i64 0] w25)))
  (J10 [.int .i64 0, .int .i64 0] w2))))))) ∧
  (∀ (_ : Env) (n76 : Int) (n77 : Int) (w26 : World), J10 [.int .i64 n76, .int .i64 n77] w26 →
  cond (n77 != 0)
  (Q (.tuple #[.pointer (some (Addr.mk w1.heap.size 0 none)), .bool false]) w26)
  (cond (n76 != 0)
  (Q (.tuple #[.pointer (some (Addr.mk w1.heap.size 0 none)), .bool false]) w26)
  (let w27 := World.drew w26;
  ∃ (v78 : Value), w27.cell? (Addr.mk w1.heap.size 0 none) = some v78 ∧
  ∃ (n79 : Int), w27.cell? (Addr.mk w.heap.size 7 none) = some ((.int .i64 n79 : Value)) ∧
  ∃ (f80 : FuncId) (xs81 : Array Value) (w28 : World), Sem.run Tryz.prog (callMethod v78 "Seek" #[.int .i64 n79, .int .i64 0]) w27 = .ok (.enter f80 xs81) w28 ∧
  CallR Tryz.prog f80 (Array.toList xs81) w28 (fun (r84 : Value) (w29 : World) =>
  ∃ (n82 : Int) (n83 : Int), r84 = .tuple #[.int .i64 n82, .int .i64 n83] ∧
  let w30 := World.drew w29;
  ∃ (p85 : Option Addr), w30.cell? (Addr.mk w1.heap.size 1 none) = some ((.pointer p85 : Value)) ∧
  ∃ (n86 : Int), w30.cell? (Addr.mk w.heap.size 7 none) = some ((.int .i64 n86 : Value)) ∧
  CallR Tryz.prog 48 [.pointer p85, .int .i64 n86, .int .i64 0] w30 (fun (r89 : Value) (w31 : World) =>
  ∃ (n87 : Int) (n88 : Int), r89 = .tuple #[.int .i64 n87, .int .i64 n88] ∧
  Q (.tuple #[.pointer (some (Addr.mk w1.heap.size 0 none)), .bool true]) w31)))))
theorem C40 {n1 : Int} {n2 : Int} {a3 : Option Addr} {l3 : Nat} {c3 : Nat} {a4 : Option Addr} {l4 : Nat} {c4 : Nat} {a5 : Option Addr} {l5 : Nat} {c5 : Nat} {a6 : Option Addr} {l6 : Nat} {c6 : Nat} {a7 : Option Addr} {l7 : Nat} {c7 : Nat} {n8 : Int} {b9 : Bool} {Q : Value → World → Prop} {w : World} (h : L40 n1 n2 a3 l3 c3 a4 l4 c4 a5 l5 c5 a6 l6 c6 a7 l7 c7 n8 b9 Q w) : CallR Tryz.prog 40 [.agg #[.int .i64 n1, .int .i64 n2, .slice a3 l3 c3, .slice a4 l4 c4, .slice a5 l5 c5, .slice a6 l6 c6, .slice a7 l7 c7, .int .i64 n8, .bool b9]] w Q :=
  fun_calls (A := A40) mixed Tryz.func40 (c := (Tryz.f40.body).getD .skip) rfl (by kernel_rfl) (Eq.mp (by kernel_rfl) h)
def A141 : Ann := ⟨[], [(4, [(7, .one (.slice)), (8, .one (.slice))]), (6, [(9, .one (.int .i64))])], [], [], [], [3]⟩
def L141 (n1 : Int) (n2 : Int) (a3 : Option Addr) (l3 : Nat) (c3 : Nat) (a4 : Option Addr) (l4 : Nat) (c4 : Nat) (a5 : Option Addr) (l5 : Nat) (c5 : Nat) (a6 : Option Addr) (l6 : Nat) (c6 : Nat) (a7 : Option Addr) (l7 : Nat) (c7 : Nat) (n8 : Int) (b9 : Bool) (p10 : Option Addr) (b11 : Bool) (Q : Value → World → Prop) (w : World) : Prop :=
  let w1 := World.alloc w (Obj.cells #[.int .i64 n1, .int .i64 n2, .slice a3 l3 c3, .slice a4 l4 c4, .slice a5 l5 c5, .slice a6 l6 c6, .slice a7 l7 c7, .int .i64 n8, .bool b9] 86);
  ∃ (a12 : Option Addr) (l12 : Nat) (c12 : Nat), w1.cell? (Addr.mk w.heap.size 2 none) = some ((.slice a12 l12 c12 : Value)) ∧
  let w2 := World.alloc w1 (Obj.cells #[.string (ByteArray.mk #[102]), .slice a12 l12 c12] 122);
  let w3 := World.alloc w2 (Obj.cells #[] 127);
  ∃ (J13 : List Value → World → Prop),
  (cond b11
  (let w4 := World.drew w3;
  (let w5 := World.alloc w4 (Obj.cells #[] 122);
  ∃ (a14 : Option Addr) (l14 : Nat) (c14 : Nat), w5.cell? (Addr.mk w.heap.size 6 none) = some ((.slice a14 l14 c14 : Value)) ∧
  let w6 := World.alloc w5 (Obj.cells #[.string (ByteArray.mk #[102]), .slice a14 l14 c14] 127);
  J13 [.slice (some (Addr.mk w4.heap.size 0 none)) 0 0, .slice (some (Addr.mk w5.heap.size 0 none)) 1 1] w6) ∧
  (∃ (a15 : Option Addr) (l15 : Nat) (c15 : Nat), w4.cell? (Addr.mk w.heap.size 6 none) = some ((.slice a15 l15 c15 : Value)) ∧
  (let w7 := World.alloc w4 (Obj.cells #[] 122);
  let w8 := World.alloc w7 (Obj.cells #[.string (ByteArray.mk #[102]), .slice a15 l15 c15] 127);
  J13 [.slice (some (Addr.mk w4.heap.size 0 none)) 0 0, .slice (some (Addr.mk w7.heap.size 0 none)) 1 1] w8) ∧
  (let w9 := World.alloc w4 (Obj.cells #[.string (ByteArray.mk #[102]), .slice a15 l15 c15] 127);
  let w10 := World.alloc w9 (Obj.cells #[] 122);
  J13 [.slice (some (Addr.mk w9.heap.size 0 none)) 0 0, .slice (some (Addr.mk w4.heap.size 0 none)) 1 1] w10)))
  (J13 [.slice (some (Addr.mk w1.heap.size 0 none)) 1 1, .slice (some (Addr.mk w2.heap.size 0 none)) 0 0] w3)) ∧
  (∀ (_ : Env) (a16 : Option Addr) (l16 : Nat) (c16 : Nat) (a17 : Option Addr) (l17 : Nat) (c17 : Nat) (w11 : World), J13 [.slice a16 l16 c16, .slice a17 l17 c17] w11 →
  ∃ (J18 : List Value → World → Prop),
  (∃ (b19 : Bool), w11.cell? (Addr.mk w.heap.size 8 none) = some ((.bool b19 : Value)) ∧
  cond b19
  (J18 [.int .i64 7] w11)
  (J18 [.int .i64 3] w11)) ∧
  (∀ (_ : Env) (n20 : Int) (w12 : World), J18 [.int .i64 n20] w12 →
  ∃ (a21 : Option Addr) (l21 : Nat) (c21 : Nat), w12.cell? (Addr.mk w.heap.size 5 none) = some ((.slice a21 l21 c21 : Value)) ∧
  CallR Tryz.prog 9 [.slice a16 l16 c16, .slice a17 l17 c17, .slice a21 l21 c21] w12 (fun (r23 : Value) (w13 : World) =>
  ∃ (n22 : Int), r23 = .int .i64 n22 ∧
  cond (n22 != 0)
  (Q (.bool false) w13)
  (∃ (a24 : Option Addr) (l24 : Nat) (c24 : Nat), w13.cell? (Addr.mk w.heap.size 5 none) = some ((.slice a24 l24 c24 : Value)) ∧
  CallR Tryz.prog 8 [.agg #[.slice a16 l16 c16, .slice a17 l17 c17, .slice a24 l24 c24]] w13 (fun (r27 : Value) (w14 : World) =>
  ∃ (p25 : Option Addr) (n26 : Int), r27 = .tuple #[.pointer p25, .int .i64 n26] ∧
  cond (n26 != 0)
  (Q (.bool false) w14)
  (cond (Option.isNone p25)
  (Q (.bool false) w14)
  (∃ (a28 : Option Addr) (l28 : Nat) (c28 : Nat), w14.cell? (Addr.mk w.heap.size 5 none) = some ((.slice a28 l28 c28 : Value)) ∧
  CallR Tryz.prog 52 [.slice a28 l28 c28] w14 (fun (r30 : Value) (w15 : World) =>
  ∃ (a29 : Option Addr) (l29 : Nat) (c29 : Nat), r30 = .slice a29 l29 c29 ∧
  CallR Tryz.prog 60 [.slice a16 l16 c16, .slice a17 l17 c17, .slice a29 l29 c29] w15 (fun (r32 : Value) (w16 : World) =>
  ∃ (p31 : Option Addr), r32 = .pointer p31 ∧
  nn p10 (fun (q33 : Addr) =>
  stC (Addr.add q33 5) (.pointer p25) w16 (fun (w17 : World) =>
  nn p10 (fun (q34 : Addr) =>
  stC (Addr.add q34 6) (.pointer p31) w17 (fun (w18 : World) =>
  CallR Tryz.prog 30 [.pointer p25, .string (ByteArray.mk #[102]), .int .i64 n20] w18 (fun (r37 : Value) (w19 : World) =>
  ∃ (n35 : Int) (n36 : Int), r37 = .tuple #[.int .i64 n35, .int .i64 n36] ∧
  nn p10 (fun (q38 : Addr) =>
  ∃ (p39 : Option Addr), w19.cell? (Addr.add q38 6) = some ((.pointer p39 : Value)) ∧
  CallR Tryz.prog 31 [.pointer p39, .string (ByteArray.mk #[102]), .int .i64 n20] w19 (fun (r42 : Value) (w20 : World) =>
  ∃ (n40 : Int) (n41 : Int), r42 = .tuple #[.int .i64 n40, .int .i64 n41] ∧
  cond (n36 != 0)
  (Q (.bool false) w20)
  (cond (n35 != n40)
  (Q (.bool false) w20)
  (nn p10 (fun (q43 : Addr) =>
  ∃ (p44 : Option Addr), w20.cell? (Addr.add q43 6) = some ((.pointer p44 : Value)) ∧
  CallR Tryz.prog 32 [.pointer p44, .int .i64 n40] w20 (fun (r46 : Value) (w21 : World) =>
  ∃ (p45 : Option Addr), r46 = .pointer p45 ∧
  nn p10 (fun (q47 : Addr) =>
  stC q47 (.iface 70 (.agg #[.pointer p25, .int .i64 n35])) w21 (fun (w22 : World) =>
  nn p10 (fun (q48 : Addr) =>
  stC (Addr.add q48 1) (.pointer p45) w22 (fun (w23 : World) =>
  Q (.bool true) w23))))))))))))))))))))))))
theorem C141 {n1 : Int} {n2 : Int} {a3 : Option Addr} {l3 : Nat} {c3 : Nat} {a4 : Option Addr} {l4 : Nat} {c4 : Nat} {a5 : Option Addr} {l5 : Nat} {c5 : Nat} {a6 : Option Addr} {l6 : Nat} {c6 : Nat} {a7 : Option Addr} {l7 : Nat} {c7 : Nat} {n8 : Int} {b9 : Bool} {p10 : Option Addr} {b11 : Bool} {Q : Value → World → Prop} {w : World} (h : L141 n1 n2 a3 l3 c3 a4 l4 c4 a5 l5 c5 a6 l6 c6 a7 l7 c7 n8 b9 p10 b11 Q w) : CallR Tryz.prog 141 [.agg #[.int .i64 n1, .int .i64 n2, .slice a3 l3 c3, .slice a4 l4 c4, .slice a5 l5 c5, .slice a6 l6 c6, .slice a7 l7 c7, .int .i64 n8, .bool b9], .pointer p10, .bool b11] w Q :=
  fun_calls (A := A141) mixed Tryz.func141 (c := (Tryz.f141.body).getD .skip) rfl (by kernel_rfl) (Eq.mp (by kernel_rfl) h)
def A41 : Ann := ⟨[(2, [(3, .one (.int .i64))])], [], [], [], [], []⟩
def L41 (n1 : Int) (n2 : Int) (a3 : Option Addr) (l3 : Nat) (c3 : Nat) (a4 : Option Addr) (l4 : Nat) (c4 : Nat) (a5 : Option Addr) (l5 : Nat) (c5 : Nat) (a6 : Option Addr) (l6 : Nat) (c6 : Nat) (a7 : Option Addr) (l7 : Nat) (c7 : Nat) (n8 : Int) (b9 : Bool) (Q : Value → World → Prop) (w : World) : Prop :=
  let w1 := World.alloc w (Obj.cells #[.int .i64 n1, .int .i64 n2, .slice a3 l3 c3, .slice a4 l4 c4, .slice a5 l5 c5, .slice a6 l6 c6, .slice a7 l7 c7, .int .i64 n8, .bool b9] 86);
  ∃ (I10 : List Value → World → Prop) (mu11 : List Value → World → Nat),
  I10 [.int .i64 0] w1 ∧
  ∀ (_ : Env) (n12 : Int) (w2 : World), I10 [.int .i64 n12] w2 →
  ∃ (a13 : Option Addr) (l13 : Nat) (c13 : Nat), w2.cell? (Addr.mk w.heap.size 4 none) = some ((.slice a13 l13 c13 : Value)) ∧
  cond (decide (n12 < (((l13 : Nat) : Int))))
  (∃ (a14 : Option Addr) (l14 : Nat) (c14 : Nat), w2.cell? (Addr.mk w.heap.size 4 none) = some ((.slice a14 l14 c14 : Value)) ∧
  (0 ≤ (n12 : Int) ∧ (n12 : Int) < ((l14 : Nat) : Int)) ∧
  nn a14 (fun (q15 : Addr) =>
  ∃ (n16 : Int), w2.cell? (Addr.add q15 (Int.toNat n12)) = some ((.int .i64 n16 : Value)) ∧
  cond (decide (n16 < ((-1))))
  (∃ (n17 : Int), w2.cell? (Addr.mk w.heap.size 0 none) = some ((.int .i64 n17 : Value)) ∧
  (6 : Int) ≠ 0 ∧
  inI ((Int.tmod n17 (6 : Int)) + 6) ∧
  (6 : Int) ≠ 0 ∧
  Q (.bool ((Int.tmod ((Int.tmod n17 (6 : Int)) + 6) (6 : Int)) == 3)) w2)
  (inI (n12 + 1) ∧
  I10 [.int .i64 (n12 + 1)] w2 ∧ mu11 [.int .i64 (n12 + 1)] w2 < mu11 [.int .i64 n12] w2)))
  (Q (.bool false) w2)
theorem C41 {n1 : Int} {n2 : Int} {a3 : Option Addr} {l3 : Nat} {c3 : Nat} {a4 : Option Addr} {l4 : Nat} {c4 : Nat} {a5 : Option Addr} {l5 : Nat} {c5 : Nat} {a6 : Option Addr} {l6 : Nat} {c6 : Nat} {a7 : Option Addr} {l7 : Nat} {c7 : Nat} {n8 : Int} {b9 : Bool} {Q : Value → World → Prop} {w : World} (h : L41 n1 n2 a3 l3 c3 a4 l4 c4 a5 l5 c5 a6 l6 c6 a7 l7 c7 n8 b9 Q w) : CallR Tryz.prog 41 [.agg #[.int .i64 n1, .int .i64 n2, .slice a3 l3 c3, .slice a4 l4 c4, .slice a5 l5 c5, .slice a6 l6 c6, .slice a7 l7 c7, .int .i64 n8, .bool b9]] w Q :=
  fun_calls (A := A41) mixed Tryz.func41 (c := (Tryz.f41.body).getD .skip) rfl (by kernel_rfl) (Eq.mp (by kernel_rfl) h)
def A49 : Ann := ⟨[], [], [], [], [(2, [0, 1, 2, 3, 5, 6, 7, 8, 9, 10, 11, 4], 12, [13]), (4, [0, 1, 2, 3, 5, 6, 7, 8, 9, 10, 11, 4], 12, [13]), (6, [0, 1, 2, 3, 5, 6, 7, 8, 9, 10, 11, 4], 12, [13]), (11, [0, 1, 2, 3, 4, 5, 6, 7, 8, 9, 10, 11, 12, 13, 14, 15, 16, 17, 18, 19, 20, 21, 22, 23, 24, 26, 27, 28, 29, 25], 30, [31, 32, 33, 34, 35, 36, 37, 38, 39, 40, 41, 42, 43, 44, 45, 46, 47, 48, 49, 50, 51, 52])], []⟩
def L49 (p1 : Option Addr) (Q : Value → World → Prop) (w : World) : Prop :=
  nn p1 (fun (q2 : Addr) =>
  ∃ (p3 : Option Addr), w.cell? (Addr.add q2 2) = some ((.pointer p3 : Value)) ∧
  cond (!(Option.isNone p3))
  (∃ (S4 : World → Prop), S4 (World.drew w) ∧
  let w1 := World.drew w;
  nn p1 (fun (q5 : Addr) =>
  ∃ (p6 : Option Addr), (∀ wS : World, S4 wS → wS.cell? (Addr.add q5 2) = some ((.pointer p6 : Value))) ∧
  nn p1 (fun (q7 : Addr) =>
  ∃ (p8 : Option Addr), (∀ wS : World, S4 wS → wS.cell? (Addr.add q7 1) = some ((.pointer p8 : Value))) ∧
  nn p8 (fun (q9 : Addr) =>
  ∃ (a10 : Option Addr) (l10 : Nat) (c10 : Nat), (∀ wS : World, S4 wS → wS.cell? (Addr.add q9 1) = some ((.slice a10 l10 c10 : Value))) ∧
  CallR Tryz.prog 152 [.pointer p6] w1 (fun (r12 : Value) (w2 : World) =>
  ∃ (a11 : Option Addr) (l11 : Nat) (c11 : Nat), r12 = .slice a11 l11 c11 ∧
  S4 w2 ∧
  CallR Tryz.prog 39 [.slice a11 l11 c11, .slice a10 l10 c10] w2 (fun (r14 : Value) (w3 : World) =>
  ∃ (b13 : Bool), r14 = .bool b13 ∧
  Q (.bool b13) w3))))))
  (nn p1 (fun (q15 : Addr) =>
  ∃ (p16 : Option Addr), w.cell? (Addr.add q15 3) = some ((.pointer p16 : Value)) ∧
  cond (!(Option.isNone p16))
  (∃ (S17 : World → Prop), S17 (World.drew w) ∧
  let w4 := World.drew w;
  nn p1 (fun (q18 : Addr) =>
  ∃ (p19 : Option Addr), (∀ wS : World, S17 wS → wS.cell? (Addr.add q18 3) = some ((.pointer p19 : Value))) ∧
  nn p1 (fun (q20 : Addr) =>
  ∃ (p21 : Option Addr), (∀ wS : World, S17 wS → wS.cell? (Addr.add q20 1) = some ((.pointer p21 : Value))) ∧
  nn p21 (fun (q22 : Addr) =>
  ∃ (a23 : Option Addr) (l23 : Nat) (c23 : Nat), (∀ wS : World, S17 wS → wS.cell? (Addr.add q22 1) = some ((.slice a23 l23 c23 : Value))) ∧
  CallR Tryz.prog 153 [.pointer p19] w4 (fun (r25 : Value) (w5 : World) =>
  ∃ (a24 : Option Addr) (l24 : Nat) (c24 : Nat), r25 = .slice a24 l24 c24 ∧
  S17 w5 ∧
  CallR Tryz.prog 39 [.slice a24 l24 c24, .slice a23 l23 c23] w5 (fun (r27 : Value) (w6 : World) =>
  ∃ (b26 : Bool), r27 = .bool b26 ∧
  Q (.bool b26) w6))))))
  (nn p1 (fun (q28 : Addr) =>
  ∃ (p29 : Option Addr), w.cell? (Addr.add q28 4) = some ((.pointer p29 : Value)) ∧
  cond (!(Option.isNone p29))
  (∃ (S30 : World → Prop), S30 (World.drew w) ∧
  let w7 := World.drew w;
  nn p1 (fun (q31 : Addr) =>
  ∃ (p32 : Option Addr), (∀ wS : World, S30 wS → wS.cell? (Addr.add q31 4) = some ((.pointer p32 : Value))) ∧
  nn p1 (fun (q33 : Addr) =>
  ∃ (p34 : Option Addr), (∀ wS : World, S30 wS → wS.cell? (Addr.add q33 1) = some ((.pointer p34 : Value))) ∧
  nn p34 (fun (q35 : Addr) =>
  ∃ (a36 : Option Addr) (l36 : Nat) (c36 : Nat), (∀ wS : World, S30 wS → wS.cell? (Addr.add q35 1) = some ((.slice a36 l36 c36 : Value))) ∧
  CallR Tryz.prog 154 [.pointer p32] w7 (fun (r38 : Value) (w8 : World) =>
  ∃ (a37 : Option Addr) (l37 : Nat) (c37 : Nat), r38 = .slice a37 l37 c37 ∧
  S30 w8 ∧
  CallR Tryz.prog 39 [.slice a37 l37 c37, .slice a36 l36 c36] w8 (fun (r40 : Value) (w9 : World) =>
  ∃ (b39 : Bool), r40 = .bool b39 ∧
  Q (.bool b39) w9))))))
  (nn p1 (fun (q41 : Addr) =>
  ∃ (p42 : Option Addr), w.cell? (Addr.add q41 5) = some ((.pointer p42 : Value)) ∧
  cond (!(Option.isNone p42))
  (nn p1 (fun (q43 : Addr) =>
  ∃ (p44 : Option Addr), w.cell? (Addr.add q43 5) = some ((.pointer p44 : Value)) ∧
  CallR Tryz.prog 74 [.pointer p44] w (fun (r47 : Value) (w10 : World) =>
  ∃ (n45 : Int) (n46 : Int), r47 = .tuple #[.int .i64 n45, .int .i64 n46] ∧
  nn p1 (fun (q48 : Addr) =>
  ∃ (p49 : Option Addr), w10.cell? (Addr.add q48 5) = some ((.pointer p49 : Value)) ∧
  CallR Tryz.prog 81 [.pointer p49, .string (ByteArray.mk #[102])] w10 (fun (r52 : Value) (w11 : World) =>
  ∃ (a50 : Option Addr) (l50 : Nat) (c50 : Nat) (b51 : Bool), r52 = .tuple #[.slice a50 l50 c50, .bool b51] ∧
  nn p1 (fun (q53 : Addr) =>
  ∃ (p54 : Option Addr), w11.cell? (Addr.add q53 6) = some ((.pointer p54 : Value)) ∧
  CallR Tryz.prog 80 [.pointer p54] w11 (fun (r56 : Value) (w12 : World) =>
  ∃ (a55 : Option Addr) (l55 : Nat) (c55 : Nat), r56 = .slice a55 l55 c55 ∧
  ∃ (S57 : World → Prop), S57 (World.drew w12) ∧
  let w13 := World.drew w12;
  nn p1 (fun (q58 : Addr) =>
  ∃ (p59 : Option Addr), (∀ wS : World, S57 wS → wS.cell? (Addr.add q58 6) = some ((.pointer p59 : Value))) ∧
  nn p59 (fun (q60 : Addr) =>
  ∃ (n61 : Int), (∀ wS : World, S57 wS → wS.cell? (Addr.add q60 4) = some ((.int .i64 n61 : Value))) ∧
  cond (n45 == n61)
  (nn p1 (fun (q62 : Addr) =>
  ∃ (p63 : Option Addr), (∀ wS : World, S57 wS → wS.cell? (Addr.add q62 6) = some ((.pointer p63 : Value))) ∧
  nn p63 (fun (q64 : Addr) =>
  ∃ (n65 : Int), (∀ wS : World, S57 wS → wS.cell? (Addr.add q64 5) = some ((.int .i64 n65 : Value))) ∧
  cond (n46 == n65)
  (nn p1 (fun (q66 : Addr) =>
  ∃ (p67 : Option Addr), (∀ wS : World, S57 wS → wS.cell? (Addr.add q66 5) = some ((.pointer p67 : Value))) ∧
  nn p1 (fun (q68 : Addr) =>
  ∃ (p69 : Option Addr), (∀ wS : World, S57 wS → wS.cell? (Addr.add q68 6) = some ((.pointer p69 : Value))) ∧
  CallR Tryz.prog 76 [.pointer p67] w13 (fun (r71 : Value) (w14 : World) =>
  ∃ (a70 : Option Addr) (l70 : Nat) (c70 : Nat), r71 = .slice a70 l70 c70 ∧
  S57 w14 ∧
  CallR Tryz.prog 77 [.pointer p69] w14 (fun (r73 : Value) (w15 : World) =>
  ∃ (a72 : Option Addr) (l72 : Nat) (c72 : Nat), r73 = .slice a72 l72 c72 ∧
  CallR Tryz.prog 75 [.slice a70 l70 c70, .slice a72 l72 c72] w15 (fun (r75 : Value) (w16 : World) =>
  ∃ (b74 : Bool), r75 = .bool b74 ∧
  cond b74
  (cond (b51 == ((((l55 : Nat) : Int)) == 1))
  (cond (!b51)
  (Q (.bool true) w16)
  ((0 ≤ (0 : Int) ∧ (0 : Int) < ((l55 : Nat) : Int)) ∧
  nn a55 (fun (q76 : Addr) =>
  ∃ (a77 : Option Addr) (l77 : Nat) (c77 : Nat), w16.cell? (Addr.add (Addr.add q76 (Int.toNat 0 * 2)) 1) = some ((.slice a77 l77 c77 : Value)) ∧
  CallR Tryz.prog 39 [.slice a50 l50 c50, .slice a77 l77 c77] w16 (fun (r79 : Value) (w17 : World) =>
  ∃ (b78 : Bool), r79 = .bool b78 ∧
  Q (.bool b78) w17))))
  (Q (.bool false) w16))
  (Q (.bool false) w16)))))))
  (Q (.bool false) w13))))
  (Q (.bool false) w13))))))))))
  (Q (.bool true) w))))))))
theorem C49 {p1 : Option Addr} {Q : Value → World → Prop} {w : World} (h : L49 p1 Q w) : CallR Tryz.prog 49 [.pointer p1] w Q :=
  fun_calls (A := A49) mixed Tryz.func49 (c := (Tryz.f49.body).getD .skip) rfl (by kernel_rfl) (Eq.mp (by kernel_rfl) h)
def A48 : Ann := ⟨[], [(13, [(8, .one (.int .i64))])], [], [(2, [0, 1, 2, 3, 4, 5, 6, 7, 8, 9, 10, 11, 12, 13, 14])], [], []⟩
def L48 (p1 : Option Addr) (n2 : Int) (n3 : Int) (Q : Value → World → Prop) (w : World) : Prop :=
  nn p1 (fun (q4 : Addr) =>
  ∃ (n5 : Int), w.cell? q4 = some ((.int .i64 n5 : Value)) ∧
  cond (n5 == 5)
  (let w1 := World.drew w;
  nn p1 (fun (q6 : Addr) =>
  ∃ (p7 : Option Addr), w1.cell? (Addr.add q6 6) = some ((.pointer p7 : Value)) ∧
  nn p1 (fun (q8 : Addr) =>
  ∃ (n9 : Int), w1.cell? (Addr.add q8 7) = some ((.int .i64 n9 : Value)) ∧
  CallR Tryz.prog 69 [.pointer p7, .int .i64 n9, .int .i64 n2, .int .i64 n3] w1 (fun (r12 : Value) (w2 : World) =>
  ∃ (n10 : Int) (n11 : Int), r12 = .tuple #[.int .i64 n10, .int .i64 n11] ∧
  Q (.tuple #[.int .i64 n10, .int .i64 n11]) w2))))
  (nn p1 (fun (q13 : Addr) =>
  ∃ (n14 : Int), w.cell? q13 = some ((.int .i64 n14 : Value)) ∧
  cond (n14 == 4)
  (Q (.tuple #[.int .i64 0, .int .i64 66]) w)
  (cond (decide (n3 < 0))
  (Q (.tuple #[.int .i64 0, .int .i64 1]) w)
  (cond (decide (n3 > 2))
  (Q (.tuple #[.int .i64 0, .int .i64 1]) w)
  (∃ (J15 : List Value → World → Prop),
  (cond (n3 == 1)
  (nn p1 (fun (q16 : Addr) =>
  ∃ (n17 : Int), w.cell? (Addr.add q16 3) = some ((.int .i64 n17 : Value)) ∧
  J15 [.int .i64 n17] w))
  (cond (n3 == 2)
  (nn p1 (fun (q18 : Addr) =>
  ∃ (a19 : Option Addr) (l19 : Nat) (c19 : Nat), w.cell? (Addr.add q18 1) = some ((.slice a19 l19 c19 : Value)) ∧
  J15 [.int .i64 (((l19 : Nat) : Int))] w))
  (J15 [.int .i64 0] w))) ∧
  (∀ (_ : Env) (n20 : Int) (w3 : World), J15 [.int .i64 n20] w3 →
  nn p1 (fun (q21 : Addr) =>
  ∃ (n22 : Int), w3.cell? (Addr.add q21 2) = some ((.int .i64 n22 : Value)) ∧
  CallR Tryz.prog 151 [.int .i64 n20, .int .i64 n2, .int .i64 n22] w3 (fun (r25 : Value) (w4 : World) =>
  ∃ (n23 : Int) (b24 : Bool), r25 = .tuple #[.int .i64 n23, .bool b24] ∧
  cond (!b24)
  (Q (.tuple #[.int .i64 0, .int .i64 4]) w4)
  (nn p1 (fun (q26 : Addr) =>
  stC (Addr.add q26 3) (.int .i64 n23) w4 (fun (w5 : World) =>
  Q (.tuple #[.int .i64 n23, .int .i64 0]) w5))))))))))))
theorem C48 {p1 : Option Addr} {n2 : Int} {n3 : Int} {Q : Value → World → Prop} {w : World} (h : L48 p1 n2 n3 Q w) : CallR Tryz.prog 48 [.pointer p1, .int .i64 n2, .int .i64 n3] w Q :=
  fun_calls (A := A48) mixed Tryz.func48 (c := (Tryz.f48.body).getD .skip) rfl (by kernel_rfl) (Eq.mp (by kernel_rfl) h)
def A147 : Ann := ⟨[], [], [], [(10, [0, 1, 2, 3, 4, 5, 6, 7, 8, 9, 10])], [], []⟩
def L147 (p1 : Option Addr) (n2 : Int) (Q : Value → World → Prop) (w : World) : Prop :=
  nn p1 (fun (q3 : Addr) =>
  ∃ (a4 : Option Addr) (l4 : Nat) (c4 : Nat), w.cell? (Addr.add q3 4) = some ((.slice a4 l4 c4 : Value)) ∧
  cond ((((l4 : Nat) : Int)) == 0)
  (Q (.tuple #[.slice none 0 0, .int .i64 0]) w)
  (nn p1 (fun (q5 : Addr) =>
  ∃ (a6 : Option Addr) (l6 : Nat) (c6 : Nat), w.cell? (Addr.add q5 4) = some ((.slice a6 l6 c6 : Value)) ∧
  (0 ≤ (0 : Int) ∧ (0 : Int) < ((l6 : Nat) : Int)) ∧
  nn a6 (fun (q7 : Addr) =>
  ∃ (a8 : Option Addr) (l8 : Nat) (c8 : Nat) (n9 : Int), w.cell? (Addr.add q7 (Int.toNat 0 * 2)) = some ((.slice a8 l8 c8 : Value)) ∧ w.cell? (Addr.add (Addr.add q7 (Int.toNat 0 * 2)) 1) = some ((.int .i64 n9 : Value)) ∧ 
  let w1 := World.alloc w (Obj.cells #[.slice none 0 0, .int .i64 0] 305);
  stC (Addr.mk w.heap.size 0 none) (.slice a8 l8 c8) w1 (fun (w2 : World) =>
  stC (Addr.mk w.heap.size 1 none) (.int .i64 n9) w2 (fun (w3 : World) =>
  ∃ (n10 : Int), w3.cell? (Addr.mk w.heap.size 1 none) = some ((.int .i64 n10 : Value)) ∧
  cond (n10 != 0)
  (nn p1 (fun (q11 : Addr) =>
  ∃ (a12 : Option Addr) (l12 : Nat) (c12 : Nat), w3.cell? (Addr.add q11 4) = some ((.slice a12 l12 c12 : Value)) ∧
  (0 ≤ (1 : Int) ∧ (1 : Int) ≤ ((l12 : Nat) : Int)) ∧
  nn p1 (fun (q13 : Addr) =>
  stC (Addr.add q13 4) (.slice (adv a12 (Int.toNat 1) c12 2) (l12 - Int.toNat 1) (c12 - Int.toNat 1)) w3 (fun (w4 : World) =>
  ∃ (n15 : Int), w4.cell? (Addr.mk w.heap.size 1 none) = some ((.int .i64 n15 : Value)) ∧
  ∀ nd14 : Nat, let w5 := World.drewN w4 nd14;
  Q (.tuple #[.slice none 0 0, .int .i64 n15]) w5))))
  (∃ (a16 : Option Addr) (l16 : Nat) (c16 : Nat), w3.cell? (Addr.mk w.heap.size 0 none) = some ((.slice a16 l16 c16 : Value)) ∧
  ∃ (a17 : Option Addr) (l17 : Nat) (c17 : Nat), w3.cell? (Addr.mk w.heap.size 0 none) = some ((.slice a17 l17 c17 : Value)) ∧
  cond ((mn n2 (((l16 : Nat) : Int))) == (((l17 : Nat) : Int)))
  (nn p1 (fun (q18 : Addr) =>
  ∃ (a19 : Option Addr) (l19 : Nat) (c19 : Nat), w3.cell? (Addr.add q18 4) = some ((.slice a19 l19 c19 : Value)) ∧
  (0 ≤ (1 : Int) ∧ (1 : Int) ≤ ((l19 : Nat) : Int)) ∧
  nn p1 (fun (q20 : Addr) =>
  stC (Addr.add q20 4) (.slice (adv a19 (Int.toNat 1) c19 2) (l19 - Int.toNat 1) (c19 - Int.toNat 1)) w3 (fun (w6 : World) =>
  ∃ (a21 : Option Addr) (l21 : Nat) (c21 : Nat), w6.cell? (Addr.mk w.heap.size 0 none) = some ((.slice a21 l21 c21 : Value)) ∧
  (0 ≤ (mn n2 (((l16 : Nat) : Int)) : Int) ∧ (mn n2 (((l16 : Nat) : Int)) : Int) ≤ ((c21 : Nat) : Int)) ∧
  Q (.tuple #[.slice a21 (Int.toNat (mn n2 (((l16 : Nat) : Int)))) c21, .int .i64 0]) w6))))
  (let w7 := World.drew w3;
  nn p1 (fun (q22 : Addr) =>
  ∃ (a23 : Option Addr) (l23 : Nat) (c23 : Nat), w7.cell? (Addr.add q22 4) = some ((.slice a23 l23 c23 : Value)) ∧
  ∃ (a24 : Option Addr) (l24 : Nat) (c24 : Nat), w7.cell? (Addr.mk w.heap.size 0 none) = some ((.slice a24 l24 c24 : Value)) ∧
  (0 ≤ (mn n2 (((l16 : Nat) : Int)) : Int) ∧ (mn n2 (((l16 : Nat) : Int)) : Int) ≤ ((l24 : Nat) : Int)) ∧
  (0 ≤ (0 : Int) ∧ (0 : Int) < ((l23 : Nat) : Int)) ∧
  nn a23 (fun (q25 : Addr) =>
  stC (Addr.add q25 (Int.toNat 0 * 2)) (.slice (adv a24 (Int.toNat (mn n2 (((l16 : Nat) : Int)))) c24 1) (l24 - Int.toNat (mn n2 (((l16 : Nat) : Int)))) (c24 - Int.toNat (mn n2 (((l16 : Nat) : Int))))) w7 (fun (w8 : World) =>
  ∃ (a26 : Option Addr) (l26 : Nat) (c26 : Nat), w8.cell? (Addr.mk w.heap.size 0 none) = some ((.slice a26 l26 c26 : Value)) ∧
  (0 ≤ (mn n2 (((l16 : Nat) : Int)) : Int) ∧ (mn n2 (((l16 : Nat) : Int)) : Int) ≤ ((c26 : Nat) : Int)) ∧
  Q (.tuple #[.slice a26 (Int.toNat (mn n2 (((l16 : Nat) : Int)))) c26, .int .i64 0]) w8)))))))))))
theorem C147 {p1 : Option Addr} {n2 : Int} {Q : Value → World → Prop} {w : World} (h : L147 p1 n2 Q w) : CallR Tryz.prog 147 [.pointer p1, .int .i64 n2] w Q :=
  fun_calls (A := A147) mixed Tryz.func147 (c := (Tryz.f147.body).getD .skip) rfl (by kernel_rfl) (Eq.mp (by kernel_rfl) h)
def A149 : Ann := ⟨[], [(5, [(6, .one (.int .i64))])], [], [(10, [0, 1, 2, 3, 4, 5, 6, 7, 8, 9, 10, 11])], [], []⟩
def L149 (p1 : Option Addr) (a2 : Option Addr) (l2 : Nat) (c2 : Nat) (Q : Value → World → Prop) (w : World) : Prop :=
  ∃ (J3 : List Value → World → Prop),
  (nn p1 (fun (q4 : Addr) =>
  ∃ (a5 : Option Addr) (l5 : Nat) (c5 : Nat), w.cell? (Addr.add q4 5) = some ((.slice a5 l5 c5 : Value)) ∧
  cond (decide ((((l5 : Nat) : Int)) > 0))
  (nn p1 (fun (q6 : Addr) =>
  ∃ (a7 : Option Addr) (l7 : Nat) (c7 : Nat), w.cell? (Addr.add q6 5) = some ((.slice a7 l7 c7 : Value)) ∧
  (0 ≤ (0 : Int) ∧ (0 : Int) < ((l7 : Nat) : Int)) ∧
  nn a7 (fun (q8 : Addr) =>
  ∃ (n9 : Int), w.cell? (Addr.add q8 (Int.toNat 0)) = some ((.int .i64 n9 : Value)) ∧
  nn p1 (fun (q10 : Addr) =>
  ∃ (a11 : Option Addr) (l11 : Nat) (c11 : Nat), w.cell? (Addr.add q10 5) = some ((.slice a11 l11 c11 : Value)) ∧
  (0 ≤ (1 : Int) ∧ (1 : Int) ≤ ((l11 : Nat) : Int)) ∧
  nn p1 (fun (q12 : Addr) =>
  stC (Addr.add q12 5) (.slice (adv a11 (Int.toNat 1) c11 1) (l11 - Int.toNat 1) (c11 - Int.toNat 1)) w (fun (w1 : World) =>
  J3 [.int .i64 n9] w1))))))
  (J3 [.int .i64 (((l2 : Nat) : Int))] w))) ∧
  (∀ (_ : Env) (n13 : Int) (w2 : World), J3 [.int .i64 n13] w2 →
  cond (n13 == ((-1)))
  (Q (.tuple #[.int .i64 0, .int .i64 101]) w2)
  (cond (decide (n13 < 0))
  (Q (.tuple #[.int .i64 0, .int .i64 193]) w2)
  (let w3 := World.drew w2;
  nn p1 (fun (q14 : Addr) =>
  ∃ (a15 : Option Addr) (l15 : Nat) (c15 : Nat), w3.cell? (Addr.add q14 1) = some ((.slice a15 l15 c15 : Value)) ∧
  (0 ≤ (mn n13 (((l2 : Nat) : Int)) : Int) ∧ (mn n13 (((l2 : Nat) : Int)) : Int) ≤ ((c2 : Nat) : Int)) ∧
  ∃ (a16 : Option Addr) (l16 : Nat) (c16 : Nat) (w4 : World), Sem.run Tryz.prog (Builtin.append_ #[40, 40] 40 #[.slice a15 l15 c15, .slice a2 (Int.toNat (mn n13 (((l2 : Nat) : Int)))) c2]) w3 = .ok ((.slice a16 l16 c16 : Value)) w4 ∧
  nn p1 (fun (q17 : Addr) =>
  stC (Addr.add q17 1) (.slice a16 l16 c16) w4 (fun (w5 : World) =>
  Q (.tuple #[.int .i64 (mn n13 (((l2 : Nat) : Int))), .int .i64 0]) w5))))))
theorem C149 {p1 : Option Addr} {a2 : Option Addr} {l2 : Nat} {c2 : Nat} {Q : Value → World → Prop} {w : World} (h : L149 p1 a2 l2 c2 Q w) : CallR Tryz.prog 149 [.pointer p1, .slice a2 l2 c2] w Q :=
  fun_calls (A := A149) mixed Tryz.func149 (c := (Tryz.f149.body).getD .skip) rfl (by kernel_rfl) (Eq.mp (by kernel_rfl) h)
end Go.Proofs.YtpoaacnnhgebfaaGreat
set_option maxRecDepth 512
namespace Go.Proofs.YtpoaacnnhgebfaaGreat
open Go.Lw
theorem pmoveR_to {w : World} {b off most : Int} (h1 : 0 ≤ b) (h2 : b ≤ most) (hm : most ≤ 1048576) {Q : Value → World → Prop} (hq : Q (if off < -b ∨ off > most - b then .tuple #[.int .i64 0, .bool false] else .tuple #[.int .i64 (b + off), .bool true]) w) : CallR Tryz.prog 151 [.int .i64 b, .int .i64 off, .int .i64 most] w Q := by
  refine C151 ?_
  unfold L151
  refine ⟨⟨by omega, by omega⟩, condP (fun h => ?_) (fun h => ⟨⟨by omega, by omega⟩, condP (fun g => ?_) (fun g => ⟨⟨by omega, by omega⟩, ?_⟩)⟩)⟩
  · rw [if_pos (.inl (by omega))] at hq; exact hq
  · rw [if_pos (.inr (by omega))] at hq; exact hq
  · rw [if_neg (by omega)] at hq; exact hq
theorem rawRead_ok {F : Nat → Prop} {w : World} {b : Nat} {kind : Int} {bs : List Int} {room pl calls : Nat} (h : RawO F w b kind bs room pl calls) (hk5 : kind ≠ 5) (hk4 : kind ≠ 4) (n : Int) (hc : calls ≤ 4611686018427387904) :
    CallR Tryz.prog 43 [pd b, .int .i64 n] w fun v w' => ∃ a l c, v = .tuple #[.slice a l c, .int .i64 (readM n bs pl).2.1] ∧ RdB w' a l c (readM n bs pl).1 ∧ RawO F w' b kind bs room (readM n bs pl).2.2 (calls + 1) ∧ Kept F w w' := by
  obtain ⟨a, l, c, hb, ho, hna, h1, h2, h3, hF⟩ := h
  have hlen := ho.len
  refine C43 ?_
  unfold L43
  refine nnI ⟨_, hb.at (i := 8) rfl, ⟨by omega, by omega⟩, nnI (stC_blk hb (by simp) fun w1 hb1 (hk1 : Kept (· = b) _ w1) hs1 => ?_)⟩
  have hb1 : Blk w1 b #[.int .i64 kind, .slice a l c, .int .i64 (room : Int), .int .i64 (pl : Int), .slice none 0 0, .slice none 0 0, .pointer none, .int .i64 0, .int .i64 ((calls + 1 : Nat) : Int)] := hb1
  have ho1 := ho.keep hk1 fun x hx e => hna (e ▸ hx)
  have hF1 : Kept F w w1 := hk1.mono fun x _ e => (hF x).2 (.inl e)
  have same : ∀ {w' : World} {k : Int}, Kept No w1 w' → readM n bs pl = ([], k, pl) → ∃ a l c, Value.tuple #[.slice none 0 0, .int .i64 k] = .tuple #[.slice a l c, .int .i64 (readM n bs pl).2.1] ∧ RdB w' a l c (readM n bs pl).1 ∧ RawO F w' b kind bs room (readM n bs pl).2.2 (calls + 1) ∧ Kept F w w' := by
    intro w' k hk e
    rw [e]
    exact ⟨none, 0, 0, rfl, (OB.nil _).rd, ⟨a, l, c, hb1.keep hk (fun e => e), ho1.keep hk (fun _ _ e => e), hna, h1, h2, h3, hF⟩, hF1.trans hk fun _ _ e => e.elim⟩
  refine nnI ⟨_, hb1.at0 rfl, condF (by simpa using hk5) (condP (fun g => same (Kept.refl _ _) ?_) fun g => condP (fun g2 => same (Kept.refl _ _) ?_) fun g2 => condI (fun g3 => same (Kept.refl _ _) ?_) fun g3 => nnI ⟨_, hb1.at0 rfl, condF (by simpa using hk4) ?_⟩)⟩
  · unfold readM; rw [if_pos (by omega)]
  · unfold readM; rw [if_pos (by omega)]
  · have : n = 0 := by simpa using g3
    subst this
    unfold readM; rw [if_neg (by omega)]; simp
  intro w5
  have hk5' : Kept No w1 w5 := Kept.drew _ _
  clear_value w5
  have hb5 := hb1.keep hk5' fun e => e
  have ho5 := ho1.keep hk5' fun _ _ e => e
  have hr : readM n bs pl = (piece bs (pl : Int) n, 0, pl + (piece bs (pl : Int) n).length) := by
    unfold readM piece; rw [if_neg (by omega), Int.toNat_natCast]
  refine nnI ⟨_, _, _, hb5.at (i := 1) rfl, nnI ⟨_, hb5.at (i := 3) rfl, CallR.mono (rpiece_ok ho5.rd (by omega) (by omega) (by omega)) ?_⟩⟩
  rintro v w6 ⟨a', c', rfl, ho', hk6, hf6⟩
  have hb6 := hb5.keep hk6 fun e => e
  have hpl : (piece bs (pl : Int) n).length ≤ bs.length - pl := by
    unfold piece; rw [List.length_take, List.length_drop, Int.toNat_natCast]; omega
  refine ⟨_, _, _, rfl, nnI ⟨_, hb6.at (i := 3) rfl, ⟨by omega, by omega⟩, nnI (stC_blk hb6 (by simp) fun w7 hb7 (hk7 : Kept (· = b) _ w7) hs7 => ?_)⟩⟩
  rw [hr]
  have hz5 := hk5'.size
  refine ⟨a', _, c', rfl, (ho'.keep hk7 fun x hx e => by have := hf6 x hx; have := hb1.lt; omega).rd, ⟨a, l, c, hb7, ((ho5.keep hk6 fun _ _ e => e).keep hk7 fun x hx e => hna (e ▸ hx)), hna, h1, ?_, h3, hF⟩, ((hF1.trans hk5' fun _ _ e => e.elim).trans hk6 fun _ _ e => e.elim).trans hk7 fun x _ e => (hF x).2 (.inl e)⟩
  dsimp only
  omega
theorem rawWrite_ok {F : Nat → Prop} {w : World} {b : Nat} {kind : Int} {bs : List Int} {room pl calls : Nat} (h : RawO F w b kind bs room pl calls) (hk5 : kind ≠ 5) (hk4 : kind ≠ 4) {a2 : Option Addr} {l2 c2 : Nat} {ds : List Int} (hd : RdB w a2 l2 c2 ds) (hap : ds ≠ [] → ∀ k, inA a2 k → ¬ F k) (hc : calls ≤ 4611686018427387904) :
    CallR Tryz.prog 47 [pd b, .slice a2 l2 c2] w fun v w' => if kind = 3 then v = .tuple #[.int .i64 0, .int .i64 65] ∧ RawO F w' b kind bs room pl (calls + 1) ∧ Kept F w w' else
      v = .tuple #[.int .i64 (writeM ds bs room pl).1, .int .i64 (writeM ds bs room pl).2.1] ∧ ∃ F', RawO F' w' b kind (writeM ds bs room pl).2.2.1 room (writeM ds bs room pl).2.2.2 (calls + 1) ∧ Grew F w F' ∧ Kept F w w' := by
  obtain ⟨a, l, c, hb, ho, hna, h1, h2, h3, hF⟩ := h
  have hlen := ho.len
  have hlen2 := hd.len
  have hlc2 : l2 ≤ c2 := hd.2.1
  refine C47 ?_
  unfold L47
  refine nnI ⟨_, hb.at (i := 8) rfl, ⟨by omega, by omega⟩, nnI (stC_blk hb (by simp) fun w1 hb1 (hk1 : Kept (· = b) _ w1) hs1 => ?_)⟩
  have hb1 : Blk w1 b #[.int .i64 kind, .slice a l c, .int .i64 (room : Int), .int .i64 (pl : Int), .slice none 0 0, .slice none 0 0, .pointer none, .int .i64 0, .int .i64 ((calls + 1 : Nat) : Int)] := hb1
  have ho1 := ho.keep hk1 fun x hx e => hna (e ▸ hx)
  have hF1 : Kept F w w1 := hk1.mono fun x _ e => (hF x).2 (.inl e)
  have hd1 : RdB w1 a2 l2 c2 ds := RdB.keep0 hd hk1 fun hne x hin e => hap hne x hin ((hF x).2 (.inl e))
  refine nnI ⟨_, hb1.at0 rfl, condF (by simpa using hk5) (nnI ⟨_, hb1.at0 rfl, ?_⟩)⟩
  by_cases hk3 : kind = 3
  · simp only [if_pos hk3]
    exact condT (by simpa using hk3) ⟨trivial, ⟨a, l, c, hb1, ho1, hna, h1, h2, h3, hF⟩, hF1⟩
  simp only [if_neg hk3]
  have same : ∀ {w' : World} {k : Int}, Kept No w1 w' → writeM ds bs room pl = (0, k, bs, pl) → Value.tuple #[.int .i64 0, .int .i64 k] = .tuple #[.int .i64 (writeM ds bs room pl).1, .int .i64 (writeM ds bs room pl).2.1] ∧ ∃ F', RawO F' w' b kind (writeM ds bs room pl).2.2.1 room (writeM ds bs room pl).2.2.2 (calls + 1) ∧ Grew F w F' ∧ Kept F w w' := by
    intro w' k hk e
    rw [e]
    exact ⟨rfl, F, ⟨a, l, c, hb1.keep hk (fun e => e), ho1.keep hk (fun _ _ e => e), hna, h1, h2, h3, hF⟩, .same, hF1.trans hk fun _ _ e => e.elim⟩
  refine condF (by simpa using hk3) (condP (fun g => same (Kept.refl _ _) ?_) fun g => condI (fun g2 => same (Kept.refl _ _) ?_) fun g2 => nnI ⟨_, hb1.at0 rfl, condF (by simpa using hk4) (nnI ⟨_, hb1.at (i := 3) rfl, nnI ⟨_, hb1.at (i := 2) rfl, ?_⟩⟩)⟩)
  · unfold writeM; rw [if_pos (by omega)]
  · have : ds = [] := List.eq_nil_of_length_eq_zero (by simp at g2; omega)
    unfold writeM; rw [if_neg (by omega), if_pos this]
  have hne : ds ≠ [] := fun e => by rw [e] at hlen2; simp at hlen2 g2; omega
  intro nd
  have hk5' : Kept No w1 (w1.drewN nd) := Kept.drewN _ _ _
  generalize w1.drewN nd = w5 at hk5' ⊢
  have hb5 := hb1.keep hk5' fun e => e
  refine condP (fun g3 => same hk5' ?_) fun g3 => ?_
  · unfold writeM; rw [if_neg (by omega), if_neg hne, if_pos (by omega)]
  refine nnI ⟨_, hb5.at (i := 2) rfl, nnI ⟨_, hb5.at (i := 3) rfl, ⟨by omega, by omega⟩, fun nd2 => ?_⟩⟩
  have hk7 : Kept No w5 (w5.drewN nd2).drew := (Kept.drewN No w5 nd2).no (Kept.drew No _)
  generalize (w5.drewN nd2).drew = w7 at hk7 ⊢
  have k7 := hk5'.no hk7
  have hb7 := hb1.keep k7 fun e => e
  have ho7 := ho1.keep k7 fun _ _ e => e
  have hd7 : RdB w7 a2 l2 c2 ds := hd1.keep k7 fun _ _ _ e => e
  have hmn : mn (l2 : Int) ((room : Int) - (pl : Int)) = ((min ds.length (room - pl) : Nat) : Int) := by rw [mn_eq]; omega
  rw [hmn, Int.toNat_natCast]
  obtain ⟨m, hm⟩ : ∃ m, min ds.length (room - pl) = m := ⟨_, rfl⟩
  rw [hm]
  have he : writeM ds bs room pl = ((m : Int), 0, lay bs pl (ds.take m), pl + m) := by
    unfold writeM; rw [if_neg (by omega), if_neg hne, if_neg (by omega), hm]
  rw [he]
  have hml : (ds.take m).length = m := by rw [List.length_take]; omega
  refine nnI ⟨_, _, _, hb7.at (i := 1) rfl, nnI ⟨_, hb7.at (i := 3) rfl, ⟨by omega, by omega⟩, CallR.mono (rlay_ok ho7 (by omega) (off := (pl : Int)) (by omega) (RdB.take hd7 (k := m) (by omega)) (by omega) fun _ k hk hin => ?_) ?_⟩⟩
  · exact hap hne k hk ((hF k).2 (.inr hin))
  rintro v w8 ⟨a', c', rfl, ho8, hk8, hin8⟩
  rw [Int.toNat_natCast] at ho8 ⊢
  have hb8 := hb7.keep hk8 hna
  have hzk := k7.size
  have hz1 := hk1.size
  have hblt := hb1.lt
  have hna' : ¬ inA a' b := fun e => by
    rcases hin8 b e with e | e
    · exact hna e
    · omega
  refine ⟨_, _, _, rfl, nnI (stC_blk hb8 (by simp) fun w9 hb9 (hk9 : Kept (· = b) _ w9) hs9 => nnI ⟨_, hb9.at (i := 3) rfl, ⟨by omega, by omega⟩, nnI (stC_blk hb9 (by simp) fun w10 hb10 (hk10 : Kept (· = b) _ w10) hs10 => ⟨rfl, fun k => k = b ∨ inA a' k, ?_, fun k hk => ?_, ?_⟩)⟩)⟩
  · have hll : (lay bs pl (ds.take m)).length ≤ room := by
      have := lay_len bs pl (ds.take m)
      omega
    exact ⟨a', _, c', hb10, (ho8.keep hk9 fun x hx e => hna' (e ▸ hx)).keep hk10 fun x hx e => hna' (e ▸ hx), hna', hll, by dsimp only; omega, h3, fun k => Iff.rfl⟩
  · rcases hk with rfl | hk
    · exact .inl ((hF _).2 (.inl rfl))
    · rcases hin8 k hk with e | e
      · exact .inl ((hF k).2 (.inr e))
      · exact .inr (by omega)
  · exact (((hF1.trans k7 fun _ _ e => e.elim).trans hk8 fun x _ e => (hF x).2 (.inr e)).trans hk9 fun x _ e => (hF x).2 (.inl e)).trans hk10 fun x _ e => (hF x).2 (.inl e)
theorem rawSeek_ok {F : Nat → Prop} {w : World} {b : Nat} {kind : Int} {bs : List Int} {room pl calls : Nat} (h : RawO F w b kind bs room pl calls) (hk5 : kind ≠ 5) (hk4 : kind ≠ 4) (off wh : Int) :
    CallR Tryz.prog 48 [pd b, .int .i64 off, .int .i64 wh] w fun v w' => v = .tuple #[.int .i64 (seekM off wh bs room pl).1, .int .i64 (seekM off wh bs room pl).2.1] ∧ RawO F w' b kind bs room (seekM off wh bs room pl).2.2 calls ∧ Kept F w w' := by
  have h0 := h
  obtain ⟨a, l, c, hb, ho, hna, h1, h2, h3, hF⟩ := h
  have hlen := ho.len
  refine C48 ?_
  unfold L48
  have bad : ∀ {k : Int}, seekM off wh bs room pl = (0, k, pl) → Value.tuple #[.int .i64 0, .int .i64 k] = .tuple #[.int .i64 (seekM off wh bs room pl).1, .int .i64 (seekM off wh bs room pl).2.1] ∧ RawO F w b kind bs room (seekM off wh bs room pl).2.2 calls ∧ Kept F w w := by
    intro k e; rw [e]; exact ⟨rfl, h0, Kept.refl _ _⟩
  refine nnI ⟨_, hb.at0 rfl, condF (by simpa using hk5) (nnI ⟨_, hb.at0 rfl, condF (by simpa using hk4) (condP (fun g => bad ?_) fun g => condP (fun g2 => bad ?_) fun g2 => ?_)⟩)⟩
  · unfold seekM; rw [if_pos (by omega)]
  · unfold seekM; rw [if_pos (by omega)]
  refine ⟨fun vs w' => vs = [.int .i64 (baseM wh bs pl)] ∧ w' = w, ?_, ?_⟩
  · refine condI (fun g3 => nnI ⟨_, hb.at (i := 3) rfl, ?_, rfl⟩) fun g3 => condI (fun g4 => nnI ⟨_, _, _, hb.at (i := 1) rfl, ?_, rfl⟩) fun g4 => ⟨?_, rfl⟩
    · have : wh = 1 := by simpa using g3
      subst this; rfl
    · have : wh = 2 := by simpa using g4
      subst this
      show [Value.int .i64 (l : Int)] = [.int .i64 (bs.length : Int)]
      rw [hlen]
    · have g3 : wh ≠ 1 := by simpa using g3
      have g4 : wh ≠ 2 := by simpa using g4
      have : wh = 0 := by omega
      subst this; rfl
  · rintro _ n20 w3 ⟨hv, rfl⟩
    simp only [List.cons.injEq, Value.int.injEq, true_and, and_true] at hv
    subst hv
    have hbs : 0 ≤ baseM wh bs pl ∧ baseM wh bs pl ≤ (room : Int) := by
      unfold baseM
      split
      · omega
      · split <;> omega
    refine nnI ⟨_, hb.at (i := 2) rfl, pmoveR_to hbs.1 hbs.2 (by omega) ?_⟩
    have hs : seekM off wh bs room pl = if off < -(baseM wh bs pl) ∨ off > (room : Int) - baseM wh bs pl then (0, 4, pl) else (baseM wh bs pl + off, 0, (baseM wh bs pl + off).toNat) := by
      unfold seekM; rw [if_neg (by omega)]
    by_cases hr : off < -(baseM wh bs pl) ∨ off > (room : Int) - baseM wh bs pl
    · rw [if_pos hr] at hs ⊢
      exact ⟨_, _, rfl, condTr2 (bad hs)⟩
    · rw [if_neg hr] at hs ⊢
      rw [hs]
      refine ⟨_, _, rfl, condFa2 (nnI (stC_blk hb (by simp) fun w5 hb5 (hk5' : Kept (· = b) _ w5) hs5 => ⟨rfl, ?_, hk5'.mono fun x _ e => (hF x).2 (.inl e)⟩))⟩
      refine ⟨a, l, c, ?_, ho.keep hk5' fun x hx e => hna (e ▸ hx), hna, h1, by dsimp only; omega, h3, hF⟩
      have e1 : (((baseM wh bs pl + off).toNat : Nat) : Int) = baseM wh bs pl + off := by omega
      dsimp only
      rw [e1]
      exact hb5
end Go.Proofs.YtpoaacnnhgebfaaGreat
namespace Go.Proofs.YtpoaacnnhgebfaaGreat
open Go.Lw
theorem RawC.fb {F : Nat → Prop} {w : World} {b : Nat} {rs : List (List Int × Int)} {ws tk : List Int} {calls : Nat} (h : RawC F w b rs ws tk calls) : F b := by
  obtain ⟨ar, lr, cr, aw, lw, cw, ak, lk, ck, es, hb, h1, h2, h3, h4, h5, h6, h7, h8, h9, h10⟩ := h; exact h5
theorem RawC.lt {F : Nat → Prop} {w : World} {b : Nat} {rs : List (List Int × Int)} {ws tk : List Int} {calls : Nat} (h : RawC F w b rs ws tk calls) : ∀ x, F x → x < w.heap.size := by
  obtain ⟨ar, lr, cr, aw, lw, cw, ak, lk, ck, es, hb, h1, h2, h3, h4, h5, h6, h7, h8, h9, h10⟩ := h; exact h6
theorem RawC.count {F : Nat → Prop} {w : World} {b : Nat} {rs : List (List Int × Int)} {ws tk : List Int} {calls : Nat} (h : RawC F w b rs ws tk calls) (hc : calls ≤ 4611686018427387904) {K : World → Prop}
    (hk : ∀ w', RawC F w' b rs ws tk (calls + 1) → Kept (· = b) w w' → w'.heap.size = w.heap.size → K w') : ∃ n4 : Int, w.cell? (Addr.add ⟨b, 0, none⟩ 8) = some (.int .i64 n4) ∧ inI (n4 + 1) ∧ nn (some ⟨b, 0, none⟩) fun q => stC (Addr.add q 8) (.int .i64 (n4 + 1)) w K := by
  obtain ⟨ar, lr, cr, aw, lw, cw, ak, lk, ck, es, hb, h1, h2, h3, h4, h5, h6, h7, h8, h9, h10⟩ := h
  refine ⟨_, hb.at (i := 8) rfl, ⟨by omega, by omega⟩, nnI (stC_blk hb (by simp) fun w1 hb1 (hk1 : Kept (· = b) _ w1) hs1 => hk w1 ?_ hk1 hs1)⟩
  exact ⟨ar, lr, cr, aw, lw, cw, ak, lk, ck, es, hb1, h1.keep hk1 (fun x hx e => (h7 x hx).2 e), h2.keep hk1 (fun x hx e => hx.2.1 e), h3.keep hk1 (fun x _ hx e => (h8 x hx).2.1 e), h4.keep hk1 (fun x hx e => (h9 x hx).2.1 e), h5, fun x hx => by have := h6 x hx; omega, h7, h8, h9, h10⟩
theorem rans_ok {F : Nat → Prop} {w : World} {b : Nat} {rs : List (List Int × Int)} {ws tk : List Int} {calls : Nat} (h : RawC F w b rs ws tk calls) {n : Int} (h1n : 1 ≤ n) (h2n : n ≤ 1048576) :
    CallR Tryz.prog 147 [pd b, .int .i64 n] w fun v w' => ∃ a l c, v = .tuple #[.slice a l c, .int .i64 (readC n rs).2.1] ∧ RdB w' a l c (readC n rs).1 ∧ RawC F w' b (readC n rs).2.2 ws tk calls ∧ Kept F w w' := by
  have hC := h
  obtain ⟨ar, lr, cr, aw, lw, cw, ak, lk, ck, es, hb, h1, h2, h3, h4, h5, h6, h7, h8, h9, h10⟩ := h
  refine C147 ?_
  unfold L147
  have hlr : rs.length = lr := by
    have := h1.1
    rw [ansC_len] at this
    have := h2.1; omega
  refine nnI ⟨ar, lr, cr, hb.at (i := 4) rfl, condI (fun g4 => ?_) (fun g4 => ?_)⟩
  · have : rs = [] := List.eq_nil_of_length_eq_zero (by simp at g4; omega)
    subst this
    have : readC n [] = ([], 0, []) := by unfold readC; rw [if_neg (by omega), if_neg (by omega)]
    rw [this]
    exact ⟨none, 0, 0, rfl, (OB.nil _).rd, hC, Kept.refl _ _⟩
  have g4 : lr ≠ 0 := by simpa using g4
  obtain ⟨r, t, rfl⟩ : ∃ r t, rs = r :: t := by
    cases rs with
    | nil => simp at hlr; omega
    | cons r t => exact ⟨r, t, rfl⟩
  obtain ⟨e, es', rfl⟩ : ∃ e t, es = e :: t := by
    cases es with
    | nil => have := h2.1; simp at this
    | cons e t => exact ⟨e, t, rfl⟩
  obtain ⟨k1, k2, k3⟩ := h2.2 0 e r rfl rfl
  obtain ⟨q, rfl⟩ : ∃ q, ar = some q := by
    cases ar with
    | none => have := (RdS.isNone h1.rd rfl).1; omega
    | some q => exact ⟨q, rfl⟩
  have hc0 : w.cell? (q.add (Int.toNat 0 * 2)) = some (slv e.1) := h1.rd.2.2.2 q rfl 0 _ (by simp [ansC])
  have hc1 : w.cell? ((q.add (Int.toNat 0 * 2)).add 1) = some (.int .i64 e.2) := by
    rw [Lw.add_add]; exact h1.rd.2.2.2 q rfl 1 _ (by simp [ansC])
  refine nnI ⟨some q, lr, cr, hb.at (i := 4) rfl, ⟨by omega, by omega⟩, nnI ⟨e.1.1, e.1.2.1, e.1.2.2, e.2, hc0, hc1, ?_⟩⟩
  refine lay2c fun w3 hx3 hk3 => ⟨_, (hx3.cell 1).trans rfl, ?_⟩
  have hF3 : Kept F w w3 := hk3.mono fun _ _ e => e.elim
  have hFg : ∀ x, F x → x ≠ w.heap.size := fun x hx e => by have := h6 x hx; omega
  obtain ⟨g, hg⟩ : ∃ g, g = w.heap.size := ⟨_, rfl⟩
  rw [← hg] at hx3 hFg ⊢
  have hb3 := hb.keep hk3 fun e => e
  have h13 := h1.keep hk3 fun _ _ e => e
  have h23 := h2.keep hk3 fun _ _ e => e
  have h33 := h3.keep hk3 fun _ _ _ e => e
  have h43 := h4.keep hk3 fun _ _ e => e
  have hz3 := hk3.size
  have drop : ∀ {w4 : World}, Blk w4 b (#[.int .i64 4, .slice ak lk ck, .int .i64 0, .int .i64 0, .slice (some q) lr cr, .slice aw lw cw, .pointer none, .int .i64 0, .int .i64 (calls : Int)].setIfInBounds 4 (.slice (adv (some q) 1 cr 2) (lr - 1) (cr - 1))) → Kept (· = b) w3 w4 → RawC F w4 b t ws tk calls ∧ Kept F w w4 := by
    intro w4 hb4 hk4
    have hfr := SlO.from h13 1 (by omega)
    rw [← ansC_drop] at hfr
    refine ⟨⟨_, _, _, _, _, _, _, _, _, es', hb4, hfr.keep hk4 (fun x hx e => (h7 x (inA_adv.1 hx)).2 e), ?_, h33.keep hk4 (fun x _ hx e => (h8 x hx).2.1 e), h43.keep hk4 (fun x hx e => (h9 x hx).2.1 e), h5, fun x hx => by have := h6 x hx; have := hk4.size; omega, fun x hx => h7 x (inA_adv.1 hx), fun x hx => ⟨(h8 x hx).1, (h8 x hx).2.1, fun e => (h8 x hx).2.2.1 (inA_adv.1 e), (h8 x hx).2.2.2⟩,
      fun x hx => ⟨(h9 x hx).1, (h9 x hx).2.1, fun e => (h9 x hx).2.2 (inA_adv.1 e)⟩, fun y hy => h10 y (by simp [hy])⟩, hF3.trans hk4 fun x _ e => e ▸ h5⟩
    exact ((AnsR.tail h23).mono (fun x hx => ⟨hx.1, hx.2.1, fun e => hx.2.2.1 (inA_adv.1 e), hx.2.2.2⟩)).keep hk4 (fun x hx e => hx.2.1 e)
  have k13 : RdB w3 e.1.1 e.1.2.1 e.1.2.2 r.1 := k1.keep hk3 fun _ _ _ e => e
  have hrl := k1.len
  have hlc : e.1.2.1 ≤ e.1.2.2 := k1.2.1
  refine condN (fun hne => ?_) (fun hz => ?_)
  · have he : readC n (r :: t) = ([], r.2, t) := by
      unfold readC; rw [if_neg (by omega), if_neg (by omega)]; simp only [if_pos (k2 ▸ hne : r.2 ≠ 0)]
    rw [he]
    refine nnI ⟨some q, lr, cr, hb3.at (i := 4) rfl, ⟨by omega, by omega⟩, nnI (stC_blk hb3 (by simp) fun w4 hb4 (hk4 : Kept (· = b) _ w4) hs4 => ?_)⟩
    obtain ⟨d1, d2⟩ := drop hb4 hk4
    have hx4 := hx3.keep hk4 fun e => hFg b h5 e.symm
    refine ⟨_, (hx4.cell 1).trans rfl, fun nd => ?_⟩
    have hk5 : Kept No w4 (w4.drewN nd) := Kept.drewN _ _ _
    exact ⟨none, 0, 0, by rw [k2], (OB.nil _).rd, d1.keep hk5 (fun _ _ e => e), d2.trans hk5 fun _ _ e => e.elim⟩
  have hr0 : r.2 = 0 := k2 ▸ hz
  have he : readC n (r :: t) = (r.1.take n.toNat, 0, if (r.1.length : Int) ≤ n then t else (r.1.drop n.toNat, 0) :: t) := by
    unfold readC; rw [if_neg (by omega), if_neg (by omega)]; simp only [hr0]; rfl
  rw [he]
  refine ⟨e.1.1, e.1.2.1, e.1.2.2, (hx3.cell 0).trans rfl, e.1.1, e.1.2.1, e.1.2.2, (hx3.cell 0).trans rfl, ?_⟩
  have hmn : mn n (e.1.2.1 : Int) = ((min n.toNat e.1.2.1 : Nat) : Int) := by rw [mn_eq]; omega
  rw [hmn, Int.toNat_natCast]
  obtain ⟨m, hm⟩ : ∃ m, min n.toNat e.1.2.1 = m := ⟨_, rfl⟩
  rw [hm]
  have e1 : r.1.take n.toNat = r.1.take m := by rw [List.take_eq_take_iff]; omega
  refine condI (fun g5 => ?_) (fun g5 => ?_)
  · have g5 : m = e.1.2.1 := by simp at g5; omega
    refine nnI ⟨some q, lr, cr, hb3.at (i := 4) rfl, ⟨by omega, by omega⟩, nnI (stC_blk hb3 (by simp) fun w4 hb4 (hk4 : Kept (· = b) _ w4) hs4 => ?_)⟩
    obtain ⟨d1, d2⟩ := drop hb4 hk4
    have hx4 := hx3.keep hk4 fun e => hFg b h5 e.symm
    refine ⟨e.1.1, e.1.2.1, e.1.2.2, (hx4.cell 0).trans rfl, ⟨by omega, by omega⟩, ?_⟩
    rw [if_pos (by omega)]
    refine ⟨e.1.1, m, e.1.2.2, rfl, ?_, d1, d2⟩
    rw [e1]
    refine RdB.to (RdB.keep0 k13 hk4 fun hne' x hx e' => (k3 hne' x hx).2.1 e') m (by omega)
  · have g5 : m ≠ e.1.2.1 := fun h => by rw [h] at g5; simp at g5
    intro w7
    have hk7 : Kept No w3 w7 := Kept.drew _ _
    clear_value w7
    have hb7 := hb3.keep hk7 fun e => e
    have hx7 := hx3.keep hk7 fun e => e
    have hz7 := hk7.size
    refine nnI ⟨some q, lr, cr, hb7.at (i := 4) rfl, e.1.1, e.1.2.1, e.1.2.2, (hx7.cell 0).trans rfl, ⟨by omega, by omega⟩, ⟨by omega, by omega⟩, nnI ?_⟩
    have hq0 : q.add (Int.toNat 0 * 2) = q.add 0 := rfl
    rw [hq0]
    refine stC_sloN (h13.keep hk7 fun _ _ e => e) rfl (by omega) fun w8 hs8 hk8 hsz8 => ?_
    rw [show Value.slice (adv e.1.1 m e.1.2.2 1) (e.1.2.1 - m) (e.1.2.2 - m) = slv (adv e.1.1 m e.1.2.2 1, e.1.2.1 - m, e.1.2.2 - m) from rfl, ansC_set] at hs8
    have hne : ∀ x, inA (some q) x → x ≠ g := fun x hx => hFg x (h7 x hx).1
    have hx8 := hx7.keep hk8 fun e => hne _ e rfl
    have hb8 := hb7.keep hk8 fun e => (h7 _ e).2 rfl
    refine ⟨e.1.1, e.1.2.1, e.1.2.2, (hx8.cell 0).trans rfl, ⟨by omega, by omega⟩, ?_⟩
    rw [if_neg (by omega)]
    have hmn2 : m = n.toNat := by omega
    refine ⟨e.1.1, m, e.1.2.2, rfl, ?_, ?_, ?_⟩
    · rw [e1]
      exact RdB.to (RdB.keep0 (k13.keep hk7 fun _ _ _ e => e) hk8 fun hne' x hx e' => (k3 hne' x hx).2.2.1 e') m (by omega)
    · rw [← hmn2]
      refine ⟨some q, lr, cr, aw, lw, cw, ak, lk, ck, _, hb8, hs8, ?_, ?_, ?_, h5, fun x hx => by have := h6 x hx; omega, h7, h8, h9, ?_⟩
      · refine AnsR.cons (((AnsR.tail h23).keep hk7 (fun _ _ e => e)).keep hk8 (fun x hx => hx.2.2.1)) ?_ (by rw [k2, hr0]) ?_
        · refine RdB.keep0 ((k13.keep hk7 (fun _ _ _ e => e)).from m (by omega)) hk8 (fun hne' x hx e' => ?_)
          have : r.1 ≠ [] := by rintro h0; rw [h0] at hne'; simp at hne'
          exact (k3 this x (inA_adv.1 hx)).2.2.1 e'
        · intro hne' x hx
          have : r.1 ≠ [] := by rintro h0; rw [h0] at hne'; simp at hne'
          exact k3 this x (inA_adv.1 hx)
      · exact (h33.keep hk7 (fun _ _ _ e => e)).keep hk8 (fun x _ hx => (h8 x hx).2.2.1)
      · exact (h43.keep hk7 (fun _ _ e => e)).keep hk8 (fun x hx => (h9 x hx).2.2)
      · intro y hy
        rcases List.mem_cons.1 hy with rfl | hy
        · have := h10 r (by simp)
          simp only [List.length_drop]; omega
        · exact h10 y (by simp [hy])
    · exact (hF3.trans hk7 fun _ _ e => e.elim).trans hk8 fun x _ hx => (h7 x hx).1
theorem rawcRead_ok {F : Nat → Prop} {w : World} {b : Nat} {rs : List (List Int × Int)} {ws tk : List Int} {calls : Nat} (h : RawC F w b rs ws tk calls) (n : Int) (hc : calls ≤ 4611686018427387904) :
    CallR Tryz.prog 43 [pd b, .int .i64 n] w fun v w' => ∃ a l c, v = .tuple #[.slice a l c, .int .i64 (readC n rs).2.1] ∧ RdB w' a l c (readC n rs).1 ∧ RawC F w' b (readC n rs).2.2 ws tk (calls + 1) ∧ Kept F w w' := by
  refine C43 ?_
  unfold L43
  refine nnI (h.count hc fun w1 h1 hk1 hs1 => ?_)
  have hF1 : Kept F w w1 := hk1.mono fun x _ e => e ▸ h.fb
  have h1' := h1
  obtain ⟨ar, lr, cr, aw, lw, cw, ak, lk, ck, es, hb, _⟩ := h1'
  have same : ∀ {k : Int}, readC n rs = ([], k, rs) → ∃ a l c, Value.tuple #[.slice none 0 0, .int .i64 k] = .tuple #[.slice a l c, .int .i64 (readC n rs).2.1] ∧ RdB w1 a l c (readC n rs).1 ∧ RawC F w1 b (readC n rs).2.2 ws tk (calls + 1) ∧ Kept F w w1 := by
    intro k e
    rw [e]
    exact ⟨none, 0, 0, rfl, (OB.nil _).rd, h1, hF1⟩
  refine nnI ⟨_, hb.at0 rfl, condFa2 (condP (fun g => same ?_) fun g => condP (fun g2 => same ?_) fun g2 => condI (fun g3 => same ?_) fun g3 => nnI ⟨_, hb.at0 rfl, condTr2 (CallR.mono (rans_ok h1 (n := n) ?_ (by omega)) ?_)⟩)⟩
  · unfold readC; rw [if_pos (by omega)]
  · unfold readC; rw [if_pos (by omega)]
  · have : n = 0 := by simpa using g3
    subst this
    unfold readC; rw [if_neg (by omega), if_pos rfl]
  · have : n ≠ 0 := by simpa using g3
    omega
  · rintro v w2 ⟨a, l, c, rfl, hr, h2, hk2⟩
    exact ⟨_, _, _, _, rfl, a, l, c, rfl, hr, h2, hF1.trans hk2 fun _ _ e => e⟩
theorem rawcSeek_to {F : Nat → Prop} {w : World} {b : Nat} {rs : List (List Int × Int)} {ws tk : List Int} {calls : Nat} (h : RawC F w b rs ws tk calls) (off wh : Int) {Q : Value → World → Prop} (hq : Q (.tuple #[.int .i64 0, .int .i64 66]) w) :
    CallR Tryz.prog 48 [pd b, .int .i64 off, .int .i64 wh] w Q := by
  obtain ⟨ar, lr, cr, aw, lw, cw, ak, lk, ck, es, hb, _⟩ := h
  refine C48 ?_
  unfold L48
  exact nnI ⟨_, hb.at0 rfl, condFa2 (nnI ⟨_, hb.at0 rfl, condTr2 hq⟩)⟩
theorem rawcWrite_ok {F : Nat → Prop} {w : World} {b : Nat} {rs : List (List Int × Int)} {ws tk : List Int} {calls : Nat} (h : RawC F w b rs ws tk calls) {a2 : Option Addr} {l2 c2 : Nat} {ds : List Int} (hd : RdB w a2 l2 c2 ds) (hap : ds ≠ [] → ∀ k, inA a2 k → ¬ F k)
    (hw : ∀ n ∈ ws, -1 ≤ n) (hlk : tk.length ≤ 70368744177664) (hc : calls ≤ 4611686018427387904) :
    CallR Tryz.prog 47 [pd b, .slice a2 l2 c2] w fun v w' => v = .tuple #[.int .i64 (writeC ds ws tk).1, .int .i64 (writeC ds ws tk).2.1] ∧ ∃ F', RawC F' w' b rs (writeC ds ws tk).2.2.1 (writeC ds ws tk).2.2.2 (calls + 1) ∧ Grew F w F' ∧ Kept F w w' := by
  refine C47 ?_
  unfold L47
  refine nnI (h.count hc fun w1 h1 hk1 hs1 => ?_)
  have hF1 : Kept F w w1 := hk1.mono fun x _ e => e ▸ h.fb
  have hd1 : RdB w1 a2 l2 c2 ds := RdB.keep0 hd hF1 fun hne x hin e => hap hne x hin e
  have hap1 := hap
  clear hap hd h hk1
  have hC := h1
  obtain ⟨ar, lr, cr, aw, lw, cw, ak, lk, ck, es, hb, _⟩ := h1
  have hbad : ∀ {k : Int}, writeC ds ws tk = (0, k, ws, tk) → Value.tuple #[.int .i64 0, .int .i64 k] = .tuple #[.int .i64 (writeC ds ws tk).1, .int .i64 (writeC ds ws tk).2.1] ∧ ∃ F', RawC F' w1 b rs (writeC ds ws tk).2.2.1 (writeC ds ws tk).2.2.2 (calls + 1) ∧ Grew F w F' ∧ Kept F w w1 := by
    intro k e; rw [e]; exact ⟨rfl, F, hC, .same, hF1⟩
  have hlen2 := hd1.len
  have hlc2 : l2 ≤ c2 := hd1.2.1
  refine nnI ⟨_, hb.at0 rfl, condFa2 (nnI ⟨_, hb.at0 rfl, condFa2 (condP (fun g => hbad ?_) fun g => condI (fun g2 => hbad ?_) fun g2 => nnI ⟨_, hb.at0 rfl, condTr2 (C149 ?_)⟩)⟩)⟩
  · unfold writeC; rw [if_pos (by omega)]
  · have : ds = [] := List.eq_nil_of_length_eq_zero (by simp at g2; omega)
    unfold writeC; rw [if_neg (by omega), if_pos this]
  have hne : ds ≠ [] := fun e => by rw [e] at hlen2; simp at hlen2 g2; omega
  unfold L149
  obtain ⟨ar, lr, cr, aw, lw, cw, ak, lk, ck, es, hb, h1, h2, h3, h4, h5, h6, h7, h8, h9, h10⟩ := hC
  have hC : RawC F w1 b rs ws tk (calls + 1) := ⟨ar, lr, cr, aw, lw, cw, ak, lk, ck, es, hb, h1, h2, h3, h4, h5, h6, h7, h8, h9, h10⟩
  have hlw : ws.length = lw := by have := h3.1; simpa using this
  refine ⟨fun vs w' => vs = [.int .i64 (ws.headD l2)] ∧ RawC F w' b rs ws.tail tk (calls + 1) ∧ Kept F w1 w' ∧ w'.heap.size = w1.heap.size, nnI ⟨aw, lw, cw, hb.at (i := 5) rfl, condP (fun g3 => ?_) (fun g3 => ?_)⟩, ?_⟩
  · obtain ⟨x, ws', rfl⟩ : ∃ x t, ws = x :: t := by
      cases ws with
      | nil => simp at hlw; omega
      | cons x t => exact ⟨x, t, rfl⟩
    obtain ⟨q, rfl⟩ : ∃ q, aw = some q := by
      cases aw with
      | none => have := (RdS.isNone h3 rfl).1; omega
      | some q => exact ⟨q, rfl⟩
    refine nnI ⟨some q, lw, cw, hb.at (i := 5) rfl, ⟨by omega, by omega⟩, nnI ⟨x, h3.2.2.2 q rfl 0 _ (by simp [In]), nnI ⟨some q, lw, cw, hb.at (i := 5) rfl, ⟨by omega, by omega⟩, nnI (stC_at hb (by simp) fun w2 hb2 hk2 hs2 => ⟨rfl, ?_, hk2.mono fun y _ e => e ▸ h5, by omega⟩)⟩⟩⟩
    have hfr := RdS.from h3 1 (by omega)
    refine ⟨ar, lr, cr, _, _, _, ak, lk, ck, es, by simpa using hb2, h1.keep hk2 (fun x hx e => (h7 x hx).2 e), h2.keep hk2 (fun x hx e => hx.2.1 e), ?_, h4.keep hk2 (fun x hx e => (h9 x hx).2.1 e), h5,
      fun y hy => by have := h6 y hy; omega, h7, fun y hy => h8 y (inA_adv.1 hy), h9, h10⟩
    exact hfr.keep hk2 (fun y _ hy e => (h8 y (inA_adv.1 hy)).2.1 e)
  · have : ws = [] := List.eq_nil_of_length_eq_zero (by omega)
    subst this
    exact ⟨rfl, hC, Kept.refl _ _, rfl⟩
  · rintro _ n15 w3 ⟨hvs, hC3, hk3, hs3⟩
    simp only [List.cons.injEq, Value.int.injEq, true_and, and_true] at hvs
    subst hvs
    have hge : -1 ≤ ws.headD l2 := by
      cases ws with
      | nil => simp only [List.headD_nil]; omega
      | cons x t => exact hw x (by simp)
    subst hlen2
    have e0 : ws.headD ↑ds.length = -1 → writeC ds ws tk = (0, 101, ws.tail, tk) := fun e => by unfold writeC; rw [if_neg (by omega), if_neg hne, if_pos e]
    have e1 : ws.headD ↑ds.length ≠ -1 → writeC ds ws tk = ((min (ws.headD ds.length) ds.length), 0, ws.tail, tk ++ ds.take (min (ws.headD ds.length) ds.length).toNat) := fun e => by unfold writeC; rw [if_neg (by omega), if_neg hne, if_neg e]
    refine condI (fun g4 => ?_) (fun g4 => condP (fun g5 => ?_) (fun g5 => ?_))
    · simp only [beq_iff_eq] at g4
      rw [e0 g4]
      exact ⟨_, _, rfl, rfl, F, hC3, .same, hF1.trans hk3 fun _ _ e => e⟩
    · simp only [beq_eq_false_iff_ne] at g4
      omega
    · simp only [beq_eq_false_iff_ne] at g4
      rw [e1 g4]
      intro w4
      have hk4 : Kept No w3 w4 := Kept.drew No w3
      have hs4 : w4.heap.size = w3.heap.size := rfl
      clear_value w4
      have h14 : Kept F w1 w4 := hk3.trans hk4 fun _ _ e => e.elim
      have h04 : Kept F w w4 := hF1.trans h14 fun _ _ e => e
      have hd4' : RdB w4 a2 ds.length c2 ds := hd1.keep h14 (fun x _ hx hf => hap1 hne x hx hf)
      clear hb h1 h2 h3 h4 h5 h6 h7 h8 h9 h10
      obtain ⟨ar, lr, cr, aw, lw, cw, ak, lk, ck, es, hb, h1, h2, h3, h4, h5, h6, h7, h8, h9, h10⟩ := hC3.keep hk4 (fun _ _ e => e)
      have hlkk := h4.len
      obtain ⟨m, hm⟩ : ∃ m : Nat, mn (ws.headD ds.length) (ds.length : Int) = (m : Int) := ⟨(mn (ws.headD ds.length) (ds.length : Int)).toNat, by rw [mn_eq]; omega⟩
      have hm' : min (ws.headD ds.length) (ds.length : Int) = (m : Int) := by rw [← mn_eq]; exact hm
      rw [hm, hm', Int.toNat_natCast]
      have hml : m ≤ ds.length := by omega
      have hd4 := hd4'.to m (by omega)
      obtain ⟨a18, c18, w5, hrun, hs5, hk5, hat, hnn⟩ := run_app_sl (P := Tryz.prog) (t := 40) (t2 := 40) (ty := 40) (by kernel_rfl : slTyB Tryz.prog 40 1 1 = true) (by kernel_rfl) h4 hd4 (By_one _) (by omega) (by omega)
      rw [← By_append] at hs5
      have hb5 := hb.keep hk5 (fun e => (h9 _ e).2.1 rfl)
      have hsz5 := hk5.size
      have hsz0 := hF1.size
      have hsz3 := hk3.size
      refine nnI ⟨ak, lk, ck, hb.at (i := 1) rfl, ⟨by omega, by omega⟩, a18, lk + m, c18, w5, hrun, nnI (stC_at hb5 (by simp) fun w6 hb6 hk6 hs6 => ⟨_, _, rfl, rfl, fun x => F x ∨ inA a18 x, ?_, ?_, ?_⟩)⟩
      · have hin : ∀ x, inA a18 x → (inA ak x ∨ x = w4.heap.size) := fun x hx => hat.in hx
        have hbx := hb.lt
        refine ⟨ar, lr, cr, aw, lw, cw, a18, _, c18, es, by simpa using hb6, (h1.keep hk5 (fun x hx e => (h9 x e).2.2 hx)).keep hk6 (fun x hx e => (h7 x hx).2 e), ?_, (h3.keep hk5 (fun x _ hx e => (h8 x hx).2.2.2 e)).keep hk6 (fun x _ hx e => (h8 x hx).2.1 e), ?_, .inl h5, ?_, fun x hx => ⟨.inl (h7 x hx).1, (h7 x hx).2⟩, ?_, ?_, h10⟩
        · refine ((h2.mono (R' := fun x => F x ∧ x ≠ b ∧ ¬ inA ar x ∧ ¬ inA ak x) fun x hx => hx).keep hk5 (fun x hx => hx.2.2.2)).keep hk6 (fun x hx e => hx.2.1 e) |>.mono fun x hx => ⟨.inl hx.1, hx.2.1, hx.2.2.1, fun e => ?_⟩
          rcases hin x e with e | e
          · exact hx.2.2.2 e
          · have := h6 x hx.1; omega
        · refine OB.keep hs5 hk6 (fun x hx e => ?_)
          rcases hin x hx with e' | e'
          · exact (h9 x e').2.1 e
          · omega
        · rintro x (hx | hx)
          · have := h6 x hx; omega
          · have := SlO.lt hs5 x hx; omega
        · intro x hx
          refine ⟨.inl (h8 x hx).1, (h8 x hx).2.1, (h8 x hx).2.2.1, fun e => ?_⟩
          rcases hin x e with e | e
          · exact (h8 x hx).2.2.2 e
          · have := h6 x (h8 x hx).1; omega
        · intro x hx
          rcases hin x hx with e | e
          · exact ⟨.inr hx, (h9 x e).2.1, (h9 x e).2.2⟩
          · refine ⟨.inr hx, by omega, fun e' => ?_⟩
            have := h6 x (h7 x e').1; omega
      · rintro x (hx | hx)
        · exact .inl hx
        · rcases hat.in hx with e | e
          · exact .inl (h9 x e).1
          · right; omega
      · exact (h04.trans hk5 fun x _ hx => (h9 x hx).1).trans hk6 fun x _ e => e ▸ h5
theorem prseek_ok {w : World} {x pk : Nat} {d cl : Int} {s : AK} {M : KL} (hX : RawK w x pk d cl) (hP : PagE w pk s M) (hn : M.own x = none) (off wh : Int) :
    CallR Tryz.prog 48 [pd x, .int .i64 off, .int .i64 wh] w fun v w' => v = .tuple #[.int .i64 (s.seek d off wh).1, .int .i64 (s.seek d off wh).2.1] ∧ ∃ M', RawK w' x pk d cl ∧ PagE w' pk (s.seek d off wh).2.2 M' ∧ TStep x w w' M M' := by
  refine C48 ?_
  unfold L48
  refine nnI ⟨_, hX.at0 rfl, condTr2 ?_⟩
  intro w2
  have hk2 : Kept No w w2 := Kept.drew _ _
  clear_value w2
  have hX2 : RawK w2 x pk d cl := Blk.keep hX hk2 fun e => e
  obtain ⟨tl, nm, hP2⟩ := hP.no hk2
  refine nnI ⟨_, hX2.at (i := 6) rfl, nnI ⟨_, hX2.at (i := 7) rfl, CallR.mono (pseek_ok hP2 d off wh) ?_⟩⟩
  rintro v w3 ⟨rfl, M3, h3, st3⟩
  exact ⟨_, _, rfl, rfl, M3, Blk.keep hX2 st3.kept fun e => e hn, ⟨_, _, h3⟩, .of_k (st3.fresh hk2)⟩
end Go.Proofs.YtpoaacnnhgebfaaGreat
namespace Go.Proofs.YtpoaacnnhgebfaaGreat
open Go.Lw
inductive MK where
  | fx | gr | rd
inductive MSt where
  | sto (k : MK) (b : Nat) (bs : List Int) (room pl : Nat)
  | cus (b : Nat) (rs : List (List Int × Int)) (ws tk : List Int)
  | ker (gk pk : Nat) (s : AK) (d : Int)
def MK.num : MK → Int
  | .fx => 1
  | .gr => 2
  | .rd => 3
namespace MSt
def val : MSt → Value
  | .sto .fx b _ _ _ => .iface 95 (pd b)
  | .sto .gr b _ _ _ => .iface 96 (pd b)
  | .sto .rd b _ _ _ => .iface 227 (pd b)
  | .cus b _ _ _ => .iface 97 (pd b)
  | .ker gk _ _ d => hv gk d
def cells (x : Nat) : MSt → Array Value
  | .sto .fx b bs room pl => #[val (.sto .fx b bs room pl), pd x, pd b, .pointer none, .pointer none, .pointer none, .pointer none]
  | .sto .gr b bs room pl => #[val (.sto .gr b bs room pl), pd x, .pointer none, pd b, .pointer none, .pointer none, .pointer none]
  | .sto .rd b bs room pl => #[val (.sto .rd b bs room pl), pd x, .pointer none, .pointer none, .pointer none, .pointer none, .pointer none]
  | .cus b rs ws tk => #[val (.cus b rs ws tk), pd x, .pointer none, .pointer none, pd b, .pointer none, .pointer none]
  | .ker gk pk s d => #[val (.ker gk pk s d), pd x, .pointer none, .pointer none, .pointer none, pd gk, pd pk]
def read : MSt → Int → List Int × Int × MSt
  | .sto k b bs room pl, n => ((readM n bs pl).1, (readM n bs pl).2.1, .sto k b bs room (readM n bs pl).2.2)
  | .cus b rs ws tk, n => ((readC n rs).1, (readC n rs).2.1, .cus b (readC n rs).2.2 ws tk)
  | .ker gk pk s d, n => ((s.read d n).1, (s.read d n).2.1, .ker gk pk (s.read d n).2.2 d)
def write : MSt → List Int → Int × Int × MSt
  | .sto .rd b bs room pl, ds => (0, 65, .sto .rd b bs room pl)
  | .sto .fx b bs room pl, ds => ((writeM ds bs room pl).1, (writeM ds bs room pl).2.1, .sto .fx b (writeM ds bs room pl).2.2.1 room (writeM ds bs room pl).2.2.2)
  | .sto .gr b bs room pl, ds => ((writeM ds bs room pl).1, (writeM ds bs room pl).2.1, .sto .gr b (writeM ds bs room pl).2.2.1 room (writeM ds bs room pl).2.2.2)
  | .cus b rs ws tk, ds => ((writeC ds ws tk).1, (writeC ds ws tk).2.1, .cus b rs (writeC ds ws tk).2.2.1 (writeC ds ws tk).2.2.2)
  | .ker gk pk s d, ds => ((s.write d ds).1, (s.write d ds).2.1, .ker gk pk (s.write d ds).2.2 d)
def seek : MSt → Int → Int → Int × Int × MSt
  | .sto k b bs room pl, off, wh => ((seekM off wh bs room pl).1, (seekM off wh bs room pl).2.1, .sto k b bs room (seekM off wh bs room pl).2.2)
  | .cus b rs ws tk, off, wh => (0, 66, .cus b rs ws tk)
  | .ker gk pk s d, off, wh => ((s.seek d off wh).1, (s.seek d off wh).2.1, .ker gk pk (s.seek d off wh).2.2 d)
theorem read_cells (x : Nat) (st : MSt) (n : Int) : (st.read n).2.2.cells x = st.cells x ∧ (st.read n).2.2.val = st.val := by
  cases st with
  | sto k b bs room pl => cases k <;> exact ⟨rfl, rfl⟩
  | cus b rs ws tk => exact ⟨rfl, rfl⟩
  | ker gk pk s d => exact ⟨rfl, rfl⟩
theorem write_cells (x : Nat) (st : MSt) (ds : List Int) : (st.write ds).2.2.cells x = st.cells x ∧ (st.write ds).2.2.val = st.val := by
  cases st with
  | sto k b bs room pl => cases k <;> exact ⟨rfl, rfl⟩
  | cus b rs ws tk => exact ⟨rfl, rfl⟩
  | ker gk pk s d => exact ⟨rfl, rfl⟩
theorem seek_cells (x : Nat) (st : MSt) (off wh : Int) : (st.seek off wh).2.2.cells x = st.cells x ∧ (st.seek off wh).2.2.val = st.val := by
  cases st with
  | sto k b bs room pl => cases k <;> exact ⟨rfl, rfl⟩
  | cus b rs ws tk => exact ⟨rfl, rfl⟩
  | ker gk pk s d => exact ⟨rfl, rfl⟩
end MSt
def PrgO (F : Nat → Prop) (w : World) : MSt → Prop
  | .sto _ b bs room pl => StO F w b bs room pl
  | .cus b rs ws tk => CuO F w b rs ws tk
  | .ker gk _ s _ => ∃ L, KernO w gk s L ∧ ∀ z, F z ↔ L.own z ≠ none
def PgeO (G : Nat → Prop) (w : World) (x cl : Nat) : MSt → Prop
  | .sto k _ bs room pl => RawO G w x k.num bs room pl cl
  | .cus _ rs ws tk => RawC G w x rs ws tk cl
  | .ker _ pk s d => ∃ M, RawK w x pk d (cl : Int) ∧ PagE w pk s M ∧ M.own x = none ∧ ∀ z, G z ↔ z = x ∨ M.own z ≠ none
def MSt.Fit (N : Nat) : MSt → Prop
  | .sto _ _ _ _ _ => True
  | .cus _ _ ws tk => (∀ n ∈ ws, -1 ≤ n) ∧ tk.length ≤ N * 1048576
  | .ker _ _ s _ => s.c0 ≤ (N : Int) ∧ s.c1 ≤ (N : Int) ∧ PInv s ∧ ((∃ f : ByteArray × Nat, s.files = [f] ∧ s.terms = []) ∨ (∃ f : ByteArray × Nat, s.files = [] ∧ s.terms = [f] ∧ f.1 = ByteArray.mk #[102]))
theorem StO.b {F : Nat → Prop} {w : World} {b : Nat} {bs : List Int} {room pl : Nat} (h : StO F w b bs room pl) : F b := h.is.2.2.2
theorem PrgO.keep {F S : Nat → Prop} {w w' : World} {st : MSt} (h : PrgO F w st) (k : Kept S w w') (hn : ∀ z, F z → ¬ S z) : PrgO F w' st := by
  cases st with
  | sto kk b bs room pl => exact StO.keep h k hn
  | cus b rs ws tk => exact CuO.keep h k hn
  | ker gk pk s d =>
    obtain ⟨L, h1, h2⟩ := h
    exact ⟨L, h1.keep k fun z hz => by
      cases ho : L.own z with
      | none => rfl
      | some t => exact absurd hz (hn z ((h2 z).2 (by rw [ho]; simp))), h2⟩
theorem PrgO.lt {F : Nat → Prop} {w : World} {st : MSt} (h : PrgO F w st) : ∀ z, F z → z < w.heap.size := by
  cases st with
  | sto kk b bs room pl => exact StO.lt h
  | cus b rs ws tk => exact CuO.lt h
  | ker gk pk s d =>
    obtain ⟨L, h1, h2⟩ := h
    exact fun z hz => h1.lt z ((h2 z).1 hz)
theorem RawO.lt {F : Nat → Prop} {w : World} {b : Nat} {kind : Int} {bs : List Int} {room pl calls : Nat} (h : RawO F w b kind bs room pl calls) : ∀ k, F k → k < w.heap.size := by
  obtain ⟨a, l, c, hb, ho, hna, h1, h2, h3, hF⟩ := h
  intro k hk
  rcases (hF k).1 hk with rfl | hk
  · exact hb.lt
  · exact SlO.lt ho k hk
theorem PgeO.keep {G S : Nat → Prop} {w w' : World} {x cl : Nat} {st : MSt} (h : PgeO G w x cl st) (k : Kept S w w') (hn : ∀ z, G z → ¬ S z) : PgeO G w' x cl st := by
  cases st with
  | sto kk b bs room pl => exact RawO.keep h k hn
  | cus b rs ws tk => exact RawC.keep h k hn
  | ker gk pk s d =>
    obtain ⟨M, h1, h2, h3, h4⟩ := h
    exact ⟨M, Blk.keep h1 k (hn x ((h4 x).2 (.inl rfl))), h2.keep k fun z hz => by
      cases ho : M.own z with
      | none => rfl
      | some t => exact absurd hz (hn z ((h4 z).2 (.inr (by rw [ho]; simp)))), h3, h4⟩
theorem PgeO.lt {G : Nat → Prop} {w : World} {x cl : Nat} {st : MSt} (h : PgeO G w x cl st) : ∀ z, G z → z < w.heap.size := by
  cases st with
  | sto kk b bs room pl => exact RawO.lt h
  | cus b rs ws tk => exact RawC.lt h
  | ker gk pk s d =>
    obtain ⟨M, h1, h2, h3, h4⟩ := h
    intro z hz
    rcases (h4 z).1 hz with rfl | hz
    · exact h1.lt
    · exact h2.lt z hz
theorem PrgO.nilS {st : MSt} {K : Value → Prop} (hk : K st.val) : nilS Tryz.prog st.val K := by
  cases st with
  | sto kk b bs room pl => cases kk <;> exact hk
  | cus b rs ws tk => exact hk
  | ker gk pk s d => exact hk
theorem KStep.of_own {w w' : World} {L L' : KL} (st : KStep w w' L L') {F : Nat → Prop} (h2 : ∀ z, F z ↔ L.own z ≠ none) : Grew F w (fun z => L'.own z ≠ none) ∧ Kept F w w' :=
  ⟨fun k hk => by
    rcases st.grew k hk with e | e
    · exact .inl ((h2 k).2 e)
    · exact .inr e, st.kept.mono fun z _ e => (h2 z).2 e⟩
theorem prg_read {F : Nat → Prop} {w : World} {st : MSt} (h : PrgO F w st) {N : Nat} (hf : st.Fit N) (hN : N ≤ 2097152) (n : Int) :
    ∃ (f : FuncId) (xs : Array Value), (∀ w0 : World, Sem.run Tryz.prog (callMethod st.val "Read" #[.int .i64 n]) w0 = .ok (.enter f xs) w0) ∧
      CallR Tryz.prog f xs.toList w fun v w' => ∃ a l c F', v = .tuple #[.slice a l c, .int .i64 (st.read n).2.1] ∧ OB w' a l c (st.read n).1 ∧ Fresh w a ∧ (∀ z, inA a z → ¬ F' z) ∧ PrgO F' w' (st.read n).2.2 ∧ Grew F w F' ∧ Kept F w w' := by
  cases st with
  | sto kk b bs room pl =>
    have hlt := StO.lt h
    cases kk with
    | fx =>
      refine ⟨144, _, fun w0 => call_of (by intro recv w; kernel_rfl) (by kernel_rfl) _ _ _, CallR.mono (fread_ok (h : StO F w b bs room pl) n) ?_⟩
      rintro v w' ⟨a, l, c, rfl, ho, hfr, h', hk⟩
      exact ⟨a, l, c, F, rfl, ho, hfr, fun z hz e => by have := hfr z hz; have := hlt z e; omega, h', .same, hk⟩
    | gr =>
      refine ⟨245, _, fun w0 => call_of (by intro recv w; kernel_rfl) (by kernel_rfl) _ _ _, CallR.mono (gread_ok (h : StO F w b bs room pl) n) ?_⟩
      rintro v w' ⟨a, l, c, rfl, ho, hfr, h', hk⟩
      exact ⟨a, l, c, F, rfl, ho, hfr, fun z hz e => by have := hfr z hz; have := hlt z e; omega, h', .same, hk⟩
    | rd =>
      refine ⟨281, _, fun w0 => call_of (by intro recv w; kernel_rfl) (by kernel_rfl) _ _ _, CallR.mono (rdread_ok (h : StO F w b bs room pl) n) ?_⟩
      rintro v w' ⟨a, l, c, rfl, ho, hfr, h', hk⟩
      exact ⟨a, l, c, F, rfl, ho, hfr, fun z hz e => by have := hfr z hz; have := hlt z e; omega, h', .same, hk⟩
  | cus b rs ws tk =>
    have hlt := CuO.lt h
    refine ⟨145, _, fun w0 => call_of (by intro recv w; kernel_rfl) (by kernel_rfl) _ _ _, CallR.mono (creadE_ok (h : CuO F w b rs ws tk) n) ?_⟩
    rintro v w' ⟨a, l, c, rfl, ho, hfr, h', hk⟩
    exact ⟨a, l, c, F, rfl, ho, hfr, fun z hz e => by have := hfr z hz; have := hlt z e; omega, h', .same, hk⟩
  | ker gk pk s d =>
    obtain ⟨L, h1, h2⟩ := h
    obtain ⟨b0, b1, _⟩ := hf
    refine ⟨190, _, fun w0 => hv_read _, CallR.mono (hread_ok h1 d n (by omega)) ?_⟩
    rintro v w' ⟨a, l, c, L', rfl, ho, hfr, h', st, hap⟩
    obtain ⟨g1, g2⟩ := st.of_own h2
    exact ⟨a, l, c, _, rfl, ho, hfr, fun z hz e => e (hap z hz), ⟨L', h', fun z => Iff.rfl⟩, g1, g2⟩
theorem prg_write {F : Nat → Prop} {w : World} {st : MSt} (h : PrgO F w st) {N : Nat} (hf : st.Fit N) (hN : N ≤ 2097152) {a2 : Option Addr} {l2 c2 : Nat} {ds : List Int} (hd : RdB w a2 l2 c2 ds) (hap : ∀ k, inA a2 k → ¬ F k) :
    ∃ (f : FuncId) (xs : Array Value), (∀ w0 : World, Sem.run Tryz.prog (callMethod st.val "Write" #[.slice a2 l2 c2]) w0 = .ok (.enter f xs) w0) ∧
      CallR Tryz.prog f xs.toList w fun v w' => ∃ F', v = .tuple #[.int .i64 (st.write ds).1, .int .i64 (st.write ds).2.1] ∧ PrgO F' w' (st.write ds).2.2 ∧ Grew F w F' ∧ Kept F w w' := by
  cases st with
  | sto kk b bs room pl =>
    cases kk with
    | fx =>
      refine ⟨142, _, fun w0 => call_of (by intro recv w; kernel_rfl) (by kernel_rfl) _ _ _, CallR.mono (fwrite_ok (h : StO F w b bs room pl) hd fun _ => hap) ?_⟩
      rintro v w' ⟨rfl, F', h', g, hk⟩
      exact ⟨F', rfl, h', g, hk⟩
    | gr =>
      refine ⟨247, _, fun w0 => call_of (by intro recv w; kernel_rfl) (by kernel_rfl) _ _ _, CallR.mono (gwrite_ok (h : StO F w b bs room pl) hd fun _ => hap) ?_⟩
      rintro v w' ⟨rfl, F', h', g, hk⟩
      exact ⟨F', rfl, h', g, hk⟩
    | rd =>
      exact ⟨283, _, fun w0 => call_of (by intro recv w; kernel_rfl) (by kernel_rfl) _ _ _, rdwrite_to (h : StO F w b bs room pl) ⟨F, rfl, h, .same, Kept.refl _ _⟩⟩
  | cus b rs ws tk =>
    obtain ⟨hw, hl⟩ := hf
    refine ⟨146, _, fun w0 => call_of (by intro recv w; kernel_rfl) (by kernel_rfl) _ _ _, CallR.mono (cwrite_ok (h : CuO F w b rs ws tk) hd (fun _ => hap) hw (by omega)) ?_⟩
    rintro v w' ⟨rfl, F', h', g, hk⟩
    exact ⟨F', rfl, h', g, hk⟩
  | ker gk pk s d =>
    obtain ⟨L, h1, h2⟩ := h
    obtain ⟨b0, b1, _⟩ := hf
    refine ⟨191, _, fun w0 => hv_write _, CallR.mono (hwrite_ok h1 d hd (fun _ k hk => ?_) (by omega)) ?_⟩
    · cases ho : L.own k with
      | none => rfl
      | some t => exact absurd ((h2 k).2 (by rw [ho]; simp)) (hap k hk)
    · rintro v w' ⟨rfl, L', h', st⟩
      obtain ⟨g1, g2⟩ := st.of_own h2
      exact ⟨_, rfl, ⟨L', h', fun z => Iff.rfl⟩, g1, g2⟩
theorem cseek_to {F : Nat → Prop} {w : World} {b : Nat} {rs : List (List Int × Int)} {ws tk : List Int} (h : CuO F w b rs ws tk) (off wh : Int) {Q : Value → World → Prop} (hq : Q (.tuple #[.int .i64 0, .int .i64 66]) w) : CallR Tryz.prog 248 [pd b, .int .i64 off, .int .i64 wh] w Q := by
  obtain ⟨ar, lr, cr, aw, lw, cw, ak, lk, ck, es, hb, _⟩ := h
  refine C248 ?_
  unfold L248
  exact condF rfl (nnI ⟨true, hb.at0 rfl, condF rfl hq⟩)
theorem hv_seek {w : World} {g : Nat} {d : Int} (args : Array Value) : Sem.run Tryz.prog (callMethod (hv g d) "Seek" args) w = .ok (.enter 192 (#[.agg #[pd g, .int .i64 d]] ++ args)) w :=
  call_of (by intro recv w; kernel_rfl) (by kernel_rfl) _ _ _
theorem prg_seek {F : Nat → Prop} {w : World} {st : MSt} (h : PrgO F w st) (off wh : Int) :
    ∃ (f : FuncId) (xs : Array Value), (∀ w0 : World, Sem.run Tryz.prog (callMethod st.val "Seek" #[.int .i64 off, .int .i64 wh]) w0 = .ok (.enter f xs) w0) ∧
      CallR Tryz.prog f xs.toList w fun v w' => ∃ F', v = .tuple #[.int .i64 (st.seek off wh).1, .int .i64 (st.seek off wh).2.1] ∧ PrgO F' w' (st.seek off wh).2.2 ∧ Grew F w F' ∧ Kept F w w' := by
  cases st with
  | sto kk b bs room pl =>
    cases kk with
    | fx =>
      refine ⟨143, _, fun w0 => call_of (by intro recv w; kernel_rfl) (by kernel_rfl) _ _ _, CallR.mono (fseek_ok (h : StO F w b bs room pl) off wh) ?_⟩
      rintro v w' ⟨rfl, h', hk⟩
      exact ⟨F, rfl, h', .same, hk⟩
    | gr =>
      refine ⟨246, _, fun w0 => call_of (by intro recv w; kernel_rfl) (by kernel_rfl) _ _ _, CallR.mono (gseek_ok (h : StO F w b bs room pl) off wh) ?_⟩
      rintro v w' ⟨rfl, h', hk⟩
      exact ⟨F, rfl, h', .same, hk⟩
    | rd =>
      refine ⟨282, _, fun w0 => call_of (by intro recv w; kernel_rfl) (by kernel_rfl) _ _ _, CallR.mono (rdseek_ok (h : StO F w b bs room pl) off wh) ?_⟩
      rintro v w' ⟨rfl, h', hk⟩
      exact ⟨F, rfl, h', .same, hk⟩
  | cus b rs ws tk =>
    exact ⟨248, _, fun w0 => call_of (by intro recv w; kernel_rfl) (by kernel_rfl) _ _ _, cseek_to (h : CuO F w b rs ws tk) off wh ⟨F, rfl, h, .same, Kept.refl _ _⟩⟩
  | ker gk pk s d =>
    obtain ⟨L, h1, h2⟩ := h
    refine ⟨192, _, fun w0 => hv_seek _, CallR.mono (hseek_ok h1 d off wh) ?_⟩
    rintro v w' ⟨rfl, L', h', st⟩
    obtain ⟨g1, g2⟩ := st.of_own h2
    exact ⟨_, rfl, ⟨L', h', fun z => Iff.rfl⟩, g1, g2⟩
theorem TStep.of_own {x : Nat} {w w' : World} {M M' : KL} (st : TStep x w w' M M') {G : Nat → Prop} (h4 : ∀ z, G z ↔ z = x ∨ M.own z ≠ none) : Grew G w (fun z => z = x ∨ M'.own z ≠ none) ∧ Kept G w w' :=
  ⟨fun k hk => by
    rcases hk with rfl | hk
    · exact .inl ((h4 _).2 (.inl rfl))
    · rcases st.grew k hk with e | e
      · exact .inl ((h4 k).2 (.inr e))
      · exact .inr e, st.kept.mono fun z _ e => (h4 z).2 (e.symm)⟩
theorem MK.ne5 (k : MK) : k.num ≠ 5 ∧ k.num ≠ 4 := by cases k <;> exact ⟨by decide, by decide⟩
theorem pge_read {G : Nat → Prop} {w : World} {x cl : Nat} {st : MSt} (h : PgeO G w x cl st) {N : Nat} (hf : st.Fit N) (hN : N ≤ 2097152) (hc : cl ≤ 2097152) (n : Int) :
    CallR Tryz.prog 43 [pd x, .int .i64 n] w fun v w' => ∃ a l c G', v = .tuple #[.slice a l c, .int .i64 (st.read n).2.1] ∧ RdB w' a l c (st.read n).1 ∧ PgeO G' w' x (cl + 1) (st.read n).2.2 ∧ Grew G w G' ∧ Kept G w w' := by
  cases st with
  | sto kk b bs room pl =>
    refine CallR.mono (rawRead_ok (h : RawO G w x kk.num bs room pl cl) kk.ne5.1 kk.ne5.2 n (by omega)) ?_
    rintro v w' ⟨a, l, c, rfl, hr, h', hk⟩
    exact ⟨a, l, c, G, rfl, hr, h', .same, hk⟩
  | cus b rs ws tk =>
    refine CallR.mono (rawcRead_ok (h : RawC G w x rs ws tk cl) n (by omega)) ?_
    rintro v w' ⟨a, l, c, rfl, hr, h', hk⟩
    exact ⟨a, l, c, G, rfl, hr, h', .same, hk⟩
  | ker gk pk s d =>
    obtain ⟨M, h1, h2, h3, h4⟩ := h
    obtain ⟨b0, b1, _⟩ := hf
    refine CallR.mono (prread_ok h1 h2 h3 n (by omega) (by omega) (by omega)) ?_
    rintro v w' ⟨a, l, c, M', rfl, hr, hX, hP, st⟩
    obtain ⟨g1, g2⟩ := st.of_own h4
    exact ⟨a, l, c, _, rfl, hr, ⟨M', hX, hP, st.own h3 h1.lt, fun z => Iff.rfl⟩, g1, g2⟩
theorem pge_write {G : Nat → Prop} {w : World} {x cl : Nat} {st : MSt} (h : PgeO G w x cl st) {N : Nat} (hf : st.Fit N) (hN : N ≤ 2097152) (hc : cl ≤ 2097152) {a2 : Option Addr} {l2 c2 : Nat} {ds : List Int} (hd : RdB w a2 l2 c2 ds) (hap : ds ≠ [] → ∀ k, inA a2 k → ¬ G k) :
    CallR Tryz.prog 47 [pd x, .slice a2 l2 c2] w fun v w' => ∃ G', v = .tuple #[.int .i64 (st.write ds).1, .int .i64 (st.write ds).2.1] ∧ PgeO G' w' x (cl + 1) (st.write ds).2.2 ∧ Grew G w G' ∧ Kept G w w' := by
  cases st with
  | sto kk b bs room pl =>
    refine CallR.mono (rawWrite_ok (h : RawO G w x kk.num bs room pl cl) kk.ne5.1 kk.ne5.2 hd hap (by omega)) ?_
    intro v w' hv
    cases kk with
    | fx =>
      rw [if_neg (by decide)] at hv
      obtain ⟨rfl, G', h', g, hk⟩ := hv
      exact ⟨G', rfl, h', g, hk⟩
    | gr =>
      rw [if_neg (by decide)] at hv
      obtain ⟨rfl, G', h', g, hk⟩ := hv
      exact ⟨G', rfl, h', g, hk⟩
    | rd =>
      rw [if_pos (show MK.rd.num = 3 from rfl)] at hv
      obtain ⟨rfl, h', hk⟩ := hv
      exact ⟨G, rfl, h', .same, hk⟩
  | cus b rs ws tk =>
    obtain ⟨hw, hl⟩ := hf
    refine CallR.mono (rawcWrite_ok (h : RawC G w x rs ws tk cl) hd hap hw (by omega) (by omega)) ?_
    rintro v w' ⟨rfl, G', h', g, hk⟩
    exact ⟨G', rfl, h', g, hk⟩
  | ker gk pk s d =>
    obtain ⟨M, h1, h2, h3, h4⟩ := h
    obtain ⟨b0, b1, _⟩ := hf
    refine CallR.mono (prwrite_ok h1 h2 h3 hd (fun hne k hk => ?_) (by omega) (by omega) (by omega)) ?_
    · have hng := hap hne k hk
      refine ⟨?_, fun e => hng ((h4 k).2 (.inl e))⟩
      cases ho : M.own k with
      | none => rfl
      | some t => exact absurd ((h4 k).2 (.inr (by rw [ho]; simp))) hng
    · rintro v w' ⟨rfl, M', hX, hP, st⟩
      obtain ⟨g1, g2⟩ := st.of_own h4
      exact ⟨_, rfl, ⟨M', hX, hP, st.own h3 h1.lt, fun z => Iff.rfl⟩, g1, g2⟩
theorem pge_seek {G : Nat → Prop} {w : World} {x cl : Nat} {st : MSt} (h : PgeO G w x cl st) (off wh : Int) :
    CallR Tryz.prog 48 [pd x, .int .i64 off, .int .i64 wh] w fun v w' => ∃ G', v = .tuple #[.int .i64 (st.seek off wh).1, .int .i64 (st.seek off wh).2.1] ∧ PgeO G' w' x cl (st.seek off wh).2.2 ∧ Grew G w G' ∧ Kept G w w' := by
  cases st with
  | sto kk b bs room pl =>
    refine CallR.mono (rawSeek_ok (h : RawO G w x kk.num bs room pl cl) kk.ne5.1 kk.ne5.2 off wh) ?_
    rintro v w' ⟨rfl, h', hk⟩
    exact ⟨G, rfl, h', .same, hk⟩
  | cus b rs ws tk => exact rawcSeek_to (h : RawC G w x rs ws tk cl) off wh ⟨G, rfl, h, .same, Kept.refl _ _⟩
  | ker gk pk s d =>
    obtain ⟨M, h1, h2, h3, h4⟩ := h
    refine CallR.mono (prseek_ok h1 h2 h3 off wh) ?_
    rintro v w' ⟨rfl, M', hX, hP, st⟩
    obtain ⟨g1, g2⟩ := st.of_own h4
    exact ⟨_, rfl, ⟨M', hX, hP, st.own h3 h1.lt, fun z => Iff.rfl⟩, g1, g2⟩
end Go.Proofs.YtpoaacnnhgebfaaGreat
namespace Go.Proofs.YtpoaacnnhgebfaaGreat
open Go.Lw
structure MadeO (W w : World) (m x cl : Nat) (F G : Nat → Prop) (st : MSt) : Prop where
  bk : Blk w m (st.cells x)
  pr : PrgO F w st
  pg : PgeO G w x cl st
  ap : ∀ z, F z → ¬ G z
  fm : ¬ F m
  gm : ¬ G m
  wm : W.heap.size ≤ m
  wf : ∀ z, F z → W.heap.size ≤ z
  wg : ∀ z, G z → W.heap.size ≤ z
  kp : Kept No W w
theorem MadeO.away {W w w' : World} {m x cl : Nat} {F G : Nat → Prop} {st : MSt} (h : MadeO W w m x cl F G st) {S : Nat → Prop} (k : Kept S w w') (hS : ∀ z, S z → ¬ F z ∧ ¬ G z ∧ z ≠ m ∧ W.heap.size ≤ z) : MadeO W w' m x cl F G st :=
  ⟨h.bk.keep k fun e => (hS m e).2.2.1 rfl, h.pr.keep k fun z hz e => (hS z e).1 hz, h.pg.keep k fun z hz e => (hS z e).2.1 hz, h.ap, h.fm, h.gm, h.wm, h.wf, h.wg, h.kp.trans k fun y hy e => by have := (hS y e).2.2.2; omega⟩
theorem MadeO.no {W w w' : World} {m x cl : Nat} {F G : Nat → Prop} {st : MSt} (h : MadeO W w m x cl F G st) (k : Kept No w w') : MadeO W w' m x cl F G st := h.away k fun _ e => e.elim
theorem MadeO.mid {W w w1 : World} {m x cl : Nat} {F G : Nat → Prop} {st : MSt} (h : MadeO W w m x cl F G st) (k : Kept F w w1) : PgeO G w1 x cl st ∧ Blk w1 m (st.cells x) ∧ Kept No W w1 :=
  ⟨h.pg.keep k fun z hz e => h.ap z e hz, h.bk.keep k h.fm, h.kp.trans k fun y hy e => by have := h.wf y e; omega⟩
theorem MadeO.both {W w w1 w2 : World} {m x cl cl' : Nat} {F G F' G' : Nat → Prop} {st st' : MSt} (h : MadeO W w m x cl F G st) (h1 : PrgO F' w1 st') (g1 : Grew F w F') (k1 : Kept F w w1) (h2 : PgeO G' w2 x cl' st') (g2 : Grew G w1 G') (k2 : Kept G w1 w2) (hc : st'.cells x = st.cells x) : MadeO W w2 m x cl' F' G' st' := by
  obtain ⟨m1, m2, m3⟩ := h.mid k1
  have hz1 := k1.size
  have hzW := h.kp.size
  have hml := h.bk.lt
  have ap1 : ∀ z, F' z → ¬ G z := fun z hz hg => by
    rcases g1 z hz with e | e
    · exact h.ap z e hg
    · have := h.pg.lt z hg; omega
  refine ⟨by rw [hc]; exact m2.keep k2 h.gm, h1.keep k2 ap1, h2, fun z hz hg => ?_, fun e => ?_, fun e => ?_, h.wm, fun z hz => ?_, fun z hz => ?_, m3.trans k2 fun y hy e => by have := h.wg y e; omega⟩
  · rcases g2 z hg with e | e
    · exact ap1 z hz e
    · have := h1.lt z hz; omega
  · rcases g1 m e with e | e
    · exact h.fm e
    · omega
  · rcases g2 m e with e | e
    · exact h.gm e
    · omega
  · rcases g1 z hz with e | e
    · exact h.wf z e
    · omega
  · rcases g2 z hz with e | e
    · exact h.wg z e
    · omega
theorem AK.seek_ft (s : AK) (d off wh : Int) : (s.seek d off wh).2.2.files = s.files ∧ (s.seek d off wh).2.2.terms = s.terms := by
  unfold AK.seek
  repeat' split
  all_goals (first | exact ⟨rfl, rfl⟩ | (dsimp only; split <;> exact ⟨rfl, rfl⟩))
theorem cap_le {a N : Nat} (h : a ≤ N * 1048576) : a ≤ (N + 1) * 1048576 := Nat.le_trans h (Nat.mul_le_mul_right _ (Nat.le_succ N))
theorem cap_add {a b N : Nat} (h : a ≤ N * 1048576) (hb : b ≤ 1048576) : a + b ≤ (N + 1) * 1048576 := by
  rw [Nat.succ_mul]
  exact Nat.add_le_add h hb
theorem MSt.Fit.read {st : MSt} {N : Nat} (h : st.Fit N) (n : Int) : (st.read n).2.2.Fit (N + 1) := by
  cases st with
  | sto k b bs room pl => exact trivial
  | cus b rs ws tk => exact ⟨h.1, cap_le h.2⟩
  | ker gk pk s d =>
    obtain ⟨b0, b1, b2, b3⟩ := h
    obtain ⟨_, q1, q2, _, q4, q5⟩ := AK.read_cs s d n
    refine ⟨by omega, by omega, b2.read d n, ?_⟩
    rw [q4, q5]; exact b3
theorem MSt.Fit.seek {st : MSt} {N : Nat} (h : st.Fit N) (off wh : Int) : (st.seek off wh).2.2.Fit (N + 1) := by
  cases st with
  | sto k b bs room pl => exact trivial
  | cus b rs ws tk => exact ⟨h.1, cap_le h.2⟩
  | ker gk pk s d =>
    obtain ⟨b0, b1, b2, b3⟩ := h
    obtain ⟨q1, q2, _⟩ := AK.seek_cs s d off wh
    obtain ⟨q4, q5⟩ := AK.seek_ft s d off wh
    refine ⟨by omega, by omega, b2.seek d off wh, ?_⟩
    rw [q4, q5]; exact b3
theorem MSt.Fit.write {st : MSt} {N : Nat} (h : st.Fit N) (ds : List Int) : (st.write ds).2.2.Fit (N + 1) := by
  cases st with
  | sto k b bs room pl => cases k <;> exact trivial
  | cus b rs ws tk =>
    obtain ⟨h1, h2⟩ := h
    show (∀ n ∈ (writeC ds ws tk).2.2.1, -1 ≤ n) ∧ (writeC ds ws tk).2.2.2.length ≤ (N + 1) * 1048576
    unfold writeC
    split
    · exact ⟨h1, cap_le h2⟩
    · split
      · exact ⟨h1, cap_le h2⟩
      · split
        · exact ⟨fun n hn => h1 n (List.mem_of_mem_tail hn), cap_le h2⟩
        · refine ⟨fun n hn => h1 n (List.mem_of_mem_tail hn), ?_⟩
          dsimp only
          rw [List.length_append]
          exact cap_add h2 (by rw [List.length_take]; omega)
  | ker gk pk s d =>
    obtain ⟨b0, b1, b2, b3⟩ := h
    obtain ⟨q1, _, q2, _, q4, q5⟩ := AK.write_cs s d ds
    refine ⟨by omega, by omega, b2.write d ds, ?_⟩
    rw [q4, q5]; exact b3
theorem MadeO.duo {W w : World} {m x cl : Nat} {F G : Nat → Prop} {gk pk : Nat} {s : AK} {d : Int} (h : MadeO W w m x cl F G (.ker gk pk s d)) (hi : PInv s) : ∃ L M tl nm, Duo W w gk pk s L M tl nm := by
  obtain ⟨L, h1, h2⟩ := h.pr
  obtain ⟨M, g1, ⟨tl, nm, g2⟩, g3, g4⟩ := h.pg
  refine ⟨L, M, tl, nm, h1, g2, hi, fun z hz => ?_, fun z hz => h.wf z ((h2 z).2 hz), fun z hz => h.wg z ((g4 z).2 (.inr hz)), h.kp⟩
  cases ho : M.own z with
  | none => rfl
  | some t => exact absurd ((g4 z).2 (.inr (by rw [ho]; simp))) (h.ap z ((h2 z).2 hz))
theorem RawO.b1 {F : Nat → Prop} {w : World} {b : Nat} {kind : Int} {bs : List Int} {room pl calls : Nat} (h : RawO F w b kind bs room pl calls) : ∃ a l c, (∀ w', Kept No w w' → w'.cell? (Addr.add ⟨b, 0, none⟩ 1) = some (.slice a l c)) ∧ ∀ w', Kept No w w' → RdB w' a l c bs := by
  obtain ⟨a, l, c, hb, ho, _⟩ := h
  exact ⟨a, l, c, fun w' k => (hb.keep k fun e => e).at (i := 1) rfl, fun w' k => (ho.keep k fun _ _ e => e).rd⟩
theorem RawC.b1 {F : Nat → Prop} {w : World} {b : Nat} {rs : List (List Int × Int)} {ws tk : List Int} {calls : Nat} (h : RawC F w b rs ws tk calls) : ∃ a l c, (∀ w', Kept No w w' → w'.cell? (Addr.add ⟨b, 0, none⟩ 1) = some (.slice a l c)) ∧ ∀ w', Kept No w w' → RdB w' a l c tk := by
  obtain ⟨ar, lr, cr, aw, lw, cw, ak, lk, ck, es, hb, h1, h2, h3, h4, _⟩ := h
  exact ⟨ak, lk, ck, fun w' k => (hb.keep k fun e => e).at (i := 1) rfl, fun w' k => (h4.keep k fun _ _ e => e).rd⟩
theorem screen_one {s : AK} (hok : s.Ok) {T : List (ByteArray × Nat)} (hp : T.Perm (s.files ++ s.terms)) (h : (∃ f : ByteArray × Nat, s.files = [f] ∧ s.terms = []) ∨ (∃ f : ByteArray × Nat, s.files = [] ∧ s.terms = [f] ∧ f.1 = ByteArray.mk #[102])) :
    ((s.screenV (ByteArray.mk #[102])).2 = false ∧ ofK s .scr scrO T = []) ∨ (∃ g : List Int, s.screenV (ByteArray.mk #[102]) = (g, true) ∧ ofK s .scr scrO T = [(ByteArray.mk #[102], g)]) := by
  rcases h with ⟨f, h1, h2⟩ | ⟨f, h1, h2, h3⟩
  · left
    have hT : T = [f] := by
      rw [h1, h2] at hp
      exact List.perm_singleton.1 hp
    constructor
    · have ht : s.termOf (ByteArray.mk #[102]) = none := by unfold AK.termOf; rw [h2]; rfl
      unfold AK.screenV
      rw [ht]
    · have hk := (hok.fi f (by rw [h1]; simp)).2
      rw [hT]
      unfold ofK
      simp [hk]
  · right
    have hT : T = [f] := by
      rw [h1, h2] at hp
      exact List.perm_singleton.1 hp
    have hk := (hok.ti f (by rw [h2]; simp)).2
    have ho : ofK s .scr scrO T = [(f.1, scrO (s.objs f.2))] := by
      rw [hT]
      unfold ofK
      simp [hk]
    have hm := screen_mem hok hp (f := (f.1, scrO (s.objs f.2))) (by rw [ho]; simp)
    rw [h3] at hm ho
    exact ⟨_, hm, ho⟩
set_option maxHeartbeats 2000000 in
theorem msame_ok {W w : World} {m x cl : Nat} {F G : Nat → Prop} {st : MSt} (h : MadeO W w m x cl F G st) {N : Nat} (hf : st.Fit N) (hN : N ≤ 2097152) :
    CallR Tryz.prog 49 [pd m] w fun v w' => v = .bool true ∧ Kept No w w' := by
  refine C49 ?_
  unfold L49
  have kd : Kept No w w.drew := Kept.drew _ _
  have hcell : ∀ {w' : World} {i : Nat} {v : Value}, Kept No w w' → (st.cells x)[i]? = some v → w'.cell? (Addr.add ⟨m, 0, none⟩ i) = some v := fun k e => (h.bk.keep k fun e => e).at e
  have hb := h.bk
  cases st with
  | sto kk b bs room pl =>
    have hS : StO F w b bs room pl := h.pr
    obtain ⟨a, l, c, r1, r2⟩ := RawO.b1 (h.pg : RawO G w x kk.num bs room pl cl)
    have hbl : bs.length ≤ 1048576 := by have := hS.is; omega
    cases kk with
    | fx =>
      refine nnI ⟨_, hcell (i := 2) (Kept.refl _ _) rfl, condTr2 ⟨fun w' => Kept No w w', kd, ?_⟩⟩
      refine nnI ⟨_, fun wS hS => hcell (i := 2) hS rfl, nnI ⟨_, fun wS hS => hcell (i := 1) hS rfl, nnI ⟨_, _, _, fun wS hS => r1 wS hS, CallR.mono (fbytes_ok (hS.keep kd fun _ _ e => e)) ?_⟩⟩⟩
      rintro v w2 ⟨a2, c2, rfl, ho, _, hk2⟩
      have k2 := kd.no hk2
      refine ⟨_, _, _, rfl, k2, CallR.mono (same_ok ho.rd (r2 w2 k2) (by omega)) ?_⟩
      rintro v w3 ⟨rfl, hk3, _⟩
      exact ⟨_, rfl, by simp, k2.no hk3⟩
    | gr =>
      refine nnI ⟨_, hcell (i := 2) (Kept.refl _ _) rfl, condFa2 (nnI ⟨_, hcell (i := 3) (Kept.refl _ _) rfl, condTr2 ⟨fun w' => Kept No w w', kd, ?_⟩⟩)⟩
      refine nnI ⟨_, fun wS hS => hcell (i := 3) hS rfl, nnI ⟨_, fun wS hS => hcell (i := 1) hS rfl, nnI ⟨_, _, _, fun wS hS => r1 wS hS, CallR.mono (gbytes_ok (hS.keep kd fun _ _ e => e)) ?_⟩⟩⟩
      rintro v w2 ⟨a2, c2, rfl, ho, _, hk2⟩
      have k2 := kd.no hk2
      refine ⟨_, _, _, rfl, k2, CallR.mono (same_ok ho.rd (r2 w2 k2) (by omega)) ?_⟩
      rintro v w3 ⟨rfl, hk3, _⟩
      exact ⟨_, rfl, by simp, k2.no hk3⟩
    | rd =>
      exact nnI ⟨_, hcell (i := 2) (Kept.refl _ _) rfl, condFa2 (nnI ⟨_, hcell (i := 3) (Kept.refl _ _) rfl, condFa2 (nnI ⟨_, hcell (i := 4) (Kept.refl _ _) rfl, condFa2 (nnI ⟨_, hcell (i := 5) (Kept.refl _ _) rfl, condFa2 ⟨rfl, Kept.refl _ _⟩⟩)⟩)⟩)⟩
  | cus b rs ws tk =>
    have hC : CuO F w b rs ws tk := h.pr
    obtain ⟨hw, hl⟩ := hf
    obtain ⟨a, l, c, r1, r2⟩ := RawC.b1 (h.pg : RawC G w x rs ws tk cl)
    refine nnI ⟨_, hcell (i := 2) (Kept.refl _ _) rfl, condFa2 (nnI ⟨_, hcell (i := 3) (Kept.refl _ _) rfl, condFa2 (nnI ⟨_, hcell (i := 4) (Kept.refl _ _) rfl, condTr2 ⟨fun w' => Kept No w w', kd, ?_⟩⟩)⟩)⟩
    refine nnI ⟨_, fun wS hS => hcell (i := 4) hS rfl, nnI ⟨_, fun wS hS => hcell (i := 1) hS rfl, nnI ⟨_, _, _, fun wS hS => r1 wS hS, CallR.mono (ctaken_ok (hC.keep kd fun _ _ e => e) (by omega)) ?_⟩⟩⟩
    rintro v w2 ⟨a2, c2, rfl, ho, _, hk2⟩
    have k2 := kd.no hk2
    refine ⟨_, _, _, rfl, k2, CallR.mono (same_ok ho.rd (r2 w2 k2) (by omega)) ?_⟩
    rintro v w3 ⟨rfl, hk3, _⟩
    exact ⟨_, rfl, by simp, k2.no hk3⟩
  | ker gk pk s d =>
    obtain ⟨b0, b1, hi, hft⟩ := hf
    obtain ⟨L, M, tl, nm, hD⟩ := h.duo hi
    obtain ⟨T, ta, tc, da, dc, hB⟩ := hD.hp.kb
    have keepB : ∀ {w' : World}, Kept No w w' → PKb w' pk s M tl T ta tc da dc := fun k => hB.keep hD.hp.oK k fun z t e => e.elim
    refine nnI ⟨_, hcell (i := 2) (Kept.refl _ _) rfl, condFa2 (nnI ⟨_, hcell (i := 3) (Kept.refl _ _) rfl, condFa2 (nnI ⟨_, hcell (i := 4) (Kept.refl _ _) rfl, condFa2 (nnI ⟨_, hcell (i := 5) (Kept.refl _ _) rfl, condTr2 (nnI ⟨_, hcell (i := 5) (Kept.refl _ _) rfl, CallR.mono (calls_ok hD.hk) ?_⟩)⟩)⟩)⟩)⟩
    rintro v w10 ⟨rfl, hk10⟩
    have k10 : Kept No w w10 := hk10
    refine ⟨_, _, rfl, nnI ⟨_, hcell (i := 5) k10 rfl, CallR.mono (screen_ok (hD.no k10).hk _) ?_⟩⟩
    rintro v w11 ⟨ax, lx, cx, rfl, hox, hk11, _⟩
    have k11 := k10.no hk11
    refine ⟨_, _, _, _, rfl, nnI ⟨_, hcell (i := 6) k11 rfl, CallR.mono (pscreens_ok (hD.no k11).hp (keepB k11)) ?_⟩⟩
    rintro v w12 ⟨a8, c8, es8, rfl, hs8, hk12⟩
    have k12 := k11.no hk12
    have k13 : Kept No w w12.drew := k12.no (Kept.drew No _)
    refine ⟨_, _, _, rfl, fun w' => Kept No w w', k13, nnI ⟨_, fun wS hS => hcell (i := 6) hS rfl, nnI ⟨_, fun wS hS => (keepB hS).b.at (i := 4) rfl, condT (by simp) (nnI ⟨_, fun wS hS => hcell (i := 6) hS rfl, nnI ⟨_, fun wS hS => (keepB hS).b.at (i := 5) rfl, condT (by simp) (nnI ⟨_, fun wS hS => hcell (i := 5) hS rfl, nnI ⟨_, fun wS hS => hcell (i := 6) hS rfl, CallR.mono (kernFiles_ok (hD.no k13).hk) ?_⟩⟩)⟩⟩)⟩⟩⟩
    rintro v w14 ⟨a, l, c, es, rfl, hfn, hk14⟩
    have k14 := k13.no hk14
    refine ⟨_, _, _, rfl, k14, CallR.mono (pfiles_ok (hD.no k14).hp (keepB k14)) ?_⟩
    rintro v w15 ⟨a', c', es', rfl, hf', hk15⟩
    have k15 := k14.no hk15
    have hfl : l = s.filesV.length := by have := hfn.len_eq; omega
    have hok := hD.hk.ok.fl
    have hfv := AK.filesV_len s
    refine ⟨_, _, _, rfl, CallR.mono (sameNamed_ok (hfn.no hk15).rd hf'.rd (by omega) fun f hf => by have := AK.filesV_bound hD.hk f hf; omega) ?_⟩
    rintro v w16 ⟨rfl, hk16⟩
    have k16 := k15.no hk16
    have heq := files_eq hD.hp.ok hB.pm hB.so
    refine ⟨_, rfl, condT (by rw [heq]; simp) ?_⟩
    have hs16 := hs8.no (((Kept.drew No w12).no hk14).no hk15 |>.no hk16)
    have hox16 := ((hox.keep hk12 fun _ _ e => e).keep (Kept.drew No w12) fun _ _ e => e).keep ((hk14.no hk15).no hk16) fun _ _ e => e
    have hsb := AK.scr_bound hD.hk (ByteArray.mk #[102])
    rcases screen_one hD.hp.ok hB.pm hft with ⟨e1, e2⟩ | ⟨g, e1, e2⟩
    · rw [e1, e2]
      exact condT (by simp) (condT (by simp) ⟨rfl, k16⟩)
    · rw [e2] at hs16 ⊢
      rw [e1] at hox16 hsb ⊢
      obtain ⟨q, sl, haq, _, e3, hR, _⟩ := hs16.rd.at (i := 0) (by simp)
      refine condT (by simp) (condF (by simp) ⟨⟨by omega, by simp⟩, nnE2 haq ⟨_, _, _, e3, CallR.mono (same_ok hox16.rd hR (by have := hox16.rd.len; omega)) ?_⟩⟩)
      rintro v w17 ⟨rfl, hk17, _⟩
      exact ⟨_, rfl, by simp, k16.no hk17⟩
end Go.Proofs.YtpoaacnnhgebfaaGreat
namespace Go.Proofs.YtpoaacnnhgebfaaGreat
open Go.Lw
structure Plt where
  kind : Int
  size : Int
  da : Slc
  bs : List Int
  re : Slc
  rs : List (List Int × Int)
  wr : Slc
  ws : List Int
  fa : Slc
  ps : List (Int × Int)
  li : Slc
  LL : List (List Int)
  place : Int
  app : Bool
def Plt.cells (p : Plt) : Array Value := #[.int .i64 p.kind, .int .i64 p.size, .slice p.da.1 p.da.2.1 p.da.2.2, .slice p.re.1 p.re.2.1 p.re.2.2, .slice p.wr.1 p.wr.2.1 p.wr.2.2, .slice p.fa.1 p.fa.2.1 p.fa.2.2, .slice p.li.1 p.li.2.1 p.li.2.2, .int .i64 p.place, .bool p.app]
def Plt.k6 (p : Plt) : Int := Int.tmod (Int.tmod p.kind 6 + 6) 6
structure PltO (W w : World) (p : Plt) : Prop where
  hd : RdB w p.da.1 p.da.2.1 p.da.2.2 p.bs
  hr : RdA (· < W.heap.size) w p.re.1 p.re.2.1 p.re.2.2 p.rs
  hw : RdS 1 w p.wr.1 p.wr.2.1 p.wr.2.2 (In p.ws)
  hf : RdS 2 w p.fa.1 p.fa.2.1 p.fa.2.2 (Fv p.ps)
  hl : RL w p.li p.LL
  b1 : p.da.2.1 ≤ 1048576
  b2 : p.re.2.1 ≤ 1048576
  b3 : p.wr.2.1 ≤ 1048576
  b4 : p.fa.2.1 ≤ 1048576
  b5 : p.li.2.1 ≤ 1048576
theorem PltO.keep {W w w' : World} {p : Plt} (h : PltO W w p) (hW : W.heap.size ≤ w.heap.size) (k : Kept No w w') : PltO W w' p :=
  ⟨h.hd.keep k (fun _ _ _ e => e), h.hr.keep k (fun _ _ e => e), h.hw.keep k (fun _ _ _ e => e), h.hf.keep k (fun _ _ _ e => e), ⟨h.hl.1.keep k fun _ _ e => e, h.hl.2⟩, h.b1, h.b2, h.b3, h.b4, h.b5⟩
theorem Duo.away {W w w' : World} {gk pk : Nat} {s : AK} {L M : KL} {tl : Nat → Nat} {nm : Nat → ByteArray} (h : Duo W w gk pk s L M tl nm) {S : Nat → Prop} (k : Kept S w w') (hS : ∀ z, S z → L.own z = none ∧ M.own z = none ∧ W.heap.size ≤ z) : Duo W w' gk pk s L M tl nm :=
  ⟨h.hk.keep k fun z e => (hS z e).1, h.hp.keep k (fun z e => (hS z e).2.1), h.hi, h.ap, h.nk, h.nm, h.kp.trans k fun y hy e => by have := (hS y e).2.2; omega⟩
theorem rdN_empty {α : Type} {R : World → Slc → α → Prop} {w : World} (a : Addr) : RdN R w (some a) 0 0 ([] : List (ByteArray × α)) [] :=
  ⟨⟨rfl, Nat.le_refl _, (fun h => by cases h), fun ad _ i v hi => by simp [Nv] at hi⟩, rfl, fun i h1 h2 => by simp at h1⟩
theorem AK.open_ft {s : AK} {nm : ByteArray} {fl : Int} (hb : bitI fl 8 = 0) : (s.open_ nm fl).2.2.files = s.files ∧ (s.open_ nm fl).2.2.terms = s.terms := by
  unfold AK.open_
  split
  · exact ⟨rfl, rfl⟩
  · rename_i he
    dsimp only
    have he : s.openE nm fl = 0 := by simpa using he
    unfold AK.openS
    cases ht : s.termOf nm with
    | some t => exact ⟨rfl, rfl⟩
    | none =>
      cases hfo : s.fileOf nm with
      | some f =>
        dsimp only
        split <;> exact ⟨rfl, rfl⟩
      | none =>
        exfalso
        unfold AK.openE at he
        rw [ht, hfo] at he
        split at he
        · cases he
        · split at he
          · cases he
          · split at he
            · cases he
            · simp at he
def nmF : ByteArray := ByteArray.mk #[102]
theorem one_ft (ps : List (Int × Int)) (bs : List Int) (LL : List (List Int)) (tm : Bool) {fs : List (ByteArray × List Int)} {ts : List (ByteArray × List (List Int))} (h0 : tm = false → fs = [(nmF, bs)] ∧ ts = []) (h1 : tm = true → fs = [] ∧ ts = [(nmF, LL)]) :
    (∃ f : ByteArray × Nat, (AK.new fs ts ps).files = [f] ∧ (AK.new fs ts ps).terms = []) ∨ (∃ f : ByteArray × Nat, (AK.new fs ts ps).files = [] ∧ (AK.new fs ts ps).terms = [f] ∧ f.1 = ByteArray.mk #[102]) := by
  obtain ⟨e1, e2, _⟩ := AK.new_is fs ts ps
  have one : ∀ {l : List (ByteArray × Nat)}, l.map (·.1) = [nmF] → ∃ f, l = [f] ∧ f.1 = nmF := by
    intro l e
    cases l with
    | nil => simp at e
    | cons a t => cases t with
      | nil => exact ⟨a, rfl, by simpa using e⟩
      | cons b u => simp at e
  cases tm with
  | false =>
    obtain ⟨rfl, rfl⟩ := h0 rfl
    obtain ⟨f, hf, _⟩ := one e1
    exact .inl ⟨f, hf, List.map_eq_nil_iff.1 e2⟩
  | true =>
    obtain ⟨rfl, rfl⟩ := h1 rfl
    obtain ⟨f, hf, hn⟩ := one e2
    exact .inr ⟨f, List.map_eq_nil_iff.1 e1, hf, hn⟩
set_option maxHeartbeats 4000000 in
theorem mkern_ok {W w : World} {p : Plt} (h : PltO W w p) (kW : Kept No W w) {m : Nat} (hm : Blk w m #[.nilIface, .pointer none, .pointer none, .pointer none, .pointer none, .pointer none, .pointer none]) (hmW : W.heap.size ≤ m) (tm : Bool) :
    CallR Tryz.prog 141 [.agg p.cells, pd m, .bool tm] w fun v w' => (v = .bool false ∧ Kept (· = m) w w') ∨ (v = .bool true ∧ Kept (· = m) w w' ∧ ∃ x F G gk pk s d, MadeO W w' m x 0 F G (.ker gk pk s d) ∧ (MSt.ker gk pk s d).Fit 0 ∧ (∀ z, F z ∨ G z → w.heap.size ≤ z)) := by
  refine C141 ?_
  unfold L141
  intro w1
  have hb1 : Blk w1 w.heap.size p.cells := Blk.alloc _ _ _
  have hk1 : Kept No w w1 := Kept.alloc _ _ _
  clear_value w1
  have hz1 := hk1.size
  have hml := hm.lt
  obtain ⟨P0, hP0⟩ : ∃ P0, P0 = w.heap.size := ⟨_, rfl⟩
  rw [← hP0] at hb1 ⊢
  refine ⟨_, _, _, (hb1.cell 2).trans rfl, ?_⟩
  intro w2 w3
  have hb2 : Blk w2 w1.heap.size #[.string nmF, .slice p.da.1 p.da.2.1 p.da.2.2] := Blk.alloc _ _ _
  have hk2 : Kept No w1 w2 := Kept.alloc _ _ _
  have hk3 : Kept No w2 w3 := Kept.alloc _ _ _
  clear_value w3
  clear_value w2
  have k3 : Kept No w1 w3 := hk2.no hk3
  have hb3 := hb1.keep k3 fun e => e
  have hwW : W.heap.size ≤ w.heap.size := kW.size
  have facts : ∀ {w' : World}, Kept No w1 w' → PltO W w' p := fun k => h.keep hwW (hk1.no k)
  obtain ⟨J, hJ⟩ : ∃ J : List Value → World → Prop, J = fun vs w' => ∃ (af : Option Addr) (lf cf : Nat) (at_ : Option Addr) (lt ct : Nat) (fs : List (ByteArray × List Int)) (ts : List (ByteArray × List (List Int))) (ef et : List (ByteArray × Slc)), vs = [.slice af lf cf, .slice at_ lt ct] ∧ RdN RB w' af lf cf fs ef ∧ RdN RL w' at_ lt ct ts et ∧ lf ≤ 1 ∧ lt ≤ 1 ∧ (tm = false → fs = [(nmF, p.bs)] ∧ ts = []) ∧ (tm = true → fs = [] ∧ ts = [(nmF, p.LL)]) ∧ Kept No w1 w' := ⟨_, rfl⟩
  refine ⟨J, ?_, ?_⟩
  · cases tm with
    | false =>
      refine condFa2 ?_
      rw [hJ]
      exact ⟨_, _, _, _, _, _, _, _, _, _, rfl, rdN_one (R := RB) (hb2.keep hk3 fun e => e) (facts k3).hd, rdN_empty _, by omega, by omega, fun _ => ⟨rfl, rfl⟩, (fun e => by cases e), k3⟩
    | true =>
      refine condTr2 ?_
      intro w4
      have hk4 : Kept No w3 w4 := Kept.drew _ _
      clear_value w4
      have k4 := k3.no hk4
      have hb4 := hb3.keep hk4 fun e => e
      refine ⟨?_, ?_⟩
      · intro w5
        have hk5 : Kept No w4 w5 := Kept.alloc _ _ _
        clear_value w5
        refine ⟨_, _, _, ((hb4.keep hk5 fun e => e).cell 6).trans rfl, ?_⟩
        intro w6
        have hb6 : Blk w6 w5.heap.size #[.string nmF, .slice p.li.1 p.li.2.1 p.li.2.2] := Blk.alloc _ _ _
        have hk6 : Kept No w5 w6 := Kept.alloc _ _ _
        clear_value w6
        rw [hJ]
        exact ⟨_, _, _, _, _, _, _, _, _, _, rfl, rdN_empty _, rdN_one (R := RL) hb6 (facts ((k4.no hk5).no hk6)).hl, by omega, by omega, (fun e => by cases e), fun _ => ⟨rfl, rfl⟩, (k4.no hk5).no hk6⟩
      · refine ⟨_, _, _, (hb4.cell 6).trans rfl, ?_, ?_⟩
        · intro w5 w6
          have hk5 : Kept No w4 w5 := Kept.alloc _ _ _
          have hb6 : Blk w6 w5.heap.size #[.string nmF, .slice p.li.1 p.li.2.1 p.li.2.2] := Blk.alloc _ _ _
          have hk6 : Kept No w5 w6 := Kept.alloc _ _ _
          clear_value w6
          clear_value w5
          rw [hJ]
          exact ⟨_, _, _, _, _, _, _, _, _, _, rfl, rdN_empty _, rdN_one (R := RL) hb6 (facts ((k4.no hk5).no hk6)).hl, by omega, by omega, (fun e => by cases e), fun _ => ⟨rfl, rfl⟩, (k4.no hk5).no hk6⟩
        · intro w5 w6
          have hb5 : Blk w5 w4.heap.size #[.string nmF, .slice p.li.1 p.li.2.1 p.li.2.2] := Blk.alloc _ _ _
          have hk5 : Kept No w4 w5 := Kept.alloc _ _ _
          have hk6 : Kept No w5 w6 := Kept.alloc _ _ _
          clear_value w6
          clear_value w5
          rw [hJ]
          exact ⟨_, _, _, _, _, _, _, _, _, _, rfl, rdN_empty _, rdN_one (R := RL) (hb5.keep hk6 fun e => e) (facts ((k4.no hk5).no hk6)).hl, by omega, by omega, (fun e => by cases e), fun _ => ⟨rfl, rfl⟩, (k4.no hk5).no hk6⟩
  · intro _ a16 l16 c16 a17 l17 c17 w11 hInv
    rw [hJ] at hInv
    obtain ⟨_, _, _, _, _, _, fs, ts, ef, et, hvs, hef, het, q1, q2, e0, e1, k11⟩ := hInv
    simp only [List.cons.injEq, Value.slice.injEq, and_true] at hvs
    obtain ⟨⟨rfl, rfl, rfl⟩, rfl, rfl, rfl⟩ := hvs
    clear hJ
    have hb11 := hb1.keep k11 fun e => e
    refine ⟨fun vs w' => w' = w11 ∧ ∃ fl : Int, vs = [.int .i64 fl] ∧ (fl = 3 ∨ fl = 7), ⟨_, (hb11.cell 8).trans rfl, condI (fun _ => ⟨rfl, _, rfl, .inr rfl⟩) (fun _ => ⟨rfl, _, rfl, .inl rfl⟩)⟩, ?_⟩
    rintro _ n20 w12 ⟨rfl, fl, hvs, hfl⟩
    simp only [List.cons.injEq, Value.int.injEq, true_and, and_true] at hvs
    have hvs := hvs.symm
    subst hvs
    have kw : Kept No w w12 := hk1.no k11
    have toM : ∀ {w' : World}, Kept No w w' → Kept (· = m) w w' := fun k => k.mono fun _ _ e => e.elim
    refine ⟨_, _, _, (hb11.cell 5).trans rfl, CallR.mono (pcheck_ok hef het (facts k11).hf (by omega) (by omega)) ?_⟩
    rintro v w13 ⟨rfl, hk13⟩
    have k13 := k11.no hk13
    refine ⟨_, rfl, condN (fun hne => .inl ⟨rfl, toM (hk1.no k13)⟩) (fun hck => ?_)⟩
    have hb13 := hb1.keep k13 fun e => e
    have hef13 := hef.no (fun _ _ _ _ h k => h.keep k fun _ _ _ e => e) hk13
    have het13 := het.no (fun _ _ _ _ h k => ⟨h.1.keep k fun _ _ e => e, h.2⟩) hk13
    refine ⟨_, _, _, (hb13.cell 5).trans rfl, CallR.mono (kernNew_ok hef13 het13 (facts k13).hf (by omega) (by omega)) ?_⟩
    rintro v w14 ⟨hk14, ⟨hne, _⟩ | ⟨_, gk, L, rfl, hK14, hnL⟩⟩
    · exact absurd hck hne
    have k14 := k13.no hk14
    have hb14 := hb1.keep k14 fun e => e
    refine ⟨_, _, rfl, condFa2 (condFa2 ⟨_, _, _, (hb14.cell 5).trans rfl, CallR.mono (copyFaults_ok (facts k14).hf (by have := h.b4; omega)) ?_⟩)⟩
    rintro v w15 ⟨a29, c29, rfl, hk15, ho15, hf15⟩
    have hef14 := hef13.no (fun _ _ _ _ h k => h.keep k fun _ _ _ e => e) hk14
    have het14 := het13.no (fun _ _ _ _ h k => ⟨h.1.keep k fun _ _ e => e, h.2⟩) hk14
    refine ⟨_, _, _, rfl, CallR.mono (pnew_ok hk15 hef14 het14 ho15 (AK.check_zero hck) (by omega) (by omega) hf15) ?_⟩
    rintro v w16 ⟨pk, M, tl, nm, rfl, hP16, hnM, hk1416⟩
    have k16 := k14.no hk1416
    have kw16 : Kept No w w16 := hk1.no k16
    have hz13 : w.heap.size ≤ w13.heap.size := (hk1.no k13).size
    have hz14 := hk14.size
    have hD : Duo W w16 gk pk (AK.new fs ts p.ps) L M tl nm := ⟨hK14.no hk1416, hP16, PInv.new _ _ _, fun z hz => by
        cases ho : M.own z with
        | none => rfl
        | some t =>
          have a := hnM z (by rw [ho]; simp)
          have b := hK14.lt z hz
          omega, fun z hz => by have := hnL z hz; omega, fun z hz => by have := hnM z hz; omega, kW.no kw16⟩
    have hLm : L.own m = none := by
      cases ho : L.own m with
      | none => rfl
      | some t => have := hnL m (by rw [ho]; simp); omega
    have hMm : M.own m = none := by
      cases ho : M.own m with
      | none => rfl
      | some t => have := hnM m (by rw [ho]; simp); omega
    have hm16 := hm.keep kw16 fun e => e
    refine ⟨_, rfl, nnI (stC_blk hm16 (by simp) fun w17 hm17 (hk17 : Kept (· = m) _ w17) hs17 => nnI (stC_blk hm17 (by simp) fun w18 hm18 (hk18 : Kept (· = m) _ w18) hs18 => ?_))⟩
    have hm18 : Blk w18 m #[.nilIface, .pointer none, .pointer none, .pointer none, .pointer none, pd gk, pd pk] := hm18
    have k1618 : Kept (· = m) w16 w18 := hk17.trans hk18 fun _ _ e => e
    have hD18 := hD.away k1618 fun z e => by rw [e]; exact ⟨hLm, hMm, hmW⟩
    have km18 : Kept (· = m) w w18 := (toM kw16).trans k1618 fun _ _ e => e
    clear hm16 hm17 hk17 hk18 hD
    have hnx : (AK.new fs ts p.ps).next = 1 := (AK.new_is _ _ _).2.2.2.1
    refine CallR.mono (kernOpen_ok hD18.hk nmF fl (by omega)) ?_
    rintro v w19 ⟨rfl, L', hK', st⟩
    have hm19 := hm18.keep st.kept fun e => e hLm
    refine ⟨_, _, rfl, nnI ⟨_, hm19.at (i := 6) rfl, CallR.mono (popen_ok (hD18.mid (s' := AK.new fs ts p.ps) st) nmF fl (by omega)) ?_⟩⟩
    rintro v w20 ⟨rfl, M', tl', nm', hP', st'⟩
    have hD20 := hD18.both hK' st hP' st' (hD18.hi.open_ hD18.hp.ok _ _)
    have hm20 := hm19.keep st'.kept fun e => e hMm
    have hz18 : w.heap.size ≤ w18.heap.size := km18.size
    have hz20 : w18.heap.size ≤ w20.heap.size := Nat.le_trans st.kept.size st'.kept.size
    have hLz : ∀ z, L'.own z ≠ none → w.heap.size ≤ z := fun z hz => by
      rcases st.grew z hz with e | e
      · have := hnL z e; omega
      · omega
    have hMz : ∀ z, M'.own z ≠ none → w.heap.size ≤ z := fun z hz => by
      rcases st'.grew z hz with e | e
      · have := hnM z e; omega
      · have := st.kept.size; omega
    have km20 : Kept (· = m) w w20 := (km18.trans st.kept fun y hy e => by have := hnL y e; omega).trans st'.kept fun y hy e => by have := hnM y e; omega
    refine ⟨_, _, rfl, condN (fun hne => .inl ⟨rfl, km20⟩) (fun he => condF (by simp) (nnI ⟨_, hm20.at (i := 6) rfl, CallR.mono (prof_ok pk _) ?_⟩))⟩
    rintro v w21 ⟨rfl, hX21, hk21⟩
    have hm21 := hm20.keep hk21 fun e => e
    have hD21 := hD20.no hk21
    have hml21 : m < w20.heap.size := hm20.lt
    have hLm' : L'.own m = none := by
      cases ho : L'.own m with
      | none => rfl
      | some t => have := hLz m (by rw [ho]; simp); omega
    have hMm' : M'.own m = none := by
      cases ho : M'.own m with
      | none => rfl
      | some t => have := hMz m (by rw [ho]; simp); omega
    refine ⟨_, rfl, nnI (stC_blk hm21 (by simp) fun w22 hm22 (hk22 : Kept (· = m) _ w22) hs22 => nnI (stC_blk hm22 (by simp) fun w23 hm23 (hk23 : Kept (· = m) _ w23) hs23 => .inr ⟨rfl, ?_, ?_⟩))⟩
    · exact ((km20.trans hk21 fun _ _ e => e.elim).trans hk22 fun _ _ e => e).trans hk23 fun _ _ e => e
    have k2123 : Kept (· = m) w21 w23 := hk22.trans hk23 fun _ _ e => e
    have hD23 := hD21.away k2123 fun z e => by rw [e]; exact ⟨hLm', hMm', hmW⟩
    refine ⟨w20.heap.size, fun z => L'.own z ≠ none, fun z => z = w20.heap.size ∨ M'.own z ≠ none, gk, pk, ((AK.new fs ts p.ps).open_ nmF fl).2.2, ((AK.new fs ts p.ps).open_ nmF fl).1, ?_, ?_, ?_⟩
    · refine ⟨hm23, ⟨L', hD23.hk, fun z => Iff.rfl⟩, ⟨M', Blk.keep hX21 k2123 (by omega), ⟨_, _, hD23.hp⟩, hD20.hp.new_none (Nat.le_refl _), fun z => Iff.rfl⟩, fun z hz hg => ?_, fun e => e hLm', fun e => ?_, hmW, fun z hz => hD23.nk z hz, fun z hz => ?_, hD23.kp⟩
      · rcases hg with rfl | hg
        · have := hD20.hk.lt _ hz; omega
        · exact hg (hD23.ap z hz)
      · rcases e with e | e
        · omega
        · exact e hMm'
      · rcases hz with rfl | hz
        · omega
        · exact hD23.nm z hz
    · obtain ⟨o1, o2, _⟩ := AK.open_cs (AK.new fs ts p.ps) nmF fl
      obtain ⟨f1, f2⟩ := AK.open_ft (s := AK.new fs ts p.ps) (nm := nmF) (fl := fl) (by rcases hfl with rfl | rfl <;> kernel_rfl)
      have n1 := (AK.new_is fs ts p.ps).2.2.2.2.2.1
      have n2 := (AK.new_is fs ts p.ps).2.2.2.2.2.2
      refine ⟨by omega, by omega, hD23.hi, ?_⟩
      rw [f1, f2]
      exact one_ft p.ps p.bs p.LL tm e0 e1
    · rintro z (hz | rfl | hz)
      · have := hLz z hz; omega
      · omega
      · have := hMz z hz; omega
end Go.Proofs.YtpoaacnnhgebfaaGreat
namespace Go.Proofs.YtpoaacnnhgebfaaGreat
open Go.Lw
def ixM (vs : List Value) : Nat := match vs with
  | [_, .int _ n] => n.toNat
  | _ => 0
theorem answersM_ok {R : Nat → Prop} {w : World} {a : Option Addr} {l c : Nat} {rs : List (List Int × Int)} (h : RdA R w a l c rs) (hl : l * 32 ≤ 140737488351232) (hR : ∀ x, R x → x < w.heap.size) :
    CallR Tryz.prog 140 [.slice a l c] w fun v w' => ∃ a' c', v = .slice a' l c' ∧ RdA (fun x => R x ∨ w.heap.size ≤ x) w' a' l c' rs ∧ Kept No w w' := by
  refine C140 ?_
  unfold L140
  have hlen := h.len
  refine ⟨fun vs w' => ∃ (i : Nat) (a' : Option Addr) (c' : Nat) (es : List (Slc × Int)), vs = [.slice a' i c', .int .i64 (i : Int)] ∧ i ≤ l ∧ Kept No w w' ∧ SlO 2 w' a' i c' (ansC es) ∧ AnsR R w' es (rs.take i) ∧ (∀ x, inA a' x → w.heap.size ≤ x),
    fun vs _ => l - ixM vs, ⟨0, none, 0, [], rfl, Nat.zero_le _, Kept.refl _ _, SlO.nil 2 w, AnsR.nil _ _, fun x hx => absurd hx (inA_none x)⟩, ?_⟩
  intro _ a4 l4 c4 n5 w1 hI
  obtain ⟨i, _, _, es, hvs, hi, h01, hs1, ha1, hf1⟩ := hI
  simp only [List.cons.injEq, Value.int.injEq, Value.slice.injEq, true_and, and_true] at hvs
  obtain ⟨⟨rfl, hli, rfl⟩, rfl⟩ := hvs
  obtain rfl : i = l4 := hli.symm
  refine condP (fun hlt => ?_) (fun hge => ?_)
  · have hil : i < rs.length := by omega
    have hr : (0 ≤ (i : Int) ∧ (i : Int) < ((l : Nat) : Int)) := by omega
    intro w2
    have hk2 : Kept No w1 w2 := Kept.drew No w1
    have hs2 : w2.heap.size = w1.heap.size := rfl
    clear_value w2
    have h02 := h01.no hk2
    obtain ⟨q, e, rfl, he1, he2, hrd, hrin⟩ := (h.keep h02 (fun _ _ e => e)).get hil
    refine ⟨hr, nnI ⟨e.1, e.2.1, e.2.2, by rw [Int.toNat_natCast]; exact he1, hr, nnI ⟨rs[i].2, by rw [Int.toNat_natCast]; exact he2, ?_⟩⟩⟩
    intro w3
    have hk3 : Kept No w2 w3 := Kept.alloc _ w2 _
    have hb3 : Blk w3 w2.heap.size #[.slice e.1 e.2.1 e.2.2, .int .i64 rs[i].2] := Blk.alloc w2 _ _
    have hs3 : w3.heap.size = w2.heap.size + 1 := by simp [w3]
    clear_value w3
    have hy : RdS 2 w3 (some ⟨w2.heap.size, 0, none⟩) 1 1 (ansC [(e, rs[i].2)]) := (SlO.of_blk (sz := 2) (n := 1) hb3 (by simp)).rd
    have h13 := hk2.no hk3
    obtain ⟨a17, c17, w4, hrun, hs4, hk4, hat, hnn⟩ := run_app_sl (P := Tryz.prog) (t := 233) (t2 := 233) (ty := 233) (by kernel_rfl : slTyB Tryz.prog 233 2 32 = true) (by kernel_rfl) (hs1.keep h13 (fun _ _ e => e)) hy (ansC_one _) (by omega) (by omega)
    rw [← ansC_app] at hs4
    have h04 : Kept No w w4 := (h02.no hk3).fresh hk4 hf1
    obtain ⟨_, _, _, _, _, hrd4, _⟩ := (h.keep h04 (fun _ _ e => e)).get hil
    refine ⟨a17, i + 1, c17, w4, hrun, by unfold inI; omega, ⟨i + 1, a17, c17, es ++ [(e, rs[i].2)], by simp, by omega, h04, hs4, ?_, ?_⟩, by simp only [ixM]; omega⟩
    · have hT : rs.take (i + 1) = rs.take i ++ [rs[i]] := by rw [List.take_add_one, List.getElem?_eq_getElem hil]; rfl
      rw [hT]
      refine AnsR.snoc ((ha1.keep h13 (fun _ _ e => e)).keep hk4 (fun x hx e' => by have := hR x hx; have := hf1 x e'; omega)) ?_ rfl hrin
      exact RdB.keep0 (hrd.keep hk3 (fun _ _ _ e => e)) hk4 (fun hne x hx e' => by have := hR x (hrin hne x hx); have := hf1 x e'; omega)
    · intro x hx
      rcases hat.in hx with e' | e'
      · exact hf1 x e'
      · have := h02.size; omega
  · have hil : i = l := by omega
    subst hil
    rw [List.take_of_length_le (by omega)] at ha1
    exact ⟨_, _, rfl, ⟨es, hs1.rd, ha1.mono (fun x hx => .inl hx), fun _ k hk => .inr (hf1 k hk)⟩, h01⟩
theorem mpan_ok {W w : World} {p : Plt} (h : PltO W w p) (hW : W.heap.size ≤ w.heap.size) :
    CallR Tryz.prog 41 [.agg p.cells] w fun v w' => Kept No w w' ∧ ∃ b : Bool, v = .bool b ∧ (b = false → p.k6 = 3 → ∀ n ∈ p.ws, -1 ≤ n) := by
  refine C41 ?_
  unfold L41
  intro w1
  have hb1 : Blk w1 w.heap.size p.cells := Blk.alloc _ _ _
  have hk1 : Kept No w w1 := Kept.alloc _ _ _
  clear_value w1
  have h1 := h.keep hW hk1
  have hlen : p.ws.length = p.wr.2.1 := by have := h1.hw.1; simpa using this
  have hb3 := h1.b3
  refine ⟨fun vs w' => w' = w1 ∧ ∃ i : Nat, vs = [.int .i64 (i : Int)] ∧ i ≤ p.wr.2.1 ∧ ∀ n ∈ p.ws.take i, -1 ≤ n, fun vs _ => p.wr.2.1 - ix vs, ⟨rfl, 0, rfl, by omega, by simp⟩, ?_⟩
  rintro _ n12 w2 ⟨rfl, i, hvs, hi, hpre⟩
  simp only [List.cons.injEq, Value.int.injEq, true_and, and_true] at hvs
  subst hvs
  refine ⟨_, _, _, (hb1.cell 4).trans rfl, condP (fun hlt => ?_) (fun hge => ?_)⟩
  · have hil : i < p.ws.length := by omega
    obtain ⟨q, haq, hc⟩ := In_cell h1.hw hil
    refine ⟨_, _, _, (hb1.cell 4).trans rfl, ⟨by omega, by omega⟩, nnE2 haq ⟨_, by rw [Int.toNat_natCast]; exact hc, condP (fun hlt1 => ?_) (fun hge1 => ?_)⟩⟩
    · refine ⟨_, (hb1.cell 0).trans rfl, by omega, (cutI p.kind 6 (by omega) (by omega)).1, by omega, hk1, _, rfl, fun e h3 => ?_⟩
      have : Int.tmod (Int.tmod p.kind 6 + 6) 6 = 3 := h3
      rw [this] at e
      cases e
    · refine ⟨⟨by omega, by omega⟩, ⟨rfl, i + 1, rfl, by omega, fun n hn => ?_⟩, by simp only [ix]; omega⟩
      rw [List.take_add_one, List.getElem?_eq_getElem hil] at hn
      rcases List.mem_append.1 hn with hn | hn
      · exact hpre n hn
      · have : n = p.ws[i] := by simpa using hn
        omega
  · have : i = p.wr.2.1 := by omega
    subst this
    rw [List.take_of_length_le (by omega)] at hpre
    exact ⟨hk1, false, rfl, fun _ _ => hpre⟩
theorem made_of {W w2 w4 w' : World} {m x : Nat} {F G : Nat → Prop} {st : MSt} (hb : Blk w' m (st.cells x)) (hP : PrgO F w' st) (hG : PgeO G w' x 0 st) (hF : ∀ z, F z → w4.heap.size ≤ z) (hG2 : ∀ z, G z → w2.heap.size ≤ z ∧ z < w4.heap.size) (hm : m < w2.heap.size) (h24 : w2.heap.size ≤ w4.heap.size) (hW : W.heap.size ≤ m) (kp : Kept No W w') : MadeO W w' m x 0 F G st :=
  ⟨hb, hP, hG, fun z hz hg => by have := hF z hz; have := (hG2 z hg).2; omega, fun e => by have := hF m e; omega, fun e => by have := (hG2 m e).1; omega, hW, fun z hz => by have := hF z hz; omega, fun z hz => by have := (hG2 z hz).1; omega, kp⟩
def mc0 : Array Value := #[.nilIface, .pointer none, .pointer none, .pointer none, .pointer none, .pointer none, .pointer none]
set_option maxHeartbeats 8000000 in
theorem mmake_ok {W w : World} {p : Plt} (h0 : PltO W W p) (kW : Kept No W w) :
    CallR Tryz.prog 40 [.agg p.cells] w fun v w' => Kept No W w' ∧ ∃ m, v = .tuple #[pd m, .bool false] ∨ (v = .tuple #[pd m, .bool true] ∧ ∃ x F G st, MadeO W w' m x 0 F G st ∧ ((p.k6 = 3 → ∀ n ∈ p.ws, -1 ≤ n) → st.Fit 1)) := by
  have hWw : W.heap.size ≤ w.heap.size := kW.size
  refine C40 ?_
  unfold L40
  intro w1
  have hb1 : Blk w1 w.heap.size p.cells := Blk.alloc _ _ _
  have hk1 : Kept No w w1 := Kept.alloc _ _ _
  have hs1 : w1.heap.size = w.heap.size + 1 := by simp [w1]
  clear_value w1
  intro w2
  have hm2 : Blk w2 w1.heap.size mc0 := Blk.alloc _ _ _
  have hk2 : Kept No w1 w2 := Kept.alloc _ _ _
  have hs2 : w2.heap.size = w1.heap.size + 1 := by simp [w2]
  clear_value w2
  have k2 : Kept No W w2 := (kW.no hk1).no hk2
  have hfW : ∀ {w' : World}, Kept No W w' → PltO W w' p := fun k => h0.keep (Nat.le_refl _) k
  have h2 := hfW k2
  have hb2 := hb1.keep hk2 fun e => e
  have hc := cutI p.kind 6 (by omega) (by omega)
  obtain ⟨Pb, hPb⟩ : ∃ Pb, Pb = w.heap.size := ⟨_, rfl⟩
  obtain ⟨m, hm⟩ : ∃ m, m = w1.heap.size := ⟨_, rfl⟩
  rw [← hPb] at hb2 hb1 ⊢
  rw [← hm] at hm2 ⊢
  have hmW : W.heap.size ≤ m := by omega
  have hPm : Pb ≠ m := by omega
  have hm2l : m < w2.heap.size := by omega
  have hWm : ∀ {wa wb : World}, Kept No W wa → Kept (· = m) wa wb → Kept No W wb := fun k k' => k.trans k' fun y hy e => by omega
  obtain ⟨J, hJ⟩ : ∃ J : List Value → World → Prop, J = fun vs w' => ∃ e f : Int, vs = [.int .i64 e, .int .i64 f] ∧ Kept No W w' ∧ ((e ≠ 0 ∨ f ≠ 0) ∨ (e = 0 ∧ f = 0 ∧ Blk w' Pb p.cells ∧ ∃ x F G st, MadeO W w' m x 0 F G st ∧ ((p.k6 = 3 → ∀ n ∈ p.ws, -1 ≤ n) → st.Fit 0) ∧ ¬ F Pb ∧ ¬ G Pb)) := ⟨_, rfl⟩
  refine ⟨J, ⟨_, (hb2.cell 0).trans rfl, by omega, hc.1, by omega, ?_⟩, ?_⟩
  · refine condI (fun c0 => ?_) (fun c0 => condI (fun c1 => ?_) (fun c1 => condI (fun c2 => ?_) (fun c2 => condI (fun c3 => ?_) (fun c3 => condI (fun c4 => ?_) (fun c4 => condI (fun c5 => ?_) (fun c5 => ?_))))))
    · refine ⟨_, (hb2.cell 1).trans rfl, _, _, _, (hb2.cell 2).trans rfl, CallR.mono (rnewF_ok p.size h2.hd) ?_⟩
      intro v w3 hv
      by_cases he : newFE p.size p.bs.length = 0
      · rcases hv with ⟨hne, _⟩ | ⟨_, x, G, rfl, hR, hk3, hGf⟩
        · exact absurd he hne
        refine ⟨_, _, rfl, stC_blk (hm2.keep hk3 fun e => e) (by simp [mc0]) fun w4 hm4 (hk4 : Kept (· = m) _ w4) hs4 => ?_⟩
        have k4 := hWm (k2.no hk3) hk4
        have hb4 := (hb2.keep hk3 fun e => e).keep hk4 hPm
        refine ⟨_, (hb4.cell 1).trans rfl, _, _, _, (hb4.cell 2).trans rfl, CallR.mono (mnewF_ok p.size (hfW k4).hd) ?_⟩
        intro v w5 hv5
        obtain ⟨b, F, rfl, hS, hk5, hFf⟩ := hv5.one he
        refine ⟨_, _, rfl, stC_blk (hm4.keep hk5 fun e => e) (by simp [mc0]) fun w6 hm6 (hk6 : Kept (· = m) _ w6) hs6 => ⟨_, (hm6.cell 2).trans rfl, stC_blk hm6 (by simp [mc0]) fun w7 hm7 (hk7 : Kept (· = m) _ w7) hs7 => ?_⟩⟩
        have k67 : Kept (· = m) w5 w7 := hk6.trans hk7 fun _ _ e => e
        have hzz := hk3.size
        have hz5 := hk5.size
        have hGm : ∀ z, G z → w2.heap.size ≤ z ∧ z < w4.heap.size := fun z hz => by have := hGf z hz; have := RawO.lt hR z hz; omega
        rw [hJ]
        refine ⟨_, _, rfl, hWm (k4.no hk5) k67, .inr ⟨rfl, rfl, (hb4.keep hk5 fun e => e).keep k67 hPm, x, F, G, .sto .fx b p.bs p.size.toNat 0, made_of (w2 := w2) (w4 := w4) hm7 (StO.keep hS k67 fun z hz e => by have := hFf z hz; omega) ?_ hFf hGm hm2l (by omega) hmW (hWm (k4.no hk5) k67), fun _ => trivial, fun e => by have := hFf Pb e; omega, fun e => by have := (hGm Pb e).1; omega⟩⟩
        exact RawO.keep (RawO.keep (RawO.keep hR hk4 fun z hz e => by have := (hGm z hz).1; omega) hk5 fun _ _ e => e) k67 fun z hz e => by have := (hGm z hz).1; omega
      · obtain ⟨pp, rfl, hk3⟩ := hv.eq
        refine ⟨_, _, rfl, stC_blk (hm2.keep hk3 fun e => e) (by simp [mc0]) fun w4 hm4 (hk4 : Kept (· = m) _ w4) hs4 => ?_⟩
        have k4 := hWm (k2.no hk3) hk4
        have hb4 := (hb2.keep hk3 fun e => e).keep hk4 hPm
        refine ⟨_, (hb4.cell 1).trans rfl, _, _, _, (hb4.cell 2).trans rfl, CallR.mono (mnewF_ok p.size (hfW k4).hd) ?_⟩
        intro v w5 hv5
        obtain ⟨qq, rfl, hk5⟩ := hv5.eq
        refine ⟨_, _, rfl, stC_blk (hm4.keep hk5 fun e => e) (by simp [mc0]) fun w6 hm6 (hk6 : Kept (· = m) _ w6) hs6 => ⟨_, (hm6.cell 2).trans rfl, stC_blk hm6 (by simp [mc0]) fun w7 hm7 (hk7 : Kept (· = m) _ w7) hs7 => ?_⟩⟩
        rw [hJ]
        exact ⟨_, _, rfl, hWm (k4.no hk5) (hk6.trans hk7 fun _ _ e => e), .inl (.inl he)⟩
    · refine ⟨_, _, _, (hb2.cell 2).trans rfl, CallR.mono (rnewG_ok h2.hd) ?_⟩
      intro v w3 hv
      by_cases he : (if p.bs.length > 1048576 then (5 : Int) else 0) = 0
      · rcases hv with ⟨hne, _⟩ | ⟨_, x, G, rfl, hR, hk3, hGf⟩
        · exact absurd he hne
        refine ⟨_, _, rfl, stC_blk (hm2.keep hk3 fun e => e) (by simp [mc0]) fun w4 hm4 (hk4 : Kept (· = m) _ w4) hs4 => ?_⟩
        have k4 := hWm (k2.no hk3) hk4
        have hb4 := (hb2.keep hk3 fun e => e).keep hk4 hPm
        refine ⟨_, _, _, (hb4.cell 2).trans rfl, CallR.mono (mnewG_ok (hfW k4).hd) ?_⟩
        intro v w5 hv5
        obtain ⟨b, F, rfl, hS, hk5, hFf⟩ := hv5.one he
        refine ⟨_, _, rfl, stC_blk (hm4.keep hk5 fun e => e) (by simp [mc0]) fun w6 hm6 (hk6 : Kept (· = m) _ w6) hs6 => ⟨_, (hm6.cell 3).trans rfl, stC_blk hm6 (by simp [mc0]) fun w7 hm7 (hk7 : Kept (· = m) _ w7) hs7 => ?_⟩⟩
        have k67 : Kept (· = m) w5 w7 := hk6.trans hk7 fun _ _ e => e
        have hzz := hk3.size
        have hz5 := hk5.size
        have hGm : ∀ z, G z → w2.heap.size ≤ z ∧ z < w4.heap.size := fun z hz => by have := hGf z hz; have := RawO.lt hR z hz; omega
        rw [hJ]
        refine ⟨_, _, rfl, hWm (k4.no hk5) k67, .inr ⟨rfl, rfl, (hb4.keep hk5 fun e => e).keep k67 hPm, x, F, G, .sto .gr b p.bs 1048576 0, made_of (w2 := w2) (w4 := w4) hm7 (StO.keep hS k67 fun z hz e => by have := hFf z hz; omega) ?_ hFf hGm hm2l (by omega) hmW (hWm (k4.no hk5) k67), fun _ => trivial, fun e => by have := hFf Pb e; omega, fun e => by have := (hGm Pb e).1; omega⟩⟩
        exact RawO.keep (RawO.keep (RawO.keep hR hk4 fun z hz e => by have := (hGm z hz).1; omega) hk5 fun _ _ e => e) k67 fun z hz e => by have := (hGm z hz).1; omega
      · obtain ⟨pp, rfl, hk3⟩ := hv.eq
        refine ⟨_, _, rfl, stC_blk (hm2.keep hk3 fun e => e) (by simp [mc0]) fun w4 hm4 (hk4 : Kept (· = m) _ w4) hs4 => ?_⟩
        have k4 := hWm (k2.no hk3) hk4
        have hb4 := (hb2.keep hk3 fun e => e).keep hk4 hPm
        refine ⟨_, _, _, (hb4.cell 2).trans rfl, CallR.mono (mnewG_ok (hfW k4).hd) ?_⟩
        intro v w5 hv5
        obtain ⟨qq, rfl, hk5⟩ := hv5.eq
        refine ⟨_, _, rfl, stC_blk (hm4.keep hk5 fun e => e) (by simp [mc0]) fun w6 hm6 (hk6 : Kept (· = m) _ w6) hs6 => ⟨_, (hm6.cell 3).trans rfl, stC_blk hm6 (by simp [mc0]) fun w7 hm7 (hk7 : Kept (· = m) _ w7) hs7 => ?_⟩⟩
        rw [hJ]
        exact ⟨_, _, rfl, hWm (k4.no hk5) (hk6.trans hk7 fun _ _ e => e), .inl (.inl he)⟩
    · refine ⟨_, _, _, (hb2.cell 2).trans rfl, CallR.mono (rnewR_ok h2.hd) ?_⟩
      intro v w3 hv
      by_cases he : (if p.bs.length > 1048576 then (5 : Int) else 0) = 0
      · rcases hv with ⟨hne, _⟩ | ⟨_, x, G, rfl, hR, hk3, hGf⟩
        · exact absurd he hne
        refine ⟨_, _, rfl, stC_blk (hm2.keep hk3 fun e => e) (by simp [mc0]) fun w4 hm4 (hk4 : Kept (· = m) _ w4) hs4 => ?_⟩
        have k4 := hWm (k2.no hk3) hk4
        have hb4 := (hb2.keep hk3 fun e => e).keep hk4 hPm
        refine ⟨_, _, _, (hb4.cell 2).trans rfl, CallR.mono (mnewR_ok (hfW k4).hd) ?_⟩
        intro v w5 hv5
        obtain ⟨b, F, rfl, hS, hk5, hFf⟩ := hv5.one he
        refine ⟨_, _, rfl, stC_blk (hm4.keep hk5 fun e => e) (by simp [mc0]) fun w7 hm7 (k67 : Kept (· = m) _ w7) hs7 => ?_⟩
        have hzz := hk3.size
        have hz5 := hk5.size
        have hGm : ∀ z, G z → w2.heap.size ≤ z ∧ z < w4.heap.size := fun z hz => by have := hGf z hz; have := RawO.lt hR z hz; omega
        rw [hJ]
        refine ⟨_, _, rfl, hWm (k4.no hk5) k67, .inr ⟨rfl, rfl, (hb4.keep hk5 fun e => e).keep k67 hPm, x, F, G, .sto .rd b p.bs p.bs.length 0, made_of (w2 := w2) (w4 := w4) hm7 (StO.keep hS k67 fun z hz e => by have := hFf z hz; omega) ?_ hFf hGm hm2l (by omega) hmW (hWm (k4.no hk5) k67), fun _ => trivial, fun e => by have := hFf Pb e; omega, fun e => by have := (hGm Pb e).1; omega⟩⟩
        exact RawO.keep (RawO.keep (RawO.keep hR hk4 fun z hz e => by have := (hGm z hz).1; omega) hk5 fun _ _ e => e) k67 fun z hz e => by have := (hGm z hz).1; omega
      · obtain ⟨pp, rfl, hk3⟩ := hv.eq
        refine ⟨_, _, rfl, stC_blk (hm2.keep hk3 fun e => e) (by simp [mc0]) fun w4 hm4 (hk4 : Kept (· = m) _ w4) hs4 => ?_⟩
        have k4 := hWm (k2.no hk3) hk4
        have hb4 := (hb2.keep hk3 fun e => e).keep hk4 hPm
        refine ⟨_, _, _, (hb4.cell 2).trans rfl, CallR.mono (mnewR_ok (hfW k4).hd) ?_⟩
        intro v w5 hv5
        obtain ⟨qq, rfl, hk5⟩ := hv5.eq
        refine ⟨_, _, rfl, stC_blk (hm4.keep hk5 fun e => e) (by simp [mc0]) fun w7 hm7 (hk7 : Kept (· = m) _ w7) hs7 => ?_⟩
        rw [hJ]
        exact ⟨_, _, rfl, hWm (k4.no hk5) hk7, .inl (.inl he)⟩
    · refine ⟨_, _, _, (hb2.cell 3).trans rfl, _, _, _, (hb2.cell 4).trans rfl, CallR.mono (rcnew_ok h2.hr h2.hw) ?_⟩
      intro v w3 hv
      by_cases he : newCE p.rs p.ws = 0
      · rcases hv with ⟨hne, _⟩ | ⟨_, x, G, rfl, hR, hk3, hGf⟩
        · exact absurd he hne
        refine ⟨_, _, rfl, stC_blk (hm2.keep hk3 fun e => e) (by simp [mc0]) fun w4 hm4 (hk4 : Kept (· = m) _ w4) hs4 => ?_⟩
        have k4 := hWm (k2.no hk3) hk4
        have hb4 := (hb2.keep hk3 fun e => e).keep hk4 hPm
        have kd : Kept No w4 w4.drew := Kept.drew _ _
        have hbd := hb4.keep kd fun e => e
        have kWd := k4.no kd
        refine ⟨fun w' => Blk w' Pb p.cells, hbd, _, _, _, fun wS hS => (hS.cell 3).trans rfl, _, _, _, fun wS hS => (hS.cell 4).trans rfl, CallR.mono (answersM_ok (hfW kWd).hr (by have := h0.b2; omega) fun x hx => by have := kWd.size; omega) ?_⟩
        rintro v w5 ⟨aa, ca, rfl, hra, hka⟩
        have hb5 := hbd.keep hka fun e => e
        refine ⟨_, _, _, rfl, hb5, CallR.mono (cnew_ok hra (hfW (kWd.no hka)).hw) ?_⟩
        intro v w6 hv6
        obtain ⟨b, F, rfl, hS, hk6, hFf⟩ := hv6.one he
        have hk46 : Kept No w4 w6 := (kd.no hka).no hk6
        refine ⟨_, _, rfl, stC_blk (hm4.keep hk46 fun e => e) (by simp [mc0]) fun w7 hm7 (hk7 : Kept (· = m) _ w7) hs7 => ⟨_, (hm7.cell 4).trans rfl, stC_blk hm7 (by simp [mc0]) fun w8 hm8 (hk8 : Kept (· = m) _ w8) hs8 => ?_⟩⟩
        have k78 : Kept (· = m) w6 w8 := hk7.trans hk8 fun _ _ e => e
        have hzz := hk3.size
        have hz5 := hk46.size
        have hz45 : w4.heap.size ≤ w5.heap.size := (kd.no hka).size
        have hFf4 : ∀ z, F z → w4.heap.size ≤ z := fun z hz => by have := hFf z hz; omega
        have hGm : ∀ z, G z → w2.heap.size ≤ z ∧ z < w4.heap.size := fun z hz => by have := hGf z hz; have := RawC.lt hR z hz; omega
        rw [hJ]
        refine ⟨_, _, rfl, hWm (k4.no hk46) k78, .inr ⟨rfl, rfl, (hb4.keep hk46 fun e => e).keep k78 hPm, x, F, G, .cus b p.rs p.ws [], made_of (w2 := w2) (w4 := w4) hm8 (CuO.keep hS k78 fun z hz e => by have := hFf4 z hz; omega) ?_ hFf4 hGm hm2l (by omega) hmW (hWm (k4.no hk46) k78), fun hw => ⟨hw (show p.k6 = 3 from by unfold Plt.k6; simpa using c3), by simp⟩, fun e => by have := hFf4 Pb e; omega, fun e => by have := (hGm Pb e).1; omega⟩⟩
        exact RawC.keep (RawC.keep (RawC.keep hR hk4 fun z hz e => by have := (hGm z hz).1; omega) hk46 fun _ _ e => e) k78 fun z hz e => by have := (hGm z hz).1; omega
      · obtain ⟨pp, rfl, hk3⟩ := hv.eq
        refine ⟨_, _, rfl, stC_blk (hm2.keep hk3 fun e => e) (by simp [mc0]) fun w4 hm4 (hk4 : Kept (· = m) _ w4) hs4 => ?_⟩
        have k4 := hWm (k2.no hk3) hk4
        have hb4 := (hb2.keep hk3 fun e => e).keep hk4 hPm
        have kd : Kept No w4 w4.drew := Kept.drew _ _
        have hbd := hb4.keep kd fun e => e
        have kWd := k4.no kd
        refine ⟨fun w' => Blk w' Pb p.cells, hbd, _, _, _, fun wS hS => (hS.cell 3).trans rfl, _, _, _, fun wS hS => (hS.cell 4).trans rfl, CallR.mono (answersM_ok (hfW kWd).hr (by have := h0.b2; omega) fun x hx => by have := kWd.size; omega) ?_⟩
        rintro v w5 ⟨aa, ca, rfl, hra, hka⟩
        have hb5 := hbd.keep hka fun e => e
        refine ⟨_, _, _, rfl, hb5, CallR.mono (cnew_ok hra (hfW (kWd.no hka)).hw) ?_⟩
        intro v w6 hv6
        obtain ⟨qq, rfl, hk6⟩ := hv6.eq
        have hk46 : Kept No w4 w6 := (kd.no hka).no hk6
        refine ⟨_, _, rfl, stC_blk (hm4.keep hk46 fun e => e) (by simp [mc0]) fun w7 hm7 (hk7 : Kept (· = m) _ w7) hs7 => ⟨_, (hm7.cell 4).trans rfl, stC_blk hm7 (by simp [mc0]) fun w8 hm8 (hk8 : Kept (· = m) _ w8) hs8 => ?_⟩⟩
        rw [hJ]
        exact ⟨_, _, rfl, hWm (k4.no hk46) (hk7.trans hk8 fun _ _ e => e), .inl (.inl he)⟩
    · refine ⟨_, _, _, _, _, _, _, _, _, _, _, _, _, _, _, _, _, _, _, (hb2.cell 0).trans rfl, (hb2.cell 1).trans rfl, (hb2.cell 2).trans rfl, (hb2.cell 3).trans rfl, (hb2.cell 4).trans rfl, (hb2.cell 5).trans rfl, (hb2.cell 6).trans rfl, (hb2.cell 7).trans rfl, (hb2.cell 8).trans rfl, CallR.mono (mkern_ok h2 k2 hm2 hmW false) ?_⟩
      rintro v w3 (⟨rfl, hk3⟩ | ⟨rfl, hk3, x, F, G, gk, pk, s, d, hM, hfit, hfg⟩)
      · exact ⟨_, rfl, condTr2 ⟨hWm k2 hk3, m, .inl rfl⟩⟩
      · rw [hJ]
        exact ⟨_, rfl, condFa2 ⟨_, _, rfl, hM.kp, .inr ⟨rfl, rfl, hb2.keep hk3 hPm, x, F, G, _, hM, fun _ => hfit, fun e => by have := hfg Pb (.inl e); omega, fun e => by have := hfg Pb (.inr e); omega⟩⟩⟩
    · refine ⟨_, _, _, _, _, _, _, _, _, _, _, _, _, _, _, _, _, _, _, (hb2.cell 0).trans rfl, (hb2.cell 1).trans rfl, (hb2.cell 2).trans rfl, (hb2.cell 3).trans rfl, (hb2.cell 4).trans rfl, (hb2.cell 5).trans rfl, (hb2.cell 6).trans rfl, (hb2.cell 7).trans rfl, (hb2.cell 8).trans rfl, CallR.mono (mkern_ok h2 k2 hm2 hmW true) ?_⟩
      rintro v w3 (⟨rfl, hk3⟩ | ⟨rfl, hk3, x, F, G, gk, pk, s, d, hM, hfit, hfg⟩)
      · exact ⟨_, rfl, condTr2 ⟨hWm k2 hk3, m, .inl rfl⟩⟩
      · rw [hJ]
        exact ⟨_, rfl, condFa2 ⟨_, _, rfl, hM.kp, .inr ⟨rfl, rfl, hb2.keep hk3 hPm, x, F, G, _, hM, fun _ => hfit, fun e => by have := hfg Pb (.inl e); omega, fun e => by have := hfg Pb (.inr e); omega⟩⟩⟩
    · exfalso
      simp at c0 c1 c2 c3 c4 c5
      omega
  · rintro _ n76 n77 w26 hInv
    rw [hJ] at hInv
    obtain ⟨e, f, hvs, k26, hcase⟩ := hInv
    simp only [List.cons.injEq, Value.int.injEq, true_and, and_true] at hvs
    obtain ⟨rfl, rfl⟩ := hvs
    refine condN (fun hne => ⟨k26, m, .inl rfl⟩) (fun hf => condN (fun hne => ⟨k26, m, .inl rfl⟩) (fun he => ?_))
    rcases hcase with hbad | ⟨_, _, hPb26, x, F, G, st, hM, hfit, hFP, hGP⟩
    · omega
    intro w27
    have hk27 : Kept No w26 w27 := Kept.drew _ _
    clear_value w27
    have hM27 := hM.no hk27
    have hP27 := hPb26.keep hk27 fun e => e
    obtain ⟨fn, xs, hrun, hcall⟩ := prg_seek hM27.pr p.place 0
    refine ⟨st.val, ?_, _, (hP27.cell 7).trans rfl, fn, xs, _, hrun w27, CallR.mono hcall ?_⟩
    · have := hM27.bk.cell 0
      rw [this]
      cases st with
      | sto k b bs room pl => cases k <;> rfl
      | cus b rs ws tk => rfl
      | ker gk pk s d => rfl
    rintro v w29 ⟨F', rfl, hpr, g1, hk29⟩
    refine ⟨_, _, rfl, ?_⟩
    intro w30
    have hk30 : Kept No w29 w30 := Kept.drew _ _
    clear_value w30
    obtain ⟨pg, bk, kp⟩ := hM27.mid hk29
    have hP30 := (hP27.keep hk29 hFP).keep hk30 fun e => e
    refine ⟨_, ?_, _, (hP30.cell 7).trans rfl, CallR.mono (pge_seek (pg.keep hk30 fun _ _ e => e) p.place 0) ?_⟩
    · have := (bk.keep hk30 fun e => e).cell 1
      rw [this]
      cases st with
      | sto k b bs room pl => cases k <;> rfl
      | cus b rs ws tk => rfl
      | ker gk pk s d => rfl
    rintro v w31 ⟨G', rfl, hpg, g2, hk31⟩
    have hpr30 := hpr.keep hk30 fun _ _ e => e
    have hM31 := hM27.both hpr30 g1 (hk29.trans hk30 fun _ _ e => e.elim) hpg (fun k hk => (g2 k hk)) hk31 (MSt.seek_cells x st p.place 0).1
    exact ⟨_, _, rfl, hM31.kp, m, .inr ⟨rfl, x, F', G', _, hM31, fun hw => (hfit hw).seek _ _⟩⟩
end Go.Proofs.YtpoaacnnhgebfaaGreat
namespace Go.Proofs.YtpoaacnnhgebfaaGreat
open Go.Lw
theorem MSt.read_le (st : MSt) (n : Int) : (st.read n).1.length ≤ 1048576 := by
  cases st with
  | sto k b bs room pl =>
    show (readM n bs pl).1.length ≤ _
    unfold readM
    split
    · simp
    · dsimp only; rw [List.length_take]; omega
  | cus b rs ws tk =>
    show (readC n rs).1.length ≤ _
    unfold readC
    split
    · simp
    · split
      · simp
      · split
        · simp
        · split
          · simp
          · dsimp only; rw [List.length_take]; omega
  | ker gk pk s d => exact AK.read_bound s d n
theorem MadeO.v0 {W w : World} {m x cl : Nat} {F G : Nat → Prop} {st : MSt} (h : Blk w m (st.cells x)) : w.cell? ⟨m, 0, none⟩ = some st.val ∧ w.cell? (Addr.add ⟨m, 0, none⟩ 1) = some (pd x) := by
  constructor
  · have := h.at0 (v := st.val) (by cases st with
      | sto k b bs room pl => cases k <;> rfl
      | cus b rs ws tk => rfl
      | ker gk pk s d => rfl)
    exact this
  · exact h.at (i := 1) (by cases st with
      | sto k b bs room pl => cases k <;> rfl
      | cus b rs ws tk => rfl
      | ker gk pk s d => rfl)
theorem PltO.up {W V w : World} {p : Plt} (h : PltO W w p) (hv : W.heap.size ≤ V.heap.size) : PltO V w p := by
  obtain ⟨es, h1, h2, h3⟩ := h.hr
  exact ⟨h.hd, ⟨es, h1, h2.mono fun x hx => Nat.lt_of_lt_of_le hx hv, fun hl k hk => Nat.lt_of_lt_of_le (h3 hl k hk) hv⟩, h.hw, h.hf, h.hl, h.b1, h.b2, h.b3, h.b4, h.b5⟩
set_option maxRecDepth 100000 in
set_option maxHeartbeats 8000000 in
theorem walk_memoryPlays {W : World} {args : List Value} (h : V6 W args) : CallR Tryz.prog 6 args W fun v w' => v = .bool true ∧ Kept No W w' := by
  obtain ⟨n1, _, n2, _, a3, l3, c3, bs, r3, _, b3, a7, l7, c7, lc7, z7, b7, st7, a17, l17, c17, ws, r17, _, b17, a21, l21, c21, lc21, z21, b21, st21, a28, l28, c28, lc28, z28, b28, st28, n37, _, b38, a10, l10, c10, s1, s2, s3, s4, rfl⟩ := h
  obtain ⟨rs, hrs⟩ := rdA_of_view lc7 z7 (fun q hq i hi => by
    obtain ⟨a', l', c', ns, k1, _, _, n, _, k2, k3, _⟩ := st7 q hq i hi
    exact ⟨a', l', c', ns, n, k1, k2, k3⟩)
  obtain ⟨ps, hps, _⟩ := rdF_of_view lc21 z21 st21
  obtain ⟨LL, hLL, hLb, _⟩ := rdL_of_view lc28 z28 (fun q hq i hi => by
    obtain ⟨a', l', c', ns, k1, k2, k3, k4, _⟩ := st28 q hq i hi
    exact ⟨a', l', c', ns, k1, k2, by omega, k4, trivial⟩)
  obtain ⟨p, hp⟩ : ∃ p : Plt, p = ⟨n1, n2, (a3, l3, c3), bs, (a7, l7, c7), rs, (a17, l17, c17), ws, (a21, l21, c21), ps, (a28, l28, c28), LL, n37, b38⟩ := ⟨_, rfl⟩
  have hpO : PltO W W p := by
    subst hp
    exact ⟨r3, hrs, r17, hps, ⟨hLL.mono fun _ _ => trivial, fun x hx => by have := hLb x hx; omega⟩, b3, b7, b17, b21, b28⟩
  have hcells : (#[.int .i64 n1, .int .i64 n2, .slice a3 l3 c3, .slice a7 l7 c7, .slice a17 l17 c17, .slice a21 l21 c21, .slice a28 l28 c28, .int .i64 n37, .bool b38] : Array Value) = p.cells := by subst hp; rfl
  refine C6 ?_
  unfold L6
  intro w1
  have hb1 : Blk w1 W.heap.size #[.int .i64 n1, .int .i64 n2, .slice a3 l3 c3, .slice a7 l7 c7, .slice a17 l17 c17, .slice a21 l21 c21, .slice a28 l28 c28, .int .i64 n37, .bool b38] := Blk.alloc _ _ _
  have hk1 : Kept No W w1 := Kept.alloc _ _ _
  have hz1 : w1.heap.size = W.heap.size + 1 := by simp [w1]
  clear_value w1
  refine ⟨_, _, _, _, _, _, _, _, _, _, _, _, _, _, _, _, _, _, _, (hb1.cell 0).trans rfl, (hb1.cell 1).trans rfl, (hb1.cell 2).trans rfl, (hb1.cell 3).trans rfl, (hb1.cell 4).trans rfl, (hb1.cell 5).trans rfl, (hb1.cell 6).trans rfl, (hb1.cell 7).trans rfl, (hb1.cell 8).trans rfl, ?_⟩
  rw [hcells]
  have alive : ∀ {w' : World}, Kept No W w' → CallR Tryz.prog 42 [] w' fun v w'' => v = .bool true ∧ Kept No W w'' := fun k => CallR.mono nalive_ok fun v w'' ⟨h1, h2⟩ => ⟨h1, k.no h2⟩
  have hp1 : PltO w1 w1 p := (hpO.keep (Nat.le_refl _) hk1).up (by omega)
  refine CallR.mono (mmake_ok hp1 (Kept.refl _ _)) ?_
  rintro v w2 ⟨k2, m, rfl | ⟨rfl, x, F, G, st, hM, hfit⟩⟩
  · refine ⟨_, _, rfl, condTr2 (CallR.mono (alive (hk1.no k2)) ?_)⟩
    rintro v w3 ⟨rfl, hk3⟩
    exact ⟨_, rfl, rfl, hk3⟩
  have hb2 := hb1.keep k2 fun e => e
  refine ⟨_, _, rfl, condFa2 ⟨_, _, _, _, _, _, _, _, _, _, _, _, _, _, _, _, _, _, _, (hb2.cell 0).trans rfl, (hb2.cell 1).trans rfl, (hb2.cell 2).trans rfl, (hb2.cell 3).trans rfl, (hb2.cell 4).trans rfl, (hb2.cell 5).trans rfl, (hb2.cell 6).trans rfl, (hb2.cell 7).trans rfl, (hb2.cell 8).trans rfl, ?_⟩⟩
  rw [hcells]
  refine CallR.mono (mpan_ok (hp1.keep (Nat.le_refl _) k2) k2.size) ?_
  rintro v w4 ⟨hk4, pan, rfl, hpan⟩
  refine ⟨_, rfl, ?_⟩
  cases pan with
  | true =>
    refine condTr2 (CallR.mono (alive ((hk1.no k2).no hk4)) ?_)
    rintro v w5 ⟨rfl, hk5⟩
    exact ⟨_, rfl, rfl, hk5⟩
  | false =>
  have hM4 := hM.no hk4
  have hfit1 := hfit (hpan rfl)
  clear hfit hpan hM hp1 hpO hrs hps hLL hLb hcells hb1 hb2 hk4 k2 hp p
  refine condFa2 ?_
  obtain ⟨I, hI⟩ : ∃ I : List Value → World → Prop, I = fun vs w' => ∃ (i cl : Nat) (F G : Nat → Prop) (st : MSt), vs = [.int .i64 (i : Int)] ∧ i ≤ l10 ∧ cl ≤ i ∧ MadeO w1 w' m x cl F G st ∧ st.Fit (i + 1) := ⟨_, rfl⟩
  obtain ⟨mu, hmu⟩ : ∃ mu : List Value → World → Nat, mu = fun vs _ => l10 - ix vs := ⟨_, rfl⟩
  refine ⟨I, mu, by rw [hI]; exact ⟨0, 0, F, G, st, rfl, by omega, by omega, hM4, hfit1⟩, ?_⟩
  clear hM4 hfit1
  clear F G st
  intro _ n40 w6 hInv
  rw [hI] at hInv
  obtain ⟨i, cl, F, G, st, hvs, hi, hcl, hM, hfit⟩ := hInv
  simp only [List.cons.injEq, Value.int.injEq, true_and, and_true] at hvs
  subst hvs
  have kW : ∀ {w' : World}, Kept No w1 w' → Kept No W w' := fun k => hk1.no k
  refine condP (fun hlt => ?_) (fun hge => ?_)
  · have hil : i < l10 := by omega
    obtain ⟨q, haq⟩ : ∃ q, a10 = some q := by
      cases ha : a10 with
      | none => have := s2 ha; omega
      | some q => exact ⟨q, rfl⟩
    obtain ⟨t1, _, t2, _, t3, _, da, dl, dc, ns, u1, _, u2, e0, e1, e2, e3, _⟩ := s4 q haq i hil
    have hrd : RdB W da dl dc ns := u1
    have cell : ∀ {w' : World} {a : Addr} {v : Value}, Kept No w1 w' → W.cell? a = some v → w'.cell? a = some v := fun k e => (kW k).cell e fun e => e
    have hrg : 0 ≤ (i : Int) ∧ (i : Int) < ((l10 : Nat) : Int) := by omega
    have tail : ∀ {w' : World} {cl' : Nat} {F' G' : Nat → Prop} {st' : MSt}, MadeO w1 w' m x cl' F' G' st' → st'.Fit (i + 2) → cl' ≤ i + 1 →
        ((4 : Int) ≠ 0 ∧ cond ((Int.tmod (i : Int) (4 : Int)) == 3) (CallR Tryz.prog 49 [pd m] w' (fun r w'' => ∃ b : Bool, r = .bool b ∧ cond (!b) (Value.bool false = .bool true ∧ Kept No W w'') (inI ((i : Int) + 1) ∧ I [.int .i64 ((i : Int) + 1)] w'' ∧ mu [.int .i64 ((i : Int) + 1)] w'' < mu [.int .i64 (i : Int)] w6)))
          (inI ((i : Int) + 1) ∧ I [.int .i64 ((i : Int) + 1)] w' ∧ mu [.int .i64 ((i : Int) + 1)] w' < mu [.int .i64 (i : Int)] w6)) := by
      intro w' cl' F' G' st' hM' hf' hc'
      have fin : ∀ {w'' : World}, MadeO w1 w'' m x cl' F' G' st' → inI ((i : Int) + 1) ∧ I [.int .i64 ((i : Int) + 1)] w'' ∧ mu [.int .i64 ((i : Int) + 1)] w'' < mu [.int .i64 (i : Int)] w6 := fun hM'' => by
        refine ⟨⟨by omega, by omega⟩, ?_, ?_⟩
        · rw [hI]; exact ⟨i + 1, cl', F', G', st', rfl, by omega, hc', hM'', hf'⟩
        · rw [hmu]; simp only [ix]; omega
      refine ⟨by omega, condI (fun _ => CallR.mono (msame_ok hM' hf' (by omega)) ?_) (fun _ => fin hM')⟩
      rintro v w'' ⟨rfl, hk⟩
      exact ⟨_, rfl, condFa2 (fin (hM'.no hk))⟩
    rw [Int.toNat_natCast]
    refine ⟨hrg, nnE2 haq ⟨_, cell hM.kp e0, condI (fun _ => ?_) (fun _ => condI (fun _ => ?_) (fun _ => condI (fun _ => ?_) (fun _ => ?_)))⟩⟩
    · intro w7
      have hk7 : Kept No w6 w7 := Kept.drew _ _
      clear_value w7
      have hM7 := hM.no hk7
      obtain ⟨fn, xs, hrun, hcall⟩ := prg_read hM7.pr hfit (by omega) t2
      refine nnI ⟨_, (MadeO.v0 (W := w1) (F := F) (G := G) (cl := cl) hM7.bk).1, hrg, nnE2 haq ⟨_, cell hM7.kp e1, PrgO.nilS (K := fun _ => _) ⟨fn, xs, _, hrun w7, CallR.mono hcall ?_⟩⟩⟩
      rintro v w9 ⟨a, l, c, F', rfl, ho, hfr, hnF, hpr, g1, hk9⟩
      refine ⟨_, _, _, _, rfl, ?_⟩
      intro w10
      have hk10 : Kept No w9 w10 := Kept.drew _ _
      clear_value w10
      obtain ⟨pg, bk, kp⟩ := hM7.mid hk9
      have pg10 := pg.keep hk10 fun _ _ e => e
      have kp10 := kp.no hk10
      refine nnI ⟨_, (MadeO.v0 (W := w1) (F := F) (G := G) (cl := cl) (bk.keep hk10 fun e => e)).2, hrg, nnE2 haq ⟨_, cell kp10 e1, CallR.mono (pge_read pg10 hfit (by omega) (by omega) t2) ?_⟩⟩
      rintro v w11 ⟨a', l', c', G', rfl, hr', hpg, g2, hk11⟩
      have hpr10 := hpr.keep hk10 fun _ _ e => e
      have hM11 := hM7.both hpr10 g1 (hk9.trans hk10 fun _ _ e => e.elim) hpg g2 hk11 (MSt.read_cells x st t2).1
      have hnG : ∀ z, inA a z → ¬ G z := fun z hz hg => by have := hfr z hz; have := hM7.pg.lt z hg; omega
      have ho10 := ho.keep hk10 fun _ _ e => e
      have ho11 := ho10.keep hk11 hnG
      have hll : l ≤ 140737488355328 := by have := ho.len; have := MSt.read_le st t2; omega
      refine ⟨_, _, _, _, rfl, CallR.mono (same_ok ho11.rd hr' hll) ?_⟩
      rintro v w12 ⟨rfl, hk12, _⟩
      refine ⟨_, rfl, condF (by simp) (nnum_to ⟨_, rfl, condF (by simp) (CallR.mono (spoil_ok (ho11.keep hk12 fun _ _ e => e) hll) ?_)⟩)⟩
      rintro v w14 ⟨rfl, _, hk14⟩
      have hz10 : ∀ z, inA a z → z < w10.heap.size := SlO.lt ho10
      have hM14 := (hM11.no hk12).away hk14 fun z hz => ⟨hnF z hz, fun hg => by
        rcases g2 z hg with e | e
        · exact hnG z hz e
        · have := hz10 z hz; omega, fun e => by have := hfr z hz; have := hM7.bk.lt; omega, by have := hfr z hz; have := hM7.kp.size; omega⟩
      exact ⟨rfl, tail hM14 (hfit.read t2) (by omega)⟩
    · refine ⟨hrg, nnE2 haq ⟨_, _, _, cell hM.kp e3, CallR.mono (copyb_ok (hrd.keep (kW hM.kp) fun _ _ _ e => e) (by omega)) ?_⟩⟩
      rintro v w7 ⟨a, c, rfl, ho, hk7, hfr⟩
      have hM7 := hM.no hk7
      have hnF : ∀ z, inA a z → ¬ F z := fun z hz hg => by have := hfr z hz; have := hM.pr.lt z hg; omega
      have hnG : ∀ z, inA a z → ¬ G z := fun z hz hg => by have := hfr z hz; have := hM.pg.lt z hg; omega
      obtain ⟨fn, xs, hrun, hcall⟩ := prg_write hM7.pr hfit (by omega) ho.rd hnF
      refine ⟨_, _, _, rfl, nnI ⟨_, (MadeO.v0 (W := w1) (F := F) (G := G) (cl := cl) hM7.bk).1, fn, xs, _, hrun w7, CallR.mono hcall ?_⟩⟩
      rintro v w9 ⟨F', rfl, hpr, g1, hk9⟩
      refine ⟨_, _, rfl, ?_⟩
      intro w10
      have hk10 : Kept No w9 w10 := Kept.drew _ _
      clear_value w10
      obtain ⟨pg, bk, kp⟩ := hM7.mid hk9
      have pg10 := pg.keep hk10 fun _ _ e => e
      have kp10 := kp.no hk10
      have hlow : ns ≠ [] → ∀ k, inA da k → k < W.heap.size := fun hne k hk => RdS.old hrd (fun e => hne (By_inj (b := []) e)) k hk
      have hW1 := hk1.size
      refine nnI ⟨_, (MadeO.v0 (W := w1) (F := F) (G := G) (cl := cl) (bk.keep hk10 fun e => e)).2, hrg, nnE2 haq ⟨_, _, _, cell kp10 e3, CallR.mono (pge_write pg10 hfit (by omega) (by omega) (hrd.keep (kW kp10) fun _ _ _ e => e) fun hne k hk hg => by have := hlow hne k hk; have := hM.wg k hg; omega) ?_⟩⟩
      rintro v w11 ⟨G', rfl, hpg, g2, hk11⟩
      have hpr10 := hpr.keep hk10 fun _ _ e => e
      have hM11 := hM7.both hpr10 g1 (hk9.trans hk10 fun _ _ e => e.elim) hpg g2 hk11 (MSt.write_cells x st ns).1
      have ho11 := ((ho.keep hk9 hnF).keep hk10 fun _ _ e => e).keep hk11 hnG
      refine ⟨_, _, rfl, condF (by simp) (nnum_to ⟨_, rfl, condF (by simp) ⟨hrg, nnE2 haq ⟨_, _, _, cell hM11.kp e3, CallR.mono (same_ok ho11.rd (hrd.keep (kW hM11.kp) fun _ _ _ e => e) (by omega)) ?_⟩⟩⟩)⟩
      rintro v w12 ⟨rfl, hk12, _⟩
      refine ⟨_, rfl, condF (by simp) (CallR.mono (spoil_ok (ho11.keep hk12 fun _ _ e => e) (by omega)) ?_)⟩
      rintro v w14 ⟨rfl, _, hk14⟩
      have hz7 : ∀ z, inA a z → z < w7.heap.size := SlO.lt ho
      have hz9 := hk9.size
      have hz10 := hk10.size
      have hM14 := (hM11.no hk12).away hk14 fun z hz => ⟨fun hg => by
        rcases g1 z hg with e | e
        · exact hnF z hz e
        · have := hz7 z hz; omega, fun hg => by
        rcases g2 z hg with e | e
        · exact hnG z hz e
        · have := hz7 z hz; omega, fun e => by have := hfr z hz; have := hM.bk.lt; omega, by have := hfr z hz; have := hM.kp.size; omega⟩
      exact ⟨rfl, tail hM14 (hfit.write ns) (by omega)⟩
    · intro w7
      have hk7 : Kept No w6 w7 := Kept.drew _ _
      clear_value w7
      have hM7 := hM.no hk7
      obtain ⟨fn, xs, hrun, hcall⟩ := prg_seek hM7.pr t2 t3
      refine nnI ⟨_, (MadeO.v0 (W := w1) (F := F) (G := G) (cl := cl) hM7.bk).1, hrg, nnE2 haq ⟨_, cell hM7.kp e1, hrg, nnE2 haq ⟨_, cell hM7.kp e2, PrgO.nilS (K := fun _ => _) ⟨fn, xs, _, hrun w7, CallR.mono hcall ?_⟩⟩⟩⟩
      rintro v w9 ⟨F', rfl, hpr, g1, hk9⟩
      refine ⟨_, _, rfl, ?_⟩
      intro w10
      have hk10 : Kept No w9 w10 := Kept.drew _ _
      clear_value w10
      obtain ⟨pg, bk, kp⟩ := hM7.mid hk9
      have pg10 := pg.keep hk10 fun _ _ e => e
      have kp10 := kp.no hk10
      refine nnI ⟨_, (MadeO.v0 (W := w1) (F := F) (G := G) (cl := cl) (bk.keep hk10 fun e => e)).2, hrg, nnE2 haq ⟨_, cell kp10 e1, hrg, nnE2 haq ⟨_, cell kp10 e2, CallR.mono (pge_seek pg10 t2 t3) ?_⟩⟩⟩
      rintro v w11 ⟨G', rfl, hpg, g2, hk11⟩
      have hpr10 := hpr.keep hk10 fun _ _ e => e
      have hM11 := hM7.both hpr10 g1 (hk9.trans hk10 fun _ _ e => e.elim) hpg g2 hk11 (MSt.seek_cells x st t2 t3).1
      refine ⟨_, _, rfl, condF (by simp) (nnum_to ⟨_, rfl, condF (by simp) (tail hM11 (hfit.seek t2 t3) (by omega))⟩)⟩
    · have hf2 : st.Fit (i + 2) := by
        cases st with
        | sto k b bs room pl => exact trivial
        | cus b rs ws tk => exact ⟨hfit.1, cap_le hfit.2⟩
        | ker gk pk s d =>
          obtain ⟨b0, b1, b2, b3⟩ := hfit
          exact ⟨by omega, by omega, b2, b3⟩
      exact tail hM hf2 (by omega)
  · refine CallR.mono (msame_ok hM hfit (by omega)) ?_
    rintro v w7 ⟨rfl, hk7⟩
    refine ⟨_, rfl, condTr2 (CallR.mono (alive (kW (hM.kp.no hk7))) ?_)⟩
    rintro v w8 ⟨rfl, hk8⟩
    exact ⟨_, rfl, rfl, hk8⟩
end Go.Proofs.YtpoaacnnhgebfaaGreat
set_option maxRecDepth 100000
namespace Go.Proofs.YtpoaacnnhgebfaaGreat.memoryPlays
open Go.Lw Go.ChangeShapes Go.WideShapes Go.RowKit
theorem own : ownKnob Tryz.prog.godebug = none := by kernel_rfl
theorem lifted (os : Os) (started : os.Started) (H : Type) (enc : TypeId × Value → H) (F : Stop.Interp) :
    ReturnsInHanded {} Tryz.checked os 6 .any ((Rows.OpenSpec.upto Rows.memoryPlaysSpec).pre6 enc Tryz.prog Tryz.f6 Rows.memoryPlaysUptoRow.domain false) (((Rows.OpenSpec.upto Rows.memoryPlaysSpec).at F).post enc Tryz.prog Tryz.f6 false true false false) := by
  refine returnsInHanded_of_cond (C := Tryz.checked) (s := Rows.OpenSpec.upto Rows.memoryPlaysSpec) (k := Rows.uptoSmall) rfl own started (by kernel_rfl) Tryz.func6
    (OpenSpec.witness (enc := enc) (C := Tryz.checked) (s := Rows.OpenSpec.upto Rows.memoryPlaysSpec) (k := Rows.uptoSmall) rfl false ⟨#[], #[.agg #[.int .i64 0, .int .i64 0, .slice none 0 0, .slice none 0 0, .slice none 0 0, .slice none 0 0, .slice none 0 0, .int .i64 0, .bool false], .slice none 0 0], []⟩ 8 (by kernel_rfl) (by kernel_rfl) (by kernel_rfl)
      (x := ([.agg [.lit (.int .i64 0), .lit (.int .i64 0), .nil, .nil, .nil, .nil, .nil, .lit (.int .i64 0), .lit (.bool false)], .nil], [], [])) (by kernel_rfl) rfl (by kernel_rfl)) ?_
  intro W base args ds gs before hval hW _ hk _
  exact law_contractU (P := Tryz.prog) (fn := Tryz.f6) (s := Rows.memoryPlaysSpec) (ts := [86, 87]) rfl (by kernel_rfl) (by kernel_rfl) (by kernel_rfl) (tb := 4) rfl Tryz.underlying4 rfl
    (fun ds h => by match ds, h with | [x0, x1], _ => rfl) (fun W args h => walk_memoryPlays (O6 h)) W base args ds gs before hval hW hk
theorem proved : Rows.MemoryPlaysUptoSaid :=
  OpenClaim.holds_of_cond 6 Tryz.f6 rfl rfl rfl rfl rfl rfl rfl ⟨rfl, rfl, rfl, rfl, rfl⟩ rfl rfl rfl rfl rfl (by kernel_rfl) Tryz.func6 (by kernel_rfl)
    (of_decide_eq_true (by kernel_rfl)) (by unfold Func.isWrapper; first | (rw [if_pos (by decide +kernel)]; kernel_rfl) | (rw [if_neg (by decide +kernel)]; exact ⟨rfl, rfl⟩))
    (fun os started H enc _ F => lifted os started H enc F)
end Go.Proofs.YtpoaacnnhgebfaaGreat.memoryPlays
