/-
  Part 6 of 6 of the proof of RetryPlays (the last part has its theorem): the program's functions as they are read, what each does, the law. Conditions: as each says; the theorem's: none.
-/
import Derived.Test.YtpoaacnnhgebfaaGreatRows
import Derived.JoinedOf
import Derived.WalkKit
import Derived.Deep.Quiet
import Derived.OrdersHeld
import Derived.ProofKit
import Derived.SizedLaws
import Derived.Carry
import Derived.OpenShut
import Derived.ChangeSame
import Derived.ChangeArms
import Derived.Deep.Slices
import Derived.Laws.BytesArg
import Derived.Lib.SlBytesConst
import Derived.Test.YtpoaacnnhgebfaaGreatProg
import Derived.RangeFuncIn
import Derived.RangeFuncLeaves
import Derived.RangeFuncRecord
import Derived.TacticsIn
import Derived.MapKept
import Derived.Laws.RangeAny
import Derived.Lib.OthersKept
import Derived.FollowTie
import Derived.Test.YtpoaacnnhgebfaaGreatChecked
import Derived.Shelf.Sort.AssemblysIn
import Derived.Sort.EveryDepth
import Derived.Maps.RangeRun
import Derived.Sort.KeysCollected
import Derived.Sort.OwnSorted
import Derived.Laws.StructEq
import Derived.LaidEql
import Derived.Test.YtpoaacnnhgebfaaGreatKRetryPlays5
set_option linter.unusedVariables false
set_option maxRecDepth 100000
namespace Go.Proofs.YtpoaacnnhgebfaaGreat
open Go.Lw
def L22 (p1 : Option Addr) (p2 : Option Addr) (n3 : Int) (s4 : ByteArray) (n5 : Int) (n6 : Int) (n7 : Int) (b8 : Bool) (a9 : Option Addr) (l9 : Nat) (c9 : Nat) (Q : Value → World → Prop) (w : World) : Prop :=
  let w1 := World.alloc w (Obj.cells #[.int .i64 n3, .string s4, .int .i64 n5, .int .i64 n6, .int .i64 n7, .bool b8, .slice a9 l9 c9] 52);
  ∃ (J10 : List Value → World → Prop),
  (∃ (n11 : Int), w1.cell? (Addr.mk w.heap.size 0 none) = some ((.int .i64 n11 : Value)) ∧
  cond (n11 == 0)
  (∃ (s12 : ByteArray), w1.cell? (Addr.mk w.heap.size 1 none) = some ((.string s12 : Value)) ∧
  ∃ (n13 : Int), w1.cell? (Addr.mk w.heap.size 2 none) = some ((.int .i64 n13 : Value)) ∧
  CallR Tryz.prog 91 [.pointer p1, .string s12, .int .i64 n13] w1 (fun (r16 : Value) (w2 : World) =>
  ∃ (n14 : Int) (n15 : Int), r16 = .tuple #[.int .i64 n14, .int .i64 n15] ∧
  ∃ (s17 : ByteArray), w2.cell? (Addr.mk w.heap.size 1 none) = some ((.string s17 : Value)) ∧
  ∃ (n18 : Int), w2.cell? (Addr.mk w.heap.size 2 none) = some ((.int .i64 n18 : Value)) ∧
  CallR Tryz.prog 97 [.pointer p2, .string s17, .int .i64 n18] w2 (fun (r21 : Value) (w3 : World) =>
  ∃ (n19 : Int) (n20 : Int), r21 = .tuple #[.int .i64 n19, .int .i64 n20] ∧
  cond (n14 == n19)
  (CallR Tryz.prog 16 [.int .i64 n15] w3 (fun (r23 : Value) (w4 : World) =>
  ∃ (n22 : Int), r23 = .int .i64 n22 ∧
  Q (.bool (n22 == n20)) w4))
  (Q (.bool false) w3))))
  (cond (n11 == 1)
  (CallR Tryz.prog 98 [.pointer p1] w1 (fun (r27 : Value) (w5 : World) =>
  ∃ (n24 : Int) (n25 : Int) (n26 : Int), r27 = .tuple #[.int .i64 n24, .int .i64 n25, .int .i64 n26] ∧
  CallR Tryz.prog 99 [.pointer p2] w5 (fun (r31 : Value) (w6 : World) =>
  ∃ (n28 : Int) (n29 : Int) (n30 : Int), r31 = .tuple #[.int .i64 n28, .int .i64 n29, .int .i64 n30] ∧
  cond (n24 == n28)
  (cond (n25 == n29)
  (CallR Tryz.prog 16 [.int .i64 n26] w6 (fun (r33 : Value) (w7 : World) =>
  ∃ (n32 : Int), r33 = .int .i64 n32 ∧
  Q (.bool (n32 == n30)) w7))
  (Q (.bool false) w6))
  (Q (.bool false) w6))))
  (cond (n11 == 2)
  (∃ (n34 : Int), w1.cell? (Addr.mk w.heap.size 2 none) = some ((.int .i64 n34 : Value)) ∧
  CallR Tryz.prog 100 [.pointer p1, .int .i64 n34] w1 (fun (r37 : Value) (w8 : World) =>
  ∃ (n35 : Int) (n36 : Int), r37 = .tuple #[.int .i64 n35, .int .i64 n36] ∧
  ∃ (n38 : Int), w8.cell? (Addr.mk w.heap.size 2 none) = some ((.int .i64 n38 : Value)) ∧
  CallR Tryz.prog 101 [.pointer p2, .int .i64 n38] w8 (fun (r41 : Value) (w9 : World) =>
  ∃ (n39 : Int) (n40 : Int), r41 = .tuple #[.int .i64 n39, .int .i64 n40] ∧
  cond (n35 == n39)
  (CallR Tryz.prog 16 [.int .i64 n36] w9 (fun (r43 : Value) (w10 : World) =>
  ∃ (n42 : Int), r43 = .int .i64 n42 ∧
  Q (.bool (n42 == n40)) w10))
  (Q (.bool false) w9))))
  (cond (n11 == 3)
  (∃ (S44 : World → Prop), S44 (World.drew w1) ∧
  let w11 := World.drew w1;
  ∃ (n45 : Int), (∀ wS : World, S44 wS → wS.cell? (Addr.mk w.heap.size 2 none) = some ((.int .i64 n45 : Value))) ∧
  ∃ (n46 : Int), (∀ wS : World, S44 wS → wS.cell? (Addr.mk w.heap.size 2 none) = some ((.int .i64 n46 : Value))) ∧
  CallR Tryz.prog 93 [.pointer p1, .int .i64 n45] w11 (fun (r48 : Value) (w12 : World) =>
  ∃ (n47 : Int), r48 = .int .i64 n47 ∧
  S44 w12 ∧
  CallR Tryz.prog 16 [.int .i64 n47] w12 (fun (r50 : Value) (w13 : World) =>
  ∃ (n49 : Int), r50 = .int .i64 n49 ∧
  S44 w13 ∧
  CallR Tryz.prog 102 [.pointer p2, .int .i64 n46] w13 (fun (r52 : Value) (w14 : World) =>
  ∃ (n51 : Int), r52 = .int .i64 n51 ∧
  Q (.bool (n49 == n51)) w14))))
  (cond (n11 == 4)
  (∃ (n53 : Int), w1.cell? (Addr.mk w.heap.size 2 none) = some ((.int .i64 n53 : Value)) ∧
  CallR Tryz.prog 92 [.pointer p1, .int .i64 n53] w1 (fun (r56 : Value) (w15 : World) =>
  ∃ (n54 : Int) (n55 : Int), r56 = .tuple #[.int .i64 n54, .int .i64 n55] ∧
  ∃ (n57 : Int), w15.cell? (Addr.mk w.heap.size 2 none) = some ((.int .i64 n57 : Value)) ∧
  CallR Tryz.prog 103 [.pointer p2, .int .i64 n57] w15 (fun (r60 : Value) (w16 : World) =>
  ∃ (n58 : Int) (n59 : Int), r60 = .tuple #[.int .i64 n58, .int .i64 n59] ∧
  cond (n54 == n58)
  (CallR Tryz.prog 16 [.int .i64 n55] w16 (fun (r62 : Value) (w17 : World) =>
  ∃ (n61 : Int), r62 = .int .i64 n61 ∧
  Q (.bool (n61 == n59)) w17))
  (Q (.bool false) w16))))
  (cond (n11 == 5)
  (∃ (S63 : World → Prop), S63 (World.drew w1) ∧
  let w18 := World.drew w1;
  ∃ (n64 : Int), (∀ wS : World, S63 wS → wS.cell? (Addr.mk w.heap.size 2 none) = some ((.int .i64 n64 : Value))) ∧
  ∃ (n65 : Int), (∀ wS : World, S63 wS → wS.cell? (Addr.mk w.heap.size 3 none) = some ((.int .i64 n65 : Value))) ∧
  ∃ (n66 : Int), (∀ wS : World, S63 wS → wS.cell? (Addr.mk w.heap.size 2 none) = some ((.int .i64 n66 : Value))) ∧
  ∃ (n67 : Int), (∀ wS : World, S63 wS → wS.cell? (Addr.mk w.heap.size 3 none) = some ((.int .i64 n67 : Value))) ∧
  CallR Tryz.prog 94 [.pointer p1, .int .i64 n64, .int .i64 n65] w18 (fun (r69 : Value) (w19 : World) =>
  ∃ (n68 : Int), r69 = .int .i64 n68 ∧
  S63 w19 ∧
  CallR Tryz.prog 16 [.int .i64 n68] w19 (fun (r71 : Value) (w20 : World) =>
  ∃ (n70 : Int), r71 = .int .i64 n70 ∧
  S63 w20 ∧
  CallR Tryz.prog 104 [.pointer p2, .int .i64 n66, .int .i64 n67] w20 (fun (r73 : Value) (w21 : World) =>
  ∃ (n72 : Int), r73 = .int .i64 n72 ∧
  Q (.bool (n70 == n72)) w21))))
  (cond (n11 == 6)
  (∃ (S74 : World → Prop), S74 (World.drew w1) ∧
  let w22 := World.drew w1;
  ∃ (n75 : Int), (∀ wS : World, S74 wS → wS.cell? (Addr.mk w.heap.size 2 none) = some ((.int .i64 n75 : Value))) ∧
  ∃ (b76 : Bool), (∀ wS : World, S74 wS → wS.cell? (Addr.mk w.heap.size 5 none) = some ((.bool b76 : Value))) ∧
  ∃ (n77 : Int), (∀ wS : World, S74 wS → wS.cell? (Addr.mk w.heap.size 2 none) = some ((.int .i64 n77 : Value))) ∧
  ∃ (b78 : Bool), (∀ wS : World, S74 wS → wS.cell? (Addr.mk w.heap.size 5 none) = some ((.bool b78 : Value))) ∧
  CallR Tryz.prog 95 [.pointer p1, .int .i64 n75, .bool b76] w22 (fun (r80 : Value) (w23 : World) =>
  ∃ (n79 : Int), r80 = .int .i64 n79 ∧
  S74 w23 ∧
  CallR Tryz.prog 16 [.int .i64 n79] w23 (fun (r82 : Value) (w24 : World) =>
  ∃ (n81 : Int), r82 = .int .i64 n81 ∧
  S74 w24 ∧
  CallR Tryz.prog 105 [.pointer p2, .int .i64 n77, .bool b78] w24 (fun (r84 : Value) (w25 : World) =>
  ∃ (n83 : Int), r84 = .int .i64 n83 ∧
  Q (.bool (n81 == n83)) w25))))
  (cond (n11 == 7)
  (∃ (n85 : Int), w1.cell? (Addr.mk w.heap.size 2 none) = some ((.int .i64 n85 : Value)) ∧
  ∃ (n86 : Int), w1.cell? (Addr.mk w.heap.size 3 none) = some ((.int .i64 n86 : Value)) ∧
  CallR Tryz.prog 106 [.pointer p1, .int .i64 n85, .int .i64 n86] w1 (fun (r89 : Value) (w26 : World) =>
  ∃ (a87 : Option Addr) (l87 : Nat) (c87 : Nat) (n88 : Int), r89 = .tuple #[.slice a87 l87 c87, .int .i64 n88] ∧
  ∃ (n90 : Int), w26.cell? (Addr.mk w.heap.size 2 none) = some ((.int .i64 n90 : Value)) ∧
  ∃ (n91 : Int), w26.cell? (Addr.mk w.heap.size 3 none) = some ((.int .i64 n91 : Value)) ∧
  CallR Tryz.prog 107 [.pointer p2, .int .i64 n90, .int .i64 n91] w26 (fun (r94 : Value) (w27 : World) =>
  ∃ (a92 : Option Addr) (l92 : Nat) (c92 : Nat) (n93 : Int), r94 = .tuple #[.slice a92 l92 c92, .int .i64 n93] ∧
  CallR Tryz.prog 39 [.slice a87 l87 c87, .slice a92 l92 c92] w27 (fun (r96 : Value) (w28 : World) =>
  ∃ (b95 : Bool), r96 = .bool b95 ∧
  cond b95
  (CallR Tryz.prog 16 [.int .i64 n88] w28 (fun (r98 : Value) (w29 : World) =>
  ∃ (n97 : Int), r98 = .int .i64 n97 ∧
  Q (.bool (n97 == n93)) w29))
  (Q (.bool false) w28)))))
  (cond (n11 == 8)
  (∃ (n99 : Int), w1.cell? (Addr.mk w.heap.size 2 none) = some ((.int .i64 n99 : Value)) ∧
  ∃ (a100 : Option Addr) (l100 : Nat) (c100 : Nat), w1.cell? (Addr.mk w.heap.size 6 none) = some ((.slice a100 l100 c100 : Value)) ∧
  CallR Tryz.prog 108 [.pointer p1, .int .i64 n99, .slice a100 l100 c100] w1 (fun (r103 : Value) (w30 : World) =>
  ∃ (n101 : Int) (n102 : Int), r103 = .tuple #[.int .i64 n101, .int .i64 n102] ∧
  ∃ (n104 : Int), w30.cell? (Addr.mk w.heap.size 2 none) = some ((.int .i64 n104 : Value)) ∧
  ∃ (a105 : Option Addr) (l105 : Nat) (c105 : Nat), w30.cell? (Addr.mk w.heap.size 6 none) = some ((.slice a105 l105 c105 : Value)) ∧
  CallR Tryz.prog 109 [.pointer p2, .int .i64 n104, .slice a105 l105 c105] w30 (fun (r108 : Value) (w31 : World) =>
  ∃ (n106 : Int) (n107 : Int), r108 = .tuple #[.int .i64 n106, .int .i64 n107] ∧
  cond (n101 == n106)
  (CallR Tryz.prog 16 [.int .i64 n102] w31 (fun (r110 : Value) (w32 : World) =>
  ∃ (n109 : Int), r110 = .int .i64 n109 ∧
  Q (.bool (n109 == n107)) w32))
  (Q (.bool false) w31))))
  (cond (n11 == 9)
  (∃ (n111 : Int), w1.cell? (Addr.mk w.heap.size 2 none) = some ((.int .i64 n111 : Value)) ∧
  ∃ (n112 : Int), w1.cell? (Addr.mk w.heap.size 3 none) = some ((.int .i64 n112 : Value)) ∧
  ∃ (n113 : Int), w1.cell? (Addr.mk w.heap.size 4 none) = some ((.int .i64 n113 : Value)) ∧
  CallR Tryz.prog 110 [.pointer p1, .int .i64 n111, .int .i64 n112, .int .i64 n113] w1 (fun (r116 : Value) (w33 : World) =>
  ∃ (n114 : Int) (n115 : Int), r116 = .tuple #[.int .i64 n114, .int .i64 n115] ∧
  ∃ (n117 : Int), w33.cell? (Addr.mk w.heap.size 2 none) = some ((.int .i64 n117 : Value)) ∧
  ∃ (n118 : Int), w33.cell? (Addr.mk w.heap.size 3 none) = some ((.int .i64 n118 : Value)) ∧
  ∃ (n119 : Int), w33.cell? (Addr.mk w.heap.size 4 none) = some ((.int .i64 n119 : Value)) ∧
  CallR Tryz.prog 111 [.pointer p2, .int .i64 n117, .int .i64 n118, .int .i64 n119] w33 (fun (r122 : Value) (w34 : World) =>
  ∃ (n120 : Int) (n121 : Int), r122 = .tuple #[.int .i64 n120, .int .i64 n121] ∧
  cond (n114 == n120)
  (CallR Tryz.prog 16 [.int .i64 n115] w34 (fun (r124 : Value) (w35 : World) =>
  ∃ (n123 : Int), r124 = .int .i64 n123 ∧
  Q (.bool (n123 == n121)) w35))
  (Q (.bool false) w34))))
  (cond (n11 == 11)
  (CallR Tryz.prog 112 [.pointer p1] w1 (fun (r125 : Value) (w36 : World) =>
  r125 = .tuple #[] ∧
  CallR Tryz.prog 113 [.pointer p2] w36 (fun (r126 : Value) (w37 : World) =>
  r126 = .tuple #[] ∧
  J10 [] w37)))
  (J10 [] w1)))))))))))) ∧
  (∀ (_ : Env) (w38 : World), J10 [] w38 →
  ∃ (n127 : Int), w38.cell? (Addr.mk w.heap.size 2 none) = some ((.int .i64 n127 : Value)) ∧
  CallR Tryz.prog 114 [.pointer p1, .int .i64 n127] w38 (fun (r130 : Value) (w39 : World) =>
  ∃ (b128 : Bool) (n129 : Int), r130 = .tuple #[.bool b128, .int .i64 n129] ∧
  ∃ (n131 : Int), w39.cell? (Addr.mk w.heap.size 2 none) = some ((.int .i64 n131 : Value)) ∧
  CallR Tryz.prog 115 [.pointer p2, .int .i64 n131] w39 (fun (r134 : Value) (w40 : World) =>
  ∃ (b132 : Bool) (n133 : Int), r134 = .tuple #[.bool b132, .int .i64 n133] ∧
  ∃ (n135 : Int), w40.cell? (Addr.mk w.heap.size 2 none) = some ((.int .i64 n135 : Value)) ∧
  CallR Tryz.prog 116 [.pointer p1, .int .i64 n135] w40 (fun (r138 : Value) (w41 : World) =>
  ∃ (n136 : Int) (n137 : Int), r138 = .tuple #[.int .i64 n136, .int .i64 n137] ∧
  ∃ (n139 : Int), w41.cell? (Addr.mk w.heap.size 2 none) = some ((.int .i64 n139 : Value)) ∧
  CallR Tryz.prog 117 [.pointer p2, .int .i64 n139] w41 (fun (r142 : Value) (w42 : World) =>
  ∃ (n140 : Int) (n141 : Int), r142 = .tuple #[.int .i64 n140, .int .i64 n141] ∧
  cond (b128 == b132)
  (CallR Tryz.prog 16 [.int .i64 n129] w42 (fun (r144 : Value) (w43 : World) =>
  ∃ (n143 : Int), r144 = .int .i64 n143 ∧
  cond (n143 == n133)
  (cond (n136 == n140)
  (CallR Tryz.prog 16 [.int .i64 n137] w43 (fun (r146 : Value) (w44 : World) =>
  ∃ (n145 : Int), r146 = .int .i64 n145 ∧
  Q (.bool (n145 == n141)) w44))
  (Q (.bool false) w43))
  (Q (.bool false) w43)))
  (Q (.bool false) w42))))))
end Go.Proofs.YtpoaacnnhgebfaaGreat
set_option maxRecDepth 512
namespace Go.Proofs.YtpoaacnnhgebfaaGreat
open Go.Lw
def TabC (cur : Array Value) (gk : Nat) (sl : List (Int × Bool)) : Prop :=
  cur.size = 129 ∧ sl.length = 64 ∧ cur[0]? = some (pd gk) ∧ ∀ i, (h : i < sl.length) → cur[1 + i * 2]? = some (.int .i64 sl[i].1) ∧ cur[1 + i * 2 + 1]? = some (.bool sl[i].2)
def TabO (w : World) (t gk : Nat) (sl : List (Int × Bool)) : Prop := ∃ cur, Blk w t cur ∧ TabC cur gk sl
theorem TabO.keep {w w' : World} {t gk : Nat} {sl : List (Int × Bool)} (h : TabO w t gk sl) {S : Nat → Prop} (k : Kept S w w') (hn : ¬ S t) : TabO w' t gk sl := by
  obtain ⟨cur, hb, hc⟩ := h; exact ⟨cur, hb.keep k hn, hc⟩
theorem TabO.lt {w : World} {t gk : Nat} {sl : List (Int × Bool)} (h : TabO w t gk sl) : t < w.heap.size := by
  obtain ⟨cur, hb, hc⟩ := h; exact hb.lt
theorem TabO.len {w : World} {t gk : Nat} {sl : List (Int × Bool)} (h : TabO w t gk sl) : sl.length = 64 := by
  obtain ⟨cur, hb, hc⟩ := h; exact hc.2.1
theorem TabO.at0 {w : World} {t gk : Nat} {sl : List (Int × Bool)} (h : TabO w t gk sl) : w.cell? ⟨t, 0, none⟩ = some (pd gk) := by
  obtain ⟨cur, hb, hc⟩ := h; exact hb.at0 hc.2.2.1
theorem tadd (t i : Nat) : ((⟨t, 0, none⟩ : Addr).add 1).add (i * 2) = ⟨t, 1 + i * 2, none⟩ := by rw [Lw.add_add, add_none, Nat.zero_add]
theorem tadd1 (t i : Nat) : (((⟨t, 0, none⟩ : Addr).add 1).add (i * 2)).add 1 = ⟨t, 1 + i * 2 + 1, none⟩ := by rw [tadd, add_none]
theorem TabO.desc {w : World} {t gk : Nat} {sl : List (Int × Bool)} (h : TabO w t gk sl) {i : Nat} (hi : i < sl.length) : w.cell? (((⟨t, 0, none⟩ : Addr).add 1).add (i * 2)) = some (.int .i64 sl[i].1) := by
  obtain ⟨cur, hb, hc⟩ := h
  rw [tadd, hb.cell]; exact (hc.2.2.2 i hi).1
theorem TabO.stD {w : World} {t gk : Nat} {sl : List (Int × Bool)} (h : TabO w t gk sl) {i : Nat} (hi : i < sl.length) {d : Int} {K : World → Prop} (hk : ∀ w', TabO w' t gk (sl.set i (d, sl[i].2)) → Kept (· = t) w w' → w'.heap.size = w.heap.size → K w') :
    stC (((⟨t, 0, none⟩ : Addr).add 1).add (i * 2)) (.int .i64 d) w K := by
  obtain ⟨cur, hb, h1, h2, h3, h4⟩ := h
  rw [tadd]
  refine stC_blk hb (by omega) fun w' hb' hk' hs' => hk w' ⟨_, hb', by simpa using h1, by simpa using h2, ?_, fun j hj => ?_⟩ hk' hs'
  · rw [Array.getElem?_setIfInBounds_ne (by omega)]; exact h3
  · rw [List.length_set] at hj
    obtain ⟨g1, g2⟩ := h4 j hj
    rw [List.getElem_set]
    by_cases e : i = j
    · subst e
      rw [if_pos rfl, Array.getElem?_setIfInBounds_self_of_lt (by omega), Array.getElem?_setIfInBounds_ne (by omega)]
      exact ⟨rfl, g2⟩
    · rw [if_neg e, Array.getElem?_setIfInBounds_ne (by omega), Array.getElem?_setIfInBounds_ne (by omega)]
      exact ⟨g1, g2⟩
theorem TabO.stM {w : World} {t gk : Nat} {sl : List (Int × Bool)} (h : TabO w t gk sl) {i : Nat} (hi : i < sl.length) {m : Bool} {K : World → Prop} (hk : ∀ w', TabO w' t gk (sl.set i (sl[i].1, m)) → Kept (· = t) w w' → w'.heap.size = w.heap.size → K w') :
    stC ((((⟨t, 0, none⟩ : Addr).add 1).add (i * 2)).add 1) (.bool m) w K := by
  obtain ⟨cur, hb, h1, h2, h3, h4⟩ := h
  rw [tadd1]
  refine stC_blk hb (by omega) fun w' hb' hk' hs' => hk w' ⟨_, hb', by simpa using h1, by simpa using h2, ?_, fun j hj => ?_⟩ hk' hs'
  · rw [Array.getElem?_setIfInBounds_ne (by omega)]; exact h3
  · rw [List.length_set] at hj
    obtain ⟨g1, g2⟩ := h4 j hj
    rw [List.getElem_set]
    by_cases e : i = j
    · subst e
      rw [if_pos rfl, Array.getElem?_setIfInBounds_ne (by omega), Array.getElem?_setIfInBounds_self_of_lt (by omega)]
      exact ⟨g1, rfl⟩
    · rw [if_neg e, Array.getElem?_setIfInBounds_ne (by omega), Array.getElem?_setIfInBounds_ne (by omega)]
      exact ⟨g1, g2⟩
theorem TabO.st {w : World} {t gk : Nat} {sl : List (Int × Bool)} (h : TabO w t gk sl) {i : Nat} (hi : i < sl.length) {d : Int} {m : Bool} {K : World → Prop} (hk : ∀ w', TabO w' t gk (sl.set i (d, m)) → Kept (· = t) w w' → w'.heap.size = w.heap.size → K w') :
    stC (((⟨t, 0, none⟩ : Addr).add 1).add (i * 2)) (.int .i64 d) w fun w1 => stC ((((⟨t, 0, none⟩ : Addr).add 1).add (i * 2)).add 1) (.bool m) w1 K :=
  h.stD hi fun w1 h1 hk1 hs1 => h1.stM (by rw [List.length_set]; exact hi) fun w2 h2 hk2 hs2 => hk w2 (by
    rw [List.set_set] at h2
    simpa using h2) (hk1.trans hk2 fun _ _ e => e) (by omega)
theorem TabO.all {w : World} {t gk : Nat} {sl : List (Int × Bool)} (h : TabO w t gk sl) : ∃ vs : List Value, vs.length = 128 ∧ (∀ i v, vs[i]? = some v → w.cell? (((⟨t, 0, none⟩ : Addr).add 1).add i) = some v) ∧
    ∀ i, (hi : i < sl.length) → List.take 2 (List.drop (i * 2) (Array.toList vs.toArray)) = [.int .i64 sl[i].1, .bool sl[i].2] := by
  obtain ⟨cur, hb, h1, h2, h3, h4⟩ := h
  refine ⟨cur.toList.drop 1, by rw [List.length_drop, Array.length_toList, h1], fun i v hv => ?_, fun i hi => ?_⟩
  · rw [Lw.add_add, add_none, Nat.zero_add, hb.cell]
    rw [List.getElem?_drop] at hv
    simpa using hv
  · obtain ⟨g1, g2⟩ := h4 i hi
    apply List.ext_getElem?
    intro j
    rw [List.getElem?_take]
    match j with
    | 0 => rw [if_pos (by omega)]; simpa [Nat.add_comm] using g1
    | 1 => rw [if_pos (by omega)]; simpa [Nat.add_comm, Nat.add_left_comm, Nat.add_assoc] using g2
    | j + 2 => rw [if_neg (by omega)]; simp
end Go.Proofs.YtpoaacnnhgebfaaGreat
namespace Go.Proofs.YtpoaacnnhgebfaaGreat
open Go.Lw
structure TStep (t : Nat) (w w' : World) (L L' : KL) : Prop where
  kept : Kept (fun z => L.own z ≠ none ∨ z = t) w w'
  grew : ∀ z, L'.own z ≠ none → L.own z ≠ none ∨ w.heap.size ≤ z
theorem TStep.refl (t : Nat) (w : World) (L : KL) : TStep t w w L L := ⟨Kept.refl _ _, fun _ h => .inl h⟩
theorem TStep.of_no {t : Nat} {w w' : World} {L : KL} (k : Kept No w w') : TStep t w w' L L := ⟨k.mono fun _ _ e => e.elim, fun _ h => .inl h⟩
theorem TStep.of_k {t : Nat} {w w' : World} {L L' : KL} (k : KStep w w' L L') : TStep t w w' L L' := ⟨k.kept.mono fun _ _ e => .inl e, k.grew⟩
theorem TStep.of_t {t : Nat} {w w' : World} {L : KL} (k : Kept (· = t) w w') : TStep t w w' L L := ⟨k.mono fun _ _ e => .inr e, fun _ h => .inl h⟩
theorem TStep.trans {t : Nat} {w w1 w2 : World} {L L1 L2 : KL} (h : TStep t w w1 L L1) (k : TStep t w1 w2 L1 L2) : TStep t w w2 L L2 :=
  ⟨h.kept.trans k.kept fun x hx e => by
    rcases e with e | e
    · rcases h.grew x e with e | e
      · exact .inl e
      · omega
    · exact .inr e, fun z hz => by
    rcases k.grew z hz with e | e
    · exact h.grew z e
    · exact .inr (Nat.le_trans h.kept.size e)⟩
theorem TStep.own {t : Nat} {w w' : World} {L L' : KL} (h : TStep t w w' L L') {z : Nat} (hz : L.own z = none) (hl : z < w.heap.size) : L'.own z = none := by
  cases ho : L'.own z with
  | none => rfl
  | some x =>
    exfalso
    rcases h.grew z (by rw [ho]; simp) with e | e
    · exact e hz
    · omega
theorem KStep.own' {w w' : World} {L L' : KL} (h : KStep w w' L L') {z : Nat} (hz : L.own z = none) (hl : z < w.heap.size) : L'.own z = none := (TStep.of_k (t := 0) h).own hz hl
theorem TabO.step {w w' : World} {t gk : Nat} {sl : List (Int × Bool)} {L L' : KL} (h : TabO w t gk sl) (hn : L.own t = none) (st : KStep w w' L L') : TabO w' t gk sl := h.keep st.kept fun e => e hn
end Go.Proofs.YtpoaacnnhgebfaaGreat
namespace Go.Proofs.YtpoaacnnhgebfaaGreat
open Go.Lw
end Go.Proofs.YtpoaacnnhgebfaaGreat
namespace Go.Proofs.YtpoaacnnhgebfaaGreat
open Go.Lw
def nA : ByteArray := ByteArray.mk #[97]
def nB : ByteArray := ByteArray.mk #[98]
def fs7 : List (ByteArray × List Int) := [(nA, []), (nB, [])]
def a7 : AK := AK.new fs7 [] []
theorem KernO.keepT {w w' : World} {gk t : Nat} {s : AK} {L : KL} (h : KernO w gk s L) (hn : L.own t = none) (k : Kept (· = t) w w') : KernO w' gk s L := h.keep k fun x e => by rw [e]; exact hn
end Go.Proofs.YtpoaacnnhgebfaaGreat
namespace Go.Proofs.YtpoaacnnhgebfaaGreat
open Go.Lw
theorem Fv_get? : ∀ (ps : List (Int × Int)) (i : Nat) (v : Value), (Fv ps)[i]? = some v → ∃ (j : Nat) (hj : j < ps.length), (i = j * 2 ∧ v = .int .i64 ps[j].1) ∨ (i = j * 2 + 1 ∧ v = .int .i64 ps[j].2)
  | [], i, v, h => by simp [Fv] at h
  | p :: r, 0, v, h => by
    have h : some (Value.int .i64 p.1) = some v := h
    simp only [Option.some.injEq] at h
    exact ⟨0, by simp, .inl ⟨rfl, h.symm⟩⟩
  | p :: r, 1, v, h => by
    have h : some (Value.int .i64 p.2) = some v := h
    simp only [Option.some.injEq] at h
    exact ⟨0, by simp, .inr ⟨rfl, h.symm⟩⟩
  | p :: r, i + 2, v, h => by
    have h : (Fv r)[i]? = some v := h
    obtain ⟨j, hj, h⟩ := Fv_get? r i v h
    refine ⟨j + 1, by simpa using hj, ?_⟩
    rcases h with ⟨h1, h2⟩ | ⟨h1, h2⟩
    · exact .inl ⟨by omega, h2⟩
    · exact .inr ⟨by omega, h2⟩
theorem rdF_of_view {W : World} {a : Option Addr} {l c : Nat} (hlc : l ≤ c) (hz : a = none → c = 0)
    (h : ∀ q : Addr, a = some q → ∀ i : Nat, i < l → ∃ n1, (Lit.int .i64 n1).wf = true ∧ ∃ n2, (Lit.int .i64 n2).wf = true ∧ W.cell? (q.add (i * 2)) = some (.int .i64 n1) ∧ W.cell? ((q.add (i * 2)).add 1) = some (.int .i64 n2) ∧ True) :
    ∃ ps : List (Int × Int), RdS 2 W a l c (Fv ps) ∧ ps.length = l := by
  cases a with
  | none =>
    have := hz rfl
    obtain rfl : l = 0 := by omega
    subst this
    exact ⟨[], RdS.nil 2 _, rfl⟩
  | some q =>
    obtain ⟨f, hf⟩ := Deep.choose_lt (α := Int × Int) (n := l) (p := fun i x => W.cell? (q.add (i * 2)) = some (.int .i64 x.1) ∧ W.cell? ((q.add (i * 2)).add 1) = some (.int .i64 x.2)) (fun i hi => by
      obtain ⟨n1, _, n2, _, h1, h2, _⟩ := h q rfl i hi
      exact ⟨(n1, n2), h1, h2⟩)
    refine ⟨(List.range l).map f, ⟨by rw [Fv_len]; simp, hlc, (fun h => by cases h), fun ad had i v hi => ?_⟩, by simp⟩
    cases had
    obtain ⟨j, hj, h⟩ := Fv_get? _ i v hi
    have hj' : j < l := by simpa using hj
    rcases h with ⟨rfl, rfl⟩ | ⟨rfl, rfl⟩
    · have := (hf j hj').1; simpa using this
    · have := (hf j hj').2; rw [Lw.add_add] at this; simpa using this
theorem Nv_get? : ∀ (es : List (ByteArray × Slc)) (i : Nat) (v : Value), (Nv es)[i]? = some v → ∃ (j : Nat) (hj : j < es.length), (i = j * 2 ∧ v = .string es[j].1) ∨ (i = j * 2 + 1 ∧ v = .slice es[j].2.1 es[j].2.2.1 es[j].2.2.2)
  | [], i, v, h => by simp [Nv] at h
  | p :: r, 0, v, h => by
    have h : some (Value.string p.1) = some v := h
    simp only [Option.some.injEq] at h
    exact ⟨0, by simp, .inl ⟨rfl, h.symm⟩⟩
  | p :: r, 1, v, h => by
    have h : some (Value.slice p.2.1 p.2.2.1 p.2.2.2) = some v := h
    simp only [Option.some.injEq] at h
    exact ⟨0, by simp, .inr ⟨rfl, h.symm⟩⟩
  | p :: r, i + 2, v, h => by
    have h : (Nv r)[i]? = some v := h
    obtain ⟨j, hj, h⟩ := Nv_get? r i v h
    refine ⟨j + 1, by simpa using hj, ?_⟩
    rcases h with ⟨h1, h2⟩ | ⟨h1, h2⟩
    · exact .inl ⟨by omega, h2⟩
    · exact .inr ⟨by omega, h2⟩
theorem rdN_of {α : Type} [Inhabited α] {R : World → Slc → α → Prop} {B : α → Prop} {W : World} {a : Option Addr} {l c : Nat} (hlc : l ≤ c) (hz : a = none → c = 0)
    (h : ∀ q : Addr, a = some q → ∀ i : Nat, i < l → ∃ (s : ByteArray) (sl : Slc) (x : α), R W sl x ∧ B x ∧ W.cell? (q.add (i * 2)) = some (.string s) ∧ W.cell? ((q.add (i * 2)).add 1) = some (.slice sl.1 sl.2.1 sl.2.2)) :
    ∃ fs es, RdN R W a l c fs es ∧ fs.length = l ∧ ∀ f ∈ fs, B f.2 := by
  cases a with
  | none =>
    have := hz rfl
    obtain rfl : l = 0 := by omega
    subst this
    exact ⟨[], [], ⟨RdS.nil 2 _, rfl, fun i h => by simp at h⟩, rfl, by simp⟩
  | some q =>
    haveI : Inhabited ByteArray := ⟨ByteArray.mk #[]⟩
    obtain ⟨f, hf⟩ := Deep.choose_lt (α := ByteArray × Slc × α) (n := l) (p := fun i x => R W x.2.1 x.2.2 ∧ B x.2.2 ∧ W.cell? (q.add (i * 2)) = some (.string x.1) ∧ W.cell? ((q.add (i * 2)).add 1) = some (.slice x.2.1.1 x.2.1.2.1 x.2.1.2.2)) (fun i hi => by
      obtain ⟨s, sl, x, h1, h2, h3, h4⟩ := h q rfl i hi
      exact ⟨(s, sl, x), h1, h2, h3, h4⟩)
    refine ⟨(List.range l).map fun i => ((f i).1, (f i).2.2), (List.range l).map fun i => ((f i).1, (f i).2.1), ⟨⟨by rw [Nv_len]; simp, hlc, (fun h => by cases h), fun ad had i v hi => ?_⟩, by simp, fun i h1 h2 => ?_⟩, by simp, fun x hx => ?_⟩
    · cases had
      obtain ⟨j, hj, h⟩ := Nv_get? _ i v hi
      have hj' : j < l := by simpa using hj
      rcases h with ⟨rfl, rfl⟩ | ⟨rfl, rfl⟩
      · have := (hf j hj').2.2.1; simpa using this
      · have := (hf j hj').2.2.2; rw [Lw.add_add] at this; simpa using this
    · have hi : i < l := by simpa using h1
      simp only [List.getElem_map, List.getElem_range]
      exact ⟨trivial, (hf i hi).1⟩
    · obtain ⟨i, hi, rfl⟩ := List.mem_map.1 hx
      exact (hf i (List.mem_range.1 hi)).2.1
end Go.Proofs.YtpoaacnnhgebfaaGreat
namespace Go.Proofs.YtpoaacnnhgebfaaGreat
open Go.Lw
structure SV where
  what : Int
  nm : ByteArray
  a : Int
  b : Int
  c : Int
  sl : Slc
  bs : List Int
instance : Inhabited SV := ⟨⟨0, ByteArray.mk #[], 0, 0, 0, (none, 0, 0), []⟩⟩
structure SVat (w : World) (q : Addr) (x : SV) : Prop where
  e0 : w.cell? q = some (.int .i64 x.what)
  e1 : w.cell? (q.add 1) = some (.string x.nm)
  e2 : w.cell? (q.add 2) = some (.int .i64 x.a)
  e3 : w.cell? (q.add 3) = some (.int .i64 x.b)
  e4 : w.cell? (q.add 4) = some (.int .i64 x.c)
  e5 : w.cell? (q.add 5) = some (.slice x.sl.1 x.sl.2.1 x.sl.2.2)
  rd : RdB w x.sl.1 x.sl.2.1 x.sl.2.2 x.bs
  le : x.sl.2.1 ≤ 140737488351232
theorem SVat.no {w w' : World} {q : Addr} {x : SV} (h : SVat w q x) (k : Kept No w w') : SVat w' q x :=
  ⟨k.cell h.e0 fun e => e, k.cell h.e1 fun e => e, k.cell h.e2 fun e => e, k.cell h.e3 fun e => e, k.cell h.e4 fun e => e, k.cell h.e5 fun e => e, h.rd.keep k fun _ _ _ e => e, h.le⟩
def StepsO (w : World) (a : Option Addr) (l : Nat) (xs : List SV) : Prop := xs.length = l ∧ ∀ i, (h : i < xs.length) → ∃ q, a = some q ∧ SVat w (q.add (i * 6)) xs[i]
theorem StepsO.no {w w' : World} {a : Option Addr} {l : Nat} {xs : List SV} (h : StepsO w a l xs) (k : Kept No w w') : StepsO w' a l xs :=
  ⟨h.1, fun i hi => by
    obtain ⟨q, hq, hs⟩ := h.2 i hi
    exact ⟨q, hq, hs.no k⟩⟩
theorem steps_of_view {W : World} {a : Option Addr} {l c : Nat} (hlc : l ≤ c) (hz : a = none → c = 0)
    (h : ∀ q : Addr, a = some q → ∀ i : Nat, i < l → ∃ n1, (Lit.int .i64 n1).wf = true ∧ ∃ s : ByteArray, s.size ≤ 140737488351232 ∧ ∃ n2, (Lit.int .i64 n2).wf = true ∧ ∃ n3, (Lit.int .i64 n3).wf = true ∧ ∃ n4, (Lit.int .i64 n4).wf = true ∧
      ∃ (a' : Option Addr) (l' c' : Nat) (ns : List Int), RdS 1 W a' l' c' (ns.map (Value.int .u8)) ∧ (∀ n ∈ ns, (Lit.int .u8 n).wf = true) ∧ l' * 1 ≤ 140737488351232 ∧
      W.cell? (q.add (i * 6)) = some (.int .i64 n1) ∧ W.cell? ((q.add (i * 6)).add 1) = some (.string s) ∧ W.cell? ((q.add (i * 6)).add 2) = some (.int .i64 n2) ∧ W.cell? ((q.add (i * 6)).add 3) = some (.int .i64 n3) ∧ W.cell? ((q.add (i * 6)).add 4) = some (.int .i64 n4) ∧ W.cell? ((q.add (i * 6)).add 5) = some (.slice a' l' c') ∧ True) :
    ∃ xs, StepsO W a l xs := by
  cases a with
  | none =>
    have := hz rfl
    obtain rfl : l = 0 := by omega
    exact ⟨[], rfl, fun i hi => by simp at hi⟩
  | some q =>
    obtain ⟨f, hf⟩ := Deep.choose_lt (α := SV) (n := l) (p := fun i x => SVat W (q.add (i * 6)) x) (fun i hi => by
      obtain ⟨n1, _, s, _, n2, _, n3, _, n4, _, a', l', c', ns, h1, _, h2, g0, g1, g2, g3, g4, g5, _⟩ := h q rfl i hi
      exact ⟨⟨n1, s, n2, n3, n4, (a', l', c'), ns⟩, g0, g1, g2, g3, g4, g5, h1, by simpa using h2⟩)
    refine ⟨(List.range l).map f, by simp, fun i hi => ⟨q, rfl, ?_⟩⟩
    have hi : i < l := by simpa using hi
    rw [List.getElem_map, List.getElem_range]
    exact hf i hi
theorem setup_of_view {W : World} {a1 : Option Addr} {l1 c1 : Nat} (h1 : l1 ≤ c1) (h2 : a1 = none → c1 = 0) (h3 : l1 * 40 ≤ 140737488351232)
    (h4 : ∀ q : Addr, a1 = some q → ∀ i : Nat, i < l1 → ∃ s : ByteArray, s.size ≤ 140737488351232 ∧ ∃ (a' : Option Addr) (l' c' : Nat) (ns : List Int), RdS 1 W a' l' c' (ns.map (Value.int .u8)) ∧ (∀ n ∈ ns, (Lit.int .u8 n).wf = true) ∧ l' * 1 ≤ 140737488351232 ∧ W.cell? (q.add (i * 2)) = some (.string s) ∧ W.cell? ((q.add (i * 2)).add 1) = some (.slice a' l' c') ∧ True)
    {a2 : Option Addr} {l2 c2 : Nat} (g1 : l2 ≤ c2) (g2 : a2 = none → c2 = 0) (g3 : l2 * 40 ≤ 140737488351232)
    (g4 : ∀ q : Addr, a2 = some q → ∀ i : Nat, i < l2 → ∃ s : ByteArray, s.size ≤ 140737488351232 ∧ ∃ (a' : Option Addr) (l' c' : Nat), l' ≤ c' ∧ (a' = none → c' = 0) ∧ l' * 24 ≤ 140737488351232 ∧
      (∀ q' : Addr, a' = some q' → ∀ j : Nat, j < l' → ∃ (a'' : Option Addr) (l'' c'' : Nat) (ns : List Int), RdS 1 W a'' l'' c'' (ns.map (Value.int .u8)) ∧ (∀ n ∈ ns, (Lit.int .u8 n).wf = true) ∧ l'' * 1 ≤ 140737488351232 ∧ W.cell? (q'.add (j * 1)) = some (.slice a'' l'' c'') ∧ True) ∧
      W.cell? (q.add (i * 2)) = some (.string s) ∧ W.cell? ((q.add (i * 2)).add 1) = some (.slice a' l' c') ∧ True)
    {a3 : Option Addr} {l3 c3 : Nat} (k1 : l3 ≤ c3) (k2 : a3 = none → c3 = 0) (k3 : l3 * 16 ≤ 140737488351232)
    (k4 : ∀ q : Addr, a3 = some q → ∀ i : Nat, i < l3 → ∃ n1, (Lit.int .i64 n1).wf = true ∧ ∃ n2, (Lit.int .i64 n2).wf = true ∧ W.cell? (q.add (i * 2)) = some (.int .i64 n1) ∧ W.cell? ((q.add (i * 2)).add 1) = some (.int .i64 n2) ∧ True) :
    ∃ fs ts ps, SetupO W fs ts ps a1 l1 c1 a2 l2 c2 a3 l3 c3 := by
  obtain ⟨fs, ef, hf, _, hfb⟩ := rdN_of (R := RB) (B := fun bs => bs.length ≤ 140737488355328) h1 h2 (fun q hq i hi => by
    obtain ⟨s, _, a', l', c', ns, r1, _, r2, r3, r4, _⟩ := h4 q hq i hi
    have r1 : RdB W a' l' c' ns := r1
    exact ⟨s, (a', l', c'), ns, r1, by have := r1.len; omega, r3, r4⟩)
  obtain ⟨ts, et, ht, _, htb⟩ := rdN_of (R := RL) (B := fun LL => LL.length * 24 ≤ 140737488355328) g1 g2 (fun q hq i hi => by
    obtain ⟨s, _, a', l', c', r1, r2, r3, r4, r5, r6, _⟩ := g4 q hq i hi
    obtain ⟨xss, e1, e2, _⟩ := rdL_of_view r1 r2 r4
    exact ⟨s, (a', l', c'), xss, ⟨e1.mono fun _ _ => trivial, fun x hx => by have := e2 x hx; omega⟩, by have := e1.len; omega, r5, r6⟩)
  obtain ⟨ps, hp, _⟩ := rdF_of_view k1 k2 k4
  exact ⟨fs, ts, ps, ⟨ef, hf⟩, ⟨et, ht⟩, hp, by omega, by omega, by omega, hfb, htb⟩
end Go.Proofs.YtpoaacnnhgebfaaGreat
namespace Go.Proofs.YtpoaacnnhgebfaaGreat
open Go.Lw
def Alk (v v' : Value) : Prop := v' = v ∨ (∃ s s', v = .string s ∧ v' = .string s') ∨ (∃ k n n', v = .int k n ∧ v' = .int k n')
theorem Alk.refl (v : Value) : Alk v v := .inl rfl
theorem Alk.trans {a b c : Value} (h : Alk a b) (k : Alk b c) : Alk a c := by
  rcases h with rfl | ⟨s, s', rfl, rfl⟩ | ⟨t, n, n', rfl, rfl⟩
  · exact k
  · rcases k with rfl | ⟨u, u', e, rfl⟩ | ⟨t, n, n', e, _⟩
    · exact .inr (.inl ⟨_, _, rfl, rfl⟩)
    · exact .inr (.inl ⟨_, _, rfl, rfl⟩)
    · cases e
  · rcases k with rfl | ⟨u, u', e, _⟩ | ⟨t', m, m', e, rfl⟩
    · exact .inr (.inr ⟨_, _, _, rfl, rfl⟩)
    · cases e
    · cases e; exact .inr (.inr ⟨_, _, _, rfl, rfl⟩)
theorem Alk.sl {a : Option Addr} {l c : Nat} {v' : Value} (h : Alk (.slice a l c) v') : v' = .slice a l c := by
  rcases h with rfl | ⟨s, s', e, _⟩ | ⟨t, n, n', e, _⟩
  · rfl
  · cases e
  · cases e
theorem Alk.int {k : IntKind} {n : Int} {v' : Value} (h : Alk (.int k n) v') : ∃ m, v' = .int k m := by
  rcases h with rfl | ⟨s, s', e, _⟩ | ⟨t, n, n', e, rfl⟩
  · exact ⟨_, rfl⟩
  · cases e
  · cases e; exact ⟨_, rfl⟩
theorem Alk.str {s : ByteArray} {v' : Value} (h : Alk (.string s) v') : ∃ t, v' = .string t := by
  rcases h with rfl | ⟨s, s', e, rfl⟩ | ⟨t, n, n', e, _⟩
  · exact ⟨_, rfl⟩
  · exact ⟨_, rfl⟩
  · cases e
structure Sk (S : Nat → Prop) (w w' : World) : Prop where
  kept : Kept S w w'
  alike : ∀ g cur, Blk w g cur → ∃ cur', Blk w' g cur' ∧ cur'.size = cur.size ∧ ∀ (i : Nat) (v : Value), cur[i]? = some v → ∃ v', cur'[i]? = some v' ∧ Alk v v'
theorem Sk.of_no {S : Nat → Prop} {w w' : World} (k : Kept No w w') : Sk S w w' :=
  ⟨k.mono fun _ _ e => e.elim, fun g cur h => ⟨cur, h.keep k fun e => e, rfl, fun i v hv => ⟨v, hv, .refl v⟩⟩⟩
theorem Sk.refl {S : Nat → Prop} (w : World) : Sk S w w := .of_no (Kept.refl _ _)
theorem Sk.trans {S : Nat → Prop} {w w1 w2 : World} (h : Sk S w w1) (k : Sk S w1 w2) : Sk S w w2 :=
  ⟨h.kept.trans k.kept fun _ _ e => e, fun g cur hb => by
    obtain ⟨c1, h1, z1, a1⟩ := h.alike g cur hb
    obtain ⟨c2, h2, z2, a2⟩ := k.alike g c1 h1
    refine ⟨c2, h2, z2.trans z1, fun i v hv => ?_⟩
    obtain ⟨v1, e1, k1⟩ := a1 i v hv
    obtain ⟨v2, e2, k2⟩ := a2 i v1 e1
    exact ⟨v2, e2, k1.trans k2⟩⟩
theorem Blk.uniq {w : World} {g : Nat} {c1 c2 : Array Value} (h : Blk w g c1) (k : Blk w g c2) : c1 = c2 := by
  obtain ⟨e1, h⟩ := h
  obtain ⟨e2, k⟩ := k
  rw [h] at k
  cases k; rfl
theorem Sk.store {S : Nat → Prop} {w : World} {g i : Nat} {cur : Array Value} {v0 v : Value} {K : World → Prop} (h : Blk w g cur) (hv : cur[i]? = some v0) (ha : Alk v0 v) (hS : S g)
    (hk : ∀ w', Sk S w w' → w'.heap.size = w.heap.size → K w') : stC ⟨g, i, none⟩ v w K := by
  have hi : i < cur.size := (Array.getElem?_eq_some_iff.1 hv).1
  refine stC_blk h hi fun w' hb' hk' hz => hk w' ⟨hk'.mono fun b _ e => by rw [e]; exact hS, fun g2 cur2 h2 => ?_⟩ hz
  by_cases e : g2 = g
  · subst e
    obtain rfl := h2.uniq h
    refine ⟨_, hb', by simp, fun j u hj => ?_⟩
    by_cases e2 : i = j
    · subst e2
      rw [hv] at hj
      cases hj
      exact ⟨v, by simp [hi], ha⟩
    · exact ⟨u, by rw [Array.getElem?_setIfInBounds_ne e2]; exact hj, .refl u⟩
  · exact ⟨cur2, h2.keep hk' e, rfl, fun j u hj => ⟨u, hj, .refl u⟩⟩
theorem Sk.slo {S : Nat → Prop} {w w' : World} {sz : Nat} {a : Option Addr} {l c : Nat} {xs : List Value} (h : SlO sz w a l c xs) (k : Sk S w w') :
    ∃ xs', SlO sz w' a l c xs' ∧ ∀ (i : Nat) (v : Value), xs[i]? = some v → ∃ v', xs'[i]? = some v' ∧ Alk v v' := by
  rcases h.2 with ⟨rfl, rfl, rfl⟩ | ⟨g, off, cur, rfl, hb, hlc, hcs, htk⟩
  · exact ⟨xs, ⟨h.1, .inl ⟨rfl, rfl, rfl⟩⟩, fun i v hv => ⟨v, hv, .refl v⟩⟩
  · obtain ⟨cur', hb', hz, ha⟩ := k.alike g cur hb
    have hlcs : l * sz ≤ c * sz := Nat.mul_le_mul_right _ hlc
    refine ⟨(cur'.toList.drop off).take (l * sz), ⟨?_, .inr ⟨g, off, cur', rfl, hb', hlc, by omega, rfl⟩⟩, fun i v hv => ?_⟩
    · rw [List.length_take, List.length_drop, Array.length_toList]; omega
    · rw [← htk, List.getElem?_take] at hv
      by_cases hi : i < l * sz
      · rw [if_pos hi, List.getElem?_drop, Array.getElem?_toList] at hv
        obtain ⟨v', e, k⟩ := ha _ v hv
        exact ⟨v', by rw [List.getElem?_take, if_pos hi, List.getElem?_drop, Array.getElem?_toList]; exact e, k⟩
      · rw [if_neg hi] at hv; cases hv
theorem Sk.st {S : Nat → Prop} {w : World} {sz : Nat} {a : Option Addr} {l c : Nat} {xs : List Value} (h : SlO sz w a l c xs) {q : Addr} (hq : a = some q) {j : Nat} {v0 v : Value} (hv : xs[j]? = some v0) (ha : Alk v0 v) (hS : ∀ b, inA a b → S b) {K : World → Prop}
    (hk : ∀ w', Sk S w w' → w'.heap.size = w.heap.size → K w') : stC (q.add j) v w K := by
  rcases h.2 with ⟨rfl, rfl, rfl⟩ | ⟨g, off, cur, rfl, hb, hlc, hcs, htk⟩
  · cases hq
  · cases hq
    rw [add_none]
    rw [← htk, List.getElem?_take] at hv
    by_cases hi : j < l * sz
    · rw [if_pos hi, List.getElem?_drop, Array.getElem?_toList] at hv
      exact Sk.store hb hv ha (hS g ((inA_some _ _ _ _).2 rfl)) hk
    · rw [if_neg hi] at hv; cases hv
theorem Sk.ob {S : Nat → Prop} {w w' : World} {a : Option Addr} {l c : Nat} {bs : List Int} (h : OB w a l c bs) (k : Sk S w w') : ∃ bs', OB w' a l c bs' := by
  obtain ⟨xs, hx, ha⟩ := Sk.slo h k
  have hl : xs.length = l := by have := hx.1; simpa using this
  have hbl := h.len
  refine ⟨xs.map fun v => match v with | .int _ n => n | _ => 0, ?_⟩
  have : By (xs.map fun v => match v with | .int _ n => n | _ => 0) = xs := by
    apply List.ext_getElem?
    intro i
    unfold By
    rw [List.map_map, List.getElem?_map]
    by_cases hi : i < l
    · obtain ⟨v', e, kk⟩ := ha i (.int .u8 bs[i]) (by unfold By; rw [List.getElem?_map, List.getElem?_eq_getElem (by omega)]; rfl)
      obtain ⟨m, rfl⟩ := kk.int
      rw [e]; rfl
    · rw [List.getElem?_eq_none (by omega)]; rfl
  show SlO 1 w' a l c (By _)
  rw [this]; exact hx
end Go.Proofs.YtpoaacnnhgebfaaGreat
namespace Go.Proofs.YtpoaacnnhgebfaaGreat
open Go.Lw
structure Duo (W w : World) (gk pk : Nat) (s : AK) (L M : KL) (tl : Nat → Nat) (nm : Nat → ByteArray) : Prop where
  hk : KernO w gk s L
  hp : PagO w pk s M tl nm
  hi : PInv s
  ap : ∀ z, L.own z ≠ none → M.own z = none
  nk : ∀ z, L.own z ≠ none → W.heap.size ≤ z
  nm : ∀ z, M.own z ≠ none → W.heap.size ≤ z
  kp : Kept No W w
theorem Duo.no {W w w' : World} {gk pk : Nat} {s : AK} {L M : KL} {tl : Nat → Nat} {nm : Nat → ByteArray} (h : Duo W w gk pk s L M tl nm) (k : Kept No w w') : Duo W w' gk pk s L M tl nm := ⟨h.hk.no k, h.hp.no k, h.hi, h.ap, h.nk, h.nm, h.kp.no k⟩
theorem Duo.pa {W w : World} {gk pk : Nat} {s : AK} {L M : KL} {tl : Nat → Nat} {nm : Nat → ByteArray} (h : Duo W w gk pk s L M tl nm) {z : Nat} (hz : M.own z ≠ none) : L.own z = none := by
  cases ho : L.own z with
  | none => rfl
  | some t => exact absurd (h.ap z (by rw [ho]; simp)) hz
theorem Duo.old {W w : World} {gk pk : Nat} {s : AK} {L M : KL} {tl : Nat → Nat} {nm : Nat → ByteArray} (h : Duo W w gk pk s L M tl nm) {z : Nat} (hz : z < W.heap.size) : L.own z = none ∧ M.own z = none := by
  constructor
  · cases ho : L.own z with
    | none => rfl
    | some t => have := h.nk z (by rw [ho]; simp); omega
  · cases ho : M.own z with
    | none => rfl
    | some t => have := h.nm z (by rw [ho]; simp); omega
theorem Duo.both {W w w1 w2 : World} {gk pk : Nat} {s s' : AK} {L M L' M' : KL} {tl tl' : Nat → Nat} {nm nm' : Nat → ByteArray} (h : Duo W w gk pk s L M tl nm) (hK : KernO w1 gk s' L') (st : KStep w w1 L L') (hP : PagO w2 pk s' M' tl' nm') (st' : KStep w1 w2 M M') (hi : PInv s') : Duo W w2 gk pk s' L' M' tl' nm' := by
  have ap1 : ∀ z, L'.own z ≠ none → M.own z = none := fun z hz => by
    rcases st.grew z hz with e | e
    · exact h.ap z e
    · cases ho : M.own z with
      | none => rfl
      | some t => have := h.hp.lt z (by rw [ho]; simp); omega
  have k1 : Kept No W w1 := h.kp.trans st.kept fun y hy e => by have := h.nk y e; omega
  have hz0 : w.heap.size ≤ w1.heap.size := st.kept.size
  have hz1 : W.heap.size ≤ w.heap.size := h.kp.size
  refine ⟨hK.keep st'.kept fun x hx => ?_, hP, hi, fun z hz => ?_, fun z hz => ?_, fun z hz => ?_, k1.trans st'.kept fun y hy e => by have := h.nm y e; omega⟩
  · cases ho : L'.own x with
    | none => rfl
    | some t => exact absurd (ap1 x (by rw [ho]; simp)) hx
  · cases ho : M'.own z with
    | none => rfl
    | some t =>
      rcases st'.grew z (by rw [ho]; simp) with e | e
      · exact absurd (ap1 z hz) e
      · have := hK.lt z hz; omega
  · rcases st.grew z hz with e | e
    · exact h.nk z e
    · omega
  · rcases st'.grew z hz with e | e
    · exact h.nm z e
    · omega
theorem Duo.mid {W w w1 : World} {gk pk : Nat} {s s' : AK} {L M L' : KL} {tl : Nat → Nat} {nm : Nat → ByteArray} (h : Duo W w gk pk s L M tl nm) (st : KStep w w1 L L') : PagO w1 pk s M tl nm := h.hp.keep st.kept fun x hx => h.ap x hx
theorem Duo.kmid {W w w1 : World} {gk pk : Nat} {s s' : AK} {L M L' : KL} {tl : Nat → Nat} {nm : Nat → ByteArray} (h : Duo W w gk pk s L M tl nm) (st : KStep w w1 L L') : Kept No W w1 := h.kp.trans st.kept fun y hy e => by have := h.nk y e; omega
theorem page_ok {w : World} {fs : List (ByteArray × List Int)} {ts : List (ByteArray × List (List Int))} {ps : List (Int × Int)} {af : Option Addr} {lf cf : Nat} {at_ : Option Addr} {lt ct : Nat} {ap : Option Addr} {lp cp : Nat}
    (h : SetupO w fs ts ps af lf cf at_ lt ct ap lp cp) :
    CallR Tryz.prog 10 [.agg #[.slice af lf cf, .slice at_ lt ct, .slice ap lp cp]] w fun v w' => Kept No w w' ∧ ((checkK fs ts ps ≠ 0 ∧ v = .pointer none) ∨
      (checkK fs ts ps = 0 ∧ ∃ pk L tl nm, v = pd pk ∧ PagO w' pk (AK.new fs ts ps) L tl nm ∧ ∀ z, L.own z ≠ none → w.heap.size ≤ z)) := by
  obtain ⟨ef, hef⟩ := h.ef
  obtain ⟨et, het⟩ := h.et
  have q1 := h.lf
  have q2 := h.lt
  refine C10 ?_
  unfold L10
  intro w1
  have hb : Blk w1 w.heap.size #[.slice af lf cf, .slice at_ lt ct, .slice ap lp cp] := Blk.alloc _ _ _
  have hk1 : Kept No w w1 := Kept.alloc _ _ _
  clear_value w1
  have h1 := h.no hk1
  refine ⟨_, _, _, (hb.cell 0).trans rfl, _, _, _, (hb.cell 1).trans rfl, _, _, _, (hb.cell 2).trans rfl, CallR.mono (pcheck_ok (hef.no (fun _ _ _ _ h k => h.no k) hk1) (het.no (fun _ _ _ _ h k => h.no k) hk1) h1.pp (by omega) (by omega)) ?_⟩
  rintro v w2 ⟨rfl, hk2⟩
  have hb2 := hb.keep hk2 fun e => e
  have k2 := hk1.no hk2
  refine ⟨_, rfl, condI (fun hc => ⟨k2, .inl ⟨bne_iff_ne.1 hc, rfl⟩⟩) (fun hc => ?_)⟩
  have hz : checkK fs ts ps = 0 := by
    cases hd : decide (checkK fs ts ps = 0) with
    | true => exact of_decide_eq_true hd
    | false => rw [bne_iff_ne.2 (of_decide_eq_false hd)] at hc; cases hc
  have kd : Kept No w w2.drew := k2.no (Kept.drew No _)
  have hbd : Blk w2.drew w.heap.size #[.slice af lf cf, .slice at_ lt ct, .slice ap lp cp] := hb2.drew
  refine ⟨fun w' => Blk w' w.heap.size #[.slice af lf cf, .slice at_ lt ct, .slice ap lp cp], hbd, _, _, _, fun wS hS => (hS.cell 0).trans rfl, _, _, _, fun wS hS => (hS.cell 1).trans rfl, _, _, _, fun wS hS => (hS.cell 2).trans rfl, CallR.mono (copyFaults_ok (h.no kd).pp h.lp) ?_⟩
  rintro v w4 ⟨a', c', rfl, hk4, ho, hf⟩
  refine ⟨_, _, _, rfl, hbd.keep hk4 fun e => e, CallR.mono (pnew_ok (kd.no hk4) hef het ho (AK.check_zero hz) (by omega) (by omega) fun b hb => ?_) ?_⟩
  · have := hf b hb
    have := kd.size
    omega
  · rintro v w5 ⟨pk, L, tl, nm, rfl, hP, hl, hk5⟩
    exact ⟨_, rfl, hk5, .inr ⟨hz, pk, L, tl, nm, rfl, hP, hl⟩⟩
end Go.Proofs.YtpoaacnnhgebfaaGreat
namespace Go.Proofs.YtpoaacnnhgebfaaGreat
open Go.Lw
theorem AK.scr_bound {w : World} {gk : Nat} {s : AK} {L : KL} (h : KernO w gk s L) (nm : ByteArray) : (s.screenV nm).1.length ≤ 1048576 := by
  unfold AK.screenV
  split
  · rename_i g hg
    unfold AK.termOf at hg
    have hm := List.mem_of_find?_eq_some hg
    have hO := h.ob g.2 (h.ok.ti g hm).1
    show (scrO (s.objs g.2)).length ≤ 1048576
    cases ho : s.objs g.2 with
    | term LL scr =>
      rw [ho] at hO
      have hT : TermO _ _ w (L.loc g.2) LL scr := hO
      exact hT.scr
    | file bs => simp [scrO]
    | pipe bs e0 e1 => simp [scrO]
  · simp
theorem AK.held_bound {w : World} {gk : Nat} {s : AK} {L : KL} (h : KernO w gk s L) (d : Int) : (s.held d).length ≤ 1048576 := by
  unfold AK.held
  split
  · simp
  · split
    · simp
    · rename_i x hx
      have hO := h.ofO hx
      cases ho : s.objs x.ob with
      | term LL scr => simp
      | file bs => simp
      | pipe bs e0 e1 =>
        rw [ho] at hO
        have hT : PipeO w (L.loc x.ob) bs e0 e1 := hO.1
        have := hT.len
        show bs.length ≤ 1048576
        omega
theorem same6_ok {W w : World} {gk pk : Nat} {s : AK} {L M : KL} {tl : Nat → Nat} {nm : Nat → ByteArray} (h : Duo W w gk pk s L M tl nm) (hn : s.next ≤ 4611686018427387903) :
    CallR Tryz.prog 14 [pd gk, pd pk] w fun v w' => v = .bool true ∧ Kept No w w' := by
  obtain ⟨T, ta, tc, da, dc, hB⟩ := h.hp.kb
  refine C14 ?_
  unfold L14
  refine CallR.mono (calls_ok h.hk) ?_
  rintro v w1 ⟨rfl, hk1⟩
  have kd : Kept No w w1.drew := hk1.no (Kept.drew No _)
  have keepB : ∀ {w' : World}, Kept No w w' → PKb w' pk s M tl T ta tc da dc := fun k => hB.keep h.hp.oK k fun z t e => e.elim
  refine ⟨_, _, rfl, fun w' => Kept No w w', kd, nnI ⟨_, fun wS hS => (keepB hS).b.at (i := 4) rfl, condF (by simp) (nnI ⟨_, fun wS hS => (keepB hS).b.at (i := 5) rfl, condF (by simp) (CallR.mono (kernFiles_ok (h.no kd).hk) ?_)⟩)⟩⟩
  rintro v w3 ⟨a, l, c, es, rfl, hf, hk3⟩
  have k3 := kd.no hk3
  refine ⟨_, _, _, rfl, k3, CallR.mono (pfiles_ok (h.no k3).hp (keepB k3)) ?_⟩
  rintro v w4 ⟨a', c', es', rfl, hf', hk4⟩
  have k4 := k3.no hk4
  have hfl : l = s.filesV.length := by have := hf.len_eq; omega
  have hok := h.hk.ok.fl
  have hfv := AK.filesV_len s
  refine ⟨_, _, _, rfl, k4, CallR.mono (sameNamed_ok (hf.no hk4).rd hf'.rd (by omega) fun f hf => by have := AK.filesV_bound h.hk f hf; omega) ?_⟩
  rintro v w5 ⟨rfl, hk5⟩
  have k5 := k4.no hk5
  have heq := files_eq h.hp.ok hB.pm hB.so
  refine ⟨_, rfl, k5, condF (by rw [heq]; simp) ?_⟩
  obtain ⟨fa, fl, fc, hpg, hfr, _⟩ := h.hp.pl
  have keepP : ∀ {w' : World}, Kept No w w' → Blk w' M.pg #[.slice fa fl fc] := fun k => hpg.keep k fun e => e
  have keepF : ∀ {w' : World}, Kept No w w' → RdS 2 w' fa fl fc (Fv s.ps) := fun k => hfr.keep k fun _ _ _ e => e
  refine nnI ⟨_, fun wS hS => (keepB hS).b.at (i := 3) rfl, nnI ⟨_, _, _, fun wS hS => (keepP hS).at0 rfl, CallR.mono (rest_ok (h.no k5).hk) ?_⟩⟩
  rintro v w6 ⟨a6, c6, rfl, hr6, hk6, hf6⟩
  have k6 := k5.no hk6
  have := h.hk.ok.ps
  refine ⟨_, _, _, rfl, k6, CallR.mono (sameFaults_ok hr6.rd (keepF k6) (by omega)) ?_⟩
  rintro v w7 ⟨rfl, hk7⟩
  have k7 := k6.no hk7
  refine ⟨_, rfl, condF (by simp) (CallR.mono (pscreens_ok (h.no k7).hp (keepB k7)) ?_)⟩
  rintro v w8 ⟨a8, c8, es8, rfl, hs8, hk8⟩
  have k8 := k7.no hk8
  have hsc : ∀ {w' : World}, Kept No w8 w' → RdN RB w' a8 (ofK s .scr scrO T).length c8 (ofK s .scr scrO T) es8 := fun k => (hs8.no k).rd
  have hsm : ∀ f ∈ ofK s .scr scrO T, s.screenV f.1 = (f.2, true) := fun f hf => screen_mem h.hp.ok hB.pm hf
  have hsl : (ofK s .scr scrO T).length ≤ 140737488355328 := by
    have h1 := ofK_len s .scr scrO T
    have h2 := hB.pm.length_eq
    rw [List.length_append] at h2
    have h3 := h.hk.ok.fl
    omega
  generalize ofK s .scr scrO T = G at hs8 hsc hsm hsl
  refine ⟨_, _, _, rfl, fun vs w' => ∃ n : Nat, vs = [.int .i64 (n : Int)] ∧ n ≤ G.length ∧ Kept No w8 w', fun vs _ => G.length - ix vs, ⟨0, rfl, Nat.zero_le _, Kept.refl _ _⟩, ?_⟩
  rintro _ n29 w9 ⟨n, hv, hnl, hk9⟩
  simp only [List.cons.injEq, Value.int.injEq, true_and, and_true] at hv
  subst hv
  refine condP (fun hlt => ?_) (fun hge => ?_)
  · have hi : n < G.length := by omega
    obtain ⟨q, _, haq, e1, _, _, _⟩ := (hsc hk9).at hi
    have e0 : Int.toNat (n : Int) = n := Int.toNat_natCast n
    rw [e0]
    refine ⟨by omega, nnE2 haq ⟨_, e1, CallR.mono (screen_ok ((h.no k8).no hk9).hk _) ?_⟩⟩
    rw [hsm _ (List.getElem_mem hi)]
    rintro v w10 ⟨ax, lx, cx, rfl, ho, hk10, _⟩
    have kx := hk9.no hk10
    obtain ⟨q', sl, haq', _, e2, hR, _⟩ := (hsc kx).at hi
    refine ⟨_, _, _, _, rfl, condF (by simp) ⟨by omega, nnE2 haq' ⟨_, _, _, e2, CallR.mono (same_ok ho.rd hR ?_) ?_⟩⟩⟩
    · have h1 := ho.rd.len
      have h2 := AK.scr_bound h.hk G[n].1
      rw [hsm _ (List.getElem_mem hi)] at h2
      omega
    · rintro v w11 ⟨rfl, hk11, _⟩
      exact ⟨_, rfl, condF (by simp) ⟨⟨by omega, by omega⟩, ⟨n + 1, rfl, by omega, kx.no hk11⟩, by simp only [ix]; omega⟩⟩
  have k9 := k8.no hk9
  refine ⟨fun vs w' => ∃ n : Nat, vs = [.int .i64 (n : Int)] ∧ (n : Int) ≤ s.next + 1 ∧ Kept No w w', fun vs _ => (s.next + 1).toNat - ix vs, ⟨0, rfl, ?_, k9⟩, ?_⟩
  · have := h.hk.ok.nx
    omega
  rintro _ n41 w12 ⟨d, hv, hd, k12⟩
  simp only [List.cons.injEq, Value.int.injEq, true_and, and_true] at hv
  subst hv
  refine nnI ⟨_, (keepB k12).b.at (i := 2) rfl, ⟨by omega, by omega⟩, condP (fun hlt => ?_) (fun hge => ⟨rfl, k12⟩)⟩
  have h12 := h.no k12
  refine CallR.mono (kind_ok h12.hk _) ?_
  rintro v w13 ⟨rfl, hk13⟩
  have h13 := h12.no hk13
  refine ⟨_, rfl, pkind_ok h13.hp _ ⟨_, rfl, condF (by simp) (CallR.mono (canread_ok h13.hk _) ?_)⟩⟩
  rintro v w15 ⟨rfl, hk15⟩
  have h15 := h13.no hk15
  refine ⟨_, rfl, pcanread_ok h15.hp _ ⟨_, rfl, condF (by simp) (CallR.mono (canwrite_ok h15.hk _ _) ?_)⟩⟩
  rintro v w17 ⟨rfl, hk17⟩
  have h17 := h15.no hk17
  refine ⟨_, rfl, pcanwrite_ok h17.hp h17.hi _ _ ⟨_, rfl, condF (by simp) (CallR.mono (kernHeld_ok h17.hk _) ?_)⟩⟩
  rintro v w19 ⟨a19, l19, c19, rfl, ho, hf19, hk19⟩
  have h19 := h17.no hk19
  refine ⟨_, _, _, rfl, CallR.mono (pheld_ok h19.hp _) ?_⟩
  rintro v w20 ⟨rfl, a20, l20, c20, rfl, hr20⟩
  refine ⟨_, _, _, rfl, CallR.mono (same_ok ho.rd hr20 ?_) ?_⟩
  · have h1 := ho.rd.len
    have h2 := AK.held_bound h.hk (d : Int)
    omega
  rintro v w21 ⟨rfl, hk21, _⟩
  exact ⟨_, rfl, condF (by simp) ⟨⟨by omega, by omega⟩, ⟨d + 1, rfl, by omega, (((((k12.no hk13).no hk15).no hk17).no hk19).no hk21)⟩, by simp only [ix]; omega⟩⟩
end Go.Proofs.YtpoaacnnhgebfaaGreat
namespace Go.Proofs.YtpoaacnnhgebfaaGreat
open Go.Lw
end Go.Proofs.YtpoaacnnhgebfaaGreat
namespace Go.Proofs.YtpoaacnnhgebfaaGreat
open Go.Lw
def PagE (w : World) (pk : Nat) (s : AK) (M : KL) : Prop := ∃ tl nm, PagO w pk s M tl nm
theorem PagE.keep {w w' : World} {pk : Nat} {s : AK} {M : KL} (h : PagE w pk s M) {S : Nat → Prop} (k : Kept S w w') (hS : ∀ x, S x → M.own x = none) : PagE w' pk s M := by
  obtain ⟨tl, nm, h⟩ := h; exact ⟨tl, nm, h.keep k hS⟩
theorem PagE.no {w w' : World} {pk : Nat} {s : AK} {M : KL} (h : PagE w pk s M) (k : Kept No w w') : PagE w' pk s M := h.keep k fun _ e => e.elim
theorem PagE.new_none {w : World} {pk : Nat} {s : AK} {M : KL} (h : PagE w pk s M) {z : Nat} (hz : w.heap.size ≤ z) : M.own z = none := by
  obtain ⟨tl, nm, h⟩ := h; exact h.new_none hz
theorem PagE.lt {w : World} {pk : Nat} {s : AK} {M : KL} (h : PagE w pk s M) : ∀ k, M.own k ≠ none → k < w.heap.size := by
  obtain ⟨tl, nm, h⟩ := h; exact h.lt
theorem PagE.keepT {w w' : World} {pk u : Nat} {s : AK} {M : KL} (h : PagE w pk s M) (hn : M.own u = none) (k : Kept (· = u) w w') : PagE w' pk s M := h.keep k fun x e => by rw [e]; exact hn
end Go.Proofs.YtpoaacnnhgebfaaGreat
namespace Go.Proofs.YtpoaacnnhgebfaaGreat
open Go.Lw
structure DuT (W w : World) (gk pk t u : Nat) (sl : List (Int × Bool)) (s : AK) (L M : KL) : Prop where
  du : ∃ tl nm, Duo W w gk pk s L M tl nm
  ht : TabO w t gk sl
  hu : TabO w u pk sl
  lt : L.own t = none
  lu : L.own u = none
  mt : M.own t = none
  mu : M.own u = none
  tu : t ≠ u
  wt : W.heap.size ≤ t
  wu : W.heap.size ≤ u
theorem DuT.hk {W w : World} {gk pk t u : Nat} {sl : List (Int × Bool)} {s : AK} {L M : KL} (h : DuT W w gk pk t u sl s L M) : KernO w gk s L := by
  obtain ⟨tl, nm, d⟩ := h.du; exact d.hk
theorem DuT.hp {W w : World} {gk pk t u : Nat} {sl : List (Int × Bool)} {s : AK} {L M : KL} (h : DuT W w gk pk t u sl s L M) : PagE w pk s M := by
  obtain ⟨tl, nm, d⟩ := h.du; exact ⟨_, _, d.hp⟩
theorem DuT.hi {W w : World} {gk pk t u : Nat} {sl : List (Int × Bool)} {s : AK} {L M : KL} (h : DuT W w gk pk t u sl s L M) : PInv s := by
  obtain ⟨tl, nm, d⟩ := h.du; exact d.hi
theorem DuT.kp {W w : World} {gk pk t u : Nat} {sl : List (Int × Bool)} {s : AK} {L M : KL} (h : DuT W w gk pk t u sl s L M) : Kept No W w := by
  obtain ⟨tl, nm, d⟩ := h.du; exact d.kp
theorem DuT.ok {W w : World} {gk pk t u : Nat} {sl : List (Int × Bool)} {s : AK} {L M : KL} (h : DuT W w gk pk t u sl s L M) : s.Ok := h.hk.ok
theorem DuT.no {W w w' : World} {gk pk t u : Nat} {sl : List (Int × Bool)} {s : AK} {L M : KL} (h : DuT W w gk pk t u sl s L M) (k : Kept No w w') : DuT W w' gk pk t u sl s L M := by
  obtain ⟨tl, nm, d⟩ := h.du
  exact ⟨⟨tl, nm, d.no k⟩, h.ht.keep k (fun e => e), h.hu.keep k (fun e => e), h.lt, h.lu, h.mt, h.mu, h.tu, h.wt, h.wu⟩
theorem DuT.low {W w : World} {gk pk t u : Nat} {sl : List (Int × Bool)} {s : AK} {L M : KL} (h : DuT W w gk pk t u sl s L M) {z : Nat} (hz : z < W.heap.size) : L.own z = none ∧ M.own z = none := by
  obtain ⟨tl, nm, d⟩ := h.du; exact d.old hz
theorem DuT.midP {W w w1 : World} {gk pk t u : Nat} {sl : List (Int × Bool)} {s : AK} {L M L' : KL} (h : DuT W w gk pk t u sl s L M) (st : TStep t w w1 L L') : PagE w1 pk s M := h.hp.keep st.kept fun x hx => by
  obtain ⟨tl, nm, d⟩ := h.du
  rcases hx with hx | rfl
  · exact d.ap x hx
  · exact h.mt
theorem DuT.midK {W w w1 : World} {gk pk t u : Nat} {sl : List (Int × Bool)} {s : AK} {L M L' : KL} (h : DuT W w gk pk t u sl s L M) (st : TStep t w w1 L L') : Kept No W w1 := h.kp.trans st.kept fun y hy e => by
  obtain ⟨tl, nm, d⟩ := h.du
  rcases e with e | rfl
  · have := d.nk y e; omega
  · have := h.wt; omega
theorem DuT.both {W w w1 w2 : World} {gk pk t u : Nat} {sl sl' : List (Int × Bool)} {s s' : AK} {L M L' M' : KL} (h : DuT W w gk pk t u sl s L M) (hT : TabO w1 t gk sl') (hK : KernO w1 gk s' L') (st : TStep t w w1 L L') (hU : TabO w2 u pk sl') (hP : PagE w2 pk s' M') (st' : TStep u w1 w2 M M') (hi : PInv s') : DuT W w2 gk pk t u sl' s' L' M' := by
  obtain ⟨tl, nm, d⟩ := h.du
  obtain ⟨tl', nm', hP⟩ := hP
  have hz0 : w.heap.size ≤ w1.heap.size := st.kept.size
  have hz1 : W.heap.size ≤ w.heap.size := d.kp.size
  have htl := h.ht.lt
  have hul := h.hu.lt
  have ap1 : ∀ z, L'.own z ≠ none → M.own z = none := fun z hz => by
    rcases st.grew z hz with e | e
    · exact d.ap z e
    · cases ho : M.own z with
      | none => rfl
      | some t => have := d.hp.lt z (by rw [ho]; simp); omega
  have lt' : L'.own t = none := st.own h.lt htl
  have lu' : L'.own u = none := st.own h.lu hul
  have mt' : M'.own t = none := st'.own h.mt (by omega)
  have mu' : M'.own u = none := st'.own h.mu (by omega)
  refine ⟨⟨tl', nm', hK.keep st'.kept fun x hx => ?_, hP, hi, fun z hz => ?_, fun z hz => ?_, fun z hz => ?_, (h.midK st).trans st'.kept fun y hy e => ?_⟩, hT.keep st'.kept fun hx => ?_, hU, lt', lu', mt', mu', h.tu, h.wt, h.wu⟩
  · rcases hx with hx | rfl
    · cases ho : L'.own x with
      | none => rfl
      | some t => exact absurd (ap1 x (by rw [ho]; simp)) hx
    · exact lu'
  · cases ho : M'.own z with
    | none => rfl
    | some t =>
      rcases st'.grew z (by rw [ho]; simp) with e | e
      · exact absurd (ap1 z hz) e
      · have := hK.lt z hz; omega
  · rcases st.grew z hz with e | e
    · exact d.nk z e
    · omega
  · rcases st'.grew z hz with e | e
    · exact d.nm z e
    · omega
  · rcases e with e | rfl
    · have := d.nm y e; omega
    · have := h.wu; omega
  · rcases hx with hx | hx
    · exact hx h.mt
    · exact h.tu hx
structure SV7 where
  what : Int
  nm : ByteArray
  a : Int
  b : Int
  c : Int
  on : Bool
  sl : Slc
  bs : List Int
end Go.Proofs.YtpoaacnnhgebfaaGreat
set_option maxRecDepth 100000
namespace Go.Proofs.YtpoaacnnhgebfaaGreat
open Go.Lw
def A32 : Ann := ⟨[], [], [], [], [], []⟩
def L32 (p1 : Option Addr) (n2 : Int) (Q : Value → World → Prop) (w : World) : Prop :=
  let w1 := World.alloc w (Obj.cells #[.int .i64 5, .slice none 0 0, .int .i64 0, .int .i64 0, .slice none 0 0, .slice none 0 0, .pointer p1, .int .i64 n2, .int .i64 0] 217);
  Q (.pointer (some (Addr.mk w.heap.size 0 none))) w1
theorem C32 {p1 : Option Addr} {n2 : Int} {Q : Value → World → Prop} {w : World} (h : L32 p1 n2 Q w) : CallR Tryz.prog 32 [.pointer p1, .int .i64 n2] w Q :=
  fun_calls (A := A32) mixed Tryz.func32 (c := (Tryz.f32.body).getD .skip) rfl (by kernel_rfl) (Eq.mp (by kernel_rfl) h)
def A43 : Ann := ⟨[], [], [], [(3, [0, 1, 2, 3, 4, 5, 6, 7, 8, 9, 10, 11, 12, 13]), (10, [0, 1, 2, 3, 4, 5, 6, 7, 8, 9, 10])], [], []⟩
def L43 (p1 : Option Addr) (n2 : Int) (Q : Value → World → Prop) (w : World) : Prop :=
  nn p1 (fun (q3 : Addr) =>
  ∃ (n4 : Int), w.cell? (Addr.add q3 8) = some ((.int .i64 n4 : Value)) ∧
  inI (n4 + 1) ∧
  nn p1 (fun (q5 : Addr) =>
  stC (Addr.add q5 8) (.int .i64 (n4 + 1)) w (fun (w1 : World) =>
  nn p1 (fun (q6 : Addr) =>
  ∃ (n7 : Int), w1.cell? q6 = some ((.int .i64 n7 : Value)) ∧
  cond (n7 == 5)
  (let w2 := World.drew w1;
  nn p1 (fun (q8 : Addr) =>
  ∃ (p9 : Option Addr), w2.cell? (Addr.add q8 6) = some ((.pointer p9 : Value)) ∧
  nn p1 (fun (q10 : Addr) =>
  ∃ (n11 : Int), w2.cell? (Addr.add q10 7) = some ((.int .i64 n11 : Value)) ∧
  CallR Tryz.prog 65 [.pointer p9, .int .i64 n11, .int .i64 n2] w2 (fun (r14 : Value) (w3 : World) =>
  ∃ (a12 : Option Addr) (l12 : Nat) (c12 : Nat) (n13 : Int), r14 = .tuple #[.slice a12 l12 c12, .int .i64 n13] ∧
  Q (.tuple #[.slice a12 l12 c12, .int .i64 n13]) w3))))
  (cond (decide (n2 < 0))
  (Q (.tuple #[.slice none 0 0, .int .i64 4]) w1)
  (cond (decide (n2 > 1048576))
  (Q (.tuple #[.slice none 0 0, .int .i64 4]) w1)
  (cond (n2 == 0)
  (Q (.tuple #[.slice none 0 0, .int .i64 0]) w1)
  (nn p1 (fun (q15 : Addr) =>
  ∃ (n16 : Int), w1.cell? q15 = some ((.int .i64 n16 : Value)) ∧
  cond (n16 == 4)
  (CallR Tryz.prog 147 [.pointer p1, .int .i64 n2] w1 (fun (r19 : Value) (w4 : World) =>
  ∃ (a17 : Option Addr) (l17 : Nat) (c17 : Nat) (n18 : Int), r19 = .tuple #[.slice a17 l17 c17, .int .i64 n18] ∧
  Q (.tuple #[.slice a17 l17 c17, .int .i64 n18]) w4))
  (let w5 := World.drew w1;
  nn p1 (fun (q20 : Addr) =>
  ∃ (a21 : Option Addr) (l21 : Nat) (c21 : Nat), w5.cell? (Addr.add q20 1) = some ((.slice a21 l21 c21 : Value)) ∧
  nn p1 (fun (q22 : Addr) =>
  ∃ (n23 : Int), w5.cell? (Addr.add q22 3) = some ((.int .i64 n23 : Value)) ∧
  CallR Tryz.prog 148 [.slice a21 l21 c21, .int .i64 n23, .int .i64 n2] w5 (fun (r25 : Value) (w6 : World) =>
  ∃ (a24 : Option Addr) (l24 : Nat) (c24 : Nat), r25 = .slice a24 l24 c24 ∧
  nn p1 (fun (q26 : Addr) =>
  ∃ (n27 : Int), w6.cell? (Addr.add q26 3) = some ((.int .i64 n27 : Value)) ∧
  inI (n27 + (((l24 : Nat) : Int))) ∧
  nn p1 (fun (q28 : Addr) =>
  stC (Addr.add q28 3) (.int .i64 (n27 + (((l24 : Nat) : Int)))) w6 (fun (w7 : World) =>
  Q (.tuple #[.slice a24 l24 c24, .int .i64 0]) w7))))))))))))))))
theorem C43 {p1 : Option Addr} {n2 : Int} {Q : Value → World → Prop} {w : World} (h : L43 p1 n2 Q w) : CallR Tryz.prog 43 [.pointer p1, .int .i64 n2] w Q :=
  fun_calls (A := A43) mixed Tryz.func43 (c := (Tryz.f43.body).getD .skip) rfl (by kernel_rfl) (Eq.mp (by kernel_rfl) h)
def A47 : Ann := ⟨[], [], [], [(3, [0, 1, 2, 3, 4, 5, 6, 7, 8, 9, 10, 11, 12, 13]), (15, [0, 1, 2, 3, 4, 5, 6, 7, 8, 9, 10, 11, 12, 13, 14, 15])], [], []⟩
def L47 (p1 : Option Addr) (a2 : Option Addr) (l2 : Nat) (c2 : Nat) (Q : Value → World → Prop) (w : World) : Prop :=
  nn p1 (fun (q3 : Addr) =>
  ∃ (n4 : Int), w.cell? (Addr.add q3 8) = some ((.int .i64 n4 : Value)) ∧
  inI (n4 + 1) ∧
  nn p1 (fun (q5 : Addr) =>
  stC (Addr.add q5 8) (.int .i64 (n4 + 1)) w (fun (w1 : World) =>
  nn p1 (fun (q6 : Addr) =>
  ∃ (n7 : Int), w1.cell? q6 = some ((.int .i64 n7 : Value)) ∧
  cond (n7 == 5)
  (let w2 := World.drew w1;
  nn p1 (fun (q8 : Addr) =>
  ∃ (p9 : Option Addr), w2.cell? (Addr.add q8 6) = some ((.pointer p9 : Value)) ∧
  nn p1 (fun (q10 : Addr) =>
  ∃ (n11 : Int), w2.cell? (Addr.add q10 7) = some ((.int .i64 n11 : Value)) ∧
  CallR Tryz.prog 67 [.pointer p9, .int .i64 n11, .slice a2 l2 c2] w2 (fun (r14 : Value) (w3 : World) =>
  ∃ (n12 : Int) (n13 : Int), r14 = .tuple #[.int .i64 n12, .int .i64 n13] ∧
  Q (.tuple #[.int .i64 n12, .int .i64 n13]) w3))))
  (nn p1 (fun (q15 : Addr) =>
  ∃ (n16 : Int), w1.cell? q15 = some ((.int .i64 n16 : Value)) ∧
  cond (n16 == 3)
  (Q (.tuple #[.int .i64 0, .int .i64 65]) w1)
  (cond (decide ((((l2 : Nat) : Int)) > 1048576))
  (Q (.tuple #[.int .i64 0, .int .i64 5]) w1)
  (cond ((((l2 : Nat) : Int)) == 0)
  (Q (.tuple #[.int .i64 0, .int .i64 0]) w1)
  (nn p1 (fun (q17 : Addr) =>
  ∃ (n18 : Int), w1.cell? q17 = some ((.int .i64 n18 : Value)) ∧
  cond (n18 == 4)
  (CallR Tryz.prog 149 [.pointer p1, .slice a2 l2 c2] w1 (fun (r21 : Value) (w4 : World) =>
  ∃ (n19 : Int) (n20 : Int), r21 = .tuple #[.int .i64 n19, .int .i64 n20] ∧
  Q (.tuple #[.int .i64 n19, .int .i64 n20]) w4))
  (nn p1 (fun (q23 : Addr) =>
  ∃ (n24 : Int), w1.cell? (Addr.add q23 3) = some ((.int .i64 n24 : Value)) ∧
  nn p1 (fun (q25 : Addr) =>
  ∃ (n26 : Int), w1.cell? (Addr.add q25 2) = some ((.int .i64 n26 : Value)) ∧
  ∀ nd22 : Nat, let w5 := World.drewN w1 nd22;
  cond (decide (n24 ≥ n26))
  (Q (.tuple #[.int .i64 0, .int .i64 31]) w5)
  (nn p1 (fun (q28 : Addr) =>
  ∃ (n29 : Int), w5.cell? (Addr.add q28 2) = some ((.int .i64 n29 : Value)) ∧
  nn p1 (fun (q30 : Addr) =>
  ∃ (n31 : Int), w5.cell? (Addr.add q30 3) = some ((.int .i64 n31 : Value)) ∧
  inI (n29 - n31) ∧
  ∀ nd27 : Nat, let w6 := World.drewN w5 nd27;
  let w7 := World.drew w6;
  nn p1 (fun (q32 : Addr) =>
  ∃ (a33 : Option Addr) (l33 : Nat) (c33 : Nat), w7.cell? (Addr.add q32 1) = some ((.slice a33 l33 c33 : Value)) ∧
  nn p1 (fun (q34 : Addr) =>
  ∃ (n35 : Int), w7.cell? (Addr.add q34 3) = some ((.int .i64 n35 : Value)) ∧
  (0 ≤ (mn (((l2 : Nat) : Int)) (n29 - n31) : Int) ∧ (mn (((l2 : Nat) : Int)) (n29 - n31) : Int) ≤ ((c2 : Nat) : Int)) ∧
  CallR Tryz.prog 150 [.slice a33 l33 c33, .int .i64 n35, .slice a2 (Int.toNat (mn (((l2 : Nat) : Int)) (n29 - n31))) c2] w7 (fun (r37 : Value) (w8 : World) =>
  ∃ (a36 : Option Addr) (l36 : Nat) (c36 : Nat), r37 = .slice a36 l36 c36 ∧
  nn p1 (fun (q38 : Addr) =>
  stC (Addr.add q38 1) (.slice a36 l36 c36) w8 (fun (w9 : World) =>
  nn p1 (fun (q39 : Addr) =>
  ∃ (n40 : Int), w9.cell? (Addr.add q39 3) = some ((.int .i64 n40 : Value)) ∧
  inI (n40 + (mn (((l2 : Nat) : Int)) (n29 - n31))) ∧
  nn p1 (fun (q41 : Addr) =>
  stC (Addr.add q41 3) (.int .i64 (n40 + (mn (((l2 : Nat) : Int)) (n29 - n31)))) w9 (fun (w10 : World) =>
  Q (.tuple #[.int .i64 (mn (((l2 : Nat) : Int)) (n29 - n31)), .int .i64 0]) w10))))))))))))))))))))))))
theorem C47 {p1 : Option Addr} {a2 : Option Addr} {l2 : Nat} {c2 : Nat} {Q : Value → World → Prop} {w : World} (h : L47 p1 a2 l2 c2 Q w) : CallR Tryz.prog 47 [.pointer p1, .slice a2 l2 c2] w Q :=
  fun_calls (A := A47) mixed Tryz.func47 (c := (Tryz.f47.body).getD .skip) rfl (by kernel_rfl) (Eq.mp (by kernel_rfl) h)
def A131 : Ann := ⟨[], [], [], [], [], []⟩
def L131 (n1 : Int) (Q : Value → World → Prop) (w : World) : Prop :=
  cond (n1 == 22)
  (Q (.bool true) w)
  (Q (.bool (n1 == 23)) w)
theorem C131 {n1 : Int} {Q : Value → World → Prop} {w : World} (h : L131 n1 Q w) : CallR Tryz.prog 131 [.int .i64 n1] w Q :=
  fun_calls (A := A131) mixed Tryz.func131 (c := (Tryz.f131.body).getD .skip) rfl (by kernel_rfl) (Eq.mp (by kernel_rfl) h)
def A34 : Ann := ⟨[(4, [(6, .one (.int .i64))])], [], [], [], [], []⟩
def L34 (p1 : Option Addr) (n2 : Int) (Q : Value → World → Prop) (w : World) : Prop :=
  cond (decide (n2 < 1))
  (Q (.tuple #[.slice none 0 0, .int .i64 4]) w)
  (cond (decide (n2 > 1048576))
  (Q (.tuple #[.slice none 0 0, .int .i64 4]) w)
  (∃ (I3 : List Value → World → Prop) (mu4 : List Value → World → Nat),
  I3 [.int .i64 0] w ∧
  ∀ (_ : Env) (n5 : Int) (w1 : World), I3 [.int .i64 n5] w1 →
  cond (decide (n5 < 8192))
  (CallR Tryz.prog 43 [.pointer p1, .int .i64 n2] w1 (fun (r8 : Value) (w2 : World) =>
  ∃ (a6 : Option Addr) (l6 : Nat) (c6 : Nat) (n7 : Int), r8 = .tuple #[.slice a6 l6 c6, .int .i64 n7] ∧
  CallR Tryz.prog 131 [.int .i64 n7] w2 (fun (r10 : Value) (w3 : World) =>
  ∃ (b9 : Bool), r10 = .bool b9 ∧
  cond (!b9)
  (Q (.tuple #[.slice a6 l6 c6, .int .i64 n7]) w3)
  (inI (n5 + 1) ∧
  I3 [.int .i64 (n5 + 1)] w3 ∧ mu4 [.int .i64 (n5 + 1)] w3 < mu4 [.int .i64 n5] w1))))
  (Q (.tuple #[.slice none 0 0, .int .i64 81]) w1)))
theorem C34 {p1 : Option Addr} {n2 : Int} {Q : Value → World → Prop} {w : World} (h : L34 p1 n2 Q w) : CallR Tryz.prog 34 [.pointer p1, .int .i64 n2] w Q :=
  fun_calls (A := A34) mixed Tryz.func34 (c := (Tryz.f34.body).getD .skip) rfl (by kernel_rfl) (Eq.mp (by kernel_rfl) h)
def A36 : Ann := ⟨[(4, [(6, .one (.slice))])], [], [], [], [], []⟩
def L36 (p1 : Option Addr) (n2 : Int) (Q : Value → World → Prop) (w : World) : Prop :=
  cond (decide (n2 < 1))
  (Q (.tuple #[.slice none 0 0, .int .i64 4]) w)
  (cond (decide (n2 > 1048576))
  (Q (.tuple #[.slice none 0 0, .int .i64 4]) w)
  (∃ (I3 : List Value → World → Prop) (mu4 : List Value → World → Nat),
  I3 [.slice none 0 0] w ∧
  ∀ (_ : Env) (a5 : Option Addr) (l5 : Nat) (c5 : Nat) (w1 : World), I3 [.slice a5 l5 c5] w1 →
  cond (decide ((((l5 : Nat) : Int)) < n2))
  (inI (n2 - (((l5 : Nat) : Int))) ∧
  CallR Tryz.prog 34 [.pointer p1, .int .i64 (n2 - (((l5 : Nat) : Int)))] w1 (fun (r8 : Value) (w2 : World) =>
  ∃ (a6 : Option Addr) (l6 : Nat) (c6 : Nat) (n7 : Int), r8 = .tuple #[.slice a6 l6 c6, .int .i64 n7] ∧
  cond (n7 != 0)
  (Q (.tuple #[.slice a5 l5 c5, .int .i64 n7]) w2)
  (cond ((((l6 : Nat) : Int)) == 0)
  (Q (.tuple #[.slice a5 l5 c5, .int .i64 n7]) w2)
  (∃ (a9 : Option Addr) (l9 : Nat) (c9 : Nat) (w3 : World), Sem.run Tryz.prog (Builtin.append_ #[40, 40] 40 #[.slice a5 l5 c5, .slice a6 l6 c6]) w2 = .ok ((.slice a9 l9 c9 : Value)) w3 ∧
  I3 [.slice a9 l9 c9] w3 ∧ mu4 [.slice a9 l9 c9] w3 < mu4 [.slice a5 l5 c5] w1))))
  (Q (.tuple #[.slice a5 l5 c5, .int .i64 0]) w1)))
theorem C36 {p1 : Option Addr} {n2 : Int} {Q : Value → World → Prop} {w : World} (h : L36 p1 n2 Q w) : CallR Tryz.prog 36 [.pointer p1, .int .i64 n2] w Q :=
  fun_calls (A := A36) mixed Tryz.func36 (c := (Tryz.f36.body).getD .skip) rfl (by kernel_rfl) (Eq.mp (by kernel_rfl) h)
def A38 : Ann := ⟨[(4, [(6, .one (.int .i64)), (7, .one (.int .i64))])], [], [], [], [], []⟩
def L38 (p1 : Option Addr) (a2 : Option Addr) (l2 : Nat) (c2 : Nat) (Q : Value → World → Prop) (w : World) : Prop :=
  cond (decide ((((l2 : Nat) : Int)) > 1048576))
  (Q (.tuple #[.int .i64 0, .int .i64 5]) w)
  (∃ (I3 : List Value → World → Prop) (mu4 : List Value → World → Nat),
  I3 [.int .i64 0, .int .i64 0] w ∧
  ∀ (_ : Env) (n5 : Int) (n6 : Int) (w1 : World), I3 [.int .i64 n5, .int .i64 n6] w1 →
  cond (decide (n5 < (((l2 : Nat) : Int))))
  ((0 ≤ (n5 : Int) ∧ (n5 : Int) ≤ ((l2 : Nat) : Int)) ∧
  CallR Tryz.prog 47 [.pointer p1, .slice (adv a2 (Int.toNat n5) c2 1) (l2 - Int.toNat n5) (c2 - Int.toNat n5)] w1 (fun (r9 : Value) (w2 : World) =>
  ∃ (n7 : Int) (n8 : Int), r9 = .tuple #[.int .i64 n7, .int .i64 n8] ∧
  CallR Tryz.prog 131 [.int .i64 n8] w2 (fun (r11 : Value) (w3 : World) =>
  ∃ (b10 : Bool), r11 = .bool b10 ∧
  cond b10
  (inI (n6 + 1) ∧
  cond ((n6 + 1) == 8192)
  (Q (.tuple #[.int .i64 n5, .int .i64 81]) w3)
  (I3 [.int .i64 n5, .int .i64 (n6 + 1)] w3 ∧ mu4 [.int .i64 n5, .int .i64 (n6 + 1)] w3 < mu4 [.int .i64 n5, .int .i64 n6] w1))
  (cond (n8 == 0)
  (cond (n7 == 0)
  (inI (n6 + 1) ∧
  cond ((n6 + 1) == 8192)
  (Q (.tuple #[.int .i64 n5, .int .i64 81]) w3)
  (I3 [.int .i64 n5, .int .i64 (n6 + 1)] w3 ∧ mu4 [.int .i64 n5, .int .i64 (n6 + 1)] w3 < mu4 [.int .i64 n5, .int .i64 n6] w1))
  (cond (n8 != 0)
  (Q (.tuple #[.int .i64 n5, .int .i64 n8]) w3)
  (inI (n5 + n7) ∧
  I3 [.int .i64 (n5 + n7), .int .i64 0] w3 ∧ mu4 [.int .i64 (n5 + n7), .int .i64 0] w3 < mu4 [.int .i64 n5, .int .i64 n6] w1)))
  (cond (n8 != 0)
  (Q (.tuple #[.int .i64 n5, .int .i64 n8]) w3)
  (inI (n5 + n7) ∧
  I3 [.int .i64 (n5 + n7), .int .i64 0] w3 ∧ mu4 [.int .i64 (n5 + n7), .int .i64 0] w3 < mu4 [.int .i64 n5, .int .i64 n6] w1))))))
  (Q (.tuple #[.int .i64 n5, .int .i64 0]) w1))
theorem C38 {p1 : Option Addr} {a2 : Option Addr} {l2 : Nat} {c2 : Nat} {Q : Value → World → Prop} {w : World} (h : L38 p1 a2 l2 c2 Q w) : CallR Tryz.prog 38 [.pointer p1, .slice a2 l2 c2] w Q :=
  fun_calls (A := A38) mixed Tryz.func38 (c := (Tryz.f38.body).getD .skip) rfl (by kernel_rfl) (Eq.mp (by kernel_rfl) h)
def A5 : Ann := ⟨[(8, [(12, .one (.int .i64))]), (17, [(15, .one (.int .i64))])], [], [], [(13, [0, 1, 2, 3, 4, 5, 6, 7, 8, 9, 10, 11]), (14, [0, 1, 2, 3, 4, 5, 6, 7, 8, 9, 10, 11]), (24, [0, 1, 2, 3, 4, 5, 6, 7, 8, 9, 10, 11, 12]), (27, [0, 1, 2, 3, 4, 5, 6, 7, 8, 9, 10, 11, 12]), (30, [0, 1, 2, 3, 4, 5, 6, 7, 8, 9, 10, 11, 12])], [], []⟩
def L5 (a1 : Option Addr) (l1 : Nat) (c1 : Nat) (a2 : Option Addr) (l2 : Nat) (c2 : Nat) (a3 : Option Addr) (l3 : Nat) (c3 : Nat) (a4 : Option Addr) (l4 : Nat) (c4 : Nat) (n5 : Int) (a6 : Option Addr) (l6 : Nat) (c6 : Nat) (Q : Value → World → Prop) (w : World) : Prop :=
  let w1 := World.alloc w (Obj.cells #[.slice a1 l1 c1, .slice a2 l2 c2, .slice a3 l3 c3] 26);
  ∃ (a7 : Option Addr) (l7 : Nat) (c7 : Nat) (a8 : Option Addr) (l8 : Nat) (c8 : Nat) (a9 : Option Addr) (l9 : Nat) (c9 : Nat), w1.cell? (Addr.mk w.heap.size 0 none) = some ((.slice a7 l7 c7 : Value)) ∧ w1.cell? (Addr.mk w.heap.size 1 none) = some ((.slice a8 l8 c8 : Value)) ∧ w1.cell? (Addr.mk w.heap.size 2 none) = some ((.slice a9 l9 c9 : Value)) ∧ 
  CallR Tryz.prog 7 [.agg #[.slice a7 l7 c7, .slice a8 l8 c8, .slice a9 l9 c9]] w1 (fun (r13 : Value) (w2 : World) =>
  ∃ (a10 : Option Addr) (l10 : Nat) (c10 : Nat) (a11 : Option Addr) (l11 : Nat) (c11 : Nat) (a12 : Option Addr) (l12 : Nat) (c12 : Nat), r13 = .agg #[.slice a10 l10 c10, .slice a11 l11 c11, .slice a12 l12 c12] ∧
  CallR Tryz.prog 8 [.agg #[.slice a10 l10 c10, .slice a11 l11 c11, .slice a12 l12 c12]] w2 (fun (r16 : Value) (w3 : World) =>
  ∃ (p14 : Option Addr) (n15 : Int), r16 = .tuple #[.pointer p14, .int .i64 n15] ∧
  ∃ (a17 : Option Addr) (l17 : Nat) (c17 : Nat) (a18 : Option Addr) (l18 : Nat) (c18 : Nat) (a19 : Option Addr) (l19 : Nat) (c19 : Nat), w3.cell? (Addr.mk w.heap.size 0 none) = some ((.slice a17 l17 c17 : Value)) ∧ w3.cell? (Addr.mk w.heap.size 1 none) = some ((.slice a18 l18 c18 : Value)) ∧ w3.cell? (Addr.mk w.heap.size 2 none) = some ((.slice a19 l19 c19 : Value)) ∧ 
  CallR Tryz.prog 10 [.agg #[.slice a17 l17 c17, .slice a18 l18 c18, .slice a19 l19 c19]] w3 (fun (r21 : Value) (w4 : World) =>
  ∃ (p20 : Option Addr), r21 = .pointer p20 ∧
  CallR Tryz.prog 26 [.int .i64 n15] w4 (fun (r23 : Value) (w5 : World) =>
  ∃ (n22 : Int), r23 = .int .i64 n22 ∧
  cond (!((n22 == 0) == (!(Option.isNone p20))))
  (Q (.bool false) w5)
  (cond (!((Option.isNone p14) == (Option.isNone p20)))
  (Q (.bool false) w5)
  (cond (Option.isNone p14)
  (CallR Tryz.prog 27 [] w5 (fun (r25 : Value) (w6 : World) =>
  ∃ (b24 : Bool), r25 = .bool b24 ∧
  Q (.bool b24) w6))
  (∃ (I26 : List Value → World → Prop) (mu27 : List Value → World → Nat),
  I26 [.int .i64 0] w5 ∧
  ∀ (_ : Env) (n28 : Int) (w7 : World), I26 [.int .i64 n28] w7 →
  cond (decide (n28 < (((l4 : Nat) : Int))))
  ((0 ≤ (n28 : Int) ∧ (n28 : Int) < ((l4 : Nat) : Int)) ∧
  nn a4 (fun (q29 : Addr) =>
  ∃ (n30 : Int), w7.cell? (Addr.add q29 (Int.toNat n28 * 6)) = some ((.int .i64 n30 : Value)) ∧
  cond (n30 == 1)
  (CallR Tryz.prog 28 [.pointer p14] w7 (fun (r34 : Value) (w8 : World) =>
  ∃ (n31 : Int) (n32 : Int) (n33 : Int), r34 = .tuple #[.int .i64 n31, .int .i64 n32, .int .i64 n33] ∧
  CallR Tryz.prog 29 [.pointer p20] w8 (fun (r38 : Value) (w9 : World) =>
  ∃ (n35 : Int) (n36 : Int) (n37 : Int), r38 = .tuple #[.int .i64 n35, .int .i64 n36, .int .i64 n37] ∧
  inI (n28 + 1) ∧
  I26 [.int .i64 (n28 + 1)] w9 ∧ mu27 [.int .i64 (n28 + 1)] w9 < mu27 [.int .i64 n28] w7)))
  (let w10 := World.drew w7;
  (0 ≤ (n28 : Int) ∧ (n28 : Int) < ((l4 : Nat) : Int)) ∧
  nn a4 (fun (q39 : Addr) =>
  ∃ (s40 : ByteArray), w10.cell? (Addr.add (Addr.add q39 (Int.toNat n28 * 6)) 1) = some ((.string s40 : Value)) ∧
  (0 ≤ (n28 : Int) ∧ (n28 : Int) < ((l4 : Nat) : Int)) ∧
  nn a4 (fun (q41 : Addr) =>
  ∃ (n42 : Int), w10.cell? (Addr.add (Addr.add q41 (Int.toNat n28 * 6)) 2) = some ((.int .i64 n42 : Value)) ∧
  CallR Tryz.prog 30 [.pointer p14, .string s40, .int .i64 n42] w10 (fun (r45 : Value) (w11 : World) =>
  ∃ (n43 : Int) (n44 : Int), r45 = .tuple #[.int .i64 n43, .int .i64 n44] ∧
  let w12 := World.drew w11;
  (0 ≤ (n28 : Int) ∧ (n28 : Int) < ((l4 : Nat) : Int)) ∧
  nn a4 (fun (q46 : Addr) =>
  ∃ (s47 : ByteArray), w12.cell? (Addr.add (Addr.add q46 (Int.toNat n28 * 6)) 1) = some ((.string s47 : Value)) ∧
  (0 ≤ (n28 : Int) ∧ (n28 : Int) < ((l4 : Nat) : Int)) ∧
  nn a4 (fun (q48 : Addr) =>
  ∃ (n49 : Int), w12.cell? (Addr.add (Addr.add q48 (Int.toNat n28 * 6)) 2) = some ((.int .i64 n49 : Value)) ∧
  CallR Tryz.prog 31 [.pointer p20, .string s47, .int .i64 n49] w12 (fun (r52 : Value) (w13 : World) =>
  ∃ (n50 : Int) (n51 : Int), r52 = .tuple #[.int .i64 n50, .int .i64 n51] ∧
  inI (n28 + 1) ∧
  I26 [.int .i64 (n28 + 1)] w13 ∧ mu27 [.int .i64 (n28 + 1)] w13 < mu27 [.int .i64 n28] w7)))))))))
  (CallR Tryz.prog 32 [.pointer p20, .int .i64 n5] w7 (fun (r54 : Value) (w14 : World) =>
  ∃ (p53 : Option Addr), r54 = .pointer p53 ∧
  let w15 := World.alloc w14 (Obj.cells #[.pointer none, .int .i64 0] 70);
  stC (Addr.mk w14.heap.size 0 none) (.pointer p14) w15 (fun (w16 : World) =>
  stC (Addr.mk w14.heap.size 1 none) (.int .i64 n5) w16 (fun (w17 : World) =>
  ∃ (I55 : List Value → World → Prop) (mu56 : List Value → World → Nat),
  I55 [.int .i64 0] w17 ∧
  ∀ (_ : Env) (n57 : Int) (w18 : World), I55 [.int .i64 n57] w18 →
  cond (decide (n57 < (((l6 : Nat) : Int))))
  ((0 ≤ (n57 : Int) ∧ (n57 : Int) < ((l6 : Nat) : Int)) ∧
  nn a6 (fun (q58 : Addr) =>
  ∃ (n59 : Int), w18.cell? (Addr.add q58 (Int.toNat n57 * 3)) = some ((.int .i64 n59 : Value)) ∧
  cond (n59 == 0)
  (let w19 := World.drew w18;
  ∃ (p60 : Option Addr) (n61 : Int), w19.cell? (Addr.mk w14.heap.size 0 none) = some ((.pointer p60 : Value)) ∧ w19.cell? (Addr.mk w14.heap.size 1 none) = some ((.int .i64 n61 : Value)) ∧ 
  (0 ≤ (n57 : Int) ∧ (n57 : Int) < ((l6 : Nat) : Int)) ∧
  nn a6 (fun (q62 : Addr) =>
  ∃ (n63 : Int), w19.cell? (Addr.add (Addr.add q62 (Int.toNat n57 * 3)) 1) = some ((.int .i64 n63 : Value)) ∧
  CallR Tryz.prog 33 [.iface 70 (.agg #[.pointer p60, .int .i64 n61]), .int .i64 n63] w19 (fun (r66 : Value) (w20 : World) =>
  ∃ (a64 : Option Addr) (l64 : Nat) (c64 : Nat) (n65 : Int), r66 = .tuple #[.slice a64 l64 c64, .int .i64 n65] ∧
  (0 ≤ (n57 : Int) ∧ (n57 : Int) < ((l6 : Nat) : Int)) ∧
  nn a6 (fun (q67 : Addr) =>
  ∃ (n68 : Int), w20.cell? (Addr.add (Addr.add q67 (Int.toNat n57 * 3)) 1) = some ((.int .i64 n68 : Value)) ∧
  CallR Tryz.prog 34 [.pointer p53, .int .i64 n68] w20 (fun (r71 : Value) (w21 : World) =>
  ∃ (a69 : Option Addr) (l69 : Nat) (c69 : Nat) (n70 : Int), r71 = .tuple #[.slice a69 l69 c69, .int .i64 n70] ∧
  CallR Tryz.prog 39 [.slice a64 l64 c64, .slice a69 l69 c69] w21 (fun (r73 : Value) (w22 : World) =>
  ∃ (b72 : Bool), r73 = .bool b72 ∧
  cond (!b72)
  (Q (.bool false) w22)
  (CallR Tryz.prog 26 [.int .i64 n65] w22 (fun (r75 : Value) (w23 : World) =>
  ∃ (n74 : Int), r75 = .int .i64 n74 ∧
  cond (n74 != n70)
  (Q (.bool false) w23)
  (inI (n57 + 1) ∧
  I55 [.int .i64 (n57 + 1)] w23 ∧ mu56 [.int .i64 (n57 + 1)] w23 < mu56 [.int .i64 n57] w18)))))))))
  (cond (n59 == 1)
  (let w24 := World.drew w18;
  ∃ (p76 : Option Addr) (n77 : Int), w24.cell? (Addr.mk w14.heap.size 0 none) = some ((.pointer p76 : Value)) ∧ w24.cell? (Addr.mk w14.heap.size 1 none) = some ((.int .i64 n77 : Value)) ∧ 
  (0 ≤ (n57 : Int) ∧ (n57 : Int) < ((l6 : Nat) : Int)) ∧
  nn a6 (fun (q78 : Addr) =>
  ∃ (n79 : Int), w24.cell? (Addr.add (Addr.add q78 (Int.toNat n57 * 3)) 1) = some ((.int .i64 n79 : Value)) ∧
  CallR Tryz.prog 35 [.iface 70 (.agg #[.pointer p76, .int .i64 n77]), .int .i64 n79] w24 (fun (r82 : Value) (w25 : World) =>
  ∃ (a80 : Option Addr) (l80 : Nat) (c80 : Nat) (n81 : Int), r82 = .tuple #[.slice a80 l80 c80, .int .i64 n81] ∧
  (0 ≤ (n57 : Int) ∧ (n57 : Int) < ((l6 : Nat) : Int)) ∧
  nn a6 (fun (q83 : Addr) =>
  ∃ (n84 : Int), w25.cell? (Addr.add (Addr.add q83 (Int.toNat n57 * 3)) 1) = some ((.int .i64 n84 : Value)) ∧
  CallR Tryz.prog 36 [.pointer p53, .int .i64 n84] w25 (fun (r87 : Value) (w26 : World) =>
  ∃ (a85 : Option Addr) (l85 : Nat) (c85 : Nat) (n86 : Int), r87 = .tuple #[.slice a85 l85 c85, .int .i64 n86] ∧
  CallR Tryz.prog 39 [.slice a80 l80 c80, .slice a85 l85 c85] w26 (fun (r89 : Value) (w27 : World) =>
  ∃ (b88 : Bool), r89 = .bool b88 ∧
  cond (!b88)
  (Q (.bool false) w27)
  (CallR Tryz.prog 26 [.int .i64 n81] w27 (fun (r91 : Value) (w28 : World) =>
  ∃ (n90 : Int), r91 = .int .i64 n90 ∧
  cond (n90 != n86)
  (Q (.bool false) w28)
  (inI (n57 + 1) ∧
  I55 [.int .i64 (n57 + 1)] w28 ∧ mu56 [.int .i64 (n57 + 1)] w28 < mu56 [.int .i64 n57] w18)))))))))
  (cond (n59 == 2)
  (let w29 := World.drew w18;
  ∃ (p92 : Option Addr) (n93 : Int), w29.cell? (Addr.mk w14.heap.size 0 none) = some ((.pointer p92 : Value)) ∧ w29.cell? (Addr.mk w14.heap.size 1 none) = some ((.int .i64 n93 : Value)) ∧ 
  (0 ≤ (n57 : Int) ∧ (n57 : Int) < ((l6 : Nat) : Int)) ∧
  nn a6 (fun (q94 : Addr) =>
  ∃ (a95 : Option Addr) (l95 : Nat) (c95 : Nat), w29.cell? (Addr.add (Addr.add q94 (Int.toNat n57 * 3)) 2) = some ((.slice a95 l95 c95 : Value)) ∧
  CallR Tryz.prog 37 [.iface 70 (.agg #[.pointer p92, .int .i64 n93]), .slice a95 l95 c95] w29 (fun (r98 : Value) (w30 : World) =>
  ∃ (n96 : Int) (n97 : Int), r98 = .tuple #[.int .i64 n96, .int .i64 n97] ∧
  (0 ≤ (n57 : Int) ∧ (n57 : Int) < ((l6 : Nat) : Int)) ∧
  nn a6 (fun (q99 : Addr) =>
  ∃ (a100 : Option Addr) (l100 : Nat) (c100 : Nat), w30.cell? (Addr.add (Addr.add q99 (Int.toNat n57 * 3)) 2) = some ((.slice a100 l100 c100 : Value)) ∧
  CallR Tryz.prog 38 [.pointer p53, .slice a100 l100 c100] w30 (fun (r103 : Value) (w31 : World) =>
  ∃ (n101 : Int) (n102 : Int), r103 = .tuple #[.int .i64 n101, .int .i64 n102] ∧
  CallR Tryz.prog 39 [.slice none 0 0, .slice none 0 0] w31 (fun (r105 : Value) (w32 : World) =>
  ∃ (b104 : Bool), r105 = .bool b104 ∧
  cond (!b104)
  (Q (.bool false) w32)
  (cond (n96 != n101)
  (Q (.bool false) w32)
  (CallR Tryz.prog 26 [.int .i64 n97] w32 (fun (r107 : Value) (w33 : World) =>
  ∃ (n106 : Int), r107 = .int .i64 n106 ∧
  cond (n106 != n102)
  (Q (.bool false) w33)
  (inI (n57 + 1) ∧
  I55 [.int .i64 (n57 + 1)] w33 ∧ mu56 [.int .i64 (n57 + 1)] w33 < mu56 [.int .i64 n57] w18))))))))))
  (CallR Tryz.prog 39 [.slice none 0 0, .slice none 0 0] w18 (fun (r109 : Value) (w34 : World) =>
  ∃ (b108 : Bool), r109 = .bool b108 ∧
  cond (!b108)
  (Q (.bool false) w34)
  (CallR Tryz.prog 26 [.int .i64 0] w34 (fun (r111 : Value) (w35 : World) =>
  ∃ (n110 : Int), r111 = .int .i64 n110 ∧
  cond (n110 != 0)
  (Q (.bool false) w35)
  (inI (n57 + 1) ∧
  I55 [.int .i64 (n57 + 1)] w35 ∧ mu56 [.int .i64 (n57 + 1)] w35 < mu56 [.int .i64 n57] w18)))))))))
  (CallR Tryz.prog 14 [.pointer p14, .pointer p20] w18 (fun (r113 : Value) (w36 : World) =>
  ∃ (b112 : Bool), r113 = .bool b112 ∧
  cond b112
  (CallR Tryz.prog 27 [] w36 (fun (r115 : Value) (w37 : World) =>
  ∃ (b114 : Bool), r115 = .bool b114 ∧
  Q (.bool b114) w37))
  (Q (.bool false) w36))))))))))))))
theorem C5 {a1 : Option Addr} {l1 : Nat} {c1 : Nat} {a2 : Option Addr} {l2 : Nat} {c2 : Nat} {a3 : Option Addr} {l3 : Nat} {c3 : Nat} {a4 : Option Addr} {l4 : Nat} {c4 : Nat} {n5 : Int} {a6 : Option Addr} {l6 : Nat} {c6 : Nat} {Q : Value → World → Prop} {w : World} (h : L5 a1 l1 c1 a2 l2 c2 a3 l3 c3 a4 l4 c4 n5 a6 l6 c6 Q w) : CallR Tryz.prog 5 [.agg #[.slice a1 l1 c1, .slice a2 l2 c2, .slice a3 l3 c3], .slice a4 l4 c4, .int .i64 n5, .slice a6 l6 c6] w Q :=
  fun_calls (A := A5) mixed Tryz.func5 (c := (Tryz.f5.body).getD .skip) rfl (by kernel_rfl) (Eq.mp (by kernel_rfl) h)
end Go.Proofs.YtpoaacnnhgebfaaGreat
set_option maxRecDepth 512
namespace Go.Proofs.YtpoaacnnhgebfaaGreat
open Go.Lw
def RawK (w : World) (x pk : Nat) (d cl : Int) : Prop := Blk w x #[.int .i64 5, .slice none 0 0, .int .i64 0, .int .i64 0, .slice none 0 0, .slice none 0 0, pd pk, .int .i64 d, .int .i64 cl]
theorem prof_ok {w : World} (pk : Nat) (d : Int) : CallR Tryz.prog 32 [pd pk, .int .i64 d] w fun v w' => v = pd w.heap.size ∧ RawK w' w.heap.size pk d 0 ∧ Kept No w w' := by
  refine C32 ?_
  unfold L32
  intro w1
  exact ⟨rfl, Blk.alloc _ _ _, Kept.alloc _ _ _⟩
theorem prread_ok {w : World} {x pk : Nat} {d cl : Int} {s : AK} {M : KL} (hX : RawK w x pk d cl) (hP : PagE w pk s M) (hn : M.own x = none) (n : Int) (hc : s.c0 ≤ 4611686018427387904) (h0 : 0 ≤ cl) (h1 : cl ≤ 4611686018427387904) :
    CallR Tryz.prog 43 [pd x, .int .i64 n] w fun v w' => ∃ a l c M', v = .tuple #[.slice a l c, .int .i64 (s.read d n).2.1] ∧ RdB w' a l c (s.read d n).1 ∧ RawK w' x pk d (cl + 1) ∧ PagE w' pk (s.read d n).2.2 M' ∧ TStep x w w' M M' := by
  refine C43 ?_
  unfold L43
  refine nnI ⟨_, hX.at (i := 8) rfl, ⟨by omega, by omega⟩, nnI (stC_blk hX (by simp) fun w1 hb1 hk1 hs1 => ?_)⟩
  have hX1 : RawK w1 x pk d (cl + 1) := hb1
  have hP1 := hP.keepT hn hk1
  refine nnI ⟨_, hX1.at0 rfl, condTr2 ?_⟩
  intro w2
  have hk2 : Kept No w1 w2 := Kept.drew _ _
  clear_value w2
  have hX2 : RawK w2 x pk d (cl + 1) := Blk.keep hX1 hk2 fun e => e
  obtain ⟨tl, nm, hP2⟩ := hP1.no hk2
  refine nnI ⟨_, hX2.at (i := 6) rfl, nnI ⟨_, hX2.at (i := 7) rfl, CallR.mono (pread_ok hP2 d n hc) ?_⟩⟩
  rintro v w3 ⟨a, l, c, M3, rfl, hr, h3, st3⟩
  exact ⟨_, _, _, _, rfl, a, l, c, M3, rfl, hr, Blk.keep hX2 st3.kept fun e => e hn, ⟨_, _, h3⟩, (TStep.of_t hk1).trans (.of_k (st3.fresh hk2))⟩
theorem prwrite_ok {w : World} {x pk : Nat} {d cl : Int} {s : AK} {M : KL} (hX : RawK w x pk d cl) (hP : PagE w pk s M) (hn : M.own x = none) {a : Option Addr} {l c : Nat} {ds : List Int} (hd : RdB w a l c ds) (hap : ∀ k, k < w.heap.size → inA a k → M.own k = none ∧ k ≠ x) (hc : s.c1 ≤ 4611686018427387904) (h0 : 0 ≤ cl) (h1 : cl ≤ 4611686018427387904) :
    CallR Tryz.prog 47 [pd x, .slice a l c] w fun v w' => v = .tuple #[.int .i64 (s.write d ds).1, .int .i64 (s.write d ds).2.1] ∧ ∃ M', RawK w' x pk d (cl + 1) ∧ PagE w' pk (s.write d ds).2.2 M' ∧ TStep x w w' M M' := by
  refine C47 ?_
  unfold L47
  refine nnI ⟨_, hX.at (i := 8) rfl, ⟨by omega, by omega⟩, nnI (stC_blk hX (by simp) fun w1 hb1 hk1 hs1 => ?_)⟩
  have hX1 : RawK w1 x pk d (cl + 1) := hb1
  have hP1 := hP.keepT hn hk1
  refine nnI ⟨_, hX1.at0 rfl, condTr2 ?_⟩
  intro w2
  have hk2 : Kept No w1 w2 := Kept.drew _ _
  clear_value w2
  have hX2 : RawK w2 x pk d (cl + 1) := Blk.keep hX1 hk2 fun e => e
  obtain ⟨tl, nm, hP2⟩ := hP1.no hk2
  have hd2 : RdB w2 a l c ds := (hd.keep hk1 fun b hl hb e => (hap b hl hb).2 e).keep hk2 fun _ _ _ e => e
  have hap2 : ∀ k, inA a k → M.own k = none := fun k hk => by
    by_cases hl : k < w.heap.size
    · exact (hap k hl hk).1
    · exact hP.new_none (by omega)
  refine nnI ⟨_, hX2.at (i := 6) rfl, nnI ⟨_, hX2.at (i := 7) rfl, CallR.mono (pwrite_ok hP2 d hd2 (fun _ => hap2) hc) ?_⟩⟩
  rintro v w3 ⟨rfl, M3, h3, st3⟩
  exact ⟨_, _, rfl, rfl, M3, Blk.keep hX2 st3.kept fun e => e hn, ⟨_, _, h3⟩, (TStep.of_t hk1).trans (.of_k (st3.fresh hk2))⟩
theorem again_to {w : World} {e : Int} {Q : Value → World → Prop} (hq : Q (.bool (decide (e = 22 ∨ e = 23))) w) : CallR Tryz.prog 131 [.int .i64 e] w Q := by
  refine C131 ?_
  unfold L131
  refine condI (fun h => ?_) (fun h => ?_)
  · have h : e = 22 := by simpa using h
    subst h; exact hq
  · have h : ¬ e = 22 := by simpa using h
    have e2 : (e == 23) = decide (e = 22 ∨ e = 23) := by
      by_cases h3 : e = 23
      · subst h3; rfl
      · simp [h, h3]
    rw [e2]; exact hq
set_option maxRecDepth 100000 in
theorem prsome_ok {w : World} {x pk : Nat} {d cl : Int} {s : AK} {M : KL} (hX : RawK w x pk d cl) (hP : PagE w pk s M) (hn : M.own x = none) (n : Int) (hc : s.c0 + (s.ps.length : Int) ≤ 4611686018427387904) (h0 : 0 ≤ cl) (h1 : cl + (s.ps.length : Int) ≤ 4611686018427387904) :
    CallR Tryz.prog 34 [pd x, .int .i64 n] w fun v w' => ∃ a l c cl' M', v = .tuple #[.slice a l c, .int .i64 (s.rsome d n).2.1] ∧ RdB w' a l c (s.rsome d n).1 ∧ RawK w' x pk d cl' ∧ PagE w' pk (s.rsome d n).2.2 M' ∧ TStep x w w' M M' ∧ 0 ≤ cl' ∧ cl' + ((s.rsome d n).2.2.ps.length : Int) ≤ cl + (s.ps.length : Int) + 1 := by
  refine C34 ?_
  unfold L34
  have hr : s.rsome d n = if n < 1 ∨ n > 1048576 then ([], 4, s) else AK.someN 8192 s d n := rfl
  have bad : n < 1 ∨ n > 1048576 → ∃ a l c cl' M', (.tuple #[.slice none 0 0, .int .i64 4] : Value) = .tuple #[.slice a l c, .int .i64 (s.rsome d n).2.1] ∧ RdB w a l c (s.rsome d n).1 ∧ RawK w x pk d cl' ∧ PagE w pk (s.rsome d n).2.2 M' ∧ TStep x w w M M' ∧ 0 ≤ cl' ∧ cl' + ((s.rsome d n).2.2.ps.length : Int) ≤ cl + (s.ps.length : Int) + 1 := by
    intro e
    rw [hr, if_pos e]
    exact ⟨none, 0, 0, cl, M, rfl, (OB.nil _).rd, hX, hP, .refl _ _ _, h0, by dsimp only; omega⟩
  refine condP (fun e => bad (.inl e)) (fun e1 => condP (fun e => bad (.inr e)) (fun e2 => ?_))
  rw [if_neg (by omega)] at hr
  refine ⟨fun vs w' => ∃ (i : Nat) (s' : AK) (M' : KL) (cl' : Int), vs = [.int .i64 (i : Int)] ∧ i ≤ 8192 ∧ s.rsome d n = AK.someN (8192 - i) s' d n ∧ RawK w' x pk d cl' ∧ PagE w' pk s' M' ∧ M'.own x = none ∧ TStep x w w' M M' ∧ 0 ≤ cl' ∧ cl' + (s'.ps.length : Int) ≤ cl + (s.ps.length : Int) ∧ s'.c0 + (s'.ps.length : Int) ≤ s.c0 + (s.ps.length : Int),
    fun vs _ => 8192 - ix vs, ⟨0, s, M, cl, rfl, by omega, hr, hX, hP, hn, .refl _ _ _, h0, by omega, by omega⟩, ?_⟩
  rintro _ n5 w1 ⟨i, s', M', cl', hvs, hi, hrel, hX1, hP1, hn1, st1, h01, hp1, hp2⟩
  simp only [List.cons.injEq, Value.int.injEq, true_and, and_true] at hvs
  subst hvs
  refine condP (fun hlt => ?_) (fun hge => ?_)
  · obtain ⟨k, hk⟩ : ∃ k, 8192 - i = k + 1 := ⟨8191 - i, by omega⟩
    have hk' : 8192 - (i + 1) = k := by omega
    rw [hk] at hrel
    have hrel : s.rsome d n = if (s'.read d n).2.1 = 22 ∨ (s'.read d n).2.1 = 23 then AK.someN k (s'.read d n).2.2 d n else s'.read d n := hrel
    obtain ⟨q1, q2, q3⟩ := AK.read_pot s' d n
    refine CallR.mono (prread_ok hX1 hP1 hn1 n (by omega) h01 (by omega)) ?_
    rintro v w2 ⟨a, l, c, M2, rfl, hr2, hX2, hP2, st2⟩
    refine ⟨_, _, _, _, rfl, again_to ⟨_, rfl, ?_⟩⟩
    by_cases hag : (s'.read d n).2.1 = 22 ∨ (s'.read d n).2.1 = 23
    · rw [if_pos hag] at hrel
      obtain ⟨q4, q5⟩ := q3 hag
      refine condF (by rw [decide_eq_true hag]; rfl) ⟨⟨by omega, by omega⟩, ⟨i + 1, _, M2, cl' + 1, rfl, by omega, by rw [hk']; exact hrel, hX2, hP2, st2.own hn1 hX1.lt, st1.trans st2, by omega, by omega, by omega⟩, ?_⟩
      simp only [ix]; omega
    · rw [if_neg hag] at hrel
      rw [hrel]
      exact condT (by rw [decide_eq_false hag]; rfl) ⟨a, l, c, cl' + 1, M2, rfl, hr2, hX2, hP2, st1.trans st2, by omega, by omega⟩
  · have : 8192 - i = 0 := by omega
    rw [this] at hrel
    have hrel : s.rsome d n = ([], 81, s') := hrel
    rw [hrel]
    exact ⟨none, 0, 0, cl', M', rfl, (OB.nil _).rd, hX1, hP1, st1, h01, by dsimp only; omega⟩
set_option maxRecDepth 100000 in
theorem prall_ok {w : World} {x pk : Nat} {d cl : Int} {s : AK} {M : KL} (hX : RawK w x pk d cl) (hP : PagE w pk s M) (hn : M.own x = none) (n : Int) (hc : s.c0 + (s.ps.length : Int) ≤ 4611686018420000000) (h0 : 0 ≤ cl) (h1 : cl + (s.ps.length : Int) ≤ 4611686018420000000) :
    CallR Tryz.prog 36 [pd x, .int .i64 n] w fun v w' => ∃ a l c cl' M', v = .tuple #[.slice a l c, .int .i64 (s.rall d n).2.1] ∧ RdB w' a l c (s.rall d n).1 ∧ RawK w' x pk d cl' ∧ PagE w' pk (s.rall d n).2.2 M' ∧ TStep x w w' M M' ∧ 0 ≤ cl' ∧ cl' + ((s.rall d n).2.2.ps.length : Int) ≤ cl + (s.ps.length : Int) + 1048576 := by
  refine C36 ?_
  unfold L36
  have hr : s.rall d n = AK.allN (n.toNat + 1) s d n [] := rfl
  have bad : n < 1 ∨ n > 1048576 → ∃ a l c cl' M', (.tuple #[.slice none 0 0, .int .i64 4] : Value) = .tuple #[.slice a l c, .int .i64 (s.rall d n).2.1] ∧ RdB w a l c (s.rall d n).1 ∧ RawK w x pk d cl' ∧ PagE w pk (s.rall d n).2.2 M' ∧ TStep x w w M M' ∧ 0 ≤ cl' ∧ cl' + ((s.rall d n).2.2.ps.length : Int) ≤ cl + (s.ps.length : Int) + 1048576 := by
    intro e
    have hs : s.rsome d n = ([], 4, s) := by unfold AK.rsome; rw [if_pos e]
    have : s.rall d n = ([], 4, s) := by
      rw [hr, AK.allN_succ]
      simp only [List.length_nil, Int.natCast_zero, Int.sub_zero, hs]
      rfl
    rw [this]
    exact ⟨none, 0, 0, cl, M, rfl, (OB.nil _).rd, hX, hP, .refl _ _ _, h0, by dsimp only; omega⟩
  refine condP (fun e => bad (.inl e)) (fun e1 => condP (fun e => bad (.inr e)) (fun e2 => ?_))
  refine ⟨fun vs w' => ∃ (a : Option Addr) (l c : Nat) (k : Nat) (acc : List Int) (s' : AK) (M' : KL) (cl' : Int), vs = [.slice a l c] ∧ OB w' a l c acc ∧ (l : Int) ≤ n ∧ n < (k : Int) + (l : Int) ∧ s.rall d n = (if (l : Int) < n then AK.allN k s' d n acc else (acc, 0, s')) ∧ (∀ z, inA a z → w.heap.size ≤ z ∧ M'.own z = none) ∧ RawK w' x pk d cl' ∧ PagE w' pk s' M' ∧ M'.own x = none ∧ TStep x w w' M M' ∧ 0 ≤ cl' ∧ cl' + (s'.ps.length : Int) ≤ cl + (s.ps.length : Int) + (l : Int) ∧ s'.c0 + (s'.ps.length : Int) ≤ s.c0 + (s.ps.length : Int) + (l : Int),
    fun vs _ => match vs with | [.slice _ l _] => (n - (l : Int)).toNat | _ => 0, ⟨none, 0, 0, n.toNat + 1, [], s, M, cl, rfl, OB.nil _, by omega, by omega, by rw [if_pos (by omega)]; exact hr, fun z hz => absurd hz (inA_none z), hX, hP, hn, .refl _ _ _, h0, by omega, by omega⟩, ?_⟩
  rintro _ a5 l5 c5 w1 ⟨_, _, _, k, acc, s', M', cl', hvs, ob, hln, hkn, hrel, hap, hX1, hP1, hn1, st1, h01, hp1, hp2⟩
  simp only [List.cons.injEq, Value.slice.injEq, and_true] at hvs
  obtain ⟨rfl, rfl, rfl⟩ := hvs
  have hacc := ob.len
  refine condP (fun hlt => ?_) (fun hge => ?_)
  · rw [if_pos hlt] at hrel
    obtain ⟨k', rfl⟩ : ∃ k', k = k' + 1 := ⟨k - 1, by omega⟩
    rw [AK.allN_succ, hacc] at hrel
    obtain ⟨q1, q2⟩ := AK.rsome_pot s' d (n - (l5 : Int))
    refine ⟨⟨by omega, by omega⟩, CallR.mono (prsome_ok hX1 hP1 hn1 _ (by omega) h01 (by omega)) ?_⟩
    rintro v w2 ⟨a6, l6, c6, cl2, M2, rfl, hr2, hX2, hP2, st2, h02, hp3⟩
    have hl6 := hr2.len
    have hzw := st1.kept.size
    have hz4 : ∀ z, inA a5 z → z < w1.heap.size := SlO.lt ob
    have hXl : x < w.heap.size := hX.lt
    have ob2 : OB w2 a5 l5 c5 acc := ob.keep st2.kept fun z hz e => by
      rcases e with e | e
      · exact e (hap z hz).2
      · have := (hap z hz).1; omega
    have hap2 : ∀ z, inA a5 z → w.heap.size ≤ z ∧ M2.own z = none := fun z hz => ⟨(hap z hz).1, st2.own (hap z hz).2 (hz4 z hz)⟩
    have hn2 := st2.own hn1 hX1.lt
    have st12 := st1.trans st2
    refine ⟨_, _, _, _, rfl, condN (fun hne => ?_) (fun he => ?_)⟩
    · have hne1 := AK.rsome_err hne
      rw [if_neg (fun h => hne h.1), hne1, List.append_nil] at hrel
      rw [hrel]
      exact ⟨a5, l5, c5, cl2, M2, rfl, ob2.rd, hX2, hP2, st12, h02, by dsimp only; omega⟩
    have hlen := (AK.rsome_len he).2.2
    refine condI (fun hz => ?_) (fun hz => ?_)
    · have hz : l6 = 0 := by simpa using hz
      have hnil : (s'.rsome d (n - (l5 : Int))).1 = [] := List.eq_nil_of_length_eq_zero (by omega)
      rw [if_neg (fun h => h.2.1 (by omega)), hnil, List.append_nil] at hrel
      rw [hrel]
      exact ⟨a5, l5, c5, cl2, M2, rfl, ob2.rd, hX2, hP2, st12, h02, by dsimp only; omega⟩
    have hz : l6 ≠ 0 := by simpa using hz
    obtain ⟨a9, c9, w3, hrun, hs3, hk3, hat, _⟩ := run_app_sl (P := Tryz.prog) (t := 40) (t2 := 40) (ty := 40) (by kernel_rfl : slTyB Tryz.prog 40 1 1 = true) (by kernel_rfl) (ob2 : SlO 1 w2 a5 l5 c5 (By acc)) (hr2 : RdS 1 w2 a6 l6 c6 (By (s'.rsome d (n - (l5 : Int))).1)) (By_one _) (by omega) (by omega)
    rw [← By_append] at hs3
    have hz2 := st12.kept.size
    have hX3 : RawK w3 x pk d cl2 := Blk.keep hX2 hk3 fun e => by have := (hap x e).1; omega
    have hP3 := hP2.keep hk3 fun z hz => (hap2 z hz).2
    have st3 : TStep x w w3 M M2 := ⟨st12.kept.trans hk3 fun z hz e => by have := (hap z e).1; omega, st12.grew⟩
    refine ⟨_, _, _, w3, hrun, ⟨a9, l5 + l6, c9, k', acc ++ (s'.rsome d (n - (l5 : Int))).1, _, M2, cl2, rfl, hs3, by omega, by omega, ?_, fun z hz => ?_, hX3, hP3, hn2, st3, h02, by omega, by omega⟩, ?_⟩
    · rw [hrel]
      have hcast : ((l5 + (s'.rsome d (n - (l5 : Int))).1.length : Nat) : Int) = ((l5 + l6 : Nat) : Int) := by rw [hl6]
      by_cases hlt2 : ((l5 + l6 : Nat) : Int) < n
      · rw [if_pos ⟨he, by omega, by rw [hcast]; exact hlt2⟩, if_pos hlt2]
      · rw [if_neg (fun h => hlt2 (by rw [← hcast]; exact h.2.2)), if_neg hlt2, he]
    · rcases hat.in hz with e | e
      · exact hap2 z e
      · subst e; exact ⟨by omega, hP2.new_none (Nat.le_refl _)⟩
    · show (n - ((l5 + l6 : Nat) : Int)).toNat < (n - (l5 : Int)).toNat
      omega
  · rw [if_neg (by omega)] at hrel
    rw [hrel]
    exact ⟨a5, l5, c5, cl', M', rfl, ob.rd, hX1, hP1, st1, h01, by dsimp only; omega⟩
set_option maxRecDepth 100000 in
theorem prput_ok {w : World} {x pk : Nat} {d cl : Int} {s : AK} {M : KL} (hX : RawK w x pk d cl) (hP : PagE w pk s M) (hn : M.own x = none) {a : Option Addr} {l c : Nat} {bs : List Int} (hb : RdB w a l c bs) (hold : bs ≠ [] → ∀ z, inA a z → z < w.heap.size ∧ M.own z = none ∧ z ≠ x) (hc : s.c1 + (s.ps.length : Int) ≤ 4611686018420000000) (h0 : 0 ≤ cl) (h1 : cl + (s.ps.length : Int) ≤ 4611686018420000000) :
    CallR Tryz.prog 38 [pd x, .slice a l c] w fun v w' => v = .tuple #[.int .i64 (s.rput d bs).1, .int .i64 (s.rput d bs).2.1] ∧ ∃ cl' M', RawK w' x pk d cl' ∧ PagE w' pk (s.rput d bs).2.2 M' ∧ TStep x w w' M M' ∧ 0 ≤ cl' ∧ cl' + ((s.rput d bs).2.2.ps.length : Int) ≤ cl + (s.ps.length : Int) + 1048576 ∧ (s.rput d bs).2.2.c1 + ((s.rput d bs).2.2.ps.length : Int) ≤ s.c1 + (s.ps.length : Int) + 1048576 := by
  refine C38 ?_
  unfold L38
  have hlen := hb.len
  have hlc : l ≤ c := hb.2.1
  have hr : s.rput d bs = if 1048576 < bs.length then (0, 5, s) else AK.putN (8192 * bs.length + 8193) s d bs 0 0 := rfl
  refine condP (fun e => ?_) (fun e => ?_)
  · rw [hr, if_pos (by omega)]; exact ⟨rfl, cl, M, hX, hP, .refl _ _ _, h0, by dsimp only; omega, by dsimp only; omega⟩
  rw [if_neg (by omega)] at hr
  refine ⟨fun vs w' => ∃ (done p k : Nat) (s' : AK) (M' : KL) (cl' : Int), vs = [.int .i64 (done : Int), .int .i64 (p : Int)] ∧ done ≤ l ∧ p < 8192 ∧ s.rput d bs = AK.putN k s' d bs done p ∧ 8192 * (l - done) + (8192 - p) < k ∧ RawK w' x pk d cl' ∧ PagE w' pk s' M' ∧ M'.own x = none ∧ TStep x w w' M M' ∧ 0 ≤ cl' ∧ cl' + (s'.ps.length : Int) ≤ cl + (s.ps.length : Int) + (done : Int) ∧ s'.c1 + (s'.ps.length : Int) ≤ s.c1 + (s.ps.length : Int) + (done : Int),
    fun vs _ => match vs with | [.int _ m, .int _ p] => 8192 * (l - m.toNat) + (8192 - p.toNat) | _ => 0,
    ⟨0, 0, 8192 * l + 8193, s, M, cl, rfl, by omega, by omega, by rw [hr, hlen], by omega, hX, hP, hn, .refl _ _ _, h0, by omega, by omega⟩, ?_⟩
  rintro _ n5 n6 w1 ⟨done, p, k, s', M', cl', hvs, hdone, hp, hrel, hk, hX1, hP1, hn1, st1, h01, hp1, hp2⟩
  simp only [List.cons.injEq, Value.int.injEq, true_and, and_true] at hvs
  obtain ⟨rfl, rfl⟩ := hvs
  obtain ⟨k', rfl⟩ : ∃ k', k = k' + 1 := ⟨k - 1, by omega⟩
  rw [AK.putN_succ] at hrel
  refine condP (fun hlt => ?_) (fun hge => ?_)
  · rw [if_neg (by omega)] at hrel
    have hrl : (bs.drop done).length = l - done := by rw [List.length_drop]; omega
    have hne0 : bs ≠ [] := fun e => by rw [e] at hlen; simp at hlen; omega
    have hb1 : RdB w1 a l c bs := hb.keep st1.kept fun z _ hz e => by
      obtain ⟨o1, o2, o3⟩ := hold hne0 z hz
      rcases e with e | e
      · exact e o2
      · exact o3 e
    have hap : ∀ z, inA (adv a done c 1) z → M'.own z = none ∧ z ≠ x := fun z hz => by
      obtain ⟨o1, o2, o3⟩ := hold hne0 z (inA_adv.1 hz)
      exact ⟨st1.own o2 o1, o3⟩
    have hok' : s'.Ok := by obtain ⟨tl, nm, h⟩ := hP1; exact h.ok
    obtain ⟨q1, q2, q3, q4⟩ := AK.write_pot hok' hok'.pm d (bs.drop done)
    refine ⟨⟨by omega, by omega⟩, ?_⟩
    rw [Int.toNat_natCast]
    refine CallR.mono (prwrite_ok hX1 hP1 hn1 (hb1.from done (by omega)) (fun z _ hz => hap z hz) (by omega) h01 (by omega)) ?_
    rintro v w2 ⟨rfl, M2, hX2, hP2, st2⟩
    generalize hgw : s'.write d (bs.drop done) = r at hrel hP2 q1 q2 q3 q4 ⊢
    obtain ⟨rn, re, rs⟩ := r
    dsimp only at hrel hP2 q1 q2 q3 q4 ⊢
    have hn2 := st2.own hn1 hX1.lt
    have st12 := st1.trans st2
    have hzero : re = 0 → rn ≠ 0 := fun h => by have := (q4 h).2.2 (by omega); omega
    refine ⟨_, _, rfl, again_to ⟨_, rfl, ?_⟩⟩
    by_cases hag : re = 22 ∨ re = 23
    · obtain ⟨q5, q6⟩ := q3 hag
      rw [if_pos (by omega)] at hrel
      refine condT (by rw [decide_eq_true hag]) ⟨⟨by omega, by omega⟩, condI (fun h => ?_) (fun h => ?_)⟩
      · have h : (p : Int) + 1 = 8192 := by simpa using h
        rw [if_pos (by omega)] at hrel
        rw [hrel]
        exact ⟨rfl, cl' + 1, M2, hX2, hP2, st12, by omega, by dsimp only; omega, by dsimp only; omega⟩
      · have h : (p : Int) + 1 ≠ 8192 := by simpa using h
        rw [if_neg (by omega)] at hrel
        refine ⟨⟨done, p + 1, k', rs, M2, cl' + 1, rfl, hdone, by omega, hrel, by omega, hX2, hP2, hn2, st12, by omega, by omega, by omega⟩, ?_⟩
        show 8192 * (l - Int.toNat (done : Int)) + (8192 - Int.toNat ((p : Int) + 1)) < 8192 * (l - Int.toNat (done : Int)) + (8192 - Int.toNat (p : Int))
        omega
    · have hnot : ¬ (re = 22 ∨ re = 23 ∨ (re = 0 ∧ rn = 0)) := fun h => by
        rcases h with h | h | ⟨h, h'⟩
        · exact hag (.inl h)
        · exact hag (.inr h)
        · exact hzero h h'
      rw [if_neg hnot] at hrel
      refine condF (by rw [decide_eq_false hag]) (condI (fun he => ?_) (fun he => ?_))
      · have he : re = 0 := by simpa using he
        obtain ⟨b1, b2, b3⟩ := q4 he
        have b3 := b3 (by omega)
        rw [if_neg (by omega), if_neg (by omega)] at hrel
        refine condF (by simpa using hzero he) (condF (by simpa using he) ⟨⟨by omega, by omega⟩, ⟨done + rn.toNat, 0, k', rs, M2, cl' + 1, ?_, by omega, by omega, hrel, by omega, hX2, hP2, hn2, st12, by omega, by omega, by omega⟩, ?_⟩)
        · rw [show ((done + rn.toNat : Nat) : Int) = (done : Int) + rn by omega]; rfl
        · show 8192 * (l - Int.toNat ((done : Int) + rn)) + (8192 - Int.toNat 0) < 8192 * (l - Int.toNat (done : Int)) + (8192 - Int.toNat (p : Int))
          omega
      · have he : re ≠ 0 := by simpa using he
        rw [if_pos he] at hrel
        rw [hrel]
        exact condT (by simpa using he) ⟨rfl, cl' + 1, M2, hX2, hP2, st12, by omega, by dsimp only; omega, by dsimp only; omega⟩
  · rw [if_pos (by omega)] at hrel
    rw [hrel]
    have : done = l := by omega
    exact ⟨by rw [this, hlen], cl', M', hX1, hP1, st1, h01, by dsimp only; omega, by dsimp only; omega⟩
end Go.Proofs.YtpoaacnnhgebfaaGreat
namespace Go.Proofs.YtpoaacnnhgebfaaGreat
open Go.Lw
structure DuR (W w : World) (gk pk x e : Nat) (d cl : Int) (s : AK) (L M : KL) : Prop where
  du : ∃ tl nm, Duo W w gk pk s L M tl nm
  hx : RawK w x pk d cl
  he : Blk w e #[pd gk, .int .i64 d]
  lx : L.own x = none
  mx : M.own x = none
  le : L.own e = none
  me : M.own e = none
  ex : e ≠ x
  wx : W.heap.size ≤ x
theorem DuR.hk {W w : World} {gk pk x e : Nat} {d cl : Int} {s : AK} {L M : KL} (h : DuR W w gk pk x e d cl s L M) : KernO w gk s L := by
  obtain ⟨tl, nm, d⟩ := h.du; exact d.hk
theorem DuR.hi {W w : World} {gk pk x e : Nat} {d cl : Int} {s : AK} {L M : KL} (h : DuR W w gk pk x e d cl s L M) : PInv s := by
  obtain ⟨tl, nm, d⟩ := h.du; exact d.hi
theorem DuR.kp {W w : World} {gk pk x e : Nat} {d cl : Int} {s : AK} {L M : KL} (h : DuR W w gk pk x e d cl s L M) : Kept No W w := by
  obtain ⟨tl, nm, d⟩ := h.du; exact d.kp
theorem DuR.low {W w : World} {gk pk x e : Nat} {d cl : Int} {s : AK} {L M : KL} (h : DuR W w gk pk x e d cl s L M) {z : Nat} (hz : z < W.heap.size) : L.own z = none ∧ M.own z = none := by
  obtain ⟨tl, nm, d⟩ := h.du; exact d.old hz
theorem DuR.no {W w w' : World} {gk pk x e : Nat} {d cl : Int} {s : AK} {L M : KL} (h : DuR W w gk pk x e d cl s L M) (k : Kept No w w') : DuR W w' gk pk x e d cl s L M := by
  obtain ⟨tl, nm, d⟩ := h.du
  exact ⟨⟨tl, nm, d.no k⟩, Blk.keep h.hx k (fun e => e), h.he.keep k (fun e => e), h.lx, h.mx, h.le, h.me, h.ex, h.wx⟩
theorem DuR.midP {W w w1 : World} {gk pk x e : Nat} {d cl : Int} {s : AK} {L M L' : KL} (h : DuR W w gk pk x e d cl s L M) (st : KStep w w1 L L') : PagE w1 pk s M := by
  obtain ⟨tl, nm, d⟩ := h.du; exact ⟨_, _, d.mid (s' := s) st⟩
theorem DuR.midX {W w w1 : World} {gk pk x e : Nat} {d cl : Int} {s : AK} {L M L' : KL} (h : DuR W w gk pk x e d cl s L M) (st : KStep w w1 L L') : RawK w1 x pk d cl := Blk.keep h.hx st.kept fun hx => hx h.lx
theorem DuR.midK {W w w1 : World} {gk pk x e : Nat} {d cl : Int} {s : AK} {L M L' : KL} (h : DuR W w gk pk x e d cl s L M) (st : KStep w w1 L L') : Kept No W w1 := by
  obtain ⟨tl, nm, d⟩ := h.du; exact d.kmid (s' := s) st
theorem DuR.both {W w w1 w2 : World} {gk pk x e : Nat} {d cl cl' : Int} {s s' : AK} {L M L' M' : KL} (h : DuR W w gk pk x e d cl s L M) (hK : KernO w1 gk s' L') (st : KStep w w1 L L') (hX : RawK w2 x pk d cl') (hP : PagE w2 pk s' M') (st' : TStep x w1 w2 M M') (hi : PInv s') : DuR W w2 gk pk x e d cl' s' L' M' := by
  obtain ⟨tl, nm, q⟩ := h.du
  obtain ⟨tl', nm', hP⟩ := hP
  have hz0 : w.heap.size ≤ w1.heap.size := st.kept.size
  have hz1 : W.heap.size ≤ w.heap.size := q.kp.size
  have hxl : x < w.heap.size := h.hx.lt
  have hel := h.he.lt
  have ap1 : ∀ z, L'.own z ≠ none → M.own z = none := fun z hz => by
    rcases st.grew z hz with e | e
    · exact q.ap z e
    · cases ho : M.own z with
      | none => rfl
      | some t => have := q.hp.lt z (by rw [ho]; simp); omega
  have lx' : L'.own x = none := st.own' h.lx hxl
  have le' : L'.own e = none := st.own' h.le hel
  have mx' : M'.own x = none := st'.own h.mx (by omega)
  have me' : M'.own e = none := st'.own h.me (by omega)
  refine ⟨⟨tl', nm', hK.keep st'.kept fun z hz => ?_, hP, hi, fun z hz => ?_, fun z hz => ?_, fun z hz => ?_, (h.midK st).trans st'.kept fun y hy e => ?_⟩, hX, (h.he.keep st.kept fun hz => hz h.le).keep st'.kept fun hz => ?_, lx', mx', le', me', h.ex, h.wx⟩
  · rcases hz with hz | rfl
    · cases ho : L'.own z with
      | none => rfl
      | some t => exact absurd (ap1 z (by rw [ho]; simp)) hz
    · exact lx'
  · cases ho : M'.own z with
    | none => rfl
    | some t =>
      rcases st'.grew z (by rw [ho]; simp) with e | e
      · exact absurd (ap1 z hz) e
      · have := hK.lt z hz; omega
  · rcases st.grew z hz with e | e
    · exact q.nk z e
    · omega
  · rcases st'.grew z hz with e | e
    · exact q.nm z e
    · omega
  · rcases e with e | rfl
    · have := q.nm y e; omega
    · have := h.wx; omega
  · rcases hz with hz | hz
    · exact hz h.me
    · exact h.ex hz
set_option maxRecDepth 100000 in
set_option maxHeartbeats 8000000 in
theorem walk_retryPlays {W : World} {args : List Value} (h : V5 W args) : CallR Tryz.prog 5 args W fun v w' => v = .bool true ∧ Kept No W w' := by
  obtain ⟨a1, l1, c1, h1, h2, h3, h4, a2, l2, c2, g1, g2, g3, g4, a3, l3, c3, k1, k2, k3, k4, a4, l4, c4, s1, s2, s3, s4, d, _, a6, l6, c6, t1, t2, t3, t4, rfl⟩ := h
  obtain ⟨fs, ts, ps, hset⟩ := setup_of_view h1 h2 h3 h4 g1 g2 g3 g4 k1 k2 k3 k4
  obtain ⟨xs, hst⟩ := steps_of_view s1 s2 s4
  have hl4b : l4 * 72 ≤ 140737488351232 := s3
  have hl6b : l6 * 40 ≤ 140737488351232 := t3
  refine C5 ?_
  unfold L5
  intro w1
  have hb1 : Blk w1 W.heap.size #[.slice a1 l1 c1, .slice a2 l2 c2, .slice a3 l3 c3] := Blk.alloc _ _ _
  have hk1 : Kept No W w1 := Kept.alloc _ _ _
  clear_value w1
  refine ⟨_, _, _, _, _, _, _, _, _, (hb1.cell 0).trans rfl, (hb1.cell 1).trans rfl, (hb1.cell 2).trans rfl, CallR.mono (config_ok (hset.no hk1)) ?_⟩
  rintro v w2 ⟨af, cf, at_, ct, ap, cp, rfl, hk2, hset2⟩
  obtain ⟨ef, hef⟩ := hset2.ef
  obtain ⟨et, het⟩ := hset2.et
  have q1 := hset2.lf
  have q2 := hset2.lt
  refine ⟨_, _, _, _, _, _, _, _, _, rfl, CallR.mono (kernNew_ok hef het hset2.pp (by omega) (by omega)) ?_⟩
  rintro v w7 ⟨hk7, hv7⟩
  obtain ⟨p15, n16, rfl, hr⟩ : ∃ (p : Option Addr) (n : Int), v = .tuple #[.pointer p, .int .i64 n] ∧ ((checkK fs ts ps ≠ 0 ∧ p = none ∧ n = checkK fs ts ps) ∨ (checkK fs ts ps = 0 ∧ n = 0 ∧ ∃ gk L, p = some ⟨gk, 0, none⟩ ∧ KernO w7 gk (AK.new fs ts ps) L ∧ ∀ z, L.own z ≠ none → w2.heap.size ≤ z)) := by
    rcases hv7 with ⟨a, rfl⟩ | ⟨a, gk, L, rfl, b, c⟩
    · exact ⟨_, _, rfl, .inl ⟨a, rfl, rfl⟩⟩
    · exact ⟨_, _, rfl, .inr ⟨a, rfl, gk, L, rfl, b, c⟩⟩
  clear hv7
  have k2' : Kept No W w2 := hk1.no hk2
  have k7 := k2'.no hk7
  have hb7 := (hb1.keep hk2 fun e => e).keep hk7 fun e => e
  refine ⟨_, _, rfl, _, _, _, _, _, _, _, _, _, (hb7.cell 0).trans rfl, (hb7.cell 1).trans rfl, (hb7.cell 2).trans rfl, CallR.mono (page_ok (hset.no k7)) ?_⟩
  rintro v w9 ⟨hk9, hv9⟩
  have k9 := k7.no hk9
  obtain ⟨p26, rfl, hr'⟩ : ∃ (p : Option Addr), v = .pointer p ∧ ((checkK fs ts ps ≠ 0 ∧ p = none) ∨ (checkK fs ts ps = 0 ∧ ∃ pk L tl nm, p = some ⟨pk, 0, none⟩ ∧ PagO w9 pk (AK.new fs ts ps) L tl nm ∧ ∀ z, L.own z ≠ none → w7.heap.size ≤ z)) := by
    rcases hv9 with ⟨a, rfl⟩ | ⟨a, pk, L, tl, nm, rfl, b, c⟩
    · exact ⟨_, rfl, .inl ⟨a, rfl⟩⟩
    · exact ⟨_, rfl, .inr ⟨a, pk, L, tl, nm, rfl, b, c⟩⟩
  clear hv9
  refine ⟨_, rfl, rnum_to ⟨_, rfl, ?_⟩⟩
  rcases hr with ⟨hck, rfl, rfl⟩ | ⟨hck, rfl, gk, L, rfl, hK7, hnL⟩
  · rcases hr' with ⟨_, rfl⟩ | ⟨hck', _⟩
    · refine condF (by simpa using hck) (condFa2 (condTr2 (CallR.mono alive8_ok ?_)))
      rintro v w14 ⟨rfl, hk14⟩
      exact ⟨_, rfl, rfl, k9.no hk14⟩
    · exact absurd hck' hck
  rcases hr' with ⟨hck', _⟩ | ⟨_, pk, M, tl, nm, rfl, hP9, hnM⟩
  · exact absurd hck hck'
  have hD : Duo W w9 gk pk (AK.new fs ts ps) L M tl nm := ⟨hK7.no hk9, hP9, PInv.new _ _ _, fun z hz => by
      cases ho : M.own z with
      | none => rfl
      | some t =>
        have a := hnM z (by rw [ho]; simp)
        have b := hK7.lt z hz
        omega, fun z hz => by have := hnL z hz; have := k2'.size; omega, fun z hz => by have := hnM z hz; have := k7.size; omega, k9⟩
  clear hK7 hnL hnM hP9 hb7 hb1
  refine condFa2 (condFa2 (condFa2 ?_))
  have hps0 : (AK.new fs ts ps).ps.length ≤ 4096 := hD.hk.ok.ps
  obtain ⟨I, hI⟩ : ∃ I : List Value → World → Prop, I = fun vs w' => ∃ (i : Nat) (s : AK) (L M : KL) (tl : Nat → Nat) (nm : Nat → ByteArray), vs = [.int .i64 (i : Int)] ∧ i ≤ l4 ∧ s.next ≤ 1 + 2 * (i : Int) ∧ s.c0 = 0 ∧ s.c1 = 0 ∧ Duo W w' gk pk s L M tl nm := ⟨_, rfl⟩
  obtain ⟨mu, hmu⟩ : ∃ mu : List Value → World → Nat, mu = fun vs _ => l4 - ix vs := ⟨_, rfl⟩
  refine ⟨I, mu, by rw [hI]; exact ⟨0, _, L, M, tl, nm, rfl, by omega, by rw [(AK.new_is _ _ _).2.2.2.1]; omega, (AK.new_is _ _ _).2.2.2.2.2.1, (AK.new_is _ _ _).2.2.2.2.2.2, hD⟩, ?_⟩
  clear hD hset2 hef het q1 q2 hps0
  clear L M tl nm
  intro _ n28 w10 hInv
  rw [hI] at hInv
  obtain ⟨i, s, L, M, tl, nm, hvs, hi, hnx, hc0, hc1, h10⟩ := hInv
  simp only [List.cons.injEq, Value.int.injEq, true_and, and_true] at hvs
  subst hvs
  have hrg : ∀ {i l : Nat}, i < l → 0 ≤ (i : Int) ∧ (i : Int) < ((l : Nat) : Int) := fun h => by omega
  refine condP (fun hlt => ?_) (fun hge => ?_)
  · have hil : i < xs.length := by rw [hst.1]; omega
    have hi4 : i < l4 := by omega
    obtain ⟨q, haq, hx⟩ := hst.2 i hil
    have cell : ∀ {w' : World} {a : Addr} {v : Value}, Kept No W w' → W.cell? a = some v → w'.cell? a = some v := fun k e => k.cell e fun e => e
    have fin : ∀ {w' : World} {s' : AK} {L' M' : KL} {tl' : Nat → Nat} {nm' : Nat → ByteArray}, Duo W w' gk pk s' L' M' tl' nm' → s'.next ≤ s.next + 2 → s'.c0 = 0 → s'.c1 = 0 → inI ((i : Int) + 1) ∧ I [.int .i64 ((i : Int) + 1)] w' ∧ mu [.int .i64 ((i : Int) + 1)] w' < mu [.int .i64 (i : Int)] w10 := by
      intro w' s' L' M' tl' nm' hT b1 b2 b3
      refine ⟨⟨by omega, by omega⟩, ?_, ?_⟩
      · rw [hI]
        exact ⟨i + 1, s', L', M', tl', nm', rfl, by omega, by omega, b2, b3, hT⟩
      · rw [hmu]; simp only [ix]; omega
    rw [Int.toNat_natCast]
    refine ⟨hrg hi4, nnE2 haq ⟨_, cell h10.kp hx.e0, condI (fun _ => ?_) (fun _ => ?_)⟩⟩
    · refine CallR.mono (kernPipe_ok h10.hk (by omega)) ?_
      rintro v w11 ⟨rfl, L', h', st⟩
      refine ⟨_, _, _, rfl, CallR.mono (ppipe_ok (h10.mid (s' := s) st) (by omega)) ?_⟩
      rintro v w12 ⟨rfl, M', tl', nm', h'', st'⟩
      obtain ⟨o1, o2, o3, o4⟩ := AK.pipe_cs s
      exact ⟨_, _, _, rfl, fin (h10.both h' st h'' st' (h10.hi.pipe h10.hp.ok)) (by omega) (by omega) (by omega)⟩
    · intro w11
      have hk11 : Kept No w10 w11 := Kept.drew _ _
      clear_value w11
      have h11 := h10.no hk11
      refine ⟨hrg hi4, nnE2 haq ⟨_, cell h11.kp hx.e1, hrg hi4, nnE2 haq ⟨_, cell h11.kp hx.e2, CallR.mono (kernOpen_ok h11.hk _ _ (by omega)) ?_⟩⟩⟩
      rintro v w12 ⟨rfl, L', h', st⟩
      refine ⟨_, _, rfl, ?_⟩
      intro w13
      have hk13 : Kept No w12 w13 := Kept.drew _ _
      clear_value w13
      have k13 : Kept No W w13 := (h11.kmid (s' := s) st).no hk13
      refine ⟨hrg hi4, nnE2 haq ⟨_, cell k13 hx.e1, hrg hi4, nnE2 haq ⟨_, cell k13 hx.e2, CallR.mono (popen_ok ((h11.mid (s' := s) st).no hk13) _ _ (by omega)) ?_⟩⟩⟩
      rintro v w14 ⟨rfl, M', tl', nm', h'', st'⟩
      obtain ⟨o1, o2, o3, o4⟩ := AK.open_cs s xs[i].nm xs[i].a
      exact ⟨_, _, rfl, fin (h11.both (h'.no hk13) (st.no hk13) h'' st' (h11.hi.open_ h11.hp.ok _ _)) (by omega) (by omega) (by omega)⟩
  · refine CallR.mono (prof_ok pk d) ?_
    rintro v w14 ⟨rfl, hX14, hk14⟩
    refine ⟨_, rfl, ?_⟩
    intro w15
    have hb15 : Blk w15 w14.heap.size #[.pointer none, .int .i64 0] := Blk.alloc _ _ _
    have hk15 : Kept No w14 w15 := Kept.alloc _ _ _
    clear_value w15
    refine stC_blk hb15 (by simp) fun w16 hb16 hk16 _ => stC_blk hb16 (by simp) fun w17 hb17 hk17 _ => ?_
    have hb17 : Blk w17 w14.heap.size #[pd gk, .int .i64 d] := by simpa using hb17
    have k17 : Kept No w14 w17 := (hk15.fresh hk16 fun x e => by omega).fresh hk17 fun x e => by omega
    have hz10 := hk14.size
    have hxl : w10.heap.size < w14.heap.size := hX14.lt
    have hzW := h10.kp.size
    have hR : DuR W w17 gk pk w10.heap.size w14.heap.size d 0 s L M := ⟨⟨tl, nm, (h10.no hk14).no k17⟩, Blk.keep hX14 k17 (fun e => e), hb17, h10.hk.new_none (Nat.le_refl _), h10.hp.new_none (Nat.le_refl _), h10.hk.new_none hz10, h10.hp.new_none hz10, by omega, by omega⟩
    have hps : s.ps.length ≤ 4096 := h10.hk.ok.ps
    generalize w10.heap.size = x at hR
    generalize w14.heap.size = e at hR
    clear hb15 hb16 hb17 hk15 hk16 hk17 hX14 k17
    obtain ⟨J, hJ⟩ : ∃ J : List Value → World → Prop, J = fun vs w' => ∃ (j : Nat) (s : AK) (L M : KL) (cl : Int), vs = [.int .i64 (j : Int)] ∧ j ≤ l6 ∧ s.next ≤ 1 + 2 * (l4 : Int) ∧ 0 ≤ cl ∧ cl + (s.ps.length : Int) ≤ 4096 + 1048576 * (j : Int) ∧ s.c0 + (s.ps.length : Int) ≤ 4096 + 1048576 * (j : Int) ∧ s.c1 + (s.ps.length : Int) ≤ 4096 + 1048576 * (j : Int) ∧ DuR W w' gk pk x e d cl s L M := ⟨_, rfl⟩
    obtain ⟨mu2, hmu2⟩ : ∃ mu : List Value → World → Nat, mu = fun vs _ => l6 - ix vs := ⟨_, rfl⟩
    refine ⟨J, mu2, by rw [hJ]; exact ⟨0, s, L, M, 0, rfl, by omega, by omega, by omega, by omega, by omega, by omega, hR⟩, ?_⟩
    clear hR h10 hk14 hps hnx hc0 hc1
    clear s L M tl nm
    intro _ n57 w18 hInv
    rw [hJ] at hInv
    obtain ⟨j, s, L, M, cl, hvs, hj, hnx, hcl, hb0, hb1, hb2, h18⟩ := hInv
    simp only [List.cons.injEq, Value.int.injEq, true_and, and_true] at hvs
    subst hvs
    refine condP (fun hlt => ?_) (fun hge => ?_)
    · have hjl : j < l6 := by omega
      obtain ⟨q, haq⟩ : ∃ q, a6 = some q := by
        cases ha : a6 with
        | none => have := t2 ha; omega
        | some q => exact ⟨q, rfl⟩
      obtain ⟨n1, _, n2, _, da, dl, dc, ns, r1, _, r2, e0, e1, e2, _⟩ := t4 q haq j hjl
      have hrd : RdB W da dl dc ns := r1
      have cell : ∀ {w' : World} {a : Addr} {v : Value}, Kept No W w' → W.cell? a = some v → w'.cell? a = some v := fun k e => k.cell e fun e => e
      have fin : ∀ {w' : World} {s' : AK} {L' M' : KL} {cl' : Int}, DuR W w' gk pk x e d cl' s' L' M' → s'.next = s.next → 0 ≤ cl' → cl' + (s'.ps.length : Int) ≤ cl + (s.ps.length : Int) + 1048576 → s'.c0 + (s'.ps.length : Int) ≤ s.c0 + (s.ps.length : Int) + 1048576 → s'.c1 + (s'.ps.length : Int) ≤ s.c1 + (s.ps.length : Int) + 1048576 → inI ((j : Int) + 1) ∧ J [.int .i64 ((j : Int) + 1)] w' ∧ mu2 [.int .i64 ((j : Int) + 1)] w' < mu2 [.int .i64 (j : Int)] w18 := by
        intro w' s' L' M' cl' hT b1 b2 b3 b4 b5
        refine ⟨⟨by omega, by omega⟩, ?_, ?_⟩
        · rw [hJ]
          exact ⟨j + 1, s', L', M', cl', rfl, by omega, by omega, b2, by omega, by omega, by omega, hT⟩
        · rw [hmu2]; simp only [ix]; omega
      rw [Int.toNat_natCast]
      have kd : Kept No w18 w18.drew := Kept.drew _ _
      have hd := h18.no kd
      refine ⟨hrg hjl, nnE2 haq ⟨_, cell h18.kp e0, condI (fun _ => ?_) (fun _ => condI (fun _ => ?_) (fun _ => condI (fun _ => ?_) (fun _ => ?_)))⟩⟩
      · intro w19
        refine ⟨_, _, (hd.he.cell 0).trans rfl, (hd.he.cell 1).trans rfl, hrg hjl, nnE2 haq ⟨_, cell hd.kp e1, CallR.mono (rsome_ok hd.hk d n2 (by omega)) ?_⟩⟩
        rintro v w20 ⟨a, l, c, L', rfl, ob, hf, hK', st, _⟩
        refine ⟨_, _, _, _, rfl, hrg hjl, nnE2 haq ⟨_, cell (hd.midK st) e1, CallR.mono (prsome_ok (hd.midX st) (hd.midP st) hd.mx n2 (by omega) hcl (by omega)) ?_⟩⟩
        rintro v w21 ⟨a', l', c', cl', M', rfl, hr', hX', hP', st', hcl', hclb⟩
        have hzd : w18.drew.heap.size = w18.heap.size := by simp
        have ob' := ob.keep st'.kept fun z hz e => by
          have h1 := hf z hz
          rcases e with e | e
          · obtain ⟨tl, nm, q⟩ := hd.du
            have := q.hp.lt z e
            omega
          · have : x < w18.drew.heap.size := hd.hx.lt
            omega
        have hll : l ≤ 140737488355328 := by
          have h1 := ob.rd.len
          have h2 := AK.rsome_le s d n2
          omega
        refine ⟨_, _, _, _, rfl, CallR.mono (same_ok ob'.rd hr' hll) ?_⟩
        rintro v w22 ⟨rfl, hk22, _⟩
        obtain ⟨_, _, p1, p2, _⟩ := AK.rsome_cs s d n2
        obtain ⟨p3, p4⟩ := AK.rsome_pot s d n2
        exact ⟨_, rfl, condF (by simp) (rnum_to ⟨_, rfl, condF (by simp) (fin ((hd.both hK' st hX' hP' st' (AK.rsome_inv hd.hi _ _)).no hk22) p2 hcl' (by omega) (by omega) (by omega))⟩)⟩
      · intro w19
        refine ⟨_, _, (hd.he.cell 0).trans rfl, (hd.he.cell 1).trans rfl, hrg hjl, nnE2 haq ⟨_, cell hd.kp e1, CallR.mono (rall_ok hd.hk d n2 (by omega)) ?_⟩⟩
        rintro v w20 ⟨a, l, c, L', rfl, ob, hf, hK', st, _⟩
        refine ⟨_, _, _, _, rfl, hrg hjl, nnE2 haq ⟨_, cell (hd.midK st) e1, CallR.mono (prall_ok (hd.midX st) (hd.midP st) hd.mx n2 (by omega) hcl (by omega)) ?_⟩⟩
        rintro v w21 ⟨a', l', c', cl', M', rfl, hr', hX', hP', st', hcl', hclb⟩
        have ob' := ob.keep st'.kept fun z hz e => by
          have h1 := hf z hz
          rcases e with e | e
          · obtain ⟨tl, nm, q⟩ := hd.du
            have := q.hp.lt z e
            omega
          · have : x < w18.drew.heap.size := hd.hx.lt
            omega
        obtain ⟨p0, p1, p2, p5⟩ := AK.rall_all s d n2
        obtain ⟨p3, p4⟩ := AK.rall_pot s d n2
        have hll : l ≤ 140737488355328 := by
          have h1 := ob.rd.len
          omega
        refine ⟨_, _, _, _, rfl, CallR.mono (same_ok ob'.rd hr' hll) ?_⟩
        rintro v w22 ⟨rfl, hk22, _⟩
        exact ⟨_, rfl, condF (by simp) (rnum_to ⟨_, rfl, condF (by simp) (fin ((hd.both hK' st hX' hP' st' (p0 hd.hi)).no hk22) p2 hcl' (by omega) (by omega) (by omega))⟩)⟩
      · intro w19
        have hlow : ns ≠ [] → ∀ k, inA da k → k < W.heap.size := fun hne k hk => RdS.old hrd (fun e => hne (By_inj (b := []) e)) k hk
        have rdk : ∀ {w' : World}, Kept No W w' → RdB w' da dl dc ns := fun k => hrd.keep k fun _ _ _ e => e
        have hWx := hd.wx
        have own1 : ns ≠ [] → ∀ z, z < w18.drew.heap.size → inA da z → L.own z = none := fun hne z hz hin => (hd.low (hlow hne z hin)).1
        refine ⟨_, _, (hd.he.cell 0).trans rfl, (hd.he.cell 1).trans rfl, hrg hjl, nnE2 haq ⟨_, _, _, cell hd.kp e2, CallR.mono (rput_ok hd.hk d (rdk hd.kp) own1 (by omega)) ?_⟩⟩
        rintro v w20 ⟨rfl, L', hK', st⟩
        refine ⟨_, _, rfl, hrg hjl, nnE2 haq ⟨_, _, _, cell (hd.midK st) e2, CallR.mono (prput_ok (hd.midX st) (hd.midP st) hd.mx (rdk (hd.midK st)) (fun hne z hz => ?_) (by omega) hcl (by omega)) ?_⟩⟩
        · have h1 := hlow hne z hz
          have h2 := (hd.midK st).size
          exact ⟨by omega, (hd.low h1).2, by omega⟩
        rintro v w21 ⟨rfl, cl', M', hX', hP', st', hcl', hclb, hc1b⟩
        obtain ⟨p0, p1, p2⟩ := AK.rput_all s d ns
        have hD := hd.both hK' st hX' hP' st' (p0 hd.hi)
        have hpl : (s.rput d ns).2.2.ps.length ≤ s.ps.length := AK.rput_ps s d ns
        refine ⟨_, _, rfl, CallR.mono (same_ok (OB.nil w21).rd (OB.nil w21).rd (by omega)) ?_⟩
        rintro v w22 ⟨rfl, hk22, _⟩
        exact ⟨_, rfl, condF (by simp) (condF (by simp) (rnum_to ⟨_, rfl, condF (by simp) (fin (hD.no hk22) p2 hcl' (by omega) (by omega) (by omega))⟩))⟩
      · refine CallR.mono (same_ok (OB.nil w18).rd (OB.nil w18).rd (by omega)) ?_
        rintro v w22 ⟨rfl, hk22, _⟩
        exact ⟨_, rfl, condF (by simp) (rnum_to ⟨_, rfl, condFa2 (fin (h18.no hk22) rfl hcl (by omega) (by omega) (by omega))⟩)⟩
    · obtain ⟨tl, nm, q⟩ := h18.du
      refine CallR.mono (same6_ok q (by omega)) ?_
      rintro v w36 ⟨rfl, hk36⟩
      refine ⟨_, rfl, condTr2 (CallR.mono alive8_ok ?_)⟩
      rintro v w37 ⟨rfl, hk37⟩
      exact ⟨_, rfl, rfl, (h18.kp.no hk36).no hk37⟩
end Go.Proofs.YtpoaacnnhgebfaaGreat
set_option maxRecDepth 100000
namespace Go.Proofs.YtpoaacnnhgebfaaGreat.retryPlays
open Go.Lw Go.ChangeShapes Go.WideShapes Go.RowKit
theorem lifted (os : Os) (started : os.Started) (H : Type) (enc : TypeId × Value → H) :
    ReturnsInHanded {} Tryz.checked os 5 .any (Rows.retryPlaysSpec.pre6 enc Tryz.prog Tryz.f5 Rows.retryPlaysRow.domain false) (Rows.retryPlaysSpec.post enc Tryz.prog Tryz.f5 false true false false) := by
  refine returnsInHanded_of_change_sized (C := Tryz.checked) (by kernel_rfl) started (by kernel_rfl) Tryz.func5
    (ChangeSpec.witness6 (enc := enc) (C := Tryz.checked) false ⟨#[], #[.agg #[.slice none 0 0, .slice none 0 0, .slice none 0 0], .slice none 0 0, .int .i64 0, .slice none 0 0], []⟩ 8 (by kernel_rfl) (by kernel_rfl) (by kernel_rfl) (by kernel_rfl)) ?_
  intro W base args ds gs before hval hW _ hsz _
  exact law_contract (P := Tryz.prog) (fn := Tryz.f5) (s := Rows.retryPlaysSpec) (ts := [26, 27, 3, 60]) rfl (by kernel_rfl) (by kernel_rfl) (by kernel_rfl) (tb := 4) rfl Tryz.underlying4 rfl
    (fun ds h => by match ds, h with | [x0, x1, x2, x3], _ => rfl) (fun W args h => walk_retryPlays (O5 h)) W base args ds gs before hval hW hsz
theorem iPlace : Tryz.prog.inPlace 5 = Rows.retryPlaysRow.inPlace := by kernel_rfl
theorem iUnf : Tryz.prog.unfollowed 5 = Rows.retryPlaysRow.unfollowed := by kernel_rfl
theorem iRec : Tryz.prog.recurses 5 = Rows.retryPlaysRow.recurses := by kernel_rfl
theorem iVars : Tryz.prog.varsNamed 5 = Rows.retryPlaysRow.named := by kernel_rfl
theorem closed : joinedFacts Tryz.prog 5 Tryz.f5 Rows.retryPlaysSpec Rows.retryPlaysRow = true := by
  unfold joinedFacts
  rw [jLaid, jMaps, jKeys, jHeard, jEnter, jLift, jMake, iPlace, iUnf, iRec, iVars]
  kernel_rfl
theorem proved : Rows.RetryPlaysSaid :=
  OpenClaim.holds_of_wide 5 Tryz.f5 rfl rfl rfl rfl rfl rfl rfl ⟨rfl, rfl, rfl, rfl, rfl⟩ rfl rfl rfl rfl rfl (by kernel_rfl) Tryz.func5 closed
    (of_decide_eq_true (by kernel_rfl)) (by unfold Func.isWrapper; first | (rw [if_pos (by decide +kernel)]; kernel_rfl) | (rw [if_neg (by decide +kernel)]; exact ⟨rfl, rfl⟩))
    (fun os started H enc _ => lifted os started H enc)
end Go.Proofs.YtpoaacnnhgebfaaGreat.retryPlays
