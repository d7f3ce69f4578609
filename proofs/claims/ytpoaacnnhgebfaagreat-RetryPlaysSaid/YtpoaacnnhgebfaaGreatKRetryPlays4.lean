/-
  Part 4 of 6 of the proof of RetryPlays (the last part has its theorem): the program's functions as they are read, what each does, the law. Conditions: as each says; the theorem's: none.
-/
import Derived.Test.YtpoaacnnhgebfaaGreatRows
import Derived.JoinedOf
import Derived.WalkKit
import Derived.Deep.Quiet
import Derived.OrdersHeld
import Derived.ProofKit
import Derived.SizedLaws
import Derived.Carry
import Derived.OpenShut
import Derived.ChangeSame
import Derived.ChangeArms
import Derived.Deep.Slices
import Derived.Laws.BytesArg
import Derived.Lib.SlBytesConst
import Derived.Test.YtpoaacnnhgebfaaGreatProg
import Derived.RangeFuncIn
import Derived.RangeFuncLeaves
import Derived.RangeFuncRecord
import Derived.TacticsIn
import Derived.MapKept
import Derived.Laws.RangeAny
import Derived.Lib.OthersKept
import Derived.FollowTie
import Derived.Test.YtpoaacnnhgebfaaGreatChecked
import Derived.Shelf.Sort.AssemblysIn
import Derived.Sort.EveryDepth
import Derived.Maps.RangeRun
import Derived.Sort.KeysCollected
import Derived.Sort.OwnSorted
import Derived.Laws.StructEq
import Derived.LaidEql
import Derived.Test.YtpoaacnnhgebfaaGreatKRetryPlays3
set_option linter.unusedVariables false
set_option maxRecDepth 512
namespace Go.Proofs.YtpoaacnnhgebfaaGreat
open Go.Lw
namespace AK
def putN : Nat → AK → Int → List Int → Nat → Nat → Int × Int × AK
  | 0, s, d, b, done, p => ((done : Int), 0, s)
  | k + 1, s, d, b, done, p =>
    if b.length ≤ done then ((b.length : Int), 0, s) else
    if (s.write d (b.drop done)).2.1 = 22 ∨ (s.write d (b.drop done)).2.1 = 23 ∨ ((s.write d (b.drop done)).2.1 = 0 ∧ (s.write d (b.drop done)).1 = 0) then
      (if 8192 ≤ p + 1 then ((done : Int), 81, (s.write d (b.drop done)).2.2) else putN k (s.write d (b.drop done)).2.2 d b done (p + 1))
    else if (s.write d (b.drop done)).2.1 ≠ 0 then ((done : Int), (s.write d (b.drop done)).2.1, (s.write d (b.drop done)).2.2)
    else if (s.write d (b.drop done)).1 < 0 ∨ ((b.drop done).length : Int) < (s.write d (b.drop done)).1 then ((done : Int), 82, (s.write d (b.drop done)).2.2)
    else putN k (s.write d (b.drop done)).2.2 d b (done + (s.write d (b.drop done)).1.toNat) 0
theorem putN_succ (k : Nat) (s : AK) (d : Int) (b : List Int) (done p : Nat) : putN (k + 1) s d b done p =
    if b.length ≤ done then ((b.length : Int), 0, s) else
    if (s.write d (b.drop done)).2.1 = 22 ∨ (s.write d (b.drop done)).2.1 = 23 ∨ ((s.write d (b.drop done)).2.1 = 0 ∧ (s.write d (b.drop done)).1 = 0) then
      (if 8192 ≤ p + 1 then ((done : Int), 81, (s.write d (b.drop done)).2.2) else putN k (s.write d (b.drop done)).2.2 d b done (p + 1))
    else if (s.write d (b.drop done)).2.1 ≠ 0 then ((done : Int), (s.write d (b.drop done)).2.1, (s.write d (b.drop done)).2.2)
    else if (s.write d (b.drop done)).1 < 0 ∨ ((b.drop done).length : Int) < (s.write d (b.drop done)).1 then ((done : Int), 82, (s.write d (b.drop done)).2.2)
    else putN k (s.write d (b.drop done)).2.2 d b (done + (s.write d (b.drop done)).1.toNat) 0 := rfl
def rput (s : AK) (d : Int) (b : List Int) : Int × Int × AK := if 1048576 < b.length then (0, 5, s) else putN (8192 * b.length + 8193) s d b 0 0
end AK
theorem hv_write {w : World} {g : Nat} {d : Int} (args : Array Value) : Sem.run Tryz.prog (callMethod (hv g d) "Write" args) w = .ok (.enter 191 (#[.agg #[pd g, .int .i64 d]] ++ args)) w :=
  call_of (by intro recv w; kernel_rfl) (by kernel_rfl) _ _ _
theorem hv_nilM {g : Nat} {d : Int} : nilM Tryz.prog (hv g d) "Write" := by
  unfold nilM hv
  intro w
  kernel_rfl
theorem hwrite_ok {w : World} {gk : Nat} {s : AK} {L : KL} (h : KernO w gk s L) (d : Int) {a : Option Addr} {l c : Nat} {ds : List Int} (hd : RdB w a l c ds) (hap : ds ≠ [] → ∀ k, inA a k → L.own k = none) (hc : s.c1 ≤ 4611686018427387904) :
    CallR Tryz.prog 191 [.agg #[pd gk, .int .i64 d], .slice a l c] w fun v w' => v = .tuple #[.int .i64 (s.write d ds).1, .int .i64 (s.write d ds).2.1] ∧ ∃ L', KernO w' gk (s.write d ds).2.2 L' ∧ KStep w w' L L' := by
  refine C191 ?_
  unfold L191
  intro w1
  have hb1 : Blk w1 w.heap.size #[pd gk, .int .i64 d] := Blk.alloc _ _ _
  have hk1 : Kept No w w1 := Kept.alloc _ _ _
  clear_value w1
  refine ⟨_, (hb1.cell 0).trans rfl, _, (hb1.cell 1).trans rfl, CallR.mono (kernWrite_ok (h.no hk1) d (hd.keep hk1 fun _ _ _ e => e) hap hc) ?_⟩
  rintro v w2 ⟨rfl, L', h2, st⟩
  exact ⟨_, _, rfl, rfl, L', h2, st.fresh hk1⟩
theorem tup2 {x y e : Int} (h : x = y) : (.tuple #[.int .i64 x, .int .i64 e] : Value) = .tuple #[.int .i64 y, .int .i64 e] := by rw [h]
theorem rput_ok {w : World} {gk : Nat} {s : AK} {L : KL} (h : KernO w gk s L) (d : Int) {a : Option Addr} {l c : Nat} {bs : List Int} (hb : RdB w a l c bs) (hold : bs ≠ [] → ∀ z, z < w.heap.size → inA a z → L.own z = none) (hc : s.c1 ≤ 4611686000000000000) :
    CallR Tryz.prog 37 [hv gk d, .slice a l c] w fun v w' => v = .tuple #[.int .i64 (s.rput d bs).1, .int .i64 (s.rput d bs).2.1] ∧ ∃ L', KernO w' gk (s.rput d bs).2.2 L' ∧ KStep w w' L L' := by
  refine C37 ?_
  unfold L37
  have hlen := hb.len
  have hr : s.rput d bs = if 1048576 < bs.length then (0, 5, s) else AK.putN (8192 * bs.length + 8193) s d bs 0 0 := rfl
  refine ⟨_, _, hv_nil, condFa2 (condP (fun e => ?_) (fun e => ?_))⟩
  · rw [hr, if_pos (by omega)]; exact ⟨rfl, L, h, KStep.refl _ _⟩
  rw [if_neg (by omega)] at hr
  intro w2
  have hb2 : Blk w2 w.heap.size #[.int .i64 ((0 : Nat) : Int)] := Blk.alloc _ _ _
  have hk2 : Kept No w w2 := Kept.alloc _ _ _
  clear_value w2
  have h2 := h.no hk2
  have hz2 := hb2.lt
  have hcl : l ≤ c := hb.2.1
  refine ⟨fun vs w3 => ∃ (ar : Option Addr) (done p k : Nat) (s' : AK) (L' : KL), vs = [.slice ar (l - done) (c - done)] ∧ RdB w ar (l - done) (c - done) (bs.drop done) ∧ (∀ z, inA ar z → inA a z) ∧ done ≤ l ∧ p < 8192 ∧ s.rput d bs = AK.putN k s' d bs done p ∧ 8192 * (l - done) + (8192 - p) < k ∧ k ≤ 8192 * l + 8193 ∧ KernO w3 gk s' L' ∧ KStep w w3 L L' ∧ L'.own w.heap.size = none ∧ Blk w3 w.heap.size #[.int .i64 (p : Int)] ∧ s'.c1 + (k : Int) ≤ s.c1 + (8192 * (l : Int) + 8193),
    fun vs w' => match vs with | [.slice _ l' _] => 8192 * l' + mu0 w.heap.size w' | _ => 0,
    ⟨a, 0, 0, 8192 * l + 8193, s, L, rfl, hb, fun z hz => hz, by omega, by omega, by rw [hr, hlen], by omega, by omega, h2, .of_no hk2, h.new_none (Nat.le_refl _), hb2, by omega⟩, ?_⟩
  rintro _ a6 l6 c6 w3 ⟨ar, done, p, k, s', L', hvs, hbr, har, hdone, hp, hrel, hk, hkm, h3, st3, hpo, hb3, hc3⟩
  simp only [List.cons.injEq, Value.slice.injEq, and_true] at hvs
  obtain ⟨rfl, rfl, rfl⟩ := hvs
  obtain ⟨k', rfl⟩ : ∃ k', k = k' + 1 := ⟨k - 1, by omega⟩
  rw [AK.putN_succ] at hrel
  have hz3 := st3.size
  refine condP (fun hlt => ?_) (fun hge => ?_)
  · rw [if_neg (by omega)] at hrel
    have hk4 : Kept No w3 w3.drew := Kept.drew _ _
    intro w4
    have hk4 : Kept No w3 w4 := Kept.drew _ _
    clear_value w4
    refine ⟨hv_nilM, ?_⟩
    intro w5
    have hk5 : Kept No w4 w5 := Kept.alloc _ _ _
    have hs5 : SlO 1 w5 (some ⟨w4.heap.size, 0, none⟩) 0 0 (By []) := SlO.of_blk (Blk.alloc w4 #[] _) (by simp)
    have hz5 : w5.heap.size = w4.heap.size + 1 := by simp [w5]
    clear_value w5
    have k5 := hk4.no hk5
    have hne0 : bs ≠ [] := fun e => by rw [e] at hlen; simp at hlen; omega
    have hrest : RdB w5 a6 (l - done) (c - done) (bs.drop done) := (hbr.keep st3.kept fun z hz hin e => e (hold hne0 z hz (har z hin))).keep k5 fun _ _ _ e => e
    have hrl : (bs.drop done).length = l - done := by rw [List.length_drop]; omega
    obtain ⟨a7, c7, w6, hrun, hs6, hk6, hat, _⟩ := run_app_sl (P := Tryz.prog) (t := 40) (t2 := 40) (ty := 40) (by kernel_rfl : slTyB Tryz.prog 40 1 1 = true) (by kernel_rfl) hs5 (hrest : RdS 1 w5 a6 (l - done) (c - done) (By (bs.drop done))) (By_one _) (by omega) (by omega)
    simp only [Nat.zero_add] at hrun hs6
    rw [show By [] ++ By (bs.drop done) = By (bs.drop done) from rfl] at hs6
    have k6 : Kept No w3 w6 := k5.fresh hk6 fun x e => by rw [inA_some] at e; have := hk4.size; omega
    have h6 := h3.no k6
    have hz4 := hk4.size
    have ha7 : ∀ z, inA a7 z → L'.own z = none := fun z hz => h3.new_none (by
      rcases hat.in hz with e | e
      · rw [inA_some] at e; omega
      · omega)
    refine ⟨_, _, _, w6, hrun, _, _, _, hv_write #[.slice a7 (l - done) c7], CallR.mono (hwrite_ok h6 d (SlO.rd hs6) (fun _ => ha7) (by omega)) ?_⟩
    rintro v w8 ⟨rfl, L8, h8, st8⟩
    obtain ⟨_, _, hcw, _⟩ := AK.write_cs s' d (bs.drop done)
    generalize hgw : s'.write d (bs.drop done) = r at hrel h8 hcw ⊢
    obtain ⟨rn, re, rs⟩ := r
    dsimp only at hrel h8 hcw ⊢
    have hb8 : Blk w8 w.heap.size #[.int .i64 (p : Int)] := (hb3.keep k6 fun e => e).keep st8.kept fun e => e hpo
    have hpo8 : L8.own w.heap.size = none := by
      have := hb3.lt
      have := k6.size
      cases ho : L8.own w.heap.size with
      | none => rfl
      | some t =>
        exfalso
        rcases st8.grew w.heap.size (by rw [ho]; simp) with e | e
        · exact e hpo
        · omega
    have st38 := (st3.no k6).trans st8
    refine ⟨_, _, rfl, ⟨by omega, by omega⟩, fun vs w' => ∃ b : Bool, vs = [.bool b] ∧ w' = w8 ∧ b = decide (re = 22 ∨ re = 23 ∨ (re = 0 ∧ rn = 0)), ?_, ?_⟩
    · refine pass_to ⟨_, rfl, condP (fun h1 => ⟨_, rfl, rfl, ?_⟩) (fun h1 => condI (fun h2 => ⟨_, rfl, rfl, ?_⟩) (fun h2 => ⟨_, rfl, rfl, ?_⟩))⟩
      · rw [decide_eq_true h1, decide_eq_true]; omega
      · have h2 : re = 0 := by simpa using h2
        by_cases h3 : rn = 0
        · rw [decide_eq_true (.inr (.inr ⟨h2, h3⟩) : re = 22 ∨ re = 23 ∨ (re = 0 ∧ rn = 0))]; simp [h3]
        · rw [decide_eq_false (by omega : ¬ (re = 22 ∨ re = 23 ∨ (re = 0 ∧ rn = 0)))]; simp [h3]
      · have h2 : ¬ re = 0 := by simpa using h2
        rw [decide_eq_false (by omega : ¬ (re = 22 ∨ re = 23 ∨ (re = 0 ∧ rn = 0)))]
    · rintro _ b16 w10 ⟨b, hbv, rfl, hbe⟩
      simp only [List.cons.injEq, Value.bool.injEq, and_true] at hbv
      subst hbv
      subst hbe
      refine condP (fun hpass => ?_) (fun hpass => ?_)
      · rw [if_pos hpass] at hrel
        refine CallR.mono (out_ok hb8 (by omega)) ?_
        rintro v w11 ⟨rfl, hb11, hk11⟩
        have h11 : KernO w11 gk rs L8 := h8.keep hk11 fun x e => by rw [e]; exact hpo8
        have st11 := st38.own hk11 (Nat.le_refl _)
        refine ⟨_, rfl, condP (fun hge => ?_) (fun hlt2 => ?_)⟩
        · rw [if_pos hge] at hrel
          rw [hrel]
          exact ⟨tup2 (by omega), L8, h11, st11⟩
        · rw [if_neg hlt2] at hrel
          refine ⟨⟨a6, done, p + 1, k', rs, L8, rfl, hbr, har, hdone, by omega, hrel, by omega, by omega, h11, st11, hpo8, hb11, by omega⟩, ?_⟩
          show 8192 * (l - done) + mu0 _ w11 < 8192 * (l - done) + mu0 _ w3
          rw [mu0_of hb11, mu0_of hb3]
          omega
      · rw [if_neg hpass] at hrel
        refine condN (fun hne => ?_) (fun he => ?_)
        · rw [if_pos hne] at hrel
          rw [hrel]
          exact ⟨tup2 (by omega), L8, h8, st38⟩
        rw [if_neg (fun e => e he)] at hrel
        have bad : rn < 0 ∨ ((bs.drop done).length : Int) < rn → (.tuple #[.int .i64 (((l : Nat) : Int) - (((l - done : Nat)) : Int)), .int .i64 82] : Value) = .tuple #[.int .i64 (s.rput d bs).1, .int .i64 (s.rput d bs).2.1] ∧ ∃ L', KernO w10 gk (s.rput d bs).2.2 L' ∧ KStep w w10 L L' := by
          intro hb
          rw [if_pos hb] at hrel
          rw [hrel]
          exact ⟨tup2 (by omega), L8, h8, st38⟩
        refine condP (fun h1 => bad (.inl h1)) (fun h1 => condP (fun h2 => bad (.inr (by omega))) (fun h2 => ?_))
        rw [if_neg (by omega)] at hrel
        have hrn : rn ≠ 0 := fun e => hpass (.inr (.inr ⟨he, e⟩))
        refine ⟨⟨by omega, by omega⟩, stC_blk hb8 (by simp) fun w12 hb12 hk12 hs12 => ?_⟩
        have hb12 : Blk w12 w.heap.size #[.int .i64 ((0 : Nat) : Int)] := by simpa using hb12
        refine ⟨⟨adv a6 rn.toNat (c - done) 1, done + rn.toNat, 0, k', rs, L8, ?_, ?_, fun z hz => har z (inA_adv.1 hz), by omega, by omega, hrel, by omega, by omega, h8.keep hk12 fun x e => by rw [e]; exact hpo8, st38.own hk12 (Nat.le_refl _), hpo8, hb12, by omega⟩, ?_⟩
        · rw [show l - done - rn.toNat = l - (done + rn.toNat) by omega, show c - done - rn.toNat = c - (done + rn.toNat) by omega]
        · have := hbr.from rn.toNat (by omega)
          rw [List.drop_drop, show l - done - rn.toNat = l - (done + rn.toNat) by omega, show c - done - rn.toNat = c - (done + rn.toNat) by omega] at this
          exact this
        · show 8192 * (l - done - rn.toNat) + mu0 _ w12 < 8192 * (l - done) + mu0 _ w3
          rw [mu0_of hb12, mu0_of hb3]
          omega
  · rw [if_pos (by omega)] at hrel
    rw [hrel]
    exact ⟨by rw [hlen], L', h3, st3⟩
end Go.Proofs.YtpoaacnnhgebfaaGreat
set_option maxRecDepth 100000
namespace Go.Proofs.YtpoaacnnhgebfaaGreat
open Go.Lw
def A158 : Ann := ⟨[], [], [], [], [], []⟩
def L158 (n1 : Int) (n2 : Int) (Q : Value → World → Prop) (w : World) : Prop :=
  let w1 := World.alloc w (Obj.cells #[.int .i64 n1, .int .i64 n2] 188);
  ∃ (n3 : Int), w1.cell? (Addr.mk w.heap.size 0 none) = some ((.int .i64 n3 : Value)) ∧
  cond (n3 == 1)
  (∃ (n4 : Int), w1.cell? (Addr.mk w.heap.size 1 none) = some ((.int .i64 n4 : Value)) ∧
  cond (decide (n4 ≥ 1))
  (∃ (n5 : Int), w1.cell? (Addr.mk w.heap.size 1 none) = some ((.int .i64 n5 : Value)) ∧
  Q (.bool (decide (n5 ≤ 1048576))) w1)
  (Q (.bool false) w1))
  (∃ (n6 : Int), w1.cell? (Addr.mk w.heap.size 0 none) = some ((.int .i64 n6 : Value)) ∧
  cond (decide (n6 ≥ 0))
  (∃ (n7 : Int), w1.cell? (Addr.mk w.heap.size 0 none) = some ((.int .i64 n7 : Value)) ∧
  cond (decide (n7 ≤ 3))
  (∃ (n8 : Int), w1.cell? (Addr.mk w.heap.size 1 none) = some ((.int .i64 n8 : Value)) ∧
  Q (.bool (n8 == 0)) w1)
  (Q (.bool false) w1))
  (Q (.bool false) w1))
theorem C158 {n1 : Int} {n2 : Int} {Q : Value → World → Prop} {w : World} (h : L158 n1 n2 Q w) : CallR Tryz.prog 158 [.agg #[.int .i64 n1, .int .i64 n2]] w Q :=
  fun_calls (A := A158) mixed Tryz.func158 (c := (Tryz.f158.body).getD .skip) rfl (by kernel_rfl) (Eq.mp (by kernel_rfl) h)
def A59 : Ann := ⟨[(4, [(4, .one (.int .i64))])], [], [], [], [], []⟩
def L59 (a1 : Option Addr) (l1 : Nat) (c1 : Nat) (Q : Value → World → Prop) (w : World) : Prop :=
  cond (decide ((((l1 : Nat) : Int)) > 4096))
  (Q (.tuple #[.int .i64 3, .int .i64 0]) w)
  (∃ (I2 : List Value → World → Prop) (mu3 : List Value → World → Nat),
  I2 [.int .i64 0] w ∧
  ∀ (_ : Env) (n4 : Int) (w1 : World), I2 [.int .i64 n4] w1 →
  cond (decide (n4 < (((l1 : Nat) : Int))))
  ((0 ≤ (n4 : Int) ∧ (n4 : Int) < ((l1 : Nat) : Int)) ∧
  nn a1 (fun (q5 : Addr) =>
  ∃ (n6 : Int) (n7 : Int), w1.cell? (Addr.add q5 (Int.toNat n4 * 2)) = some ((.int .i64 n6 : Value)) ∧ w1.cell? (Addr.add (Addr.add q5 (Int.toNat n4 * 2)) 1) = some ((.int .i64 n7 : Value)) ∧ 
  CallR Tryz.prog 158 [.agg #[.int .i64 n6, .int .i64 n7]] w1 (fun (r9 : Value) (w2 : World) =>
  ∃ (b8 : Bool), r9 = .bool b8 ∧
  cond (!b8)
  (Q (.tuple #[.int .i64 21, .int .i64 n4]) w2)
  (inI (n4 + 1) ∧
  I2 [.int .i64 (n4 + 1)] w2 ∧ mu3 [.int .i64 (n4 + 1)] w2 < mu3 [.int .i64 n4] w1))))
  (Q (.tuple #[.int .i64 0, .int .i64 (((l1 : Nat) : Int))]) w1))
theorem C59 {a1 : Option Addr} {l1 : Nat} {c1 : Nat} {Q : Value → World → Prop} {w : World} (h : L59 a1 l1 c1 Q w) : CallR Tryz.prog 59 [.slice a1 l1 c1] w Q :=
  fun_calls (A := A59) mixed Tryz.func59 (c := (Tryz.f59.body).getD .skip) rfl (by kernel_rfl) (Eq.mp (by kernel_rfl) h)
def A170 : Ann := ⟨[], [], [], [], [], []⟩
def L170 (p1 : Option Addr) (n2 : Int) (Q : Value → World → Prop) (w : World) : Prop :=
  cond (decide (n2 < 1))
  (Q (.tuple #[.int .i64 0, .int .i64 4]) w)
  (cond (decide (n2 > 1048576))
  (Q (.tuple #[.int .i64 0, .int .i64 4]) w)
  (nn p1 (fun (q3 : Addr) =>
  ∃ (a4 : Option Addr) (l4 : Nat) (c4 : Nat), w.cell? q3 = some ((.slice a4 l4 c4 : Value)) ∧
  cond ((((l4 : Nat) : Int)) == 0)
  (Q (.tuple #[.int .i64 n2, .int .i64 0]) w)
  (nn p1 (fun (q5 : Addr) =>
  ∃ (a6 : Option Addr) (l6 : Nat) (c6 : Nat), w.cell? q5 = some ((.slice a6 l6 c6 : Value)) ∧
  (0 ≤ (0 : Int) ∧ (0 : Int) < ((l6 : Nat) : Int)) ∧
  nn a6 (fun (q7 : Addr) =>
  ∃ (n8 : Int) (n9 : Int), w.cell? (Addr.add q7 (Int.toNat 0 * 2)) = some ((.int .i64 n8 : Value)) ∧ w.cell? (Addr.add (Addr.add q7 (Int.toNat 0 * 2)) 1) = some ((.int .i64 n9 : Value)) ∧ 
  let w1 := World.alloc w (Obj.cells #[.int .i64 0, .int .i64 0] 188);
  stC (Addr.mk w.heap.size 0 none) (.int .i64 n8) w1 (fun (w2 : World) =>
  stC (Addr.mk w.heap.size 1 none) (.int .i64 n9) w2 (fun (w3 : World) =>
  nn p1 (fun (q10 : Addr) =>
  ∃ (a11 : Option Addr) (l11 : Nat) (c11 : Nat), w3.cell? q10 = some ((.slice a11 l11 c11 : Value)) ∧
  (0 ≤ (1 : Int) ∧ (1 : Int) ≤ ((l11 : Nat) : Int)) ∧
  nn p1 (fun (q12 : Addr) =>
  stC q12 (.slice (adv a11 (Int.toNat 1) c11 2) (l11 - Int.toNat 1) (c11 - Int.toNat 1)) w3 (fun (w4 : World) =>
  ∃ (n13 : Int), w4.cell? (Addr.mk w.heap.size 0 none) = some ((.int .i64 n13 : Value)) ∧
  cond (n13 == 1)
  (∃ (n14 : Int), w4.cell? (Addr.mk w.heap.size 1 none) = some ((.int .i64 n14 : Value)) ∧
  Q (.tuple #[.int .i64 (mn n2 n14), .int .i64 0]) w4)
  (cond (n13 == 2)
  (Q (.tuple #[.int .i64 0, .int .i64 22]) w4)
  (cond (n13 == 3)
  (Q (.tuple #[.int .i64 0, .int .i64 23]) w4)
  (Q (.tuple #[.int .i64 n2, .int .i64 0]) w4))))))))))))))
theorem C170 {p1 : Option Addr} {n2 : Int} {Q : Value → World → Prop} {w : World} (h : L170 p1 n2 Q w) : CallR Tryz.prog 170 [.pointer p1, .int .i64 n2] w Q :=
  fun_calls (A := A170) mixed Tryz.func170 (c := (Tryz.f170.body).getD .skip) rfl (by kernel_rfl) (Eq.mp (by kernel_rfl) h)
def A127 : Ann := ⟨[], [], [], [], [], []⟩
def L127 (a1 : Option Addr) (l1 : Nat) (c1 : Nat) (Q : Value → World → Prop) (w : World) : Prop :=
  cond (decide ((((l1 : Nat) : Int)) > 1048576))
  (Q (.tuple #[.pointer none, .int .i64 5]) w)
  (let w1 := World.alloc w (Obj.cells #[.slice none 0 0] 215);
  ∃ (a2 : Option Addr) (l2 : Nat) (c2 : Nat), w1.cell? (Addr.mk w.heap.size 0 none) = some ((.slice a2 l2 c2 : Value)) ∧
  ∃ (a3 : Option Addr) (l3 : Nat) (c3 : Nat) (w2 : World), Sem.run Tryz.prog (Builtin.append_ #[40, 40] 40 #[.slice a2 l2 c2, .slice a1 l1 c1]) w1 = .ok ((.slice a3 l3 c3 : Value)) w2 ∧
  stC (Addr.mk w.heap.size 0 none) (.slice a3 l3 c3) w2 (fun (w3 : World) =>
  Q (.tuple #[.pointer (some (Addr.mk w.heap.size 0 none)), .int .i64 0]) w3))
theorem C127 {a1 : Option Addr} {l1 : Nat} {c1 : Nat} {Q : Value → World → Prop} {w : World} (h : L127 a1 l1 c1 Q w) : CallR Tryz.prog 127 [.slice a1 l1 c1] w Q :=
  fun_calls (A := A127) mixed Tryz.func127 (c := (Tryz.f127.body).getD .skip) rfl (by kernel_rfl) (Eq.mp (by kernel_rfl) h)
def A205 : Ann := ⟨[], [], [], [], [], []⟩
def L205 (n1 : Int) (Q : Value → World → Prop) (w : World) : Prop :=
  cond (decide (n1 ≥ 0))
  (Q (.bool (decide (n1 ≤ 1048576))) w)
  (Q (.bool false) w)
theorem C205 {n1 : Int} {Q : Value → World → Prop} {w : World} (h : L205 n1 Q w) : CallR Tryz.prog 205 [.int .i64 n1] w Q :=
  fun_calls (A := A205) mixed Tryz.func205 (c := (Tryz.f205.body).getD .skip) rfl (by kernel_rfl) (Eq.mp (by kernel_rfl) h)
def A148 : Ann := ⟨[], [], [], [], [], []⟩
def L148 (a1 : Option Addr) (l1 : Nat) (c1 : Nat) (n2 : Int) (n3 : Int) (Q : Value → World → Prop) (w : World) : Prop :=
  cond (decide (n2 ≥ (((l1 : Nat) : Int))))
  (Q (.slice none 0 0) w)
  (inI ((((l1 : Nat) : Int)) - n2) ∧
  inI (n2 + (mn n3 ((((l1 : Nat) : Int)) - n2))) ∧
  (0 ≤ (n2 + (mn n3 ((((l1 : Nat) : Int)) - n2)) : Int) ∧ (n2 + (mn n3 ((((l1 : Nat) : Int)) - n2)) : Int) ≤ ((c1 : Nat) : Int)) ∧
  (0 ≤ (n2 : Int) ∧ (n2 : Int) ≤ ((Int.toNat (n2 + (mn n3 ((((l1 : Nat) : Int)) - n2))) : Nat) : Int)) ∧
  ∃ (a4 : Option Addr) (l4 : Nat) (c4 : Nat) (w1 : World), Sem.run Tryz.prog (Builtin.append_ #[40, 40] 40 #[.slice none 0 0, .slice (adv a1 (Int.toNat n2) c1 1) (Int.toNat (n2 + (mn n3 ((((l1 : Nat) : Int)) - n2))) - Int.toNat n2) (c1 - Int.toNat n2)]) w = .ok ((.slice a4 l4 c4 : Value)) w1 ∧
  Q (.slice a4 l4 c4) w1)
theorem C148 {a1 : Option Addr} {l1 : Nat} {c1 : Nat} {n2 : Int} {n3 : Int} {Q : Value → World → Prop} {w : World} (h : L148 a1 l1 c1 n2 n3 Q w) : CallR Tryz.prog 148 [.slice a1 l1 c1, .int .i64 n2, .int .i64 n3] w Q :=
  fun_calls (A := A148) mixed Tryz.func148 (c := (Tryz.f148.body).getD .skip) rfl (by kernel_rfl) (Eq.mp (by kernel_rfl) h)
def A150 : Ann := ⟨[(1, [(0, .one (.slice))]), (4, [(0, .one (.slice)), (7, .one (.int .i64))])], [], [], [], [], []⟩
def L150 (a1 : Option Addr) (l1 : Nat) (c1 : Nat) (n2 : Int) (a3 : Option Addr) (l3 : Nat) (c3 : Nat) (Q : Value → World → Prop) (w : World) : Prop :=
  ∃ (I4 : List Value → World → Prop) (mu5 : List Value → World → Nat),
  I4 [.slice a1 l1 c1] w ∧
  ∀ (_ : Env) (a6 : Option Addr) (l6 : Nat) (c6 : Nat) (w1 : World), I4 [.slice a6 l6 c6] w1 →
  cond (decide ((((l6 : Nat) : Int)) < n2))
  (let w2 := World.alloc w1 (Obj.cells #[.int .u8 0] 5);
  ∃ (a7 : Option Addr) (l7 : Nat) (c7 : Nat) (w3 : World), Sem.run Tryz.prog (Builtin.append_ #[40, 40] 40 #[.slice a6 l6 c6, .slice (some (Addr.mk w1.heap.size 0 none)) 1 1]) w2 = .ok ((.slice a7 l7 c7 : Value)) w3 ∧
  I4 [.slice a7 l7 c7] w3 ∧ mu5 [.slice a7 l7 c7] w3 < mu5 [.slice a6 l6 c6] w1)
  (∃ (I8 : List Value → World → Prop) (mu9 : List Value → World → Nat),
  I8 [.slice a6 l6 c6, .int .i64 0] w1 ∧
  ∀ (_ : Env) (a10 : Option Addr) (l10 : Nat) (c10 : Nat) (n11 : Int) (w4 : World), I8 [.slice a10 l10 c10, .int .i64 n11] w4 →
  cond (decide (n11 < (((l3 : Nat) : Int))))
  (inI (n2 + n11) ∧
  cond (decide ((n2 + n11) < (((l10 : Nat) : Int))))
  (inI (n2 + n11) ∧
  (0 ≤ (n11 : Int) ∧ (n11 : Int) < ((l3 : Nat) : Int)) ∧
  nn a3 (fun (q12 : Addr) =>
  ∃ (n13 : Int), w4.cell? (Addr.add q12 (Int.toNat n11)) = some ((.int .u8 n13 : Value)) ∧
  (0 ≤ (n2 + n11 : Int) ∧ (n2 + n11 : Int) < ((l10 : Nat) : Int)) ∧
  nn a10 (fun (q14 : Addr) =>
  stC (Addr.add q14 (Int.toNat (n2 + n11))) (.int .u8 n13) w4 (fun (w5 : World) =>
  inI (n11 + 1) ∧
  I8 [.slice a10 l10 c10, .int .i64 (n11 + 1)] w5 ∧ mu9 [.slice a10 l10 c10, .int .i64 (n11 + 1)] w5 < mu9 [.slice a10 l10 c10, .int .i64 n11] w4))))
  ((0 ≤ (n11 : Int) ∧ (n11 : Int) < ((l3 : Nat) : Int)) ∧
  nn a3 (fun (q15 : Addr) =>
  ∃ (n16 : Int), w4.cell? (Addr.add q15 (Int.toNat n11)) = some ((.int .u8 n16 : Value)) ∧
  let w6 := World.alloc w4 (Obj.cells #[.int .u8 n16] 5);
  ∃ (a17 : Option Addr) (l17 : Nat) (c17 : Nat) (w7 : World), Sem.run Tryz.prog (Builtin.append_ #[40, 40] 40 #[.slice a10 l10 c10, .slice (some (Addr.mk w4.heap.size 0 none)) 1 1]) w6 = .ok ((.slice a17 l17 c17 : Value)) w7 ∧
  inI (n11 + 1) ∧
  I8 [.slice a17 l17 c17, .int .i64 (n11 + 1)] w7 ∧ mu9 [.slice a17 l17 c17, .int .i64 (n11 + 1)] w7 < mu9 [.slice a10 l10 c10, .int .i64 n11] w4)))
  (Q (.slice a10 l10 c10) w4))
theorem C150 {a1 : Option Addr} {l1 : Nat} {c1 : Nat} {n2 : Int} {a3 : Option Addr} {l3 : Nat} {c3 : Nat} {Q : Value → World → Prop} {w : World} (h : L150 a1 l1 c1 n2 a3 l3 c3 Q w) : CallR Tryz.prog 150 [.slice a1 l1 c1, .int .i64 n2, .slice a3 l3 c3] w Q :=
  fun_calls (A := A150) mixed Tryz.func150 (c := (Tryz.f150.body).getD .skip) rfl (by kernel_rfl) (Eq.mp (by kernel_rfl) h)
def A177 : Ann := ⟨[], [], [], [], [], []⟩
def L177 (p1 : Option Addr) (n2 : Int) (a3 : Option Addr) (l3 : Nat) (c3 : Nat) (Q : Value → World → Prop) (w : World) : Prop :=
  CallR Tryz.prog 205 [.int .i64 n2] w (fun (r5 : Value) (w1 : World) =>
  ∃ (b4 : Bool), r5 = .bool b4 ∧
  cond (!b4)
  (Q (.int .i64 4) w1)
  (inI ((1048576 : Int) - n2) ∧
  cond (decide ((((l3 : Nat) : Int)) > ((1048576 : Int) - n2)))
  (Q (.int .i64 31) w1)
  (cond (decide ((((l3 : Nat) : Int)) > 0))
  (nn p1 (fun (q6 : Addr) =>
  ∃ (a7 : Option Addr) (l7 : Nat) (c7 : Nat), w1.cell? q6 = some ((.slice a7 l7 c7 : Value)) ∧
  CallR Tryz.prog 150 [.slice a7 l7 c7, .int .i64 n2, .slice a3 l3 c3] w1 (fun (r9 : Value) (w2 : World) =>
  ∃ (a8 : Option Addr) (l8 : Nat) (c8 : Nat), r9 = .slice a8 l8 c8 ∧
  nn p1 (fun (q10 : Addr) =>
  stC q10 (.slice a8 l8 c8) w2 (fun (w3 : World) =>
  Q (.int .i64 0) w3)))))
  (Q (.int .i64 0) w1))))
theorem C177 {p1 : Option Addr} {n2 : Int} {a3 : Option Addr} {l3 : Nat} {c3 : Nat} {Q : Value → World → Prop} {w : World} (h : L177 p1 n2 a3 l3 c3 Q w) : CallR Tryz.prog 177 [.pointer p1, .int .i64 n2, .slice a3 l3 c3] w Q :=
  fun_calls (A := A177) mixed Tryz.func177 (c := (Tryz.f177.body).getD .skip) rfl (by kernel_rfl) (Eq.mp (by kernel_rfl) h)
def A58 : Ann := ⟨[(4, [(3, .one (.int .i64))])], [], [], [], [], []⟩
def L58 (a1 : Option Addr) (l1 : Nat) (c1 : Nat) (Q : Value → World → Prop) (w : World) : Prop :=
  cond (decide ((((l1 : Nat) : Int)) > 256))
  (Q (.int .i64 3) w)
  (∃ (I2 : List Value → World → Prop) (mu3 : List Value → World → Nat),
  I2 [.int .i64 0] w ∧
  ∀ (_ : Env) (n4 : Int) (w1 : World), I2 [.int .i64 n4] w1 →
  cond (decide (n4 < (((l1 : Nat) : Int))))
  ((0 ≤ (n4 : Int) ∧ (n4 : Int) < ((l1 : Nat) : Int)) ∧
  nn a1 (fun (q5 : Addr) =>
  ∃ (a6 : Option Addr) (l6 : Nat) (c6 : Nat), w1.cell? (Addr.add q5 (Int.toNat n4)) = some ((.slice a6 l6 c6 : Value)) ∧
  cond (decide ((((l6 : Nat) : Int)) > 4096))
  (Q (.int .i64 5) w1)
  (inI (n4 + 1) ∧
  I2 [.int .i64 (n4 + 1)] w1 ∧ mu3 [.int .i64 (n4 + 1)] w1 < mu3 [.int .i64 n4] w1)))
  (Q (.int .i64 0) w1))
theorem C58 {a1 : Option Addr} {l1 : Nat} {c1 : Nat} {Q : Value → World → Prop} {w : World} (h : L58 a1 l1 c1 Q w) : CallR Tryz.prog 58 [.slice a1 l1 c1] w Q :=
  fun_calls (A := A58) mixed Tryz.func58 (c := (Tryz.f58.body).getD .skip) rfl (by kernel_rfl) (Eq.mp (by kernel_rfl) h)
def A159 : Ann := ⟨[(6, [(6, .one (.int .i64))])], [], [], [], [(9, [0, 1, 2, 3, 4, 5, 6, 7, 8, 9, 10, 11], 12, [13, 14, 15])], []⟩
def L159 (a1 : Option Addr) (l1 : Nat) (c1 : Nat) (Q : Value → World → Prop) (w : World) : Prop :=
  CallR Tryz.prog 58 [.slice a1 l1 c1] w (fun (r3 : Value) (w1 : World) =>
  ∃ (n2 : Int), r3 = .int .i64 n2 ∧
  cond (n2 != 0)
  (Q (.tuple #[.pointer none, .int .i64 n2]) w1)
  (let w2 := World.alloc w1 (Obj.cells #[.slice none 0 0, .slice none 0 0] 282);
  ∃ (I4 : List Value → World → Prop) (mu5 : List Value → World → Nat),
  I4 [.int .i64 0] w2 ∧
  ∀ (_ : Env) (n6 : Int) (w3 : World), I4 [.int .i64 n6] w3 →
  cond (decide (n6 < (((l1 : Nat) : Int))))
  (∃ (S7 : World → Prop), S7 (World.drew w3) ∧
  let w4 := World.drew w3;
  ∃ (a8 : Option Addr) (l8 : Nat) (c8 : Nat), (∀ wS : World, S7 wS → wS.cell? (Addr.mk w1.heap.size 0 none) = some ((.slice a8 l8 c8 : Value))) ∧
  (0 ≤ (n6 : Int) ∧ (n6 : Int) < ((l1 : Nat) : Int)) ∧
  nn a1 (fun (q9 : Addr) =>
  ∃ (a10 : Option Addr) (l10 : Nat) (c10 : Nat), (∀ wS : World, S7 wS → wS.cell? (Addr.add q9 (Int.toNat n6)) = some ((.slice a10 l10 c10 : Value))) ∧
  ∃ (a11 : Option Addr) (l11 : Nat) (c11 : Nat) (w5 : World), Sem.run Tryz.prog (Builtin.append_ #[40, 40] 40 #[.slice none 0 0, .slice a10 l10 c10]) w4 = .ok ((.slice a11 l11 c11 : Value)) w5 ∧
  S7 w5 ∧
  let w6 := World.alloc w5 (Obj.cells #[.slice a11 l11 c11] 40);
  S7 w6 ∧
  ∃ (a12 : Option Addr) (l12 : Nat) (c12 : Nat) (w7 : World), Sem.run Tryz.prog (Builtin.append_ #[84, 84] 84 #[.slice a8 l8 c8, .slice (some (Addr.mk w5.heap.size 0 none)) 1 1]) w6 = .ok ((.slice a12 l12 c12 : Value)) w7 ∧
  stC (Addr.mk w1.heap.size 0 none) (.slice a12 l12 c12) w7 (fun (w8 : World) =>
  inI (n6 + 1) ∧
  I4 [.int .i64 (n6 + 1)] w8 ∧ mu5 [.int .i64 (n6 + 1)] w8 < mu5 [.int .i64 n6] w3)))
  (Q (.tuple #[.pointer (some (Addr.mk w1.heap.size 0 none)), .int .i64 0]) w3)))
theorem C159 {a1 : Option Addr} {l1 : Nat} {c1 : Nat} {Q : Value → World → Prop} {w : World} (h : L159 a1 l1 c1 Q w) : CallR Tryz.prog 159 [.slice a1 l1 c1] w Q :=
  fun_calls (A := A159) mixed Tryz.func159 (c := (Tryz.f159.body).getD .skip) rfl (by kernel_rfl) (Eq.mp (by kernel_rfl) h)
def A171 : Ann := ⟨[], [], [], [(9, [0, 1, 2, 3, 4, 5, 6, 7, 8])], [], []⟩
def L171 (p1 : Option Addr) (n2 : Int) (Q : Value → World → Prop) (w : World) : Prop :=
  cond (decide (n2 < 1))
  (Q (.tuple #[.slice none 0 0, .int .i64 4]) w)
  (cond (decide (n2 > 1048576))
  (Q (.tuple #[.slice none 0 0, .int .i64 4]) w)
  (nn p1 (fun (q3 : Addr) =>
  ∃ (a4 : Option Addr) (l4 : Nat) (c4 : Nat), w.cell? q3 = some ((.slice a4 l4 c4 : Value)) ∧
  cond ((((l4 : Nat) : Int)) == 0)
  (Q (.tuple #[.slice none 0 0, .int .i64 0]) w)
  (nn p1 (fun (q5 : Addr) =>
  ∃ (a6 : Option Addr) (l6 : Nat) (c6 : Nat), w.cell? q5 = some ((.slice a6 l6 c6 : Value)) ∧
  (0 ≤ (0 : Int) ∧ (0 : Int) < ((l6 : Nat) : Int)) ∧
  nn a6 (fun (q7 : Addr) =>
  ∃ (a8 : Option Addr) (l8 : Nat) (c8 : Nat), w.cell? (Addr.add q7 (Int.toNat 0)) = some ((.slice a8 l8 c8 : Value)) ∧
  cond ((mn n2 (((l8 : Nat) : Int))) == (((l8 : Nat) : Int)))
  (nn p1 (fun (q9 : Addr) =>
  ∃ (a10 : Option Addr) (l10 : Nat) (c10 : Nat), w.cell? q9 = some ((.slice a10 l10 c10 : Value)) ∧
  (0 ≤ (1 : Int) ∧ (1 : Int) ≤ ((l10 : Nat) : Int)) ∧
  nn p1 (fun (q11 : Addr) =>
  stC q11 (.slice (adv a10 (Int.toNat 1) c10 1) (l10 - Int.toNat 1) (c10 - Int.toNat 1)) w (fun (w1 : World) =>
  (0 ≤ (mn n2 (((l8 : Nat) : Int)) : Int) ∧ (mn n2 (((l8 : Nat) : Int)) : Int) ≤ ((c8 : Nat) : Int)) ∧
  Q (.tuple #[.slice a8 (Int.toNat (mn n2 (((l8 : Nat) : Int)))) c8, .int .i64 0]) w1))))
  (let w2 := World.drew w;
  nn p1 (fun (q12 : Addr) =>
  ∃ (a13 : Option Addr) (l13 : Nat) (c13 : Nat), w2.cell? q12 = some ((.slice a13 l13 c13 : Value)) ∧
  (0 ≤ (mn n2 (((l8 : Nat) : Int)) : Int) ∧ (mn n2 (((l8 : Nat) : Int)) : Int) ≤ ((l8 : Nat) : Int)) ∧
  (0 ≤ (0 : Int) ∧ (0 : Int) < ((l13 : Nat) : Int)) ∧
  nn a13 (fun (q14 : Addr) =>
  stC (Addr.add q14 (Int.toNat 0)) (.slice (adv a8 (Int.toNat (mn n2 (((l8 : Nat) : Int)))) c8 1) (l8 - Int.toNat (mn n2 (((l8 : Nat) : Int)))) (c8 - Int.toNat (mn n2 (((l8 : Nat) : Int))))) w2 (fun (w3 : World) =>
  (0 ≤ (mn n2 (((l8 : Nat) : Int)) : Int) ∧ (mn n2 (((l8 : Nat) : Int)) : Int) ≤ ((c8 : Nat) : Int)) ∧
  Q (.tuple #[.slice a8 (Int.toNat (mn n2 (((l8 : Nat) : Int)))) c8, .int .i64 0]) w3))))))))))
theorem C171 {p1 : Option Addr} {n2 : Int} {Q : Value → World → Prop} {w : World} (h : L171 p1 n2 Q w) : CallR Tryz.prog 171 [.pointer p1, .int .i64 n2] w Q :=
  fun_calls (A := A171) mixed Tryz.func171 (c := (Tryz.f171.body).getD .skip) rfl (by kernel_rfl) (Eq.mp (by kernel_rfl) h)
def A176 : Ann := ⟨[], [], [], [], [], []⟩
def L176 (p1 : Option Addr) (a2 : Option Addr) (l2 : Nat) (c2 : Nat) (Q : Value → World → Prop) (w : World) : Prop :=
  nn p1 (fun (q3 : Addr) =>
  ∃ (a4 : Option Addr) (l4 : Nat) (c4 : Nat), w.cell? (Addr.add q3 1) = some ((.slice a4 l4 c4 : Value)) ∧
  inI ((((l4 : Nat) : Int)) + (((l2 : Nat) : Int))) ∧
  cond (decide (((((l4 : Nat) : Int)) + (((l2 : Nat) : Int))) > 1048576))
  (Q (.int .i64 31) w)
  (nn p1 (fun (q5 : Addr) =>
  ∃ (a6 : Option Addr) (l6 : Nat) (c6 : Nat), w.cell? (Addr.add q5 1) = some ((.slice a6 l6 c6 : Value)) ∧
  ∃ (a7 : Option Addr) (l7 : Nat) (c7 : Nat) (w1 : World), Sem.run Tryz.prog (Builtin.append_ #[40, 40] 40 #[.slice a6 l6 c6, .slice a2 l2 c2]) w = .ok ((.slice a7 l7 c7 : Value)) w1 ∧
  nn p1 (fun (q8 : Addr) =>
  stC (Addr.add q8 1) (.slice a7 l7 c7) w1 (fun (w2 : World) =>
  Q (.int .i64 0) w2)))))
theorem C176 {p1 : Option Addr} {a2 : Option Addr} {l2 : Nat} {c2 : Nat} {Q : Value → World → Prop} {w : World} (h : L176 p1 a2 l2 c2 Q w) : CallR Tryz.prog 176 [.pointer p1, .slice a2 l2 c2] w Q :=
  fun_calls (A := A176) mixed Tryz.func176 (c := (Tryz.f176.body).getD .skip) rfl (by kernel_rfl) (Eq.mp (by kernel_rfl) h)
def A172 : Ann := ⟨[], [], [], [], [], []⟩
def L172 (p1 : Option Addr) (n2 : Int) (Q : Value → World → Prop) (w : World) : Prop :=
  cond (decide (n2 < 1))
  (Q (.tuple #[.slice none 0 0, .int .i64 4]) w)
  (cond (decide (n2 > 1048576))
  (Q (.tuple #[.slice none 0 0, .int .i64 4]) w)
  (nn p1 (fun (q3 : Addr) =>
  ∃ (n4 : Int), w.cell? (Addr.add q3 1) = some ((.int .i64 n4 : Value)) ∧
  cond (n4 == 0)
  (Q (.tuple #[.slice none 0 0, .int .i64 51]) w)
  (nn p1 (fun (q5 : Addr) =>
  ∃ (a6 : Option Addr) (l6 : Nat) (c6 : Nat), w.cell? q5 = some ((.slice a6 l6 c6 : Value)) ∧
  cond ((((l6 : Nat) : Int)) == 0)
  (nn p1 (fun (q7 : Addr) =>
  ∃ (n8 : Int), w.cell? (Addr.add q7 2) = some ((.int .i64 n8 : Value)) ∧
  cond (decide (n8 > 0))
  (Q (.tuple #[.slice none 0 0, .int .i64 52]) w)
  (nn p1 (fun (q9 : Addr) =>
  ∃ (a10 : Option Addr) (l10 : Nat) (c10 : Nat), w.cell? q9 = some ((.slice a10 l10 c10 : Value)) ∧
  nn p1 (fun (q11 : Addr) =>
  ∃ (a12 : Option Addr) (l12 : Nat) (c12 : Nat), w.cell? q11 = some ((.slice a12 l12 c12 : Value)) ∧
  (0 ≤ (mn n2 (((l10 : Nat) : Int)) : Int) ∧ (mn n2 (((l10 : Nat) : Int)) : Int) ≤ ((c12 : Nat) : Int)) ∧
  nn p1 (fun (q13 : Addr) =>
  ∃ (a14 : Option Addr) (l14 : Nat) (c14 : Nat), w.cell? q13 = some ((.slice a14 l14 c14 : Value)) ∧
  (0 ≤ (mn n2 (((l10 : Nat) : Int)) : Int) ∧ (mn n2 (((l10 : Nat) : Int)) : Int) ≤ ((l14 : Nat) : Int)) ∧
  nn p1 (fun (q15 : Addr) =>
  stC q15 (.slice (adv a14 (Int.toNat (mn n2 (((l10 : Nat) : Int)))) c14 1) (l14 - Int.toNat (mn n2 (((l10 : Nat) : Int)))) (c14 - Int.toNat (mn n2 (((l10 : Nat) : Int))))) w (fun (w1 : World) =>
  Q (.tuple #[.slice a12 (Int.toNat (mn n2 (((l10 : Nat) : Int)))) c12, .int .i64 0]) w1))))))))
  (nn p1 (fun (q16 : Addr) =>
  ∃ (a17 : Option Addr) (l17 : Nat) (c17 : Nat), w.cell? q16 = some ((.slice a17 l17 c17 : Value)) ∧
  nn p1 (fun (q18 : Addr) =>
  ∃ (a19 : Option Addr) (l19 : Nat) (c19 : Nat), w.cell? q18 = some ((.slice a19 l19 c19 : Value)) ∧
  (0 ≤ (mn n2 (((l17 : Nat) : Int)) : Int) ∧ (mn n2 (((l17 : Nat) : Int)) : Int) ≤ ((c19 : Nat) : Int)) ∧
  nn p1 (fun (q20 : Addr) =>
  ∃ (a21 : Option Addr) (l21 : Nat) (c21 : Nat), w.cell? q20 = some ((.slice a21 l21 c21 : Value)) ∧
  (0 ≤ (mn n2 (((l17 : Nat) : Int)) : Int) ∧ (mn n2 (((l17 : Nat) : Int)) : Int) ≤ ((l21 : Nat) : Int)) ∧
  nn p1 (fun (q22 : Addr) =>
  stC q22 (.slice (adv a21 (Int.toNat (mn n2 (((l17 : Nat) : Int)))) c21 1) (l21 - Int.toNat (mn n2 (((l17 : Nat) : Int)))) (c21 - Int.toNat (mn n2 (((l17 : Nat) : Int))))) w (fun (w2 : World) =>
  Q (.tuple #[.slice a19 (Int.toNat (mn n2 (((l17 : Nat) : Int)))) c19, .int .i64 0]) w2)))))))))))
theorem C172 {p1 : Option Addr} {n2 : Int} {Q : Value → World → Prop} {w : World} (h : L172 p1 n2 Q w) : CallR Tryz.prog 172 [.pointer p1, .int .i64 n2] w Q :=
  fun_calls (A := A172) mixed Tryz.func172 (c := (Tryz.f172.body).getD .skip) rfl (by kernel_rfl) (Eq.mp (by kernel_rfl) h)
def A175 : Ann := ⟨[], [(18, [(9, .one (.int .i64))])], [], [(19, [0, 1, 2, 3, 4, 5, 7, 8, 9, 6, 10, 11, 12, 13])], [], []⟩
def L175 (p1 : Option Addr) (a2 : Option Addr) (l2 : Nat) (c2 : Nat) (n3 : Int) (Q : Value → World → Prop) (w : World) : Prop :=
  nn p1 (fun (q4 : Addr) =>
  ∃ (a5 : Option Addr) (l5 : Nat) (c5 : Nat), w.cell? q4 = some ((.slice a5 l5 c5 : Value)) ∧
  inI ((4096 : Int) - (((l5 : Nat) : Int))) ∧
  ∃ (J6 : List Value → World → Prop),
  (cond (decide ((((l2 : Nat) : Int)) > 1048576))
  (Q (.tuple #[.int .i64 0, .int .i64 5]) w)
  (cond (decide (n3 < 1))
  (Q (.tuple #[.int .i64 0, .int .i64 4]) w)
  (cond (decide (n3 > 1048576))
  (Q (.tuple #[.int .i64 0, .int .i64 4]) w)
  (nn p1 (fun (q7 : Addr) =>
  ∃ (n8 : Int), w.cell? (Addr.add q7 2) = some ((.int .i64 n8 : Value)) ∧
  cond (n8 == 0)
  (Q (.tuple #[.int .i64 0, .int .i64 51]) w)
  (nn p1 (fun (q9 : Addr) =>
  ∃ (n10 : Int), w.cell? (Addr.add q9 1) = some ((.int .i64 n10 : Value)) ∧
  cond (n10 == 0)
  (Q (.tuple #[.int .i64 0, .int .i64 53]) w)
  (cond ((((l2 : Nat) : Int)) == 0)
  (Q (.tuple #[.int .i64 0, .int .i64 0]) w)
  (cond (decide ((((l2 : Nat) : Int)) ≤ 512))
  (cond (decide (((4096 : Int) - (((l5 : Nat) : Int))) < (((l2 : Nat) : Int))))
  (Q (.tuple #[.int .i64 0, .int .i64 52]) w)
  (cond (((4096 : Int) - (((l5 : Nat) : Int))) == 0)
  (Q (.tuple #[.int .i64 0, .int .i64 52]) w)
  (cond (decide ((((l2 : Nat) : Int)) ≤ 512))
  (J6 [.int .i64 (((l2 : Nat) : Int))] w)
  (J6 [.int .i64 (mn (mn (((l2 : Nat) : Int)) ((4096 : Int) - (((l5 : Nat) : Int)))) n3)] w))))
  (cond (((4096 : Int) - (((l5 : Nat) : Int))) == 0)
  (Q (.tuple #[.int .i64 0, .int .i64 52]) w)
  (cond (decide ((((l2 : Nat) : Int)) ≤ 512))
  (J6 [.int .i64 (((l2 : Nat) : Int))] w)
  (J6 [.int .i64 (mn (mn (((l2 : Nat) : Int)) ((4096 : Int) - (((l5 : Nat) : Int)))) n3)] w)))))))))))) ∧
  (∀ (_ : Env) (n11 : Int) (w1 : World), J6 [.int .i64 n11] w1 →
  let w2 := World.drew w1;
  nn p1 (fun (q12 : Addr) =>
  ∃ (a13 : Option Addr) (l13 : Nat) (c13 : Nat), w2.cell? q12 = some ((.slice a13 l13 c13 : Value)) ∧
  (0 ≤ (n11 : Int) ∧ (n11 : Int) ≤ ((c2 : Nat) : Int)) ∧
  ∃ (a14 : Option Addr) (l14 : Nat) (c14 : Nat) (w3 : World), Sem.run Tryz.prog (Builtin.append_ #[40, 40] 40 #[.slice none 0 0, .slice a13 l13 c13]) w2 = .ok ((.slice a14 l14 c14 : Value)) w3 ∧
  ∃ (a15 : Option Addr) (l15 : Nat) (c15 : Nat) (w4 : World), Sem.run Tryz.prog (Builtin.append_ #[40, 40] 40 #[.slice a14 l14 c14, .slice a2 (Int.toNat n11) c2]) w3 = .ok ((.slice a15 l15 c15 : Value)) w4 ∧
  nn p1 (fun (q16 : Addr) =>
  stC q16 (.slice a15 l15 c15) w4 (fun (w5 : World) =>
  Q (.tuple #[.int .i64 n11, .int .i64 0]) w5)))))
theorem C175 {p1 : Option Addr} {a2 : Option Addr} {l2 : Nat} {c2 : Nat} {n3 : Int} {Q : Value → World → Prop} {w : World} (h : L175 p1 a2 l2 c2 n3 Q w) : CallR Tryz.prog 175 [.pointer p1, .slice a2 l2 c2, .int .i64 n3] w Q :=
  fun_calls (A := A175) mixed Tryz.func175 (c := (Tryz.f175.body).getD .skip) rfl (by kernel_rfl) (Eq.mp (by kernel_rfl) h)
def A169 : Ann := ⟨[], [], [], [], [], []⟩
def L169 (p1 : Option Addr) (Q : Value → World → Prop) (w : World) : Prop :=
  nn p1 (fun (q2 : Addr) =>
  ∃ (n3 : Int), w.cell? (Addr.add q2 1) = some ((.int .i64 n3 : Value)) ∧
  cond (decide (n3 > 0))
  (nn p1 (fun (q4 : Addr) =>
  ∃ (a5 : Option Addr) (l5 : Nat) (c5 : Nat), w.cell? q4 = some ((.slice a5 l5 c5 : Value)) ∧
  cond (decide ((((l5 : Nat) : Int)) > 0))
  (Q (.bool true) w)
  (nn p1 (fun (q6 : Addr) =>
  ∃ (n7 : Int), w.cell? (Addr.add q6 2) = some ((.int .i64 n7 : Value)) ∧
  Q (.bool (n7 == 0)) w))))
  (Q (.bool false) w))
theorem C169 {p1 : Option Addr} {Q : Value → World → Prop} {w : World} (h : L169 p1 Q w) : CallR Tryz.prog 169 [.pointer p1] w Q :=
  fun_calls (A := A169) mixed Tryz.func169 (c := (Tryz.f169.body).getD .skip) rfl (by kernel_rfl) (Eq.mp (by kernel_rfl) h)
def A173 : Ann := ⟨[], [], [], [], [], []⟩
def L173 (p1 : Option Addr) (n2 : Int) (Q : Value → World → Prop) (w : World) : Prop :=
  nn p1 (fun (q3 : Addr) =>
  ∃ (a4 : Option Addr) (l4 : Nat) (c4 : Nat), w.cell? q3 = some ((.slice a4 l4 c4 : Value)) ∧
  inI ((4096 : Int) - (((l4 : Nat) : Int))) ∧
  nn p1 (fun (q5 : Addr) =>
  ∃ (n6 : Int), w.cell? (Addr.add q5 2) = some ((.int .i64 n6 : Value)) ∧
  cond (decide (n6 > 0))
  (cond (decide (n2 ≥ 1))
  (cond (decide (n2 ≤ 1048576))
  (nn p1 (fun (q7 : Addr) =>
  ∃ (n8 : Int), w.cell? (Addr.add q7 1) = some ((.int .i64 n8 : Value)) ∧
  cond (n8 == 0)
  (Q (.bool true) w)
  (cond (decide (n2 ≤ 512))
  (cond (decide (((4096 : Int) - (((l4 : Nat) : Int))) ≥ n2))
  (Q (.bool true) w)
  (cond (decide (n2 > 512))
  (Q (.bool (decide (((4096 : Int) - (((l4 : Nat) : Int))) > 0))) w)
  (Q (.bool false) w)))
  (cond (decide (n2 > 512))
  (Q (.bool (decide (((4096 : Int) - (((l4 : Nat) : Int))) > 0))) w)
  (Q (.bool false) w)))))
  (Q (.bool false) w))
  (Q (.bool false) w))
  (Q (.bool false) w)))
theorem C173 {p1 : Option Addr} {n2 : Int} {Q : Value → World → Prop} {w : World} (h : L173 p1 n2 Q w) : CallR Tryz.prog 173 [.pointer p1, .int .i64 n2] w Q :=
  fun_calls (A := A173) mixed Tryz.func173 (c := (Tryz.f173.body).getD .skip) rfl (by kernel_rfl) (Eq.mp (by kernel_rfl) h)
def A10 : Ann := ⟨[], [], [], [], [(3, [0, 1, 2, 3, 4, 5, 6], 7, [8])], []⟩
def L10 (a1 : Option Addr) (l1 : Nat) (c1 : Nat) (a2 : Option Addr) (l2 : Nat) (c2 : Nat) (a3 : Option Addr) (l3 : Nat) (c3 : Nat) (Q : Value → World → Prop) (w : World) : Prop :=
  let w1 := World.alloc w (Obj.cells #[.slice a1 l1 c1, .slice a2 l2 c2, .slice a3 l3 c3] 26);
  ∃ (a4 : Option Addr) (l4 : Nat) (c4 : Nat), w1.cell? (Addr.mk w.heap.size 0 none) = some ((.slice a4 l4 c4 : Value)) ∧
  ∃ (a5 : Option Addr) (l5 : Nat) (c5 : Nat), w1.cell? (Addr.mk w.heap.size 1 none) = some ((.slice a5 l5 c5 : Value)) ∧
  ∃ (a6 : Option Addr) (l6 : Nat) (c6 : Nat), w1.cell? (Addr.mk w.heap.size 2 none) = some ((.slice a6 l6 c6 : Value)) ∧
  CallR Tryz.prog 9 [.slice a4 l4 c4, .slice a5 l5 c5, .slice a6 l6 c6] w1 (fun (r8 : Value) (w2 : World) =>
  ∃ (n7 : Int), r8 = .int .i64 n7 ∧
  cond (n7 != 0)
  (Q (.pointer none) w2)
  (∃ (S9 : World → Prop), S9 (World.drew w2) ∧
  let w3 := World.drew w2;
  ∃ (a10 : Option Addr) (l10 : Nat) (c10 : Nat), (∀ wS : World, S9 wS → wS.cell? (Addr.mk w.heap.size 0 none) = some ((.slice a10 l10 c10 : Value))) ∧
  ∃ (a11 : Option Addr) (l11 : Nat) (c11 : Nat), (∀ wS : World, S9 wS → wS.cell? (Addr.mk w.heap.size 1 none) = some ((.slice a11 l11 c11 : Value))) ∧
  ∃ (a12 : Option Addr) (l12 : Nat) (c12 : Nat), (∀ wS : World, S9 wS → wS.cell? (Addr.mk w.heap.size 2 none) = some ((.slice a12 l12 c12 : Value))) ∧
  CallR Tryz.prog 52 [.slice a12 l12 c12] w3 (fun (r14 : Value) (w4 : World) =>
  ∃ (a13 : Option Addr) (l13 : Nat) (c13 : Nat), r14 = .slice a13 l13 c13 ∧
  S9 w4 ∧
  CallR Tryz.prog 60 [.slice a10 l10 c10, .slice a11 l11 c11, .slice a13 l13 c13] w4 (fun (r16 : Value) (w5 : World) =>
  ∃ (p15 : Option Addr), r16 = .pointer p15 ∧
  Q (.pointer p15) w5))))
theorem C10 {a1 : Option Addr} {l1 : Nat} {c1 : Nat} {a2 : Option Addr} {l2 : Nat} {c2 : Nat} {a3 : Option Addr} {l3 : Nat} {c3 : Nat} {Q : Value → World → Prop} {w : World} (h : L10 a1 l1 c1 a2 l2 c2 a3 l3 c3 Q w) : CallR Tryz.prog 10 [.agg #[.slice a1 l1 c1, .slice a2 l2 c2, .slice a3 l3 c3]] w Q :=
  fun_calls (A := A10) mixed Tryz.func10 (c := (Tryz.f10.body).getD .skip) rfl (by kernel_rfl) (Eq.mp (by kernel_rfl) h)
def A14 : Ann := ⟨[(6, [(8, .one (.int .i64))]), (12, [(11, .one (.int .i64))])], [], [], [], [(2, [0, 1, 2, 3, 4, 5, 6, 7, 8, 9, 10, 11, 12, 13, 14, 15, 17, 16, 18, 19, 20, 21, 22, 23, 25, 26, 27, 28, 29, 30, 31, 24], 32, [33, 34])], []⟩
def L14 (p1 : Option Addr) (p2 : Option Addr) (Q : Value → World → Prop) (w : World) : Prop :=
  CallR Tryz.prog 74 [.pointer p1] w (fun (r5 : Value) (w1 : World) =>
  ∃ (n3 : Int) (n4 : Int), r5 = .tuple #[.int .i64 n3, .int .i64 n4] ∧
  ∃ (S6 : World → Prop), S6 (World.drew w1) ∧
  let w2 := World.drew w1;
  nn p2 (fun (q7 : Addr) =>
  ∃ (n8 : Int), (∀ wS : World, S6 wS → wS.cell? (Addr.add q7 4) = some ((.int .i64 n8 : Value))) ∧
  cond (n3 != n8)
  (Q (.bool false) w2)
  (nn p2 (fun (q9 : Addr) =>
  ∃ (n10 : Int), (∀ wS : World, S6 wS → wS.cell? (Addr.add q9 5) = some ((.int .i64 n10 : Value))) ∧
  cond (n4 != n10)
  (Q (.bool false) w2)
  (CallR Tryz.prog 76 [.pointer p1] w2 (fun (r12 : Value) (w3 : World) =>
  ∃ (a11 : Option Addr) (l11 : Nat) (c11 : Nat), r12 = .slice a11 l11 c11 ∧
  S6 w3 ∧
  CallR Tryz.prog 77 [.pointer p2] w3 (fun (r14 : Value) (w4 : World) =>
  ∃ (a13 : Option Addr) (l13 : Nat) (c13 : Nat), r14 = .slice a13 l13 c13 ∧
  S6 w4 ∧
  CallR Tryz.prog 75 [.slice a11 l11 c11, .slice a13 l13 c13] w4 (fun (r16 : Value) (w5 : World) =>
  ∃ (b15 : Bool), r16 = .bool b15 ∧
  S6 w5 ∧
  cond (!b15)
  (Q (.bool false) w5)
  (nn p2 (fun (q17 : Addr) =>
  ∃ (p18 : Option Addr), (∀ wS : World, S6 wS → wS.cell? (Addr.add q17 3) = some ((.pointer p18 : Value))) ∧
  nn p18 (fun (q19 : Addr) =>
  ∃ (a20 : Option Addr) (l20 : Nat) (c20 : Nat), (∀ wS : World, S6 wS → wS.cell? q19 = some ((.slice a20 l20 c20 : Value))) ∧
  CallR Tryz.prog 79 [.pointer p1] w5 (fun (r22 : Value) (w6 : World) =>
  ∃ (a21 : Option Addr) (l21 : Nat) (c21 : Nat), r22 = .slice a21 l21 c21 ∧
  S6 w6 ∧
  CallR Tryz.prog 78 [.slice a21 l21 c21, .slice a20 l20 c20] w6 (fun (r24 : Value) (w7 : World) =>
  ∃ (b23 : Bool), r24 = .bool b23 ∧
  cond (!b23)
  (Q (.bool false) w7)
  (CallR Tryz.prog 80 [.pointer p2] w7 (fun (r26 : Value) (w8 : World) =>
  ∃ (a25 : Option Addr) (l25 : Nat) (c25 : Nat), r26 = .slice a25 l25 c25 ∧
  ∃ (I27 : List Value → World → Prop) (mu28 : List Value → World → Nat),
  I27 [.int .i64 0] w8 ∧
  ∀ (_ : Env) (n29 : Int) (w9 : World), I27 [.int .i64 n29] w9 →
  cond (decide (n29 < (((l25 : Nat) : Int))))
  ((0 ≤ (n29 : Int) ∧ (n29 : Int) < ((l25 : Nat) : Int)) ∧
  nn a25 (fun (q30 : Addr) =>
  ∃ (s31 : ByteArray), w9.cell? (Addr.add q30 (Int.toNat n29 * 2)) = some ((.string s31 : Value)) ∧
  CallR Tryz.prog 81 [.pointer p1, .string s31] w9 (fun (r34 : Value) (w10 : World) =>
  ∃ (a32 : Option Addr) (l32 : Nat) (c32 : Nat) (b33 : Bool), r34 = .tuple #[.slice a32 l32 c32, .bool b33] ∧
  cond (!b33)
  (Q (.bool false) w10)
  ((0 ≤ (n29 : Int) ∧ (n29 : Int) < ((l25 : Nat) : Int)) ∧
  nn a25 (fun (q35 : Addr) =>
  ∃ (a36 : Option Addr) (l36 : Nat) (c36 : Nat), w10.cell? (Addr.add (Addr.add q35 (Int.toNat n29 * 2)) 1) = some ((.slice a36 l36 c36 : Value)) ∧
  CallR Tryz.prog 39 [.slice a32 l32 c32, .slice a36 l36 c36] w10 (fun (r38 : Value) (w11 : World) =>
  ∃ (b37 : Bool), r38 = .bool b37 ∧
  cond (!b37)
  (Q (.bool false) w11)
  (inI (n29 + 1) ∧
  I27 [.int .i64 (n29 + 1)] w11 ∧ mu28 [.int .i64 (n29 + 1)] w11 < mu28 [.int .i64 n29] w9)))))))
  (∃ (I39 : List Value → World → Prop) (mu40 : List Value → World → Nat),
  I39 [.int .i64 0] w9 ∧
  ∀ (_ : Env) (n41 : Int) (w12 : World), I39 [.int .i64 n41] w12 →
  nn p2 (fun (q42 : Addr) =>
  ∃ (n43 : Int), w12.cell? (Addr.add q42 2) = some ((.int .i64 n43 : Value)) ∧
  inI (n43 + 1) ∧
  cond (decide (n41 < (n43 + 1)))
  (CallR Tryz.prog 82 [.pointer p1, .int .i64 n41] w12 (fun (r45 : Value) (w13 : World) =>
  ∃ (n44 : Int), r45 = .int .i64 n44 ∧
  CallR Tryz.prog 83 [.pointer p2, .int .i64 n41] w13 (fun (r47 : Value) (w14 : World) =>
  ∃ (n46 : Int), r47 = .int .i64 n46 ∧
  cond (n44 != n46)
  (Q (.bool false) w14)
  (CallR Tryz.prog 84 [.pointer p1, .int .i64 n41] w14 (fun (r49 : Value) (w15 : World) =>
  ∃ (b48 : Bool), r49 = .bool b48 ∧
  CallR Tryz.prog 85 [.pointer p2, .int .i64 n41] w15 (fun (r51 : Value) (w16 : World) =>
  ∃ (b50 : Bool), r51 = .bool b50 ∧
  cond (!(b48 == b50))
  (Q (.bool false) w16)
  (CallR Tryz.prog 86 [.pointer p1, .int .i64 n41, .int .i64 600] w16 (fun (r53 : Value) (w17 : World) =>
  ∃ (b52 : Bool), r53 = .bool b52 ∧
  CallR Tryz.prog 87 [.pointer p2, .int .i64 n41, .int .i64 600] w17 (fun (r55 : Value) (w18 : World) =>
  ∃ (b54 : Bool), r55 = .bool b54 ∧
  cond (!(b52 == b54))
  (Q (.bool false) w18)
  (CallR Tryz.prog 88 [.pointer p1, .int .i64 n41] w18 (fun (r57 : Value) (w19 : World) =>
  ∃ (a56 : Option Addr) (l56 : Nat) (c56 : Nat), r57 = .slice a56 l56 c56 ∧
  CallR Tryz.prog 89 [.pointer p2, .int .i64 n41] w19 (fun (r59 : Value) (w20 : World) =>
  ∃ (a58 : Option Addr) (l58 : Nat) (c58 : Nat), r59 = .slice a58 l58 c58 ∧
  CallR Tryz.prog 39 [.slice a56 l56 c56, .slice a58 l58 c58] w20 (fun (r61 : Value) (w21 : World) =>
  ∃ (b60 : Bool), r61 = .bool b60 ∧
  cond (!b60)
  (Q (.bool false) w21)
  (inI (n41 + 1) ∧
  I39 [.int .i64 (n41 + 1)] w21 ∧ mu40 [.int .i64 (n41 + 1)] w21 < mu40 [.int .i64 n41] w12))))))))))))))
  (Q (.bool true) w12))))))))))))))))))
theorem C14 {p1 : Option Addr} {p2 : Option Addr} {Q : Value → World → Prop} {w : World} (h : L14 p1 p2 Q w) : CallR Tryz.prog 14 [.pointer p1, .pointer p2] w Q :=
  fun_calls (A := A14) mixed Tryz.func14 (c := (Tryz.f14.body).getD .skip) rfl (by kernel_rfl) (Eq.mp (by kernel_rfl) h)
def L3 (a1 : Option Addr) (l1 : Nat) (c1 : Nat) (a2 : Option Addr) (l2 : Nat) (c2 : Nat) (a3 : Option Addr) (l3 : Nat) (c3 : Nat) (a4 : Option Addr) (l4 : Nat) (c4 : Nat) (Q : Value → World → Prop) (w : World) : Prop :=
  let w1 := World.alloc w (Obj.cells #[.slice a1 l1 c1, .slice a2 l2 c2, .slice a3 l3 c3] 26);
  ∃ (a5 : Option Addr) (l5 : Nat) (c5 : Nat) (a6 : Option Addr) (l6 : Nat) (c6 : Nat) (a7 : Option Addr) (l7 : Nat) (c7 : Nat), w1.cell? (Addr.mk w.heap.size 0 none) = some ((.slice a5 l5 c5 : Value)) ∧ w1.cell? (Addr.mk w.heap.size 1 none) = some ((.slice a6 l6 c6 : Value)) ∧ w1.cell? (Addr.mk w.heap.size 2 none) = some ((.slice a7 l7 c7 : Value)) ∧ 
  CallR Tryz.prog 7 [.agg #[.slice a5 l5 c5, .slice a6 l6 c6, .slice a7 l7 c7]] w1 (fun (r11 : Value) (w2 : World) =>
  ∃ (a8 : Option Addr) (l8 : Nat) (c8 : Nat) (a9 : Option Addr) (l9 : Nat) (c9 : Nat) (a10 : Option Addr) (l10 : Nat) (c10 : Nat), r11 = .agg #[.slice a8 l8 c8, .slice a9 l9 c9, .slice a10 l10 c10] ∧
  let w3 := World.alloc w2 (Obj.cells #[.slice none 0 0, .slice none 0 0, .slice none 0 0] 28);
  stC (Addr.mk w2.heap.size 0 none) (.slice a8 l8 c8) w3 (fun (w4 : World) =>
  stC (Addr.mk w2.heap.size 1 none) (.slice a9 l9 c9) w4 (fun (w5 : World) =>
  stC (Addr.mk w2.heap.size 2 none) (.slice a10 l10 c10) w5 (fun (w6 : World) =>
  ∃ (a12 : Option Addr) (l12 : Nat) (c12 : Nat) (a13 : Option Addr) (l13 : Nat) (c13 : Nat) (a14 : Option Addr) (l14 : Nat) (c14 : Nat), w6.cell? (Addr.mk w2.heap.size 0 none) = some ((.slice a12 l12 c12 : Value)) ∧ w6.cell? (Addr.mk w2.heap.size 1 none) = some ((.slice a13 l13 c13 : Value)) ∧ w6.cell? (Addr.mk w2.heap.size 2 none) = some ((.slice a14 l14 c14 : Value)) ∧ 
  CallR Tryz.prog 8 [.agg #[.slice a12 l12 c12, .slice a13 l13 c13, .slice a14 l14 c14]] w6 (fun (r17 : Value) (w7 : World) =>
  ∃ (p15 : Option Addr) (n16 : Int), r17 = .tuple #[.pointer p15, .int .i64 n16] ∧
  ∃ (a18 : Option Addr) (l18 : Nat) (c18 : Nat), w7.cell? (Addr.mk w.heap.size 0 none) = some ((.slice a18 l18 c18 : Value)) ∧
  ∃ (a19 : Option Addr) (l19 : Nat) (c19 : Nat), w7.cell? (Addr.mk w.heap.size 1 none) = some ((.slice a19 l19 c19 : Value)) ∧
  ∃ (a20 : Option Addr) (l20 : Nat) (c20 : Nat), w7.cell? (Addr.mk w.heap.size 2 none) = some ((.slice a20 l20 c20 : Value)) ∧
  CallR Tryz.prog 9 [.slice a18 l18 c18, .slice a19 l19 c19, .slice a20 l20 c20] w7 (fun (r22 : Value) (w8 : World) =>
  ∃ (n21 : Int), r22 = .int .i64 n21 ∧
  ∃ (a23 : Option Addr) (l23 : Nat) (c23 : Nat) (a24 : Option Addr) (l24 : Nat) (c24 : Nat) (a25 : Option Addr) (l25 : Nat) (c25 : Nat), w8.cell? (Addr.mk w.heap.size 0 none) = some ((.slice a23 l23 c23 : Value)) ∧ w8.cell? (Addr.mk w.heap.size 1 none) = some ((.slice a24 l24 c24 : Value)) ∧ w8.cell? (Addr.mk w.heap.size 2 none) = some ((.slice a25 l25 c25 : Value)) ∧ 
  CallR Tryz.prog 10 [.agg #[.slice a23 l23 c23, .slice a24 l24 c24, .slice a25 l25 c25]] w8 (fun (r27 : Value) (w9 : World) =>
  ∃ (p26 : Option Addr), r27 = .pointer p26 ∧
  CallR Tryz.prog 11 [.int .i64 n16] w9 (fun (r29 : Value) (w10 : World) =>
  ∃ (n28 : Int), r29 = .int .i64 n28 ∧
  cond (n28 != n21)
  (Q (.bool false) w10)
  (∃ (a30 : Option Addr) (l30 : Nat) (c30 : Nat) (a31 : Option Addr) (l31 : Nat) (c31 : Nat) (a32 : Option Addr) (l32 : Nat) (c32 : Nat), w10.cell? (Addr.mk w2.heap.size 0 none) = some ((.slice a30 l30 c30 : Value)) ∧ w10.cell? (Addr.mk w2.heap.size 1 none) = some ((.slice a31 l31 c31 : Value)) ∧ w10.cell? (Addr.mk w2.heap.size 2 none) = some ((.slice a32 l32 c32 : Value)) ∧ 
  CallR Tryz.prog 12 [.agg #[.slice a30 l30 c30, .slice a31 l31 c31, .slice a32 l32 c32]] w10 (fun (r34 : Value) (w11 : World) =>
  ∃ (n33 : Int), r34 = .int .i64 n33 ∧
  CallR Tryz.prog 11 [.int .i64 n33] w11 (fun (r36 : Value) (w12 : World) =>
  ∃ (n35 : Int), r36 = .int .i64 n35 ∧
  cond (n35 != n21)
  (Q (.bool false) w12)
  (cond (!((Option.isNone p15) == (Option.isNone p26)))
  (Q (.bool false) w12)
  (∃ (I37 : List Value → World → Prop) (mu38 : List Value → World → Nat),
  I37 [.int .i64 0] w12 ∧
  ∀ (_ : Env) (n39 : Int) (w13 : World), I37 [.int .i64 n39] w13 →
  cond (!(Option.isNone p15))
  (cond (decide (n39 < (((l4 : Nat) : Int))))
  ((0 ≤ (n39 : Int) ∧ (n39 : Int) < ((l4 : Nat) : Int)) ∧
  nn a4 (fun (q40 : Addr) =>
  ∃ (n41 : Int) (s42 : ByteArray) (n43 : Int) (n44 : Int) (n45 : Int) (a46 : Option Addr) (l46 : Nat) (c46 : Nat), w13.cell? (Addr.add q40 (Int.toNat n39 * 6)) = some ((.int .i64 n41 : Value)) ∧ w13.cell? (Addr.add (Addr.add q40 (Int.toNat n39 * 6)) 1) = some ((.string s42 : Value)) ∧ w13.cell? (Addr.add (Addr.add q40 (Int.toNat n39 * 6)) 2) = some ((.int .i64 n43 : Value)) ∧ w13.cell? (Addr.add (Addr.add q40 (Int.toNat n39 * 6)) 3) = some ((.int .i64 n44 : Value)) ∧ w13.cell? (Addr.add (Addr.add q40 (Int.toNat n39 * 6)) 4) = some ((.int .i64 n45 : Value)) ∧ w13.cell? (Addr.add (Addr.add q40 (Int.toNat n39 * 6)) 5) = some ((.slice a46 l46 c46 : Value)) ∧ 
  CallR Tryz.prog 13 [.pointer p15, .pointer p26, .agg #[.int .i64 n41, .string s42, .int .i64 n43, .int .i64 n44, .int .i64 n45, .slice a46 l46 c46]] w13 (fun (r48 : Value) (w14 : World) =>
  ∃ (b47 : Bool), r48 = .bool b47 ∧
  cond (!b47)
  (Q (.bool false) w14)
  ((4 : Int) ≠ 0 ∧
  cond ((Int.tmod n39 (4 : Int)) == 3)
  (CallR Tryz.prog 14 [.pointer p15, .pointer p26] w14 (fun (r50 : Value) (w15 : World) =>
  ∃ (b49 : Bool), r50 = .bool b49 ∧
  cond (!b49)
  (Q (.bool false) w15)
  (inI (n39 + 1) ∧
  I37 [.int .i64 (n39 + 1)] w15 ∧ mu38 [.int .i64 (n39 + 1)] w15 < mu38 [.int .i64 n39] w13)))
  (inI (n39 + 1) ∧
  I37 [.int .i64 (n39 + 1)] w14 ∧ mu38 [.int .i64 (n39 + 1)] w14 < mu38 [.int .i64 n39] w13)))))
  (cond (Option.isNone p15)
  (CallR Tryz.prog 15 [] w13 (fun (r52 : Value) (w16 : World) =>
  ∃ (b51 : Bool), r52 = .bool b51 ∧
  Q (.bool b51) w16))
  (CallR Tryz.prog 14 [.pointer p15, .pointer p26] w13 (fun (r54 : Value) (w17 : World) =>
  ∃ (b53 : Bool), r54 = .bool b53 ∧
  cond b53
  (CallR Tryz.prog 15 [] w17 (fun (r56 : Value) (w18 : World) =>
  ∃ (b55 : Bool), r56 = .bool b55 ∧
  Q (.bool b55) w18))
  (Q (.bool false) w17)))))
  (cond (Option.isNone p15)
  (CallR Tryz.prog 15 [] w13 (fun (r58 : Value) (w19 : World) =>
  ∃ (b57 : Bool), r58 = .bool b57 ∧
  Q (.bool b57) w19))
  (CallR Tryz.prog 14 [.pointer p15, .pointer p26] w13 (fun (r60 : Value) (w20 : World) =>
  ∃ (b59 : Bool), r60 = .bool b59 ∧
  cond b59
  (CallR Tryz.prog 15 [] w20 (fun (r62 : Value) (w21 : World) =>
  ∃ (b61 : Bool), r62 = .bool b61 ∧
  Q (.bool b61) w21))
  (Q (.bool false) w20)))))))))))))))))
end Go.Proofs.YtpoaacnnhgebfaaGreat
set_option maxRecDepth 512
namespace Go.Proofs.YtpoaacnnhgebfaaGreat
open Go.Lw
def RefO (F : Nat → Prop) (w : World) (b : Nat) (bs : List Int) : Prop :=
  ∃ a l c, Blk w b #[.slice a l c] ∧ OB w a l c bs ∧ ¬ inA a b ∧ bs.length ≤ 1048576 ∧ ∀ k, F k ↔ k = b ∨ inA a k
theorem RefO.keep {F S : Nat → Prop} {w w' : World} {b : Nat} {bs : List Int} (h : RefO F w b bs) (k : Kept S w w') (hn : ∀ k, F k → ¬ S k) : RefO F w' b bs := by
  obtain ⟨a, l, c, hb, ho, hna, hl, hF⟩ := h
  exact ⟨a, l, c, hb.keep k (hn b ((hF b).2 (.inl rfl))), ho.keep k fun x hx => hn x ((hF x).2 (.inr hx)), hna, hl, hF⟩
theorem RefO.lt {F : Nat → Prop} {w : World} {b : Nat} {bs : List Int} (h : RefO F w b bs) : ∀ k, F k → k < w.heap.size := by
  obtain ⟨a, l, c, hb, ho, hna, hl, hF⟩ := h
  intro k hk
  rcases (hF k).1 hk with rfl | hk
  · exact hb.lt
  · exact SlO.lt ho k hk
theorem rwithin_to {w : World} {n : Int} {Q : Value → World → Prop} (h : Q (.bool (okN n)) w) : CallR Tryz.prog 205 [.int .i64 n] w Q := by
  refine C205 ?_
  unfold L205
  refine condP (fun h0 => ?_) (fun h0 => ?_)
  · have : okN n = decide (n ≤ 1048576) := by unfold okN; simp; omega
    rw [← this]; exact h
  · have : okN n = false := by unfold okN; simp; omega
    rw [← this]; exact h
theorem rnew_ok {w : World} {a : Option Addr} {l c : Nat} {bs : List Int} (h : RdB w a l c bs) (hl : l ≤ 140737488355328) :
    CallR Tryz.prog 127 [.slice a l c] w fun v w' => (1048576 < bs.length ∧ v = .tuple #[.pointer none, .int .i64 5] ∧ w' = w) ∨
      (bs.length ≤ 1048576 ∧ ∃ b F, v = .tuple #[pt b, .int .i64 0] ∧ RefO F w' b bs ∧ Kept No w w' ∧ ∀ k, F k → w.heap.size ≤ k) := by
  have hlen := h.len
  refine C127 ?_
  unfold L127
  refine condP (fun hgt => .inl ⟨by omega, rfl, rfl⟩) (fun hle => ?_)
  intro w1
  have hb1 : Blk w1 w.heap.size #[.slice none 0 0] := Blk.alloc w _ _
  have hk1 : Kept No w w1 := Kept.alloc _ _ _
  obtain ⟨a', c', w2, hrun, hs, hk, hat, hnn⟩ := run_app_sl (P := Tryz.prog) (t := 40) (t2 := 40) (ty := 40) (by kernel_rfl : slTyB Tryz.prog 40 1 1 = true) (by kernel_rfl) (SlO.nil 1 w1) (RdB.keep h hk1 (fun _ _ _ e => e)) (By_one bs) (by omega) (by omega)
  simp only [Nat.zero_add, List.nil_append] at hrun hs
  refine ⟨_, _, _, hb1.at0 rfl, a', l, c', w2, hrun, ?_⟩
  have hlen' : bs.length ≤ 1048576 := by omega
  have hna : ¬ inA a' w.heap.size := fun hin => by
    rcases hat.in hin with h | h
    · exact inA_none _ h
    · have : w1.heap.size = w.heap.size + 1 := by show (w.heap.push _).size = _; simp
      omega
  refine stC_blk (hb1.keep hk (fun e => inA_none _ e)) (by simp) fun w3 hb3 hk3 _ => .inr ⟨hlen', w.heap.size, fun k => k = w.heap.size ∨ inA a' k, rfl, ⟨a', l, c', hb3, SlO.keep hs hk3 (fun x hx e => hna (e ▸ hx)), hna, hlen', fun k => Iff.rfl⟩, ?_, fun k hk' => ?_⟩
  · exact (hk1.trans hk (fun _ _ e => inA_none _ e)).fresh hk3 (fun x e => by rw [e]; exact Nat.le_refl _)
  · rcases hk' with rfl | hk'
    · exact Nat.le_refl _
    · rcases hat.in hk' with h | rfl
      · exact absurd h (inA_none k)
      · exact hk1.size
theorem rpiece_ok {w : World} {a : Option Addr} {l c : Nat} {bs : List Int} (h : RdB w a l c bs) (hl : l ≤ 1048576) {off n : Int} (ho1 : 0 ≤ off) (ho2 : 0 ≤ n) :
    CallR Tryz.prog 148 [.slice a l c, .int .i64 off, .int .i64 n] w fun v w' => ∃ a' c', v = .slice a' (piece bs off n).length c' ∧ OB w' a' (piece bs off n).length c' (piece bs off n) ∧ Kept No w w' ∧ Fresh w a' := by
  have hlen := h.len
  have hlc : l ≤ c := h.2.1
  refine C148 ?_
  unfold L148
  refine condP (fun hge => ?_) (fun hlt => ?_)
  · have : piece bs off n = [] := by unfold piece; rw [List.drop_of_length_le (by omega)]; simp
    rw [this]
    exact ⟨none, 0, rfl, OB.nil w, Kept.refl _ _, Fresh.none w⟩
  · simp only [mn_eq]
    refine ⟨by unfold inI; omega, by unfold inI; omega, by omega, by omega, ?_⟩
    generalize hj : (off + min n ((l : Int) - off)).toNat = j
    have hij : off.toNat ≤ j := by omega
    have hjl : j ≤ l := by omega
    have hcut : RdB w (adv a off.toNat c 1) (j - off.toNat) (c - off.toNat) ((bs.take j).drop off.toNat) := by
      have := RdS.cut h off.toNat j hij hjl
      unfold RdB; rw [By_drop, By_take]; simpa using this
    have hpc : (bs.take j).drop off.toNat = piece bs off n := by
      unfold piece
      rw [List.drop_take]
      by_cases hol : off + n ≤ l
      · have : j - off.toNat = n.toNat := by omega
        rw [this]
      · rw [List.take_of_length_le (by simp; omega), List.take_of_length_le (by simp; omega)]
    rw [hpc] at hcut
    have hpl := hcut.len
    obtain ⟨a', c', w2, hrun, hs, hk, hat, _⟩ := run_app_sl (P := Tryz.prog) (t := 40) (t2 := 40) (ty := 40) (by kernel_rfl : slTyB Tryz.prog 40 1 1 = true) (by kernel_rfl) (SlO.nil 1 w) hcut (By_one _) (by omega) (by omega)
    simp only [Nat.zero_add, List.nil_append] at hrun hs
    exact ⟨_, _, _, _, hrun, a', c', by rw [hpl], by rw [hpl]; exact hs, hk.mono (fun _ _ e => inA_none _ e), hat.fresh (Fresh.none w) (Nat.le_refl _)⟩
theorem rlay_ok {w : World} {a : Option Addr} {l c : Nat} {bs : List Int} (h : OB w a l c bs) (hl : l ≤ 1048576) {off : Int} (ho1 : 0 ≤ off) {a2 : Option Addr} {l2 c2 : Nat} {ds : List Int} (hd : RdB w a2 l2 c2 ds) (hsum : off + ds.length ≤ 1048576) (hap : ds ≠ [] → ∀ k, inA a2 k → ¬ inA a k) :
    CallR Tryz.prog 150 [.slice a l c, .int .i64 off, .slice a2 l2 c2] w fun v w' => ∃ a' c', v = .slice a' (lay bs off.toNat ds).length c' ∧ OB w' a' (lay bs off.toNat ds).length c' (lay bs off.toNat ds) ∧ Kept (inA a) w w' ∧ ∀ k, inA a' k → inA a k ∨ w.heap.size ≤ k := by
  have hlen := h.len
  have hlen2 := hd.len
  obtain ⟨o, rfl⟩ : ∃ o : Nat, off = (o : Int) := ⟨off.toNat, by omega⟩
  simp only [Int.toNat_natCast]
  refine C150 ?_
  unfold L150
  refine ⟨fun vs w1 => ∃ (a' : Option Addr) (c' m : Nat), vs = [.slice a' (l + m) c'] ∧ m ≤ o - l ∧ OB w1 a' (l + m) c' (bs ++ List.replicate m 0) ∧ Kept (inA a) w w1 ∧ (∀ k, inA a' k → inA a k ∨ w.heap.size ≤ k),
    fun vs _ => match vs with | [.slice _ n _] => o - n | _ => 0, ⟨a, c, 0, rfl, by omega, by simpa using h, Kept.refl _ _, fun k hk => .inl hk⟩, ?_⟩
  intro _ a6 l6 c6 w1 hI
  obtain ⟨a', c', m, hv, hm, ho, hk, hin⟩ := hI
  simp only [List.cons.injEq, Value.slice.injEq, and_true] at hv
  obtain ⟨rfl, rfl, rfl⟩ := hv
  refine condP (fun hlt => ?_) (fun hge => ?_)
  · intro w2
    have hk2 : Kept No w1 w2 := Kept.alloc _ _ _
    obtain ⟨a7, c7, w3, hrun, hs, hk3, hat, _⟩ := run_app_sl (P := Tryz.prog) (t := 40) (t2 := 40) (ty := 40) (by kernel_rfl : slTyB Tryz.prog 40 1 1 = true) (by kernel_rfl) (OB.keep ho hk2 (fun _ _ e => e)) (rd_alloc w1 [0] _) (By_one [0]) (by simp; omega) (by simp; omega)
    simp only [List.length_cons, List.length_nil, Nat.zero_add] at hrun hs
    refine ⟨_, _, _, w3, hrun, ⟨a7, c7, m + 1, rfl, by omega, ?_, ?_, fun k hk' => ?_⟩, ?_⟩
    · rw [← By_append, List.append_assoc, ← List.replicate_succ'] at hs; exact hs
    · refine (hk.no hk2).trans (hk3.mono (S' := fun k => inA a k ∨ w.heap.size ≤ k) fun x _ e => hin x e) (fun x hx e => ?_)
      rcases e with e | e
      · exact e
      · omega
    · rcases hat.in hk' with h | rfl
      · exact hin k h
      · exact .inr (hk.no hk2).size
    · show o - (l + (m + 1)) < o - (l + m)
      omega
  · have hgr : bs ++ List.replicate m 0 = grown bs o := by
      unfold grown; congr 2; omega
    have hgl := grown_len bs o
    rw [hgr] at ho
    have hol := ho.len
    refine ⟨fun vs w1 => ∃ (a' : Option Addr) (c' i : Nat), vs = [.slice a' (lay bs o (ds.take i)).length c', .int .i64 (i : Int)] ∧ i ≤ ds.length ∧ OB w1 a' (lay bs o (ds.take i)).length c' (lay bs o (ds.take i)) ∧ Kept (inA a) w w1 ∧ (∀ k, inA a' k → inA a k ∨ w.heap.size ≤ k),
      fun vs _ => match vs with | [_, .int _ i] => (ds.length - i).toNat | _ => 0, ?_, ?_⟩
    · have h0 : lay bs o (ds.take 0) = grown bs o := by
        refine ext_getD (by rw [lay_len, hgl]; simp) fun k hk => ?_
        rw [lay_getD, grown_getD, if_neg (by simp <;> omega)]
      refine ⟨a6, c6, 0, ?_, by omega, ?_, hk, hin⟩
      · rw [h0, hol]; rfl
      · rw [h0, hol]; exact ho
    · intro _ a10 l10 c10 n11 w4 hI
      obtain ⟨a'', c'', i, hv, hi, ho4, hk4, hin4⟩ := hI
      simp only [List.cons.injEq, Value.slice.injEq, Value.int.injEq, true_and, and_true] at hv
      obtain ⟨⟨rfl, rfl, rfl⟩, rfl⟩ := hv
      have hlay := lay_len bs o (ds.take i)
      have hti : (ds.take i).length = i := by rw [List.length_take]; omega
      rw [hti] at hlay
      refine condP (fun hlt => ?_) (fun hge => ?_)
      · have hid : i < ds.length := by omega
        have hne : ds ≠ [] := fun e => by rw [e] at hid; simp at hid
        have hti1 : (ds.take (i + 1)).length = i + 1 := by rw [List.length_take]; omega
        have hlay1 := lay_len bs o (ds.take (i + 1))
        rw [hti1] at hlay1
        have hd4 : RdB w4 a2 l2 c2 ds := hd.keep hk4 (fun x hx h1 h2 => hap hne x h1 h2)
        obtain ⟨q, hq, hg⟩ := hd4.get hid
        have hgetD : ∀ k, (ds.take (i + 1)).getD k 0 = if k = i then ds[i] else (ds.take i).getD k 0 := by
          intro k
          simp only [List.getD_eq_getElem?_getD, List.getElem?_take]
          by_cases hki : k = i
          · subst hki; simp [hid]
          · rw [if_neg hki]
            by_cases hk : k < i
            · rw [if_pos (by omega), if_pos hk]
            · rw [if_neg (by omega), if_neg hk]
        refine ⟨by unfold inI; omega, condP (fun hin2 => ⟨by unfold inI; omega, ⟨by omega, by omega⟩, ?_⟩) (fun hout => ⟨⟨by omega, by omega⟩, ?_⟩)⟩
        · subst hq
          refine nnI ⟨_, hg, ⟨by omega, by omega⟩, ?_⟩
          cases a10 with
          | none => have := (RdS.isNone ho4.rd rfl).1; omega
          | some q10 =>
            have hidx : Int.toNat ((o : Int) + (i : Int)) = o + i := by omega
            rw [hidx]
            refine nnI (stC_slo ho4 rfl (j := o + i) (by omega) fun w5 ho5 hk5 _ => ⟨by unfold inI; omega, ⟨some q10, c10, i + 1, ?_, by omega, ?_, ?_, hin4⟩, ?_⟩)
            · congr 2; omega
            · rw [By_set] at ho5
              have he : (lay bs o (ds.take i)).set (o + i) ds[i] = lay bs o (ds.take (i + 1)) := by
                refine ext_getD (by simp; omega) fun k hk => ?_
                simp only [List.length_set] at hk
                rw [lay_getD, hti1, hgetD]
                by_cases hko : k = o + i
                · subst hko
                  rw [if_pos (by omega), if_pos (by omega)]
                  simp [List.getD, hk]
                · have : ((lay bs o (ds.take i)).set (o + i) ds[i]).getD k 0 = (lay bs o (ds.take i)).getD k 0 := by
                    simp only [List.getD_eq_getElem?_getD]; rw [List.getElem?_set_ne (by omega)]
                  rw [this, lay_getD, hti]
                  by_cases h1 : o ≤ k ∧ k < o + i
                  · rw [if_pos h1, if_pos (by omega), if_neg (by omega)]
                  · rw [if_neg h1, if_neg (by omega)]
              rw [he] at ho5
              have : (lay bs o (ds.take (i + 1))).length = (lay bs o (ds.take i)).length := by omega
              rw [this]; exact ho5
            · refine hk4.trans (hk5.mono (S' := fun k => inA a k ∨ w.heap.size ≤ k) fun x _ e => hin4 x e) (fun x hx e => ?_)
              rcases e with e | e
              · exact e
              · omega
            · show ((ds.length : Int) - ((i : Int) + 1)).toNat < ((ds.length : Int) - (i : Int)).toNat
              omega
        · subst hq
          refine nnI ⟨_, hg, ?_⟩
          intro w6
          have hk6 : Kept No w4 w6 := Kept.alloc _ _ _
          obtain ⟨a7, c7, w7, hrun, hs, hk7, hat, _⟩ := run_app_sl (P := Tryz.prog) (t := 40) (t2 := 40) (ty := 40) (by kernel_rfl : slTyB Tryz.prog 40 1 1 = true) (by kernel_rfl) (OB.keep ho4 hk6 (fun _ _ e => e)) (rd_alloc w4 [ds[i]] _) (By_one [ds[i]]) (by simp; omega) (by simp; omega)
          simp only [List.length_cons, List.length_nil, Nat.zero_add] at hrun hs
          refine ⟨_, _, _, w7, hrun, by unfold inI; omega, ⟨a7, c7, i + 1, ?_, by omega, ?_, ?_, fun k hk' => ?_⟩, ?_⟩
          · have e1 : (lay bs o (ds.take (i + 1))).length = (lay bs o (ds.take i)).length + 1 := by omega
            rw [e1]; rfl
          · rw [← By_append] at hs
            have he : lay bs o (ds.take i) ++ [ds[i]] = lay bs o (ds.take (i + 1)) := by
              refine ext_getD (by simp; omega) fun k hk => ?_
              simp only [List.length_append, List.length_cons, List.length_nil, Nat.zero_add] at hk
              rw [lay_getD, hti1, hgetD]
              by_cases hko : k = o + i
              · subst hko
                rw [if_pos (by omega), if_pos (by omega), List.getD_eq_getElem?_getD, List.getElem?_append_right (by omega)]
                have : o + i - (lay bs o (ds.take i)).length = 0 := by omega
                rw [this]; rfl
              · have : (lay bs o (ds.take i) ++ [ds[i]]).getD k 0 = (lay bs o (ds.take i)).getD k 0 := by
                  simp only [List.getD_eq_getElem?_getD]; rw [List.getElem?_append_left (by omega)]
                rw [this, lay_getD, hti]
                by_cases h1 : o ≤ k ∧ k < o + i
                · rw [if_pos h1, if_pos (by omega), if_neg (by omega)]
                · rw [if_neg h1, if_neg (by omega)]
            rw [he] at hs
            have : (lay bs o (ds.take (i + 1))).length = (lay bs o (ds.take i)).length + 1 := by omega
            rw [this]; exact hs
          · refine (hk4.no hk6).trans (hk7.mono (S' := fun k => inA a k ∨ w.heap.size ≤ k) fun x _ e => hin4 x e) (fun x hx e => ?_)
            rcases e with e | e
            · exact e
            · omega
          · rcases hat.in hk' with h | rfl
            · exact hin4 k h
            · exact .inr (hk4.no hk6).size
          · show ((ds.length : Int) - ((i : Int) + 1)).toNat < ((ds.length : Int) - (i : Int)).toNat
            omega
      · have hi' : i = ds.length := by omega
        subst hi'
        rw [List.take_length] at *
        exact ⟨a10, c10, rfl, ho4, hk4, hin4⟩
theorem rWriteAt_ok {F : Nat → Prop} {w : World} {b : Nat} {bs : List Int} (h : RefO F w b bs) (off : Int) {a2 : Option Addr} {l2 c2 : Nat} {ds : List Int} (hd : RdB w a2 l2 c2 ds) (hl2 : l2 ≤ 140737488355328) (hap : ds ≠ [] → ∀ k, inA a2 k → ¬ F k) :
    CallR Tryz.prog 177 [pt b, .int .i64 off, .slice a2 l2 c2] w fun v w' => v = .int .i64 (writeF bs off ds).1 ∧ ∃ F', RefO F' w' b (writeF bs off ds).2 ∧ Grew F w F' ∧ Kept F w w' := by
  have hfo := h
  obtain ⟨a, l, c, hb, ho, hna, hbl, hF⟩ := h
  have hlen := ho.len
  have hlen2 := hd.len
  refine C177 ?_
  unfold L177
  have done : ∀ e : Int, writeF bs off ds = (e, bs) → (.int .i64 e : Value) = .int .i64 (writeF bs off ds).1 ∧ ∃ F', RefO F' w b (writeF bs off ds).2 ∧ Grew F w F' ∧ Kept F w w := fun e he => by
    rw [he]; exact ⟨rfl, F, hfo, .same, Kept.refl _ _⟩
  refine rwithin_to ⟨_, rfl, condI (fun hno => done 4 ?_) (fun hyes => ?_)⟩
  · simp [writeF, notT hno]
  · have hyes' := notF hyes
    have ho1 : 0 ≤ off ∧ off ≤ 1048576 := by simpa [okN] using hyes'
    refine ⟨by unfold inI; omega, condP (fun hfull => done 31 ?_) (fun hfit => condP (fun hpos => ?_) (fun hz => done 0 ?_))⟩
    · have h1 : 1048576 - off < (ds.length : Int) := by rw [hlen2]; omega
      simp [writeF, hyes', h1]
    · have h1 : ¬ (1048576 - off < (ds.length : Int)) := by rw [hlen2]; omega
      have hw : writeF bs off ds = (0, lay bs off.toNat ds) := by
        unfold writeF
        rw [if_neg (by rw [hyes']; simp), if_neg h1, if_neg (by omega)]
      rw [hw]
      refine nnI ⟨a, l, c, hb.at0 rfl, (rlay_ok ho (by omega) ho1.1 hd (by omega) (fun hne k h1 h2 => hap hne k h1 ((hF k).2 (.inr h2)))).mono fun v w2 ⟨a', c', hv, ho2, hk2, hin⟩ => ⟨a', _, c', hv, nnI ?_⟩⟩
      have hna' : ¬ inA a' b := fun h => by
        rcases hin b h with h | h
        · exact hna h
        · have := hb.lt; omega
      have hll := lay_len bs off.toNat ds
      refine stC_blk (hb.keep hk2 hna) (by simp) fun w3 hb3 hk3 _ => ⟨rfl, fun k => k = b ∨ inA a' k, ⟨a', _, c', hb3, ho2.keep hk3 (fun x hx e => hna' (e ▸ hx)), hna', (by show (lay bs off.toNat ds).length ≤ 1048576; omega), fun _ => Iff.rfl⟩, fun k hk' => ?_, ?_⟩
      · rcases hk' with rfl | hk'
        · exact .inl ((hF _).2 (.inl rfl))
        · rcases hin k hk' with h | h
          · exact .inl ((hF _).2 (.inr h))
          · exact .inr h
      · exact (hk2.mono fun x _ e => (hF x).2 (.inr e)).trans hk3 (fun x _ e => (hF x).2 (.inl e))
    · have h2 : ds = [] := List.eq_nil_of_length_eq_zero (by omega)
      have h3 : ¬ (1048576 - off < 0) := by omega
      subst h2
      simp [writeF, hyes', h3]
end Go.Proofs.YtpoaacnnhgebfaaGreat
namespace Go.Proofs.YtpoaacnnhgebfaaGreat
open Go.Lw
def Inner (R : Nat → Prop) (w : World) (es : List Slc) (LL : List (List Int)) : Prop :=
  es.length = LL.length ∧ ∀ (i : Nat) (e : Slc) (xs : List Int), es[i]? = some e → LL[i]? = some xs → RdB w e.1 e.2.1 e.2.2 xs ∧ (xs ≠ [] → ∀ k, inA e.1 k → R k)
theorem Inner.keep {R S : Nat → Prop} {w w' : World} {es : List Slc} {LL : List (List Int)} (h : Inner R w es LL) (k : Kept S w w') (hn : ∀ x, R x → ¬ S x) : Inner R w' es LL :=
  ⟨h.1, fun i e xs he hx => ⟨(h.2 i e xs he hx).1.keep0 k fun hne b hb => hn b ((h.2 i e xs he hx).2 hne b hb), (h.2 i e xs he hx).2⟩⟩
def RefT (F R : Nat → Prop) (w : World) (b : Nat) (LL : List (List Int)) (scr : List Int) : Prop :=
  ∃ (la : Option Addr) (ll lc : Nat) (sa : Option Addr) (sl sc : Nat) (es : List Slc), Blk w b #[.slice la ll lc, .slice sa sl sc] ∧ SlO 1 w la ll lc (es.map slv) ∧ Inner R w es LL ∧
    OB w sa sl sc scr ∧ ¬ inA la b ∧ ¬ inA sa b ∧ (∀ k, inA la k → ¬ inA sa k) ∧ scr.length ≤ 1048576 ∧ (∀ k, F k ↔ k = b ∨ inA la k ∨ inA sa k) ∧ (∀ k, R k → ¬ F k) ∧ (∀ k, R k → k < w.heap.size) ∧ LL.length ≤ 256 ∧ ∀ x ∈ LL, x.length ≤ 4096
theorem RefT.keep {F R S : Nat → Prop} {w w' : World} {b : Nat} {LL : List (List Int)} {scr : List Int} (h : RefT F R w b LL scr) (k : Kept S w w') (hf : ∀ x, F x → ¬ S x) (hr : ∀ x, R x → ¬ S x) : RefT F R w' b LL scr := by
  obtain ⟨la, ll, lc, sa, sl, sc, es, hb, hl, hi, ho, hna, hna2, hls, hs, hF, hR, hlt, h1, h2⟩ := h
  exact ⟨la, ll, lc, sa, sl, sc, es, hb.keep k (hf b ((hF b).2 (.inl rfl))), hl.keep k (fun x hx => hf x ((hF x).2 (.inr (.inl hx)))), hi.keep k hr, ho.keep k (fun x hx => hf x ((hF x).2 (.inr (.inr hx)))), hna, hna2, hls, hs, hF, hR, fun k' hk => Nat.lt_of_lt_of_le (hlt k' hk) k.size, h1, h2⟩
theorem RefT.lt {F R : Nat → Prop} {w : World} {b : Nat} {LL : List (List Int)} {scr : List Int} (h : RefT F R w b LL scr) : ∀ k, F k ∨ R k → k < w.heap.size := by
  obtain ⟨la, ll, lc, sa, sl, sc, es, hb, hl, hi, ho, hna, hna2, hls, hs, hF, hR, hlt, h1, h2⟩ := h
  intro k hk
  rcases hk with hk | hk
  · rcases (hF k).1 hk with rfl | hk | hk
    · exact hb.lt
    · exact SlO.lt hl k hk
    · exact SlO.lt ho k hk
  · exact hlt k hk
theorem RefT.scr {F R : Nat → Prop} {w : World} {b : Nat} {LL : List (List Int)} {scr : List Int} (h : RefT F R w b LL scr) : scr.length ≤ 1048576 := by
  obtain ⟨la, ll, lc, sa, sl, sc, es, hb, hl, hi, ho, hna, hna2, hls, hs, _⟩ := h; exact hs
theorem rcheck_ok {R0 : Nat → Prop} {w : World} {a : Option Addr} {l c : Nat} {LL : List (List Int)} (h : RdL R0 w a l c LL) :
    CallR Tryz.prog 58 [.slice a l c] w fun v w' => v = .int .i64 (newT LL) ∧ w' = w := by
  have hlen := h.len
  refine C58 ?_
  unfold L58
  refine condP (fun hgt => ⟨?_, rfl⟩) (fun hle => ?_)
  · have : newT LL = 3 := by unfold newT; rw [if_pos (by omega)]
    rw [this]
  refine ⟨fun vs w' => w' = w ∧ ∃ i : Nat, vs = [.int .i64 (i : Int)] ∧ i ≤ l ∧ (LL.take i).all (fun x => decide (x.length ≤ 4096)) = true, fun vs _ => match vs with | [.int _ i] => (l - i).toNat | _ => 0, ⟨rfl, 0, rfl, Nat.zero_le _, by simp⟩, ?_⟩
  intro _ n4 w1 hI
  obtain ⟨hw, i, hv, hi, hall⟩ := hI
  subst hw
  simp only [List.cons.injEq, Value.int.injEq, true_and, and_true] at hv
  subst hv
  refine condP (fun hlt => ?_) (fun hge => ?_)
  · have hil : i < LL.length := by omega
    obtain ⟨q, ⟨ea, el, ec⟩, hq, hc, hrd, _⟩ := h.get hil
    subst hq
    simp only at hc hrd
    obtain rfl : LL[i].length = el := hrd.len
    refine ⟨⟨by omega, by omega⟩, nnI ⟨_, _, _, hc, condP (fun hbig => ⟨?_, rfl⟩) (fun hsmall => ⟨by unfold inI; omega, ⟨rfl, i + 1, rfl, by omega, ?_⟩, ?_⟩)⟩⟩
    · have h1 : ¬ 256 < LL.length := by omega
      have h2 : LL.all (fun x => decide (x.length ≤ 4096)) = false := by
        cases hx : LL.all (fun x => decide (x.length ≤ 4096)) with
        | false => rfl
        | true =>
          have := List.all_eq_true.1 hx LL[i] (List.getElem_mem hil)
          have := of_decide_eq_true this
          omega
      have : newT LL = 5 := by unfold newT; rw [if_neg h1, h2]; rfl
      rw [this]
    · rw [List.take_add_one, List.getElem?_eq_getElem hil]
      simp only [Option.toList_some, List.all_append, hall, Bool.true_and]
      have : LL[i].length ≤ 4096 := by omega
      simp [this]
    · show ((l : Int) - ((i : Int) + 1)).toNat < ((l : Int) - (i : Int)).toNat
      omega
  · have hil : i = l := by omega
    subst hil
    rw [List.take_of_length_le (by omega)] at hall
    have hn0 : newT LL = 0 := by unfold newT; rw [if_neg (by omega), hall]; rfl
    rw [hn0]; exact ⟨rfl, rfl⟩
theorem rnewT_ok {R0 : Nat → Prop} {w : World} {a : Option Addr} {l c : Nat} {LL : List (List Int)} (h : RdL R0 w a l c LL) (hl : ∀ x ∈ LL, x.length ≤ 140737488355328) :
    CallR Tryz.prog 159 [.slice a l c] w fun v w' => Kept No w w' ∧ ((newT LL ≠ 0 ∧ v = .tuple #[.pointer none, .int .i64 (newT LL)]) ∨
      (newT LL = 0 ∧ ∃ b F R, v = .tuple #[ptt b, .int .i64 0] ∧ RefT F R w' b LL [] ∧ ∀ k, F k ∨ R k → w.heap.size ≤ k)) := by
  have hlen := h.len
  refine C159 ?_
  unfold L159
  refine (rcheck_ok h).mono fun v w1 ⟨hv, hw⟩ => ⟨_, hv, ?_⟩
  rw [hw]
  refine condI (fun hne => ⟨Kept.refl _ _, .inl ⟨by simpa using hne, rfl⟩⟩) (fun hz => ?_)
  have hn0 : newT LL = 0 := by simpa using hz
  have h12 : LL.length ≤ 256 ∧ ∀ x ∈ LL, x.length ≤ 4096 := by
    unfold newT at hn0
    split at hn0
    · simp at hn0
    · split at hn0
      · rename_i h1 h2
        exact ⟨by omega, fun x hx => of_decide_eq_true (List.all_eq_true.1 h2 x hx)⟩
      · simp at hn0
  intro w2
  have hb2 : Blk w2 w.heap.size #[.slice none 0 0, .slice none 0 0] := Blk.alloc w _ _
  have hk2 : Kept No w w2 := Kept.alloc _ _ _
  clear_value w2
  refine ⟨fun vs w2 => ∃ (i : Nat) (la : Option Addr) (lc : Nat) (es : List Slc), vs = [.int .i64 (i : Int)] ∧ i ≤ l ∧ Blk w2 w.heap.size #[.slice la i lc, .slice none 0 0] ∧
      SlO 1 w2 la i lc (es.map slv) ∧ (∀ k, inA la k → w.heap.size < k) ∧ (∀ (j : Nat) (e : Slc), es[j]? = some e → ∃ xs, LL[j]? = some xs ∧ RdB w2 e.1 e.2.1 e.2.2 xs ∧ (∀ k, inA e.1 k → w.heap.size < k ∧ k < w2.heap.size ∧ ¬ inA la k)) ∧
      Kept No w w2, fun vs _ => match vs with | [.int _ i] => (l - i).toNat | _ => 0,
    ⟨0, none, 0, [], rfl, Nat.zero_le _, hb2, SlO.nil 1 w2, fun k hk => absurd hk (inA_none k), fun j e he => by simp at he, hk2⟩, ?_⟩
  intro _ n4 w3 hI
  obtain ⟨i, la, lc, es, hv, hi, hb3, hs3, hla, hes, hk3⟩ := hI
  simp only [List.cons.injEq, Value.int.injEq, true_and, and_true] at hv
  subst hv
  have hesl : es.length = i := by have := hs3.1; simpa using this
  refine condP (fun hlt => ?_) (fun hge => ?_)
  · have hil : i < LL.length := by omega
    obtain ⟨q, ⟨ea, el, ec⟩, hq, hc, hrd, _⟩ := (h.keep hk3 (fun _ _ e => e)).get hil
    subst hq
    simp only at hc hrd
    obtain rfl : LL[i].length = el := hrd.len
    have hLi := hl LL[i] (List.getElem_mem hil)
    refine ⟨fun wS => Blk wS w.heap.size #[.slice la i lc, .slice none 0 0] ∧ wS.cell? (q.add i) = some (.slice ea LL[i].length ec), ⟨hb3, hc⟩, ?_⟩
    intro w4
    have hk4 : Kept No w3 w4 := Kept.drew _ _
    have hb4 : Blk w4 w.heap.size #[.slice la i lc, .slice none 0 0] := hb3
    have hc4 : w4.cell? (q.add i) = some (.slice ea LL[i].length ec) := hc
    have hrd4 := hrd.keep hk4 (fun _ _ _ e => e)
    have hsz4 : w4.heap.size = w3.heap.size := rfl
    clear_value w4
    obtain ⟨a5, c5, w5, hrun5, hs5, hk5, hat5, _⟩ := run_app_sl (P := Tryz.prog) (t := 40) (t2 := 40) (ty := 40) (by kernel_rfl : slTyB Tryz.prog 40 1 1 = true) (by kernel_rfl) (SlO.nil 1 w4) hrd4 (By_one _) (by omega) (by omega)
    simp only [Nat.zero_add, List.nil_append] at hrun5 hs5
    have hk5' : Kept No w4 w5 := hk5.mono (fun _ _ e => inA_none _ e)
    have hf5 : Fresh w4 a5 := hat5.fresh (Fresh.none w4) (Nat.le_refl _)
    refine ⟨la, i, lc, fun wS hS => (hS.1.cell 0).trans rfl, ⟨by omega, by omega⟩, nnI ⟨_, _, _, fun wS hS => hS.2, _, _, _, w5, hrun5, ⟨hb4.keep hk5' (fun e => e), hk5'.cell hc4 (fun e => e)⟩, ?_⟩⟩
    have hb5 := hb4.keep hk5' (fun e => e)
    intro w6
    have hk6 : Kept No w5 w6 := Kept.alloc _ _ _
    have hnew6 : SlO 1 w6 (some ⟨w5.heap.size, 0, none⟩) 1 1 ([(a5, LL[i].length, c5)].map slv) :=
      SlO.of_blk (sz := 1) (n := 1) (Blk.alloc w5 #[slv (a5, LL[i].length, c5)] 40) rfl
    clear_value w6
    have hk36 := hk4.no (hk5'.no hk6)
    have hs6 := hs3.keep hk36 (fun _ _ e => e)
    obtain ⟨a7, c7, w7, hrun, hs7, hk7, hat, _⟩ := run_app_sl (P := Tryz.prog) (t := 84) (t2 := 84) (ty := 84) (by kernel_rfl : slTyB Tryz.prog 84 1 24 = true) (by kernel_rfl) hs6 hnew6.rd (slv_one _) (by omega) (by omega)
    refine ⟨⟨hb5.keep hk6 (fun e => e), (hk5'.no hk6).cell hc4 (fun e => e)⟩, a7, _, c7, w7, hrun, ?_⟩
    have hlt6 : ∀ k, inA a5 k → k < w6.heap.size := fun k hk => Nat.lt_of_lt_of_le (SlO.lt hs5 k hk) hk6.size
    have hb7 : Blk w7 w.heap.size _ := (hb5.keep hk6 (fun e => e)).keep hk7 (fun hx => by have := hla _ hx; omega)
    have hla7 : ∀ k, inA a7 k → w.heap.size < k := fun k hk => by
      rcases hat.in hk with h | rfl
      · exact hla k h
      · have := hb5.lt; have := hk6.size; omega
    refine stC_blk hb7 (by simp) fun w8 hb8 hk8 hsz8 => ⟨by unfold inI; omega, ⟨i + 1, a7, c7, es ++ [(a5, LL[i].length, c5)], rfl, by omega, hb8, ?_, hla7, ?_, ?_⟩, ?_⟩
    · rw [List.map_append]
      exact SlO.keep hs7 hk8 (fun k hk e => by have := hla7 k hk; omega)
    · intro j e he
      by_cases hj : j < i
      · rw [List.getElem?_append_left (by omega)] at he
        obtain ⟨xs, hx, hr, hin⟩ := hes j e he
        refine ⟨xs, hx, ?_, fun k hk => ?_⟩
        · refine RdB.keep0 (RdB.keep0 (hr.keep0 hk36 (fun _ _ _ e => e)) hk7 (fun _ k hk h => (hin k hk).2.2 h)) hk8 (fun _ k hk e => by have := (hin k hk).1; omega)
        · obtain ⟨h1, h2, h3⟩ := hin k hk
          refine ⟨h1, ?_, fun hx => ?_⟩
          · have := hk36.size; have := hk7.size; omega
          · rcases hat.in hx with h | rfl
            · exact h3 h
            · have := hk36.size; omega
      · have hje : j = i := by
          have := (List.getElem?_eq_some_iff.1 he).1
          simp at this; omega
        subst hje
        rw [List.getElem?_append_right (by omega), hesl, Nat.sub_self] at he
        simp at he
        subst he
        have hr5 : RdB w5 a5 LL[j].length c5 LL[j] := SlO.rd hs5
        refine ⟨LL[j], by simp [hil], ?_, fun k hk => ?_⟩
        · refine RdB.keep0 (RdB.keep0 (hr5.keep0 hk6 (fun _ _ _ e => e)) hk7 (fun _ k hk h => ?_)) hk8 (fun _ k hk e => ?_)
          · have h1 := hf5 k hk; have h2 := SlO.lt hs3 k h; omega
          · have h1 := hf5 k hk; have h3 := hb3.lt; omega
        · have h1 := hf5 k hk
          have h3 := hb3.lt
          refine ⟨by omega, ?_, fun hx => ?_⟩
          · have := hlt6 k hk; have := hk7.size; omega
          · rcases hat.in hx with h | rfl
            · have h2 := SlO.lt hs3 k h; omega
            · have := hlt6 _ hk; omega
    · exact ((hk3.no hk36).fresh hk7 (fun k hk => Nat.le_of_lt (hla k hk))).fresh hk8 (fun k e => by rw [e]; exact Nat.le_refl _)
    · show ((l : Int) - ((i : Int) + 1)).toNat < ((l : Int) - (i : Int)).toNat
      omega
  · have hil : i = l := by omega
    subst hil
    refine ⟨hk3, .inr ⟨hn0, w.heap.size, fun k => k = w.heap.size ∨ inA la k, fun k => ∃ e ∈ es, inA e.1 k, rfl, ⟨la, i, lc, none, 0, 0, es, hb3, hs3, ⟨by omega, fun j e xs he hx => ?_⟩, OB.nil w3, fun hk => by have := hla _ hk; omega, inA_none _, fun k _ => inA_none k, by simp, fun k => ?_, fun k hk e => ?_, fun k hk => ?_, h12.1, h12.2⟩, fun k hk => ?_⟩⟩
    · obtain ⟨xs', hx', hr, _⟩ := hes j e he
      rw [hx] at hx'; cases hx'
      exact ⟨hr, fun _ k hk => ⟨e, List.mem_of_getElem? he, hk⟩⟩
    · constructor
      · rintro (h | h)
        · exact .inl h
        · exact .inr (.inl h)
      · rintro (h | h | h)
        · exact .inl h
        · exact .inr h
        · exact absurd h (inA_none k)
    · obtain ⟨e', he', hk⟩ := hk
      obtain ⟨j, hj⟩ := List.mem_iff_getElem?.1 he'
      obtain ⟨_, _, _, h3⟩ := hes j e' hj
      rcases e with e | e
      · have := (h3 k hk).1; omega
      · exact (h3 k hk).2.2 e
    · obtain ⟨e', he', hk⟩ := hk
      obtain ⟨j, hj⟩ := List.mem_iff_getElem?.1 he'
      obtain ⟨_, _, _, h3⟩ := hes j e' hj
      exact (h3 k hk).2.1
    · rcases hk with (rfl | hk) | ⟨e', he', hk⟩
      · exact Nat.le_refl _
      · exact Nat.le_of_lt (hla k hk)
      · obtain ⟨j, hj⟩ := List.mem_iff_getElem?.1 he'
        obtain ⟨_, _, _, h3⟩ := hes j e' hj
        exact Nat.le_of_lt (h3 k hk).1
theorem rreadT_ok {F R : Nat → Prop} {w : World} {b : Nat} {LL : List (List Int)} {scr : List Int} (h : RefT F R w b LL scr) (n : Int) :
    CallR Tryz.prog 171 [ptt b, .int .i64 n] w fun v w' => ∃ a' c', v = .tuple #[.slice a' (readT n LL).2.1.length c', .int .i64 (readT n LL).1] ∧ RdB w' a' (readT n LL).2.1.length c' (readT n LL).2.1 ∧ ∃ F', (∀ k, F' k → F k) ∧ Kept F w w' ∧ RefT F' R w' b (readT n LL).2.2 scr := by
  have ht := h
  obtain ⟨la, ll, lc, sa, sl, sc, es, hb, hl, hin, ho, hna, hna2, hls, hs, hF, hR, hlt, h1, h2⟩ := h
  have hel : es.length = ll := by have := hl.1; simpa using this
  have hll := hin.1
  refine C171 ?_
  unfold L171
  refine condP (fun hsm => ?_) (fun hge => condP (fun hbig => ?_) (fun hle => ?_))
  · have e : readT n LL = (4, [], LL) := by unfold readT; rw [if_pos (.inl hsm)]
    rw [e]; exact ⟨none, 0, rfl, RdB.nil w, F, fun _ h => h, Kept.refl _ _, ht⟩
  · have e : readT n LL = (4, [], LL) := by unfold readT; rw [if_pos (.inr hbig)]
    rw [e]; exact ⟨none, 0, rfl, RdB.nil w, F, fun _ h => h, Kept.refl _ _, ht⟩
  · have hn : ¬ (n < 1 ∨ n > 1048576) := by omega
    refine nnI ⟨la, ll, lc, hb.at0 rfl, condI (fun h0 => ?_) (fun h0 => ?_)⟩
    · have hl0 : ll = 0 := by simpa using h0
      have hLL : LL = [] := List.eq_nil_of_length_eq_zero (by omega)
      have e : readT n LL = (0, [], LL) := by unfold readT; rw [if_neg hn, hLL]
      rw [e]; exact ⟨none, 0, rfl, RdB.nil w, F, fun _ h => h, Kept.refl _ _, ht⟩
    · have hl0 : ¬ ll = 0 := by simpa using h0
      cases LL with
      | nil =>
        have h3 : es.length = 0 := hll
        omega
      | cons x r =>
        cases es with
        | nil =>
          have h3 : 0 = ll := hel
          omega
        | cons e0 es =>
          obtain ⟨ea, el, ec⟩ := e0
          have hx4 := h2 x (by simp)
          obtain ⟨hrd, hRe⟩ := hin.2 0 (ea, el, ec) x rfl rfl
          simp only at hrd hRe
          obtain rfl : x.length = el := hrd.len
          have hlec : x.length ≤ ec := hrd.2.1
          cases la with
          | none => have := (RdS.isNone hl.rd rfl).1; omega
          | some q =>
            have hce := hl.rd.2.2.2 q rfl 0 (slv (ea, x.length, ec)) rfl
            refine nnI ⟨some q, ll, lc, hb.at0 rfl, ⟨by omega, by omega⟩, nnI ⟨ea, x.length, ec, hce, ?_⟩⟩
            rw [mn_eq]
            have hRb : ∀ k, R k → k ≠ b := fun k hk e => hR k hk ((hF k).2 (.inl e))
            refine condI (fun hall => ?_) (fun hsome => ?_)
            · have hmx : min n (x.length : Int) = x.length := by simpa using hall
              rw [hmx]
              refine nnI ⟨some q, ll, lc, hb.at0 rfl, ⟨by omega, by omega⟩, nnI (stC_blk hb (by simp) fun w3 hb3 hk3 hsz3 => ⟨⟨by omega, by omega⟩, ?_⟩)⟩
              have e : readT n (x :: r) = (0, x, r) := by
                unfold readT; rw [if_neg hn]; simp only; rw [if_pos (by omega), List.take_of_length_le (by omega)]
              rw [e]
              have hrd3 : RdB w3 ea x.length ec x := hrd.keep0 hk3 (fun hne k hk e => hRb k (hRe hne k hk) e)
              refine ⟨ea, ec, rfl, hrd3, F, fun _ h => h, hk3.mono (fun k _ e => (hF k).2 (.inl e)), ?_⟩
              refine ⟨adv (some q) 1 lc 1, ll - 1, lc - 1, sa, sl, sc, es, hb3, ?_, ⟨by simpa using hll, fun i e ys he hy => ?_⟩, ?_, fun h => hna (inA_adv.1 h), hna2, fun k hk => hls k (inA_adv.1 hk), hs, fun k => ?_, hR, fun k hk => Nat.lt_of_lt_of_le (hlt k hk) hk3.size, (by show r.length ≤ 256; simp at h1; omega), fun y hy => h2 y (by simp [hy])⟩
              · have := SlO.keep (hl.from 1 (by omega)) hk3 (fun k hk e => hna (e ▸ inA_adv.1 hk))
                simpa using this
              · have := hin.2 (i + 1) e ys (by simpa using he) (by simpa using hy)
                exact ⟨this.1.keep0 hk3 (fun hne k hk e => hRb k (this.2 hne k hk) e), this.2⟩
              · exact ho.keep hk3 (fun k hk e => hna2 (e ▸ hk))
              · rw [hF k, inA_adv]
            · have hmx : ¬ min n (x.length : Int) = x.length := by simpa using hsome
              have hmn : min n (x.length : Int) = n := by omega
              rw [hmn]
              intro w2
              have hk2 : Kept F w w2 := Kept.drew _ _
              have hb2 : Blk w2 b #[.slice (some q) ll lc, .slice sa sl sc] := hb
              have hl2 : SlO 1 w2 (some q) ll lc (((ea, x.length, ec) :: es).map slv) := hl
              have ht2 : RefT F R w2 b (x :: r) scr := ht.keep (Kept.drew No w) (fun _ _ e => e) (fun _ _ e => e)
              have hrd2 : RdB w2 ea x.length ec x := hrd
              have hin2 : Inner R w2 ((ea, x.length, ec) :: es) (x :: r) := hin.keep (Kept.drew No w) (fun _ _ e => e)
              have ho2 : OB w2 sa sl sc scr := ho
              have hlt2 : ∀ k, R k → k < w2.heap.size := hlt
              clear_value w2
              obtain ⟨m, rfl⟩ : ∃ m : Nat, n = (m : Int) := ⟨n.toNat, by omega⟩
              simp only [Int.toNat_natCast]
              refine nnI ⟨some q, ll, lc, hb2.at0 rfl, ⟨by omega, by omega⟩, ⟨by omega, by omega⟩, nnI (stC_slo (j := 0) hl2 rfl (by omega) fun w3 hl3 hk3 hsz3 => ⟨⟨by omega, by omega⟩, ?_⟩)⟩
              have e : readT (m : Int) (x :: r) = (0, x.take m, x.drop m :: r) := by
                unfold readT; rw [if_neg hn]; simp only; rw [if_neg (by omega)]; simp
              rw [e]
              have hRq : ∀ k, R k → ¬ inA (some q) k := fun k hk e => hR k hk ((hF k).2 (.inr (.inl e)))
              have hrd3 : RdB w3 ea x.length ec x := hrd2.keep0 hk3 (fun hne k hk e => hRq k (hRe hne k hk) e)
              have htl : (x.take m).length = m := by simp; omega
              refine ⟨ea, ec, by rw [htl], by rw [htl]; exact hrd3.to m (by omega), F, fun _ h => h, hk2.trans (hk3.mono (S' := F) fun k _ e => (hF k).2 (.inr (.inl e))) (fun _ _ e => e), ?_⟩
              refine ⟨some q, ll, lc, sa, sl, sc, (adv ea m ec 1, x.length - m, ec - m) :: es, hb2.keep hk3 hna, hl3, ⟨by simpa using hll, fun i e ys he hy => ?_⟩, ?_, hna, hna2, hls, hs, hF, hR, fun k hk => Nat.lt_of_lt_of_le (hlt2 k hk) hk3.size, by simpa using h1, fun y hy => ?_⟩
              · cases i with
                | zero =>
                  simp at he hy
                  subst he hy
                  exact ⟨hrd3.from m (by omega), fun hne k hk => hRe (fun e => hne (by rw [e]; simp)) k (inA_adv.1 hk)⟩
                | succ i =>
                  have := hin2.2 (i + 1) e ys (by simpa using he) (by simpa using hy)
                  exact ⟨this.1.keep0 hk3 (fun hne k hk e => hRq k (this.2 hne k hk) e), this.2⟩
              · exact ho2.keep hk3 (fun k hk e => hls k e hk)
              · rcases List.mem_cons.1 hy with rfl | hy
                · simp; omega
                · exact h2 y (by simp [hy])
theorem rwriteT_ok {F R : Nat → Prop} {w : World} {b : Nat} {LL : List (List Int)} {scr : List Int} (h : RefT F R w b LL scr) {a2 : Option Addr} {l2 c2 : Nat} {ds : List Int} (hd : RdB w a2 l2 c2 ds) (hl2 : l2 ≤ 140737488355328) :
    CallR Tryz.prog 176 [ptt b, .slice a2 l2 c2] w fun v w' => v = .int .i64 (writeT ds scr).1 ∧ ∃ F', RefT F' R w' b LL (writeT ds scr).2 ∧ (∀ k, F' k → F k ∨ w.heap.size ≤ k) ∧ Kept F w w' := by
  have ht := h
  obtain ⟨la, ll, lc, sa, sl, sc, es, hb, hl, hin, ho, hna, hna2, hls, hs, hF, hR, hlt, h1, h2⟩ := h
  have hsl := ho.len
  have hdl := hd.len
  refine C176 ?_
  unfold L176
  refine nnI ⟨sa, sl, sc, hb.at rfl, by unfold inI; omega, condP (fun hfull => ?_) (fun hfit => ?_)⟩
  · have e : writeT ds scr = (31, scr) := by unfold writeT; rw [if_pos (by omega)]
    rw [e]; exact ⟨rfl, F, ht, fun k hk => .inl hk, Kept.refl _ _⟩
  · have e : writeT ds scr = (0, scr ++ ds) := by unfold writeT; rw [if_neg (by omega)]
    rw [e]
    obtain ⟨a', c', w2, hrun, hs2, hk, hat, _⟩ := run_app_sl (P := Tryz.prog) (t := 40) (t2 := 40) (ty := 40) (by kernel_rfl : slTyB Tryz.prog 40 1 1 = true) (by kernel_rfl) ho hd (By_one ds) (by omega) (by omega)
    refine nnI ⟨sa, sl, sc, hb.at rfl, _, _, _, w2, hrun, nnI ?_⟩
    have hna' : ¬ inA a' b := fun hin => by
      rcases hat.in hin with hin | hin
      · exact hna2 hin
      · have := hb.lt; omega
    refine stC_at (hb.keep hk hna2) (by simp) fun w3 hb3 hk3 hsz3 => ?_
    have hkF : Kept F w w3 := (hk.mono fun x _ e => (hF x).2 (.inr (.inr e))).trans hk3 (fun x _ e => (hF x).2 (.inl e))
    refine ⟨rfl, fun k => k = b ∨ inA la k ∨ inA a' k, ⟨la, ll, lc, a', sl + l2, c', es, hb3, SlO.keep (SlO.keep hl hk (fun k hk e => hls k hk e)) hk3 (fun k hk e => hna (e ▸ hk)), hin.keep hkF hR, ?_, hna, hna', fun k hk e => ?_, by simp; omega, fun k => Iff.rfl, fun k hk' e => ?_, fun k hk' => Nat.lt_of_lt_of_le (hlt k hk') hkF.size, h1, h2⟩, fun k hk' => ?_, hkF⟩
    · rw [← By_append] at hs2; exact SlO.keep hs2 hk3 (fun k hk' e => hna' (e ▸ hk'))
    · rcases hat.in e with e | e
      · exact hls k hk e
      · have := SlO.lt hl k hk; omega
    · rcases e with e | e | e
      · exact hR k hk' ((hF k).2 (.inl e))
      · exact hR k hk' ((hF k).2 (.inr (.inl e)))
      · rcases hat.in e with e | e
        · exact hR k hk' ((hF k).2 (.inr (.inr e)))
        · have := hlt k hk'; omega
    · rcases hk' with rfl | hk' | hk'
      · exact .inl ((hF _).2 (.inl rfl))
      · exact .inl ((hF _).2 (.inr (.inl hk')))
      · rcases hat.in hk' with hin | rfl
        · exact .inl ((hF _).2 (.inr (.inr hin)))
        · exact .inr (Nat.le_refl _)
end Go.Proofs.YtpoaacnnhgebfaaGreat
namespace Go.Proofs.YtpoaacnnhgebfaaGreat
open Go.Lw
def RefP (w : World) (rb : Nat) (F : Nat → Prop) (bs : List Int) (e0 e1 : Nat) : Prop :=
  F rb ∧ (∀ x, F x → x < w.heap.size) ∧ ∃ a l c, Blk w rb #[.slice a l c, .int .i64 (e0 : Int), .int .i64 (e1 : Int)] ∧ RdB w a l c bs ∧ (∀ x, inA a x → F x ∧ x ≠ rb) ∧ bs.length ≤ 4096 ∧ e0 ≤ 1024 ∧ e1 ≤ 1024
theorem RefP.keep {S F : Nat → Prop} {w w' : World} {rb : Nat} {bs : List Int} {e0 e1 : Nat} (h : RefP w rb F bs e0 e1) (k : Kept S w w') (hn : ∀ x, F x → ¬ S x) : RefP w' rb F bs e0 e1 := by
  obtain ⟨hF, hlt, a, l, c, hb, hr, ha, h1, h2, h3⟩ := h
  exact ⟨hF, fun x hx => Nat.lt_of_lt_of_le (hlt x hx) k.size, a, l, c, hb.keep k (hn _ hF), hr.keep k (fun x _ hx => hn x (ha x hx).1), ha, h1, h2, h3⟩
theorem rcanr_to {w : World} {rb : Nat} {F : Nat → Prop} {bs : List Int} {e0 e1 : Nat} (h : RefP w rb F bs e0 e1) {Q : Value → World → Prop} (hq : Q (.bool (canRP bs e0 e1)) w) : CallR Tryz.prog 169 [pt rb] w Q := by
  obtain ⟨hF, hlt, a, l, c, hb, hr, ha, h1, h2, h3⟩ := h
  have hlen := hr.len
  refine C169 ?_
  unfold L169
  refine nnI ⟨(e0 : Int), hb.at (i := 1) rfl, condP (fun g => nnI ⟨a, l, c, hb.at0 rfl, condP (fun g2 => ?_) (fun g2 => nnI ⟨(e1 : Int), hb.at (i := 2) rfl, ?_⟩)⟩) (fun g => ?_)⟩
  · have e : canRP bs e0 e1 = true := by unfold canRP; simp only [decide_eq_true_eq]; omega
    rw [e] at hq; exact hq
  · have e : canRP bs e0 e1 = ((e1 : Int) == 0) := by
      unfold canRP; rw [Bool.eq_iff_iff]; simp only [decide_eq_true_eq, beq_iff_eq]; omega
    rw [e] at hq; exact hq
  · have e : canRP bs e0 e1 = false := by unfold canRP; simp only [decide_eq_false_iff_not]; omega
    rw [e] at hq; exact hq
theorem rcanw_to {w : World} {rb : Nat} {F : Nat → Prop} {bs : List Int} {e0 e1 : Nat} (h : RefP w rb F bs e0 e1) (n : Int) {Q : Value → World → Prop} (hq : Q (.bool (canWP n bs e0 e1)) w) : CallR Tryz.prog 173 [pt rb, .int .i64 n] w Q := by
  obtain ⟨hF, hlt, a, l, c, hb, hr, ha, h1, h2, h3⟩ := h
  have hlen := hr.len
  refine C173 ?_
  unfold L173
  have hT : canWP n bs e0 e1 = true → Q (.bool true) w := fun e => e ▸ hq
  have hF : canWP n bs e0 e1 = false → Q (.bool false) w := fun e => e ▸ hq
  refine nnI ⟨a, l, c, hb.at0 rfl, by unfold inI; omega, nnI ⟨(e1 : Int), hb.at (i := 2) rfl, condP (fun g => condP (fun g2 => condP (fun g3 => nnI ⟨(e0 : Int), hb.at (i := 1) rfl, condI (fun g4 => hT ?_) (fun g4 => condP (fun g5 => condP (fun g6 => hT ?_) (fun g6 => condP (fun g7 => ?_) (fun g7 => hF ?_))) (fun g5 => condP (fun g7 => ?_) (fun g7 => hF ?_)))⟩) (fun g3 => hF ?_)) (fun g2 => hF ?_)) (fun g => hF ?_)⟩⟩
  · simp only [beq_iff_eq] at g4
    unfold canWP; simp only [decide_eq_true_eq]; omega
  · unfold canWP takesP; simp only [decide_eq_true_eq]; rw [if_neg (by omega)]; omega
  · omega
  · simp only [beq_eq_false_iff_ne] at g4
    unfold canWP takesP; simp only [decide_eq_false_iff_not]; rw [if_pos (by omega)]; omega
  · simp only [beq_eq_false_iff_ne] at g4
    have e : canWP n bs e0 e1 = decide ((4096 : Int) - (l : Int) > 0) := by
      unfold canWP takesP; rw [Bool.eq_iff_iff]; simp only [decide_eq_true_eq]; rw [if_neg (by omega)]; omega
    rw [e] at hq; exact hq
  · omega
  all_goals (unfold canWP; simp only [decide_eq_false_iff_not]; omega)
theorem rread_ok {w : World} {rb : Nat} {F : Nat → Prop} {bs : List Int} {e0 e1 : Nat} (h : RefP w rb F bs e0 e1) (n : Int) :
    CallR Tryz.prog 172 [pt rb, .int .i64 n] w fun v w' => ∃ a l c, v = .tuple #[.slice a l c, .int .i64 (readP n bs e0 e1).2.1] ∧ RdB w' a l c (readP n bs e0 e1).1 ∧ (∀ x, inA a x → F x ∧ x ≠ rb) ∧
      RefP w' rb F (readP n bs e0 e1).2.2 e0 e1 ∧ Kept (· = rb) w w' := by
  have hbad : ∀ {k : Int}, readP n bs e0 e1 = ([], k, bs) → ∃ a l c, Value.tuple #[.slice none 0 0, .int .i64 k] = .tuple #[.slice a l c, .int .i64 (readP n bs e0 e1).2.1] ∧ RdB w a l c (readP n bs e0 e1).1 ∧ (∀ x, inA a x → F x ∧ x ≠ rb) ∧
      RefP w rb F (readP n bs e0 e1).2.2 e0 e1 ∧ Kept (· = rb) w w := by
    intro k e; rw [e]; exact ⟨none, 0, 0, rfl, RdB.nil w, fun x hx => absurd hx (inA_none x), h, Kept.refl _ _⟩
  have h' := h
  obtain ⟨hF, hlt, a, l, c, hb, hr, ha, h1, h2, h3⟩ := h'
  have hlen := hr.len
  have hlc : l ≤ c := hr.2.1
  refine C172 ?_
  unfold L172
  have hfin : n ≥ 1 → n ≤ 1048576 → e0 ≠ 0 → ¬ (bs = [] ∧ e1 > 0) → (0 ≤ mn n (l : Int) ∧ mn n (l : Int) ≤ (c : Int)) ∧ (0 ≤ mn n (l : Int) ∧ mn n (l : Int) ≤ (l : Int)) ∧
      ∀ w1, Blk w1 rb #[.slice (adv a (mn n (l : Int)).toNat c 1) (l - (mn n (l : Int)).toNat) (c - (mn n (l : Int)).toNat), .int .i64 (e0 : Int), .int .i64 (e1 : Int)] → Kept (· = rb) w w1 →
        ∃ a' l' c', Value.tuple #[.slice a (mn n (l : Int)).toNat c, .int .i64 0] = .tuple #[.slice a' l' c', .int .i64 (readP n bs e0 e1).2.1] ∧ RdB w1 a' l' c' (readP n bs e0 e1).1 ∧ (∀ x, inA a' x → F x ∧ x ≠ rb) ∧
          RefP w1 rb F (readP n bs e0 e1).2.2 e0 e1 ∧ Kept (· = rb) w w1 := by
    intro g1 g2 g3 g4
    have e : readP n bs e0 e1 = (bs.take n.toNat, 0, bs.drop n.toNat) := by
      unfold readP; rw [if_neg (by omega), if_neg (by omega), if_neg g4]
    have hmn : mn n (l : Int) = ((min n.toNat l : Nat) : Int) := by rw [mn_eq]; omega
    rw [hmn, e, Int.toNat_natCast]
    have e1' : bs.take n.toNat = bs.take (min n.toNat l) := by rw [List.take_eq_take_iff]; omega
    have e2' : bs.drop n.toNat = bs.drop (min n.toNat l) := by
      rcases Nat.le_total n.toNat l with hle | hle
      · rw [Nat.min_eq_left hle]
      · rw [Nat.min_eq_right hle, List.drop_of_length_le (by omega), List.drop_of_length_le (by omega)]
    rw [e1', e2']
    refine ⟨⟨by omega, by omega⟩, ⟨by omega, by omega⟩, fun w1 hb1 hk1 => ⟨a, _, c, rfl, ?_, ha, ?_, hk1⟩⟩
    · exact (hr.to (min n.toNat l) (by omega)).keep hk1 (fun x _ hx e => (ha x hx).2 e)
    · exact ⟨hF, fun x hx => Nat.lt_of_lt_of_le (hlt x hx) hk1.size, _, _, _, hb1, (hr.from (min n.toNat l) (by omega)).keep hk1 (fun x _ hx e => (ha x (inA_adv.1 hx)).2 e), fun x hx => ha x (inA_adv.1 hx), by rw [List.length_drop]; omega, h2, h3⟩
  refine condP (fun g => hbad ?_) fun g => condP (fun g2 => hbad ?_) fun g2 => nnI ⟨(e0 : Int), hb.at (i := 1) rfl, condI (fun g3 => hbad ?_) (fun g3 => nnI ⟨a, l, c, hb.at0 rfl, condI (fun g4 => nnI ⟨(e1 : Int), hb.at (i := 2) rfl, condP (fun g5 => hbad ?_) (fun g5 => ?_)⟩) (fun g4 => ?_)⟩)⟩
  · unfold readP; rw [if_pos (by omega)]
  · unfold readP; rw [if_pos (by omega)]
  · simp only [beq_iff_eq] at g3
    unfold readP; rw [if_neg (by omega), if_pos (by omega)]
  all_goals simp only [beq_eq_false_iff_ne, beq_iff_eq] at g3 g4
  · have : bs = [] := List.eq_nil_of_length_eq_zero (by omega)
    unfold readP; rw [if_neg (by omega), if_neg (by omega), if_pos ⟨this, by omega⟩]
  all_goals obtain ⟨f1, f2, f3⟩ := hfin (by omega) (by omega) (by omega) (by first | (rintro ⟨_, _⟩; omega) | (rintro ⟨rfl, _⟩; simp at hlen; omega))
  all_goals exact nnI ⟨a, l, c, hb.at0 rfl, nnI ⟨a, l, c, hb.at0 rfl, f1, nnI ⟨a, l, c, hb.at0 rfl, f2, nnI (stC_blk hb (by simp) fun w1 hb1 hk1 _ => f3 w1 hb1 hk1)⟩⟩⟩
theorem rwrite_ok {w : World} {rb : Nat} {F : Nat → Prop} {bs : List Int} {e0 e1 : Nat} (h : RefP w rb F bs e0 e1) {a2 : Option Addr} {l2 c2 : Nat} {ds : List Int} (hd : RdB w a2 l2 c2 ds) (hdr : ds ≠ [] → ¬ inA a2 rb) (most : Int) :
    CallR Tryz.prog 175 [pt rb, .slice a2 l2 c2, .int .i64 most] w fun v w' => v = .tuple #[.int .i64 (writeP ds most bs e0 e1).1, .int .i64 (writeP ds most bs e0 e1).2.1] ∧
      RefP w' rb (fun x => F x ∨ (w.heap.size ≤ x ∧ x < w'.heap.size)) (writeP ds most bs e0 e1).2.2 e0 e1 ∧ Kept (· = rb) w w' := by
  have hwide : ∀ w', Kept (· = rb) w w' → ∀ bs', RefP w' rb F bs' e0 e1 → RefP w' rb (fun x => F x ∨ (w.heap.size ≤ x ∧ x < w'.heap.size)) bs' e0 e1 := by
    rintro w' k bs' ⟨hF, hlt, a, l, c, hb, hr, ha, h1⟩
    exact ⟨.inl hF, fun x hx => hx.elim (hlt x) (·.2), a, l, c, hb, hr, fun x hx => ⟨.inl (ha x hx).1, (ha x hx).2⟩, h1⟩
  have hbad : ∀ {k : Int}, writeP ds most bs e0 e1 = (0, k, bs) → Value.tuple #[.int .i64 0, .int .i64 k] = .tuple #[.int .i64 (writeP ds most bs e0 e1).1, .int .i64 (writeP ds most bs e0 e1).2.1] ∧
      RefP w rb (fun x => F x ∨ (w.heap.size ≤ x ∧ x < w.heap.size)) (writeP ds most bs e0 e1).2.2 e0 e1 ∧ Kept (· = rb) w w := by
    intro k e; rw [e]; exact ⟨rfl, hwide w (Kept.refl _ _) _ h, Kept.refl _ _⟩
  have h' := h
  obtain ⟨hF, hlt, a, l, c, hb, hr, ha, h1, h2, h3⟩ := h'
  have hlen := hr.len
  have hdl := hd.len
  have hlc : l2 ≤ c2 := hd.2.1
  refine C175 ?_
  unfold L175
  refine nnI ⟨a, l, c, hb.at0 rfl, by unfold inI; omega, fun vs w' => w' = w ∧ ∃ k : Nat, vs = [.int .i64 (k : Int)] ∧ (k : Int) = wtk l2 most l ∧ k ≤ l2 ∧ l + k ≤ 4096 ∧ writeP ds most bs e0 e1 = ((k : Int), 0, bs ++ ds.take k), ?_, ?_⟩
  · have hgood : l2 ≤ 1048576 → 1 ≤ most → most ≤ 1048576 → e1 ≠ 0 → e0 ≠ 0 → l2 ≠ 0 → takesP l l2 ≠ 0 → ∀ m : Int, m = wtk l2 most l → w = w ∧ ∃ k : Nat, [Value.int .i64 m] = [.int .i64 (k : Int)] ∧ (k : Int) = wtk l2 most l ∧ k ≤ l2 ∧ l + k ≤ 4096 ∧ writeP ds most bs e0 e1 = ((k : Int), 0, bs ++ ds.take k) := by
      intro f1 f2 f3 f4 f5 f6 f7 m hm
      have ht0 : 0 ≤ takesP l l2 ∧ takesP l l2 ≤ l2 ∧ (l : Int) + takesP l l2 ≤ 4096 := by unfold takesP; split <;> omega
      have hw0 : 0 ≤ wtk l2 most l ∧ wtk l2 most l ≤ l2 ∧ (l : Int) + wtk l2 most l ≤ 4096 := by unfold wtk; split <;> omega
      have hne : ds ≠ [] := by rintro rfl; simp at hdl; omega
      have e : writeP ds most bs e0 e1 = (wtk l2 most l, 0, bs ++ ds.take (wtk l2 most l).toNat) := by
        unfold writeP; rw [if_neg (by omega), if_neg (by omega), if_neg (by omega), if_neg (by omega), if_neg hne, if_neg (by rw [hlen, hdl]; exact f7), hlen, hdl]
      refine ⟨rfl, (wtk l2 most l).toNat, by rw [hm]; congr 2; omega, by omega, by omega, by omega, ?_⟩
      rw [e]; congr 1; omega
    refine condP (fun g => hbad ?_) fun g => condP (fun g2 => hbad ?_) fun g2 => condP (fun g3 => hbad ?_) fun g3 => nnI ⟨(e1 : Int), hb.at (i := 2) rfl, condI (fun g4 => hbad ?_) (fun g4 => nnI ⟨(e0 : Int), hb.at (i := 1) rfl, condI (fun g5 => hbad ?_) (fun g5 => condI (fun g6 => hbad ?_) (fun g6 => ?_))⟩)⟩
    · unfold writeP; rw [if_pos (by omega)]
    · unfold writeP; rw [if_neg (by omega), if_pos (by omega)]
    · unfold writeP; rw [if_neg (by omega), if_pos (by omega)]
    all_goals simp only [beq_eq_false_iff_ne, beq_iff_eq] at g4
    · unfold writeP; rw [if_neg (by omega), if_neg (by omega), if_pos (by omega)]
    all_goals simp only [beq_eq_false_iff_ne, beq_iff_eq] at g5
    · unfold writeP; rw [if_neg (by omega), if_neg (by omega), if_neg (by omega), if_pos (by omega)]
    all_goals simp only [beq_eq_false_iff_ne, beq_iff_eq] at g6
    · have : ds = [] := List.eq_nil_of_length_eq_zero (by omega)
      unfold writeP; rw [if_neg (by omega), if_neg (by omega), if_neg (by omega), if_neg (by omega), if_pos this]
    have hne : ds ≠ [] := by rintro rfl; simp at hdl; omega
    have hblk : takesP l l2 = 0 → writeP ds most bs e0 e1 = (0, 52, bs) := by
      intro e
      unfold writeP; rw [if_neg (by omega), if_neg (by omega), if_neg (by omega), if_neg (by omega), if_neg hne, if_pos (by rw [hlen, hdl]; exact e)]
    refine condP (fun g7 => condP (fun g8 => hbad (hblk ?_)) (fun g8 => condI (fun g9 => hbad (hblk ?_)) (fun g9 => condP (fun g10 => hgood ?_ ?_ ?_ ?_ ?_ ?_ ?_ _ ?_) (fun g10 => ?_)))) (fun g7 => condI (fun g9 => hbad (hblk ?_)) (fun g9 => condP (fun g10 => ?_) (fun g10 => hgood ?_ ?_ ?_ ?_ ?_ ?_ ?_ _ ?_)))
    all_goals (try simp only [beq_eq_false_iff_ne, beq_iff_eq] at g9)
    all_goals first | omega | (unfold takesP; split <;> omega) | (unfold wtk takesP; rw [if_neg (by omega), if_neg (by omega)]; omega) | (unfold wtk takesP; rw [if_pos (by omega), if_neg (by omega), mn_eq, mn_eq] <;> omega)
  · rintro _ n11 w1 ⟨rfl, k, hvs, hk, hkl, hk4, e⟩
    simp only [List.cons.injEq, Value.int.injEq, true_and, and_true] at hvs
    subst hvs
    rw [e]
    intro w2
    have hk2 : Kept No w1 w2 := Kept.drew _ _
    have hb2 : Blk w2 rb #[.slice a l c, .int .i64 (e0 : Int), .int .i64 (e1 : Int)] := hb
    have hr2 : RdB w2 a l c bs := hr
    have hd2 : RdB w2 a2 l2 c2 ds := hd
    have hsz2 : w2.heap.size = w1.heap.size := rfl
    clear_value w2
    have hrb : rb < w1.heap.size := hb.lt
    obtain ⟨a', c', w3, hrun, hs, hk3, hat, hnn⟩ := run_app_sl (P := Tryz.prog) (t := 40) (t2 := 40) (ty := 40) (by kernel_rfl : slTyB Tryz.prog 40 1 1 = true) (by kernel_rfl) (SlO.nil 1 w2) hr2 (By_one bs) (by omega) (by omega)
    simp only [Nat.zero_add, List.nil_append] at hrun hs
    have hk3 : Kept No w2 w3 := hk3.mono fun b _ hb => inA_none b hb
    have hd3 : RdB w3 a2 k c2 (ds.take k) := (hd2.keep hk3 (fun _ _ _ e => e)).to k (by omega)
    obtain ⟨a5, c5, w4, hrun4, hs4, hk4', hat4, hnn4⟩ := run_app_sl (P := Tryz.prog) (t := 40) (t2 := 40) (ty := 40) (by kernel_rfl : slTyB Tryz.prog 40 1 1 = true) (by kernel_rfl) hs hd3 (By_one _) (by omega) (by omega)
    have hfr : Fresh w2 a' := hat.fresh (Fresh.none w2) (Nat.le_refl _)
    have hk4 : Kept No w2 w4 := hk3.fresh hk4' hfr
    have hfr5 : Fresh w2 a5 := hat4.fresh hfr hk3.size
    refine nnI ⟨a, l, c, hb2.at0 rfl, ⟨by omega, by omega⟩, a', l, c', w3, hrun, a5, l + k, c5, w4, by rw [Int.toNat_natCast]; exact hrun4, nnI ?_⟩
    refine stC_blk (hb2.keep hk4 (fun e => e)) (by simp) fun w5 hb5 hk5 hsz5 => ⟨rfl, ?_, ((hk2.trans hk4 fun _ _ e => e).mono fun _ _ e => e.elim).trans hk5 fun _ _ e => e⟩
    have hsz4 := hk4.size
    refine ⟨.inl hF, fun x hx => hx.elim (fun hx => by have := hlt x hx; omega) (·.2), a5, l + k, c5, hb5, ?_, fun x hx => ⟨.inr ⟨by have := hfr5 x hx; omega, ?_⟩, by have := hfr5 x hx; omega⟩, by rw [List.length_append, List.length_take]; omega, h2, h3⟩
    · rw [← By_append] at hs4
      exact RdB.keep (OB.rd (bs := bs ++ ds.take k) hs4) hk5 (fun x _ hx e => by have := hfr5 x hx; omega)
    · have := SlO.lt hs4 x hx
      omega
end Go.Proofs.YtpoaacnnhgebfaaGreat
set_option maxRecDepth 100000
namespace Go.Proofs.YtpoaacnnhgebfaaGreat
open Go.Lw
def A56 : Ann := ⟨[(4, [(3, .one (.int .i64))])], [], [], [], [], []⟩
def L56 (s1 : ByteArray) (Q : Value → World → Prop) (w : World) : Prop :=
  cond (ByteArray.toList s1 == ByteArray.toList (ByteArray.mk #[]))
  (Q (.bool false) w)
  (cond (decide ((((ByteArray.size s1 : Nat) : Int)) > 64))
  (Q (.bool false) w)
  (∃ (I2 : List Value → World → Prop) (mu3 : List Value → World → Nat),
  I2 [.int .i64 0] w ∧
  ∀ (_ : Env) (n4 : Int) (w1 : World), I2 [.int .i64 n4] w1 →
  cond (decide (n4 < (((ByteArray.size s1 : Nat) : Int))))
  ((0 ≤ (n4 : Int) ∧ (n4 : Int) < ((ByteArray.size s1 : Nat) : Int)) ∧
  cond (decide ((byteAt s1 n4) < 33))
  (Q (.bool false) w1)
  ((0 ≤ (n4 : Int) ∧ (n4 : Int) < ((ByteArray.size s1 : Nat) : Int)) ∧
  cond (decide ((byteAt s1 n4) > 126))
  (Q (.bool false) w1)
  (inI (n4 + 1) ∧
  I2 [.int .i64 (n4 + 1)] w1 ∧ mu3 [.int .i64 (n4 + 1)] w1 < mu3 [.int .i64 n4] w1)))
  (Q (.bool true) w1)))
theorem C56 {s1 : ByteArray} {Q : Value → World → Prop} {w : World} (h : L56 s1 Q w) : CallR Tryz.prog 56 [.string s1] w Q :=
  fun_calls (A := A56) mixed Tryz.func56 (c := (Tryz.f56.body).getD .skip) rfl (by kernel_rfl) (Eq.mp (by kernel_rfl) h)
def A57 : Ann := ⟨[(2, [(5, .one (.int .i64))])], [], [], [], [], []⟩
def L57 (a1 : Option Addr) (l1 : Nat) (c1 : Nat) (s2 : ByteArray) (Q : Value → World → Prop) (w : World) : Prop :=
  ∃ (I3 : List Value → World → Prop) (mu4 : List Value → World → Nat),
  I3 [.int .i64 0] w ∧
  ∀ (_ : Env) (n5 : Int) (w1 : World), I3 [.int .i64 n5] w1 →
  cond (decide (n5 < (((l1 : Nat) : Int))))
  ((0 ≤ (n5 : Int) ∧ (n5 : Int) < ((l1 : Nat) : Int)) ∧
  nn a1 (fun (q6 : Addr) =>
  ∃ (s7 : ByteArray), w1.cell? (Addr.add q6 (Int.toNat n5)) = some ((.string s7 : Value)) ∧
  cond (ByteArray.toList s7 == ByteArray.toList s2)
  (Q (.bool true) w1)
  (inI (n5 + 1) ∧
  I3 [.int .i64 (n5 + 1)] w1 ∧ mu4 [.int .i64 (n5 + 1)] w1 < mu4 [.int .i64 n5] w1)))
  (Q (.bool false) w1)
theorem C57 {a1 : Option Addr} {l1 : Nat} {c1 : Nat} {s2 : ByteArray} {Q : Value → World → Prop} {w : World} (h : L57 a1 l1 c1 s2 Q w) : CallR Tryz.prog 57 [.slice a1 l1 c1, .string s2] w Q :=
  fun_calls (A := A57) mixed Tryz.func57 (c := (Tryz.f57.body).getD .skip) rfl (by kernel_rfl) (Eq.mp (by kernel_rfl) h)
def A9 : Ann := ⟨[(5, [(7, .one (.slice)), (8, .one (.int .i64))]), (15, [(7, .one (.slice)), (9, .one (.int .i64))])], [], [], [], [], []⟩
def L9 (a1 : Option Addr) (l1 : Nat) (c1 : Nat) (a2 : Option Addr) (l2 : Nat) (c2 : Nat) (a3 : Option Addr) (l3 : Nat) (c3 : Nat) (Q : Value → World → Prop) (w : World) : Prop :=
  inI ((((l1 : Nat) : Int)) + (((l2 : Nat) : Int))) ∧
  cond (decide (((((l1 : Nat) : Int)) + (((l2 : Nat) : Int))) > 256))
  (Q (.int .i64 3) w)
  (∃ (I4 : List Value → World → Prop) (mu5 : List Value → World → Nat),
  I4 [.slice none 0 0, .int .i64 0] w ∧
  ∀ (_ : Env) (a6 : Option Addr) (l6 : Nat) (c6 : Nat) (n7 : Int) (w1 : World), I4 [.slice a6 l6 c6, .int .i64 n7] w1 →
  cond (decide (n7 < (((l1 : Nat) : Int))))
  ((0 ≤ (n7 : Int) ∧ (n7 : Int) < ((l1 : Nat) : Int)) ∧
  nn a1 (fun (q8 : Addr) =>
  ∃ (s9 : ByteArray), w1.cell? (Addr.add q8 (Int.toNat n7 * 2)) = some ((.string s9 : Value)) ∧
  CallR Tryz.prog 56 [.string s9] w1 (fun (r11 : Value) (w2 : World) =>
  ∃ (b10 : Bool), r11 = .bool b10 ∧
  cond (!b10)
  (Q (.int .i64 61) w2)
  ((0 ≤ (n7 : Int) ∧ (n7 : Int) < ((l1 : Nat) : Int)) ∧
  nn a1 (fun (q12 : Addr) =>
  ∃ (s13 : ByteArray), w2.cell? (Addr.add q12 (Int.toNat n7 * 2)) = some ((.string s13 : Value)) ∧
  CallR Tryz.prog 57 [.slice a6 l6 c6, .string s13] w2 (fun (r15 : Value) (w3 : World) =>
  ∃ (b14 : Bool), r15 = .bool b14 ∧
  cond b14
  (Q (.int .i64 6) w3)
  ((0 ≤ (n7 : Int) ∧ (n7 : Int) < ((l1 : Nat) : Int)) ∧
  nn a1 (fun (q16 : Addr) =>
  ∃ (a17 : Option Addr) (l17 : Nat) (c17 : Nat), w3.cell? (Addr.add (Addr.add q16 (Int.toNat n7 * 2)) 1) = some ((.slice a17 l17 c17 : Value)) ∧
  cond (decide ((((l17 : Nat) : Int)) > 1048576))
  (Q (.int .i64 5) w3)
  ((0 ≤ (n7 : Int) ∧ (n7 : Int) < ((l1 : Nat) : Int)) ∧
  nn a1 (fun (q18 : Addr) =>
  ∃ (s19 : ByteArray), w3.cell? (Addr.add q18 (Int.toNat n7 * 2)) = some ((.string s19 : Value)) ∧
  let w4 := World.alloc w3 (Obj.cells #[.string s19] 9);
  ∃ (a20 : Option Addr) (l20 : Nat) (c20 : Nat) (w5 : World), Sem.run Tryz.prog (Builtin.append_ #[131, 131] 131 #[.slice a6 l6 c6, .slice (some (Addr.mk w3.heap.size 0 none)) 1 1]) w4 = .ok ((.slice a20 l20 c20 : Value)) w5 ∧
  inI (n7 + 1) ∧
  I4 [.slice a20 l20 c20, .int .i64 (n7 + 1)] w5 ∧ mu5 [.slice a20 l20 c20, .int .i64 (n7 + 1)] w5 < mu5 [.slice a6 l6 c6, .int .i64 n7] w1))))))))))
  (∃ (I21 : List Value → World → Prop) (mu22 : List Value → World → Nat),
  I21 [.slice a6 l6 c6, .int .i64 0] w1 ∧
  ∀ (_ : Env) (a23 : Option Addr) (l23 : Nat) (c23 : Nat) (n24 : Int) (w6 : World), I21 [.slice a23 l23 c23, .int .i64 n24] w6 →
  cond (decide (n24 < (((l2 : Nat) : Int))))
  ((0 ≤ (n24 : Int) ∧ (n24 : Int) < ((l2 : Nat) : Int)) ∧
  nn a2 (fun (q25 : Addr) =>
  ∃ (s26 : ByteArray), w6.cell? (Addr.add q25 (Int.toNat n24 * 2)) = some ((.string s26 : Value)) ∧
  CallR Tryz.prog 56 [.string s26] w6 (fun (r28 : Value) (w7 : World) =>
  ∃ (b27 : Bool), r28 = .bool b27 ∧
  cond (!b27)
  (Q (.int .i64 61) w7)
  ((0 ≤ (n24 : Int) ∧ (n24 : Int) < ((l2 : Nat) : Int)) ∧
  nn a2 (fun (q29 : Addr) =>
  ∃ (s30 : ByteArray), w7.cell? (Addr.add q29 (Int.toNat n24 * 2)) = some ((.string s30 : Value)) ∧
  CallR Tryz.prog 57 [.slice a23 l23 c23, .string s30] w7 (fun (r32 : Value) (w8 : World) =>
  ∃ (b31 : Bool), r32 = .bool b31 ∧
  cond b31
  (Q (.int .i64 6) w8)
  ((0 ≤ (n24 : Int) ∧ (n24 : Int) < ((l2 : Nat) : Int)) ∧
  nn a2 (fun (q33 : Addr) =>
  ∃ (a34 : Option Addr) (l34 : Nat) (c34 : Nat), w8.cell? (Addr.add (Addr.add q33 (Int.toNat n24 * 2)) 1) = some ((.slice a34 l34 c34 : Value)) ∧
  CallR Tryz.prog 58 [.slice a34 l34 c34] w8 (fun (r36 : Value) (w9 : World) =>
  ∃ (n35 : Int), r36 = .int .i64 n35 ∧
  cond (n35 != 0)
  (Q (.int .i64 n35) w9)
  ((0 ≤ (n24 : Int) ∧ (n24 : Int) < ((l2 : Nat) : Int)) ∧
  nn a2 (fun (q37 : Addr) =>
  ∃ (s38 : ByteArray), w9.cell? (Addr.add q37 (Int.toNat n24 * 2)) = some ((.string s38 : Value)) ∧
  let w10 := World.alloc w9 (Obj.cells #[.string s38] 9);
  ∃ (a39 : Option Addr) (l39 : Nat) (c39 : Nat) (w11 : World), Sem.run Tryz.prog (Builtin.append_ #[131, 131] 131 #[.slice a23 l23 c23, .slice (some (Addr.mk w9.heap.size 0 none)) 1 1]) w10 = .ok ((.slice a39 l39 c39 : Value)) w11 ∧
  inI (n24 + 1) ∧
  I21 [.slice a39 l39 c39, .int .i64 (n24 + 1)] w11 ∧ mu22 [.slice a39 l39 c39, .int .i64 (n24 + 1)] w11 < mu22 [.slice a23 l23 c23, .int .i64 n24] w6)))))))))))
  (CallR Tryz.prog 59 [.slice a3 l3 c3] w6 (fun (r42 : Value) (w12 : World) =>
  ∃ (n40 : Int) (n41 : Int), r42 = .tuple #[.int .i64 n40, .int .i64 n41] ∧
  Q (.int .i64 n40) w12))))
theorem C9 {a1 : Option Addr} {l1 : Nat} {c1 : Nat} {a2 : Option Addr} {l2 : Nat} {c2 : Nat} {a3 : Option Addr} {l3 : Nat} {c3 : Nat} {Q : Value → World → Prop} {w : World} (h : L9 a1 l1 c1 a2 l2 c2 a3 l3 c3 Q w) : CallR Tryz.prog 9 [.slice a1 l1 c1, .slice a2 l2 c2, .slice a3 l3 c3] w Q :=
  fun_calls (A := A9) mixed Tryz.func9 (c := (Tryz.f9.body).getD .skip) rfl (by kernel_rfl) (Eq.mp (by kernel_rfl) h)
def A60 : Ann := ⟨[(3, [(8, .one (.int .i64))]), (8, [(11, .one (.int .i64))])], [], [], [], [], []⟩
def L60 (a1 : Option Addr) (l1 : Nat) (c1 : Nat) (a2 : Option Addr) (l2 : Nat) (c2 : Nat) (a3 : Option Addr) (l3 : Nat) (c3 : Nat) (Q : Value → World → Prop) (w : World) : Prop :=
  let w1 := World.alloc w (Obj.cells #[.slice a3 l3 c3] 160);
  let w2 := World.alloc w1 (Obj.cells #[.slice none 0 0, .slice none 0 0, .int .i64 1, .pointer (some (Addr.mk w.heap.size 0 none)), .int .i64 0, .int .i64 0] 154);
  ∃ (I4 : List Value → World → Prop) (mu5 : List Value → World → Nat),
  I4 [.int .i64 0] w2 ∧
  ∀ (_ : Env) (n6 : Int) (w3 : World), I4 [.int .i64 n6] w3 →
  cond (decide (n6 < (((l1 : Nat) : Int))))
  ((0 ≤ (n6 : Int) ∧ (n6 : Int) < ((l1 : Nat) : Int)) ∧
  nn a1 (fun (q7 : Addr) =>
  ∃ (a8 : Option Addr) (l8 : Nat) (c8 : Nat), w3.cell? (Addr.add (Addr.add q7 (Int.toNat n6 * 2)) 1) = some ((.slice a8 l8 c8 : Value)) ∧
  CallR Tryz.prog 127 [.slice a8 l8 c8] w3 (fun (r11 : Value) (w4 : World) =>
  ∃ (p9 : Option Addr) (n10 : Int), r11 = .tuple #[.pointer p9, .int .i64 n10] ∧
  (0 ≤ (n6 : Int) ∧ (n6 : Int) < ((l1 : Nat) : Int)) ∧
  nn a1 (fun (q12 : Addr) =>
  ∃ (s13 : ByteArray), w4.cell? (Addr.add q12 (Int.toNat n6 * 2)) = some ((.string s13 : Value)) ∧
  let w5 := World.alloc w4 (Obj.cells #[.string s13, .int .i64 1, .pointer p9, .pointer none, .pointer none] 202);
  CallR Tryz.prog 128 [.pointer (some (Addr.mk w1.heap.size 0 none)), .pointer (some (Addr.mk w4.heap.size 0 none))] w5 (fun (r14 : Value) (w6 : World) =>
  r14 = .tuple #[] ∧
  inI (n6 + 1) ∧
  I4 [.int .i64 (n6 + 1)] w6 ∧ mu5 [.int .i64 (n6 + 1)] w6 < mu5 [.int .i64 n6] w3)))))
  (∃ (I15 : List Value → World → Prop) (mu16 : List Value → World → Nat),
  I15 [.int .i64 0] w3 ∧
  ∀ (_ : Env) (n17 : Int) (w7 : World), I15 [.int .i64 n17] w7 →
  cond (decide (n17 < (((l2 : Nat) : Int))))
  ((0 ≤ (n17 : Int) ∧ (n17 : Int) < ((l2 : Nat) : Int)) ∧
  nn a2 (fun (q18 : Addr) =>
  ∃ (a19 : Option Addr) (l19 : Nat) (c19 : Nat), w7.cell? (Addr.add (Addr.add q18 (Int.toNat n17 * 2)) 1) = some ((.slice a19 l19 c19 : Value)) ∧
  CallR Tryz.prog 159 [.slice a19 l19 c19] w7 (fun (r22 : Value) (w8 : World) =>
  ∃ (p20 : Option Addr) (n21 : Int), r22 = .tuple #[.pointer p20, .int .i64 n21] ∧
  (0 ≤ (n17 : Int) ∧ (n17 : Int) < ((l2 : Nat) : Int)) ∧
  nn a2 (fun (q23 : Addr) =>
  ∃ (s24 : ByteArray), w8.cell? (Addr.add q23 (Int.toNat n17 * 2)) = some ((.string s24 : Value)) ∧
  let w9 := World.alloc w8 (Obj.cells #[.string s24, .int .i64 2, .pointer none, .pointer p20, .pointer none] 202);
  CallR Tryz.prog 128 [.pointer (some (Addr.mk w1.heap.size 0 none)), .pointer (some (Addr.mk w8.heap.size 0 none))] w9 (fun (r25 : Value) (w10 : World) =>
  r25 = .tuple #[] ∧
  inI (n17 + 1) ∧
  I15 [.int .i64 (n17 + 1)] w10 ∧ mu16 [.int .i64 (n17 + 1)] w10 < mu16 [.int .i64 n17] w7)))))
  (Q (.pointer (some (Addr.mk w1.heap.size 0 none))) w7))
theorem C60 {a1 : Option Addr} {l1 : Nat} {c1 : Nat} {a2 : Option Addr} {l2 : Nat} {c2 : Nat} {a3 : Option Addr} {l3 : Nat} {c3 : Nat} {Q : Value → World → Prop} {w : World} (h : L60 a1 l1 c1 a2 l2 c2 a3 l3 c3 Q w) : CallR Tryz.prog 60 [.slice a1 l1 c1, .slice a2 l2 c2, .slice a3 l3 c3] w Q :=
  fun_calls (A := A60) mixed Tryz.func60 (c := (Tryz.f60.body).getD .skip) rfl (by kernel_rfl) (Eq.mp (by kernel_rfl) h)
def A128 : Ann := ⟨[(2, [(4, .one (.int .i64))])], [], [], [(4, [0, 1, 2, 3, 4, 5, 6, 7, 8, 9, 10, 11, 12, 13, 14, 15, 16, 17, 18, 19, 20, 21, 22, 23, 24, 25, 26, 27, 28, 29])], [], []⟩
def L128 (p1 : Option Addr) (p2 : Option Addr) (Q : Value → World → Prop) (w : World) : Prop :=
  nn p1 (fun (q3 : Addr) =>
  ∃ (a4 : Option Addr) (l4 : Nat) (c4 : Nat), w.cell? q3 = some ((.slice a4 l4 c4 : Value)) ∧
  let w1 := World.alloc w (Obj.cells #[.pointer p2] 195);
  ∃ (a5 : Option Addr) (l5 : Nat) (c5 : Nat) (w2 : World), Sem.run Tryz.prog (Builtin.append_ #[150, 150] 150 #[.slice a4 l4 c4, .slice (some (Addr.mk w.heap.size 0 none)) 1 1]) w1 = .ok ((.slice a5 l5 c5 : Value)) w2 ∧
  nn p1 (fun (q6 : Addr) =>
  stC q6 (.slice a5 l5 c5) w2 (fun (w3 : World) =>
  nn p1 (fun (q7 : Addr) =>
  ∃ (a8 : Option Addr) (l8 : Nat) (c8 : Nat), w3.cell? q7 = some ((.slice a8 l8 c8 : Value)) ∧
  inI ((((l8 : Nat) : Int)) - 1) ∧
  ∃ (I9 : List Value → World → Prop) (mu10 : List Value → World → Nat),
  I9 [.int .i64 ((((l8 : Nat) : Int)) - 1)] w3 ∧
  ∀ (_ : Env) (n11 : Int) (w4 : World), I9 [.int .i64 n11] w4 →
  cond (decide (n11 > 0))
  (nn p1 (fun (q13 : Addr) =>
  ∃ (a14 : Option Addr) (l14 : Nat) (c14 : Nat), w4.cell? q13 = some ((.slice a14 l14 c14 : Value)) ∧
  inI (n11 - 1) ∧
  (0 ≤ (n11 - 1 : Int) ∧ (n11 - 1 : Int) < ((l14 : Nat) : Int)) ∧
  nn a14 (fun (q15 : Addr) =>
  ∃ (p16 : Option Addr), w4.cell? (Addr.add q15 (Int.toNat (n11 - 1))) = some ((.pointer p16 : Value)) ∧
  nn p16 (fun (q17 : Addr) =>
  ∃ (s18 : ByteArray), w4.cell? q17 = some ((.string s18 : Value)) ∧
  nn p2 (fun (q19 : Addr) =>
  ∃ (s20 : ByteArray), w4.cell? q19 = some ((.string s20 : Value)) ∧
  ∀ nd12 : Nat, let w5 := World.drewN w4 nd12;
  cond (!(Op.bytesLess (ByteArray.toList s18) (ByteArray.toList s20) || (ByteArray.toList s18 == ByteArray.toList s20)))
  (let w6 := World.drew w5;
  nn p1 (fun (q21 : Addr) =>
  ∃ (a22 : Option Addr) (l22 : Nat) (c22 : Nat), w6.cell? q21 = some ((.slice a22 l22 c22 : Value)) ∧
  nn p1 (fun (q23 : Addr) =>
  ∃ (a24 : Option Addr) (l24 : Nat) (c24 : Nat), w6.cell? q23 = some ((.slice a24 l24 c24 : Value)) ∧
  inI (n11 - 1) ∧
  nn p1 (fun (q25 : Addr) =>
  ∃ (a26 : Option Addr) (l26 : Nat) (c26 : Nat), w6.cell? q25 = some ((.slice a26 l26 c26 : Value)) ∧
  inI (n11 - 1) ∧
  (0 ≤ (n11 - 1 : Int) ∧ (n11 - 1 : Int) < ((l26 : Nat) : Int)) ∧
  nn a26 (fun (q27 : Addr) =>
  ∃ (p28 : Option Addr), w6.cell? (Addr.add q27 (Int.toNat (n11 - 1))) = some ((.pointer p28 : Value)) ∧
  nn p1 (fun (q29 : Addr) =>
  ∃ (a30 : Option Addr) (l30 : Nat) (c30 : Nat), w6.cell? q29 = some ((.slice a30 l30 c30 : Value)) ∧
  (0 ≤ (n11 : Int) ∧ (n11 : Int) < ((l30 : Nat) : Int)) ∧
  nn a30 (fun (q31 : Addr) =>
  ∃ (p32 : Option Addr), w6.cell? (Addr.add q31 (Int.toNat n11)) = some ((.pointer p32 : Value)) ∧
  (0 ≤ (n11 : Int) ∧ (n11 : Int) < ((l22 : Nat) : Int)) ∧
  nn a22 (fun (q33 : Addr) =>
  stC (Addr.add q33 (Int.toNat n11)) (.pointer p28) w6 (fun (w7 : World) =>
  (0 ≤ (n11 - 1 : Int) ∧ (n11 - 1 : Int) < ((l24 : Nat) : Int)) ∧
  nn a24 (fun (q34 : Addr) =>
  stC (Addr.add q34 (Int.toNat (n11 - 1))) (.pointer p32) w7 (fun (w8 : World) =>
  inI (n11 - 1) ∧
  I9 [.int .i64 (n11 - 1)] w8 ∧ mu10 [.int .i64 (n11 - 1)] w8 < mu10 [.int .i64 n11] w4)))))))))))
  (Q (.tuple #[]) w5))))))
  (∀ nd12 : Nat, let w5 := World.drewN w4 nd12;
  Q (.tuple #[]) w5)))))
theorem C128 {p1 : Option Addr} {p2 : Option Addr} {Q : Value → World → Prop} {w : World} (h : L128 p1 p2 Q w) : CallR Tryz.prog 128 [.pointer p1, .pointer p2] w Q :=
  fun_calls (A := A128) mixed Tryz.func128 (c := (Tryz.f128.body).getD .skip) rfl (by kernel_rfl) (Eq.mp (by kernel_rfl) h)
def A168 : Ann := ⟨[(2, [(5, .one (.int .i64))])], [], [], [], [], []⟩
def L168 (p1 : Option Addr) (n2 : Int) (Q : Value → World → Prop) (w : World) : Prop :=
  ∃ (I3 : List Value → World → Prop) (mu4 : List Value → World → Nat),
  I3 [.int .i64 0] w ∧
  ∀ (_ : Env) (n5 : Int) (w1 : World), I3 [.int .i64 n5] w1 →
  nn p1 (fun (q6 : Addr) =>
  ∃ (a7 : Option Addr) (l7 : Nat) (c7 : Nat), w1.cell? (Addr.add q6 1) = some ((.slice a7 l7 c7 : Value)) ∧
  cond (decide (n5 < (((l7 : Nat) : Int))))
  (nn p1 (fun (q8 : Addr) =>
  ∃ (a9 : Option Addr) (l9 : Nat) (c9 : Nat), w1.cell? (Addr.add q8 1) = some ((.slice a9 l9 c9 : Value)) ∧
  (0 ≤ (n5 : Int) ∧ (n5 : Int) < ((l9 : Nat) : Int)) ∧
  nn a9 (fun (q10 : Addr) =>
  ∃ (p11 : Option Addr), w1.cell? (Addr.add q10 (Int.toNat n5)) = some ((.pointer p11 : Value)) ∧
  nn p11 (fun (q12 : Addr) =>
  ∃ (n13 : Int), w1.cell? q12 = some ((.int .i64 n13 : Value)) ∧
  cond (n13 == n2)
  (nn p1 (fun (q14 : Addr) =>
  ∃ (a15 : Option Addr) (l15 : Nat) (c15 : Nat), w1.cell? (Addr.add q14 1) = some ((.slice a15 l15 c15 : Value)) ∧
  (0 ≤ (n5 : Int) ∧ (n5 : Int) < ((l15 : Nat) : Int)) ∧
  nn a15 (fun (q16 : Addr) =>
  ∃ (p17 : Option Addr), w1.cell? (Addr.add q16 (Int.toNat n5)) = some ((.pointer p17 : Value)) ∧
  Q (.pointer p17) w1)))
  (inI (n5 + 1) ∧
  I3 [.int .i64 (n5 + 1)] w1 ∧ mu4 [.int .i64 (n5 + 1)] w1 < mu4 [.int .i64 n5] w1)))))
  (Q (.pointer none) w1))
theorem C168 {p1 : Option Addr} {n2 : Int} {Q : Value → World → Prop} {w : World} (h : L168 p1 n2 Q w) : CallR Tryz.prog 168 [.pointer p1, .int .i64 n2] w Q :=
  fun_calls (A := A168) mixed Tryz.func168 (c := (Tryz.f168.body).getD .skip) rfl (by kernel_rfl) (Eq.mp (by kernel_rfl) h)
def A126 : Ann := ⟨[(2, [(5, .one (.int .i64))])], [], [], [], [], []⟩
def L126 (p1 : Option Addr) (s2 : ByteArray) (Q : Value → World → Prop) (w : World) : Prop :=
  ∃ (I3 : List Value → World → Prop) (mu4 : List Value → World → Nat),
  I3 [.int .i64 0] w ∧
  ∀ (_ : Env) (n5 : Int) (w1 : World), I3 [.int .i64 n5] w1 →
  nn p1 (fun (q6 : Addr) =>
  ∃ (a7 : Option Addr) (l7 : Nat) (c7 : Nat), w1.cell? q6 = some ((.slice a7 l7 c7 : Value)) ∧
  cond (decide (n5 < (((l7 : Nat) : Int))))
  (nn p1 (fun (q8 : Addr) =>
  ∃ (a9 : Option Addr) (l9 : Nat) (c9 : Nat), w1.cell? q8 = some ((.slice a9 l9 c9 : Value)) ∧
  (0 ≤ (n5 : Int) ∧ (n5 : Int) < ((l9 : Nat) : Int)) ∧
  nn a9 (fun (q10 : Addr) =>
  ∃ (p11 : Option Addr), w1.cell? (Addr.add q10 (Int.toNat n5)) = some ((.pointer p11 : Value)) ∧
  nn p11 (fun (q12 : Addr) =>
  ∃ (s13 : ByteArray), w1.cell? q12 = some ((.string s13 : Value)) ∧
  cond (ByteArray.toList s13 == ByteArray.toList s2)
  (nn p1 (fun (q14 : Addr) =>
  ∃ (a15 : Option Addr) (l15 : Nat) (c15 : Nat), w1.cell? q14 = some ((.slice a15 l15 c15 : Value)) ∧
  (0 ≤ (n5 : Int) ∧ (n5 : Int) < ((l15 : Nat) : Int)) ∧
  nn a15 (fun (q16 : Addr) =>
  ∃ (p17 : Option Addr), w1.cell? (Addr.add q16 (Int.toNat n5)) = some ((.pointer p17 : Value)) ∧
  Q (.pointer p17) w1)))
  (inI (n5 + 1) ∧
  I3 [.int .i64 (n5 + 1)] w1 ∧ mu4 [.int .i64 (n5 + 1)] w1 < mu4 [.int .i64 n5] w1)))))
  (Q (.pointer none) w1))
theorem C126 {p1 : Option Addr} {s2 : ByteArray} {Q : Value → World → Prop} {w : World} (h : L126 p1 s2 Q w) : CallR Tryz.prog 126 [.pointer p1, .string s2] w Q :=
  fun_calls (A := A126) mixed Tryz.func126 (c := (Tryz.f126.body).getD .skip) rfl (by kernel_rfl) (Eq.mp (by kernel_rfl) h)
def A122 : Ann := ⟨[], [], [], [], [(1, [0, 1, 2, 3, 4, 5, 6, 7, 8, 9, 10, 11, 12, 13], 14, [15, 16, 17])], []⟩
def L122 (p1 : Option Addr) (p2 : Option Addr) (n3 : Int) (Q : Value → World → Prop) (w : World) : Prop :=
  ∃ (S4 : World → Prop), S4 (World.drew w) ∧
  let w1 := World.drew w;
  nn p1 (fun (q5 : Addr) =>
  ∃ (a6 : Option Addr) (l6 : Nat) (c6 : Nat), (∀ wS : World, S4 wS → wS.cell? (Addr.add q5 1) = some ((.slice a6 l6 c6 : Value))) ∧
  nn p1 (fun (q7 : Addr) =>
  ∃ (n8 : Int), (∀ wS : World, S4 wS → wS.cell? (Addr.add q7 2) = some ((.int .i64 n8 : Value))) ∧
  let w2 := World.alloc w1 (Obj.cells #[.int .i64 n8, .pointer p2, .int .i64 n3, .int .i64 0, .int .i64 1] 268);
  S4 w2 ∧
  let w3 := World.alloc w2 (Obj.cells #[.pointer (some (Addr.mk w1.heap.size 0 none))] 265);
  S4 w3 ∧
  ∃ (a9 : Option Addr) (l9 : Nat) (c9 : Nat) (w4 : World), Sem.run Tryz.prog (Builtin.append_ #[151, 151] 151 #[.slice a6 l6 c6, .slice (some (Addr.mk w2.heap.size 0 none)) 1 1]) w3 = .ok ((.slice a9 l9 c9 : Value)) w4 ∧
  nn p1 (fun (q10 : Addr) =>
  stC (Addr.add q10 1) (.slice a9 l9 c9) w4 (fun (w5 : World) =>
  nn p1 (fun (q11 : Addr) =>
  ∃ (n12 : Int), w5.cell? (Addr.add q11 2) = some ((.int .i64 n12 : Value)) ∧
  inI (n12 + 1) ∧
  nn p1 (fun (q13 : Addr) =>
  stC (Addr.add q13 2) (.int .i64 (n12 + 1)) w5 (fun (w6 : World) =>
  nn p1 (fun (q14 : Addr) =>
  ∃ (n15 : Int), w6.cell? (Addr.add q14 2) = some ((.int .i64 n15 : Value)) ∧
  inI (n15 - 1) ∧
  Q (.int .i64 (n15 - 1)) w6))))))))
theorem C122 {p1 : Option Addr} {p2 : Option Addr} {n3 : Int} {Q : Value → World → Prop} {w : World} (h : L122 p1 p2 n3 Q w) : CallR Tryz.prog 122 [.pointer p1, .pointer p2, .int .i64 n3] w Q :=
  fun_calls (A := A122) mixed Tryz.func122 (c := (Tryz.f122.body).getD .skip) rfl (by kernel_rfl) (Eq.mp (by kernel_rfl) h)
def A125 : Ann := ⟨[], [], [], [], [], []⟩
def L125 (n1 : Int) (Q : Value → World → Prop) (w : World) : Prop :=
  cond (decide (n1 < 0))
  (Q (.bool false) w)
  (cond (decide (n1 > 63))
  (Q (.bool false) w)
  (cond ((IntKind.wrap .i64 ↑(BitVec.ofInt (IntKind.bits .i64) n1 &&& BitVec.ofInt (IntKind.bits .i64) 3).toNat) == 0)
  (Q (.bool false) w)
  (cond ((IntKind.wrap .i64 ↑(BitVec.ofInt (IntKind.bits .i64) n1 &&& BitVec.ofInt (IntKind.bits .i64) 20).toNat) != 0)
  (cond ((IntKind.wrap .i64 ↑(BitVec.ofInt (IntKind.bits .i64) n1 &&& BitVec.ofInt (IntKind.bits .i64) 2).toNat) == 0)
  (Q (.bool false) w)
  (cond ((IntKind.wrap .i64 ↑(BitVec.ofInt (IntKind.bits .i64) n1 &&& BitVec.ofInt (IntKind.bits .i64) 32).toNat) == 0)
  (Q (.bool true) w)
  (Q (.bool ((IntKind.wrap .i64 ↑(BitVec.ofInt (IntKind.bits .i64) n1 &&& BitVec.ofInt (IntKind.bits .i64) 8).toNat) != 0)) w)))
  (cond ((IntKind.wrap .i64 ↑(BitVec.ofInt (IntKind.bits .i64) n1 &&& BitVec.ofInt (IntKind.bits .i64) 32).toNat) == 0)
  (Q (.bool true) w)
  (Q (.bool ((IntKind.wrap .i64 ↑(BitVec.ofInt (IntKind.bits .i64) n1 &&& BitVec.ofInt (IntKind.bits .i64) 8).toNat) != 0)) w)))))
theorem C125 {n1 : Int} {Q : Value → World → Prop} {w : World} (h : L125 n1 Q w) : CallR Tryz.prog 125 [.int .i64 n1] w Q :=
  fun_calls (A := A125) mixed Tryz.func125 (c := (Tryz.f125.body).getD .skip) rfl (by kernel_rfl) (Eq.mp (by kernel_rfl) h)
def A31 : Ann := ⟨[], [(20, [(8, .one (.ptr))])], [], [], [], []⟩
def L31 (p1 : Option Addr) (s2 : ByteArray) (n3 : Int) (Q : Value → World → Prop) (w : World) : Prop :=
  CallR Tryz.prog 56 [.string s2] w (fun (r5 : Value) (w1 : World) =>
  ∃ (b4 : Bool), r5 = .bool b4 ∧
  cond (!b4)
  (Q (.tuple #[.int .i64 0, .int .i64 61]) w1)
  (CallR Tryz.prog 125 [.int .i64 n3] w1 (fun (r7 : Value) (w2 : World) =>
  ∃ (b6 : Bool), r7 = .bool b6 ∧
  cond (!b6)
  (Q (.tuple #[.int .i64 0, .int .i64 65]) w2)
  (nn p1 (fun (q8 : Addr) =>
  ∃ (a9 : Option Addr) (l9 : Nat) (c9 : Nat), w2.cell? (Addr.add q8 1) = some ((.slice a9 l9 c9 : Value)) ∧
  cond (decide ((((l9 : Nat) : Int)) ≥ 256))
  (Q (.tuple #[.int .i64 0, .int .i64 3]) w2)
  (CallR Tryz.prog 126 [.pointer p1, .string s2] w2 (fun (r11 : Value) (w3 : World) =>
  ∃ (p10 : Option Addr), r11 = .pointer p10 ∧
  ∃ (J12 : List Value → World → Prop),
  (cond (!(Option.isNone p10))
  (cond ((IntKind.wrap .i64 ↑(BitVec.ofInt (IntKind.bits .i64) n3 &&& BitVec.ofInt (IntKind.bits .i64) 32).toNat) != 0)
  (Q (.tuple #[.int .i64 0, .int .i64 63]) w3)
  (cond (Option.isNone p10)
  (cond ((IntKind.wrap .i64 ↑(BitVec.ofInt (IntKind.bits .i64) n3 &&& BitVec.ofInt (IntKind.bits .i64) 8).toNat) == 0)
  (Q (.tuple #[.int .i64 0, .int .i64 62]) w3)
  (cond (Option.isNone p10)
  (nn p1 (fun (q13 : Addr) =>
  ∃ (a14 : Option Addr) (l14 : Nat) (c14 : Nat), w3.cell? q13 = some ((.slice a14 l14 c14 : Value)) ∧
  cond (decide ((((l14 : Nat) : Int)) ≥ 256))
  (Q (.tuple #[.int .i64 0, .int .i64 3]) w3)
  (cond (Option.isNone p10)
  (CallR Tryz.prog 127 [.slice none 0 0] w3 (fun (r17 : Value) (w4 : World) =>
  ∃ (p15 : Option Addr) (n16 : Int), r17 = .tuple #[.pointer p15, .int .i64 n16] ∧
  let w5 := World.alloc w4 (Obj.cells #[.string s2, .int .i64 1, .pointer p15, .pointer none, .pointer none] 202);
  CallR Tryz.prog 128 [.pointer p1, .pointer (some (Addr.mk w4.heap.size 0 none))] w5 (fun (r18 : Value) (w6 : World) =>
  r18 = .tuple #[] ∧
  J12 [.pointer (some (Addr.mk w4.heap.size 0 none))] w6)))
  (nn p10 (fun (q19 : Addr) =>
  ∃ (n20 : Int), w3.cell? (Addr.add q19 1) = some ((.int .i64 n20 : Value)) ∧
  cond (n20 == 1)
  (cond ((IntKind.wrap .i64 ↑(BitVec.ofInt (IntKind.bits .i64) n3 &&& BitVec.ofInt (IntKind.bits .i64) 16).toNat) != 0)
  (nn p10 (fun (q21 : Addr) =>
  ∃ (p22 : Option Addr), w3.cell? (Addr.add q21 2) = some ((.pointer p22 : Value)) ∧
  nn p22 (fun (q23 : Addr) =>
  stC q23 (.slice none 0 0) w3 (fun (w7 : World) =>
  J12 [.pointer p10] w7))))
  (J12 [.pointer p10] w3))
  (J12 [.pointer p10] w3))))))
  (cond (Option.isNone p10)
  (CallR Tryz.prog 127 [.slice none 0 0] w3 (fun (r26 : Value) (w8 : World) =>
  ∃ (p24 : Option Addr) (n25 : Int), r26 = .tuple #[.pointer p24, .int .i64 n25] ∧
  let w9 := World.alloc w8 (Obj.cells #[.string s2, .int .i64 1, .pointer p24, .pointer none, .pointer none] 202);
  CallR Tryz.prog 128 [.pointer p1, .pointer (some (Addr.mk w8.heap.size 0 none))] w9 (fun (r27 : Value) (w10 : World) =>
  r27 = .tuple #[] ∧
  J12 [.pointer (some (Addr.mk w8.heap.size 0 none))] w10)))
  (nn p10 (fun (q28 : Addr) =>
  ∃ (n29 : Int), w3.cell? (Addr.add q28 1) = some ((.int .i64 n29 : Value)) ∧
  cond (n29 == 1)
  (cond ((IntKind.wrap .i64 ↑(BitVec.ofInt (IntKind.bits .i64) n3 &&& BitVec.ofInt (IntKind.bits .i64) 16).toNat) != 0)
  (nn p10 (fun (q30 : Addr) =>
  ∃ (p31 : Option Addr), w3.cell? (Addr.add q30 2) = some ((.pointer p31 : Value)) ∧
  nn p31 (fun (q32 : Addr) =>
  stC q32 (.slice none 0 0) w3 (fun (w11 : World) =>
  J12 [.pointer p10] w11))))
  (J12 [.pointer p10] w3))
  (J12 [.pointer p10] w3))))))
  (cond (Option.isNone p10)
  (nn p1 (fun (q33 : Addr) =>
  ∃ (a34 : Option Addr) (l34 : Nat) (c34 : Nat), w3.cell? q33 = some ((.slice a34 l34 c34 : Value)) ∧
  cond (decide ((((l34 : Nat) : Int)) ≥ 256))
  (Q (.tuple #[.int .i64 0, .int .i64 3]) w3)
  (cond (Option.isNone p10)
  (CallR Tryz.prog 127 [.slice none 0 0] w3 (fun (r37 : Value) (w12 : World) =>
  ∃ (p35 : Option Addr) (n36 : Int), r37 = .tuple #[.pointer p35, .int .i64 n36] ∧
  let w13 := World.alloc w12 (Obj.cells #[.string s2, .int .i64 1, .pointer p35, .pointer none, .pointer none] 202);
  CallR Tryz.prog 128 [.pointer p1, .pointer (some (Addr.mk w12.heap.size 0 none))] w13 (fun (r38 : Value) (w14 : World) =>
  r38 = .tuple #[] ∧
  J12 [.pointer (some (Addr.mk w12.heap.size 0 none))] w14)))
  (nn p10 (fun (q39 : Addr) =>
  ∃ (n40 : Int), w3.cell? (Addr.add q39 1) = some ((.int .i64 n40 : Value)) ∧
  cond (n40 == 1)
  (cond ((IntKind.wrap .i64 ↑(BitVec.ofInt (IntKind.bits .i64) n3 &&& BitVec.ofInt (IntKind.bits .i64) 16).toNat) != 0)
  (nn p10 (fun (q41 : Addr) =>
  ∃ (p42 : Option Addr), w3.cell? (Addr.add q41 2) = some ((.pointer p42 : Value)) ∧
  nn p42 (fun (q43 : Addr) =>
  stC q43 (.slice none 0 0) w3 (fun (w15 : World) =>
  J12 [.pointer p10] w15))))
  (J12 [.pointer p10] w3))
  (J12 [.pointer p10] w3))))))
  (cond (Option.isNone p10)
  (CallR Tryz.prog 127 [.slice none 0 0] w3 (fun (r46 : Value) (w16 : World) =>
  ∃ (p44 : Option Addr) (n45 : Int), r46 = .tuple #[.pointer p44, .int .i64 n45] ∧
  let w17 := World.alloc w16 (Obj.cells #[.string s2, .int .i64 1, .pointer p44, .pointer none, .pointer none] 202);
  CallR Tryz.prog 128 [.pointer p1, .pointer (some (Addr.mk w16.heap.size 0 none))] w17 (fun (r47 : Value) (w18 : World) =>
  r47 = .tuple #[] ∧
  J12 [.pointer (some (Addr.mk w16.heap.size 0 none))] w18)))
  (nn p10 (fun (q48 : Addr) =>
  ∃ (n49 : Int), w3.cell? (Addr.add q48 1) = some ((.int .i64 n49 : Value)) ∧
  cond (n49 == 1)
  (cond ((IntKind.wrap .i64 ↑(BitVec.ofInt (IntKind.bits .i64) n3 &&& BitVec.ofInt (IntKind.bits .i64) 16).toNat) != 0)
  (nn p10 (fun (q50 : Addr) =>
  ∃ (p51 : Option Addr), w3.cell? (Addr.add q50 2) = some ((.pointer p51 : Value)) ∧
  nn p51 (fun (q52 : Addr) =>
  stC q52 (.slice none 0 0) w3 (fun (w19 : World) =>
  J12 [.pointer p10] w19))))
  (J12 [.pointer p10] w3))
  (J12 [.pointer p10] w3)))))))
  (cond (Option.isNone p10)
  (cond ((IntKind.wrap .i64 ↑(BitVec.ofInt (IntKind.bits .i64) n3 &&& BitVec.ofInt (IntKind.bits .i64) 8).toNat) == 0)
  (Q (.tuple #[.int .i64 0, .int .i64 62]) w3)
  (cond (Option.isNone p10)
  (nn p1 (fun (q53 : Addr) =>
  ∃ (a54 : Option Addr) (l54 : Nat) (c54 : Nat), w3.cell? q53 = some ((.slice a54 l54 c54 : Value)) ∧
  cond (decide ((((l54 : Nat) : Int)) ≥ 256))
  (Q (.tuple #[.int .i64 0, .int .i64 3]) w3)
  (cond (Option.isNone p10)
  (CallR Tryz.prog 127 [.slice none 0 0] w3 (fun (r57 : Value) (w20 : World) =>
  ∃ (p55 : Option Addr) (n56 : Int), r57 = .tuple #[.pointer p55, .int .i64 n56] ∧
  let w21 := World.alloc w20 (Obj.cells #[.string s2, .int .i64 1, .pointer p55, .pointer none, .pointer none] 202);
  CallR Tryz.prog 128 [.pointer p1, .pointer (some (Addr.mk w20.heap.size 0 none))] w21 (fun (r58 : Value) (w22 : World) =>
  r58 = .tuple #[] ∧
  J12 [.pointer (some (Addr.mk w20.heap.size 0 none))] w22)))
  (nn p10 (fun (q59 : Addr) =>
  ∃ (n60 : Int), w3.cell? (Addr.add q59 1) = some ((.int .i64 n60 : Value)) ∧
  cond (n60 == 1)
  (cond ((IntKind.wrap .i64 ↑(BitVec.ofInt (IntKind.bits .i64) n3 &&& BitVec.ofInt (IntKind.bits .i64) 16).toNat) != 0)
  (nn p10 (fun (q61 : Addr) =>
  ∃ (p62 : Option Addr), w3.cell? (Addr.add q61 2) = some ((.pointer p62 : Value)) ∧
  nn p62 (fun (q63 : Addr) =>
  stC q63 (.slice none 0 0) w3 (fun (w23 : World) =>
  J12 [.pointer p10] w23))))
  (J12 [.pointer p10] w3))
  (J12 [.pointer p10] w3))))))
  (cond (Option.isNone p10)
  (CallR Tryz.prog 127 [.slice none 0 0] w3 (fun (r66 : Value) (w24 : World) =>
  ∃ (p64 : Option Addr) (n65 : Int), r66 = .tuple #[.pointer p64, .int .i64 n65] ∧
  let w25 := World.alloc w24 (Obj.cells #[.string s2, .int .i64 1, .pointer p64, .pointer none, .pointer none] 202);
  CallR Tryz.prog 128 [.pointer p1, .pointer (some (Addr.mk w24.heap.size 0 none))] w25 (fun (r67 : Value) (w26 : World) =>
  r67 = .tuple #[] ∧
  J12 [.pointer (some (Addr.mk w24.heap.size 0 none))] w26)))
  (nn p10 (fun (q68 : Addr) =>
  ∃ (n69 : Int), w3.cell? (Addr.add q68 1) = some ((.int .i64 n69 : Value)) ∧
  cond (n69 == 1)
  (cond ((IntKind.wrap .i64 ↑(BitVec.ofInt (IntKind.bits .i64) n3 &&& BitVec.ofInt (IntKind.bits .i64) 16).toNat) != 0)
  (nn p10 (fun (q70 : Addr) =>
  ∃ (p71 : Option Addr), w3.cell? (Addr.add q70 2) = some ((.pointer p71 : Value)) ∧
  nn p71 (fun (q72 : Addr) =>
  stC q72 (.slice none 0 0) w3 (fun (w27 : World) =>
  J12 [.pointer p10] w27))))
  (J12 [.pointer p10] w3))
  (J12 [.pointer p10] w3))))))
  (cond (Option.isNone p10)
  (nn p1 (fun (q73 : Addr) =>
  ∃ (a74 : Option Addr) (l74 : Nat) (c74 : Nat), w3.cell? q73 = some ((.slice a74 l74 c74 : Value)) ∧
  cond (decide ((((l74 : Nat) : Int)) ≥ 256))
  (Q (.tuple #[.int .i64 0, .int .i64 3]) w3)
  (cond (Option.isNone p10)
  (CallR Tryz.prog 127 [.slice none 0 0] w3 (fun (r77 : Value) (w28 : World) =>
  ∃ (p75 : Option Addr) (n76 : Int), r77 = .tuple #[.pointer p75, .int .i64 n76] ∧
  let w29 := World.alloc w28 (Obj.cells #[.string s2, .int .i64 1, .pointer p75, .pointer none, .pointer none] 202);
  CallR Tryz.prog 128 [.pointer p1, .pointer (some (Addr.mk w28.heap.size 0 none))] w29 (fun (r78 : Value) (w30 : World) =>
  r78 = .tuple #[] ∧
  J12 [.pointer (some (Addr.mk w28.heap.size 0 none))] w30)))
  (nn p10 (fun (q79 : Addr) =>
  ∃ (n80 : Int), w3.cell? (Addr.add q79 1) = some ((.int .i64 n80 : Value)) ∧
  cond (n80 == 1)
  (cond ((IntKind.wrap .i64 ↑(BitVec.ofInt (IntKind.bits .i64) n3 &&& BitVec.ofInt (IntKind.bits .i64) 16).toNat) != 0)
  (nn p10 (fun (q81 : Addr) =>
  ∃ (p82 : Option Addr), w3.cell? (Addr.add q81 2) = some ((.pointer p82 : Value)) ∧
  nn p82 (fun (q83 : Addr) =>
  stC q83 (.slice none 0 0) w3 (fun (w31 : World) =>
  J12 [.pointer p10] w31))))
  (J12 [.pointer p10] w3))
  (J12 [.pointer p10] w3))))))
  (cond (Option.isNone p10)
  (CallR Tryz.prog 127 [.slice none 0 0] w3 (fun (r86 : Value) (w32 : World) =>
  ∃ (p84 : Option Addr) (n85 : Int), r86 = .tuple #[.pointer p84, .int .i64 n85] ∧
  let w33 := World.alloc w32 (Obj.cells #[.string s2, .int .i64 1, .pointer p84, .pointer none, .pointer none] 202);
  CallR Tryz.prog 128 [.pointer p1, .pointer (some (Addr.mk w32.heap.size 0 none))] w33 (fun (r87 : Value) (w34 : World) =>
  r87 = .tuple #[] ∧
  J12 [.pointer (some (Addr.mk w32.heap.size 0 none))] w34)))
  (nn p10 (fun (q88 : Addr) =>
  ∃ (n89 : Int), w3.cell? (Addr.add q88 1) = some ((.int .i64 n89 : Value)) ∧
  cond (n89 == 1)
  (cond ((IntKind.wrap .i64 ↑(BitVec.ofInt (IntKind.bits .i64) n3 &&& BitVec.ofInt (IntKind.bits .i64) 16).toNat) != 0)
  (nn p10 (fun (q90 : Addr) =>
  ∃ (p91 : Option Addr), w3.cell? (Addr.add q90 2) = some ((.pointer p91 : Value)) ∧
  nn p91 (fun (q92 : Addr) =>
  stC q92 (.slice none 0 0) w3 (fun (w35 : World) =>
  J12 [.pointer p10] w35))))
  (J12 [.pointer p10] w3))
  (J12 [.pointer p10] w3))))))) ∧
  (∀ (_ : Env) (p93 : Option Addr) (w36 : World), J12 [.pointer p93] w36 →
  CallR Tryz.prog 122 [.pointer p1, .pointer p93, .int .i64 n3] w36 (fun (r95 : Value) (w37 : World) =>
  ∃ (n94 : Int), r95 = .int .i64 n94 ∧
  Q (.tuple #[.int .i64 n94, .int .i64 0]) w37)))))))))
theorem C31 {p1 : Option Addr} {s2 : ByteArray} {n3 : Int} {Q : Value → World → Prop} {w : World} (h : L31 p1 s2 n3 Q w) : CallR Tryz.prog 31 [.pointer p1, .string s2, .int .i64 n3] w Q :=
  fun_calls (A := A31) mixed Tryz.func31 (c := (Tryz.f31.body).getD .skip) rfl (by kernel_rfl) (Eq.mp (by kernel_rfl) h)
def A29 : Ann := ⟨[], [], [], [], [], []⟩
def L29 (p1 : Option Addr) (Q : Value → World → Prop) (w : World) : Prop :=
  nn p1 (fun (q2 : Addr) =>
  ∃ (a3 : Option Addr) (l3 : Nat) (c3 : Nat), w.cell? (Addr.add q2 1) = some ((.slice a3 l3 c3 : Value)) ∧
  cond (decide ((((l3 : Nat) : Int)) > 254))
  (Q (.tuple #[.int .i64 0, .int .i64 0, .int .i64 3]) w)
  (let w1 := World.alloc w (Obj.cells #[.slice none 0 0, .int .i64 1, .int .i64 1] 198);
  let w2 := World.alloc w1 (Obj.cells #[.string (ByteArray.mk #[]), .int .i64 3, .pointer none, .pointer none, .pointer (some (Addr.mk w.heap.size 0 none))] 202);
  CallR Tryz.prog 122 [.pointer p1, .pointer (some (Addr.mk w1.heap.size 0 none)), .int .i64 1] w2 (fun (r5 : Value) (w3 : World) =>
  ∃ (n4 : Int), r5 = .int .i64 n4 ∧
  CallR Tryz.prog 122 [.pointer p1, .pointer (some (Addr.mk w1.heap.size 0 none)), .int .i64 2] w3 (fun (r7 : Value) (w4 : World) =>
  ∃ (n6 : Int), r7 = .int .i64 n6 ∧
  Q (.tuple #[.int .i64 n4, .int .i64 n6, .int .i64 0]) w4))))
theorem C29 {p1 : Option Addr} {Q : Value → World → Prop} {w : World} (h : L29 p1 Q w) : CallR Tryz.prog 29 [.pointer p1] w Q :=
  fun_calls (A := A29) mixed Tryz.func29 (c := (Tryz.f29.body).getD .skip) rfl (by kernel_rfl) (Eq.mp (by kernel_rfl) h)
def A65 : Ann := ⟨[], [(12, [])], [], [(21, [0, 1, 2, 3, 4, 5, 6, 7, 8, 9, 10, 11, 12, 13, 14, 15, 16])], [], []⟩
def L65 (p1 : Option Addr) (n2 : Int) (n3 : Int) (Q : Value → World → Prop) (w : World) : Prop :=
  CallR Tryz.prog 168 [.pointer p1, .int .i64 n2] w (fun (r5 : Value) (w1 : World) =>
  ∃ (p4 : Option Addr), r5 = .pointer p4 ∧
  ∃ (J6 : List Value → World → Prop),
  (cond (Option.isNone p4)
  (Q (.tuple #[.slice none 0 0, .int .i64 64]) w1)
  (nn p4 (fun (q7 : Addr) =>
  ∃ (n8 : Int), w1.cell? (Addr.add q7 2) = some ((.int .i64 n8 : Value)) ∧
  cond ((IntKind.wrap .i64 ↑(BitVec.ofInt (IntKind.bits .i64) n8 &&& BitVec.ofInt (IntKind.bits .i64) 1).toNat) == 0)
  (Q (.tuple #[.slice none 0 0, .int .i64 65]) w1)
  (cond (decide (n3 < 0))
  (Q (.tuple #[.slice none 0 0, .int .i64 4]) w1)
  (cond (decide (n3 > 1048576))
  (Q (.tuple #[.slice none 0 0, .int .i64 4]) w1)
  (cond (n3 == 0)
  (Q (.tuple #[.slice none 0 0, .int .i64 0]) w1)
  (nn p4 (fun (q9 : Addr) =>
  ∃ (p10 : Option Addr), w1.cell? (Addr.add q9 1) = some ((.pointer p10 : Value)) ∧
  nn p10 (fun (q11 : Addr) =>
  ∃ (n12 : Int), w1.cell? (Addr.add q11 1) = some ((.int .i64 n12 : Value)) ∧
  cond (n12 == 3)
  (nn p4 (fun (q13 : Addr) =>
  ∃ (p14 : Option Addr), w1.cell? (Addr.add q13 1) = some ((.pointer p14 : Value)) ∧
  nn p14 (fun (q15 : Addr) =>
  ∃ (p16 : Option Addr), w1.cell? (Addr.add q15 4) = some ((.pointer p16 : Value)) ∧
  CallR Tryz.prog 169 [.pointer p16] w1 (fun (r18 : Value) (w2 : World) =>
  ∃ (b17 : Bool), r18 = .bool b17 ∧
  cond (!b17)
  (Q (.tuple #[.slice none 0 0, .int .i64 52]) w2)
  (J6 [] w2)))))
  (J6 [] w1)))))))))) ∧
  (∀ (_ : Env) (w3 : World), J6 [] w3 →
  nn p1 (fun (q19 : Addr) =>
  ∃ (n20 : Int), w3.cell? (Addr.add q19 4) = some ((.int .i64 n20 : Value)) ∧
  inI (n20 + 1) ∧
  nn p1 (fun (q21 : Addr) =>
  stC (Addr.add q21 4) (.int .i64 (n20 + 1)) w3 (fun (w4 : World) =>
  nn p1 (fun (q22 : Addr) =>
  ∃ (p23 : Option Addr), w4.cell? (Addr.add q22 3) = some ((.pointer p23 : Value)) ∧
  CallR Tryz.prog 170 [.pointer p23, .int .i64 n3] w4 (fun (r26 : Value) (w5 : World) =>
  ∃ (n24 : Int) (n25 : Int), r26 = .tuple #[.int .i64 n24, .int .i64 n25] ∧
  cond (n25 != 0)
  (Q (.tuple #[.slice none 0 0, .int .i64 n25]) w5)
  (nn p4 (fun (q27 : Addr) =>
  ∃ (p28 : Option Addr), w5.cell? (Addr.add q27 1) = some ((.pointer p28 : Value)) ∧
  nn p28 (fun (q29 : Addr) =>
  ∃ (n30 : Int), w5.cell? (Addr.add q29 1) = some ((.int .i64 n30 : Value)) ∧
  cond (n30 == 2)
  (nn p4 (fun (q31 : Addr) =>
  ∃ (p32 : Option Addr), w5.cell? (Addr.add q31 1) = some ((.pointer p32 : Value)) ∧
  nn p32 (fun (q33 : Addr) =>
  ∃ (p34 : Option Addr), w5.cell? (Addr.add q33 3) = some ((.pointer p34 : Value)) ∧
  CallR Tryz.prog 171 [.pointer p34, .int .i64 n24] w5 (fun (r37 : Value) (w6 : World) =>
  ∃ (a35 : Option Addr) (l35 : Nat) (c35 : Nat) (n36 : Int), r37 = .tuple #[.slice a35 l35 c35, .int .i64 n36] ∧
  Q (.tuple #[.slice a35 l35 c35, .int .i64 n36]) w6))))
  (cond (n30 == 3)
  (nn p4 (fun (q38 : Addr) =>
  ∃ (p39 : Option Addr), w5.cell? (Addr.add q38 1) = some ((.pointer p39 : Value)) ∧
  nn p39 (fun (q40 : Addr) =>
  ∃ (p41 : Option Addr), w5.cell? (Addr.add q40 4) = some ((.pointer p41 : Value)) ∧
  CallR Tryz.prog 172 [.pointer p41, .int .i64 n24] w5 (fun (r44 : Value) (w7 : World) =>
  ∃ (a42 : Option Addr) (l42 : Nat) (c42 : Nat) (n43 : Int), r44 = .tuple #[.slice a42 l42 c42, .int .i64 n43] ∧
  Q (.tuple #[.slice a42 l42 c42, .int .i64 n43]) w7))))
  (let w8 := World.drew w5;
  nn p4 (fun (q45 : Addr) =>
  ∃ (p46 : Option Addr), w8.cell? (Addr.add q45 1) = some ((.pointer p46 : Value)) ∧
  nn p46 (fun (q47 : Addr) =>
  ∃ (p48 : Option Addr), w8.cell? (Addr.add q47 2) = some ((.pointer p48 : Value)) ∧
  nn p48 (fun (q49 : Addr) =>
  ∃ (a50 : Option Addr) (l50 : Nat) (c50 : Nat), w8.cell? q49 = some ((.slice a50 l50 c50 : Value)) ∧
  nn p4 (fun (q51 : Addr) =>
  ∃ (n52 : Int), w8.cell? (Addr.add q51 3) = some ((.int .i64 n52 : Value)) ∧
  CallR Tryz.prog 148 [.slice a50 l50 c50, .int .i64 n52, .int .i64 n24] w8 (fun (r54 : Value) (w9 : World) =>
  ∃ (a53 : Option Addr) (l53 : Nat) (c53 : Nat), r54 = .slice a53 l53 c53 ∧
  nn p4 (fun (q55 : Addr) =>
  ∃ (n56 : Int), w9.cell? (Addr.add q55 3) = some ((.int .i64 n56 : Value)) ∧
  inI (n56 + (((l53 : Nat) : Int))) ∧
  nn p4 (fun (q57 : Addr) =>
  stC (Addr.add q57 3) (.int .i64 (n56 + (((l53 : Nat) : Int)))) w9 (fun (w10 : World) =>
  Q (.tuple #[.slice a53 l53 c53, .int .i64 0]) w10))))))))))))))))))))
theorem C65 {p1 : Option Addr} {n2 : Int} {n3 : Int} {Q : Value → World → Prop} {w : World} (h : L65 p1 n2 n3 Q w) : CallR Tryz.prog 65 [.pointer p1, .int .i64 n2, .int .i64 n3] w Q :=
  fun_calls (A := A65) mixed Tryz.func65 (c := (Tryz.f65.body).getD .skip) rfl (by kernel_rfl) (Eq.mp (by kernel_rfl) h)
def A174 : Ann := ⟨[], [], [], [], [], []⟩
def L174 (p1 : Option Addr) (Q : Value → World → Prop) (w : World) : Prop :=
  nn p1 (fun (q2 : Addr) =>
  ∃ (p3 : Option Addr), w.cell? (Addr.add q2 1) = some ((.pointer p3 : Value)) ∧
  nn p3 (fun (q4 : Addr) =>
  ∃ (n5 : Int), w.cell? (Addr.add q4 1) = some ((.int .i64 n5 : Value)) ∧
  cond (n5 == 2)
  (nn p1 (fun (q6 : Addr) =>
  ∃ (p7 : Option Addr), w.cell? (Addr.add q6 1) = some ((.pointer p7 : Value)) ∧
  nn p7 (fun (q8 : Addr) =>
  ∃ (p9 : Option Addr), w.cell? (Addr.add q8 3) = some ((.pointer p9 : Value)) ∧
  nn p9 (fun (q10 : Addr) =>
  ∃ (a11 : Option Addr) (l11 : Nat) (c11 : Nat), w.cell? (Addr.add q10 1) = some ((.slice a11 l11 c11 : Value)) ∧
  inI ((1048576 : Int) - (((l11 : Nat) : Int))) ∧
  Q (.int .i64 ((1048576 : Int) - (((l11 : Nat) : Int)))) w))))
  (nn p1 (fun (q12 : Addr) =>
  ∃ (n13 : Int), w.cell? (Addr.add q12 2) = some ((.int .i64 n13 : Value)) ∧
  cond ((IntKind.wrap .i64 ↑(BitVec.ofInt (IntKind.bits .i64) n13 &&& BitVec.ofInt (IntKind.bits .i64) 4).toNat) != 0)
  (nn p1 (fun (q14 : Addr) =>
  ∃ (p15 : Option Addr), w.cell? (Addr.add q14 1) = some ((.pointer p15 : Value)) ∧
  nn p15 (fun (q16 : Addr) =>
  ∃ (p17 : Option Addr), w.cell? (Addr.add q16 2) = some ((.pointer p17 : Value)) ∧
  nn p17 (fun (q18 : Addr) =>
  ∃ (a19 : Option Addr) (l19 : Nat) (c19 : Nat), w.cell? q18 = some ((.slice a19 l19 c19 : Value)) ∧
  inI ((1048576 : Int) - (((l19 : Nat) : Int))) ∧
  Q (.int .i64 ((1048576 : Int) - (((l19 : Nat) : Int)))) w))))
  (nn p1 (fun (q20 : Addr) =>
  ∃ (n21 : Int), w.cell? (Addr.add q20 3) = some ((.int .i64 n21 : Value)) ∧
  inI ((1048576 : Int) - n21) ∧
  Q (.int .i64 ((1048576 : Int) - n21)) w))))))
theorem C174 {p1 : Option Addr} {Q : Value → World → Prop} {w : World} (h : L174 p1 Q w) : CallR Tryz.prog 174 [.pointer p1] w Q :=
  fun_calls (A := A174) mixed Tryz.func174 (c := (Tryz.f174.body).getD .skip) rfl (by kernel_rfl) (Eq.mp (by kernel_rfl) h)
def A67 : Ann := ⟨[], [(16, []), (28, [])], [], [(24, [0, 1, 2, 3, 4, 5, 6, 7, 8, 9, 10]), (28, [0, 1, 2, 3, 4, 5, 6, 7, 8, 9, 10, 11, 12, 13, 14])], [], []⟩
def L67 (p1 : Option Addr) (n2 : Int) (a3 : Option Addr) (l3 : Nat) (c3 : Nat) (Q : Value → World → Prop) (w : World) : Prop :=
  CallR Tryz.prog 168 [.pointer p1, .int .i64 n2] w (fun (r5 : Value) (w1 : World) =>
  ∃ (p4 : Option Addr), r5 = .pointer p4 ∧
  ∃ (J6 : List Value → World → Prop),
  (cond (Option.isNone p4)
  (Q (.tuple #[.int .i64 0, .int .i64 64]) w1)
  (nn p4 (fun (q7 : Addr) =>
  ∃ (n8 : Int), w1.cell? (Addr.add q7 2) = some ((.int .i64 n8 : Value)) ∧
  cond ((IntKind.wrap .i64 ↑(BitVec.ofInt (IntKind.bits .i64) n8 &&& BitVec.ofInt (IntKind.bits .i64) 2).toNat) == 0)
  (Q (.tuple #[.int .i64 0, .int .i64 65]) w1)
  (cond (decide ((((l3 : Nat) : Int)) > 1048576))
  (Q (.tuple #[.int .i64 0, .int .i64 5]) w1)
  (cond ((((l3 : Nat) : Int)) == 0)
  (Q (.tuple #[.int .i64 0, .int .i64 0]) w1)
  (nn p4 (fun (q9 : Addr) =>
  ∃ (p10 : Option Addr), w1.cell? (Addr.add q9 1) = some ((.pointer p10 : Value)) ∧
  nn p10 (fun (q11 : Addr) =>
  ∃ (n12 : Int), w1.cell? (Addr.add q11 1) = some ((.int .i64 n12 : Value)) ∧
  cond (n12 == 3)
  (nn p4 (fun (q13 : Addr) =>
  ∃ (p14 : Option Addr), w1.cell? (Addr.add q13 1) = some ((.pointer p14 : Value)) ∧
  nn p14 (fun (q15 : Addr) =>
  ∃ (p16 : Option Addr), w1.cell? (Addr.add q15 4) = some ((.pointer p16 : Value)) ∧
  nn p16 (fun (q17 : Addr) =>
  ∃ (n18 : Int), w1.cell? (Addr.add q17 1) = some ((.int .i64 n18 : Value)) ∧
  cond (n18 == 0)
  (Q (.tuple #[.int .i64 0, .int .i64 53]) w1)
  (nn p4 (fun (q19 : Addr) =>
  ∃ (p20 : Option Addr), w1.cell? (Addr.add q19 1) = some ((.pointer p20 : Value)) ∧
  nn p20 (fun (q21 : Addr) =>
  ∃ (n22 : Int), w1.cell? (Addr.add q21 1) = some ((.int .i64 n22 : Value)) ∧
  cond (n22 == 3)
  (nn p4 (fun (q23 : Addr) =>
  ∃ (p24 : Option Addr), w1.cell? (Addr.add q23 1) = some ((.pointer p24 : Value)) ∧
  nn p24 (fun (q25 : Addr) =>
  ∃ (p26 : Option Addr), w1.cell? (Addr.add q25 4) = some ((.pointer p26 : Value)) ∧
  CallR Tryz.prog 173 [.pointer p26, .int .i64 (((l3 : Nat) : Int))] w1 (fun (r28 : Value) (w2 : World) =>
  ∃ (b27 : Bool), r28 = .bool b27 ∧
  cond (!b27)
  (Q (.tuple #[.int .i64 0, .int .i64 52]) w2)
  (nn p4 (fun (q29 : Addr) =>
  ∃ (p30 : Option Addr), w2.cell? (Addr.add q29 1) = some ((.pointer p30 : Value)) ∧
  nn p30 (fun (q31 : Addr) =>
  ∃ (n32 : Int), w2.cell? (Addr.add q31 1) = some ((.int .i64 n32 : Value)) ∧
  cond (n32 != 3)
  (CallR Tryz.prog 174 [.pointer p4] w2 (fun (r34 : Value) (w3 : World) =>
  ∃ (n33 : Int), r34 = .int .i64 n33 ∧
  cond (n33 == 0)
  (Q (.tuple #[.int .i64 0, .int .i64 31]) w3)
  (J6 [] w3)))
  (J6 [] w2))))))))
  (nn p4 (fun (q35 : Addr) =>
  ∃ (p36 : Option Addr), w1.cell? (Addr.add q35 1) = some ((.pointer p36 : Value)) ∧
  nn p36 (fun (q37 : Addr) =>
  ∃ (n38 : Int), w1.cell? (Addr.add q37 1) = some ((.int .i64 n38 : Value)) ∧
  cond (n38 != 3)
  (CallR Tryz.prog 174 [.pointer p4] w1 (fun (r40 : Value) (w4 : World) =>
  ∃ (n39 : Int), r40 = .int .i64 n39 ∧
  cond (n39 == 0)
  (Q (.tuple #[.int .i64 0, .int .i64 31]) w4)
  (J6 [] w4)))
  (J6 [] w1)))))))))))
  (nn p4 (fun (q41 : Addr) =>
  ∃ (p42 : Option Addr), w1.cell? (Addr.add q41 1) = some ((.pointer p42 : Value)) ∧
  nn p42 (fun (q43 : Addr) =>
  ∃ (n44 : Int), w1.cell? (Addr.add q43 1) = some ((.int .i64 n44 : Value)) ∧
  cond (n44 == 3)
  (nn p4 (fun (q45 : Addr) =>
  ∃ (p46 : Option Addr), w1.cell? (Addr.add q45 1) = some ((.pointer p46 : Value)) ∧
  nn p46 (fun (q47 : Addr) =>
  ∃ (p48 : Option Addr), w1.cell? (Addr.add q47 4) = some ((.pointer p48 : Value)) ∧
  CallR Tryz.prog 173 [.pointer p48, .int .i64 (((l3 : Nat) : Int))] w1 (fun (r50 : Value) (w5 : World) =>
  ∃ (b49 : Bool), r50 = .bool b49 ∧
  cond (!b49)
  (Q (.tuple #[.int .i64 0, .int .i64 52]) w5)
  (nn p4 (fun (q51 : Addr) =>
  ∃ (p52 : Option Addr), w5.cell? (Addr.add q51 1) = some ((.pointer p52 : Value)) ∧
  nn p52 (fun (q53 : Addr) =>
  ∃ (n54 : Int), w5.cell? (Addr.add q53 1) = some ((.int .i64 n54 : Value)) ∧
  cond (n54 != 3)
  (CallR Tryz.prog 174 [.pointer p4] w5 (fun (r56 : Value) (w6 : World) =>
  ∃ (n55 : Int), r56 = .int .i64 n55 ∧
  cond (n55 == 0)
  (Q (.tuple #[.int .i64 0, .int .i64 31]) w6)
  (J6 [] w6)))
  (J6 [] w5))))))))
  (nn p4 (fun (q57 : Addr) =>
  ∃ (p58 : Option Addr), w1.cell? (Addr.add q57 1) = some ((.pointer p58 : Value)) ∧
  nn p58 (fun (q59 : Addr) =>
  ∃ (n60 : Int), w1.cell? (Addr.add q59 1) = some ((.int .i64 n60 : Value)) ∧
  cond (n60 != 3)
  (CallR Tryz.prog 174 [.pointer p4] w1 (fun (r62 : Value) (w7 : World) =>
  ∃ (n61 : Int), r62 = .int .i64 n61 ∧
  cond (n61 == 0)
  (Q (.tuple #[.int .i64 0, .int .i64 31]) w7)
  (J6 [] w7)))
  (J6 [] w1))))))))))))))) ∧
  (∀ (_ : Env) (w8 : World), J6 [] w8 →
  nn p1 (fun (q63 : Addr) =>
  ∃ (n64 : Int), w8.cell? (Addr.add q63 5) = some ((.int .i64 n64 : Value)) ∧
  inI (n64 + 1) ∧
  nn p1 (fun (q65 : Addr) =>
  stC (Addr.add q65 5) (.int .i64 (n64 + 1)) w8 (fun (w9 : World) =>
  nn p1 (fun (q66 : Addr) =>
  ∃ (p67 : Option Addr), w9.cell? (Addr.add q66 3) = some ((.pointer p67 : Value)) ∧
  CallR Tryz.prog 170 [.pointer p67, .int .i64 (((l3 : Nat) : Int))] w9 (fun (r70 : Value) (w10 : World) =>
  ∃ (n68 : Int) (n69 : Int), r70 = .tuple #[.int .i64 n68, .int .i64 n69] ∧
  cond (n69 != 0)
  (Q (.tuple #[.int .i64 0, .int .i64 n69]) w10)
  (nn p4 (fun (q71 : Addr) =>
  ∃ (p72 : Option Addr), w10.cell? (Addr.add q71 1) = some ((.pointer p72 : Value)) ∧
  nn p72 (fun (q73 : Addr) =>
  ∃ (n74 : Int), w10.cell? (Addr.add q73 1) = some ((.int .i64 n74 : Value)) ∧
  cond (n74 == 3)
  (nn p4 (fun (q75 : Addr) =>
  ∃ (p76 : Option Addr), w10.cell? (Addr.add q75 1) = some ((.pointer p76 : Value)) ∧
  nn p76 (fun (q77 : Addr) =>
  ∃ (p78 : Option Addr), w10.cell? (Addr.add q77 4) = some ((.pointer p78 : Value)) ∧
  CallR Tryz.prog 175 [.pointer p78, .slice a3 l3 c3, .int .i64 n68] w10 (fun (r81 : Value) (w11 : World) =>
  ∃ (n79 : Int) (n80 : Int), r81 = .tuple #[.int .i64 n79, .int .i64 n80] ∧
  Q (.tuple #[.int .i64 n79, .int .i64 n80]) w11))))
  (CallR Tryz.prog 174 [.pointer p4] w10 (fun (r83 : Value) (w12 : World) =>
  ∃ (n82 : Int), r83 = .int .i64 n82 ∧
  nn p4 (fun (q84 : Addr) =>
  ∃ (p85 : Option Addr), w12.cell? (Addr.add q84 1) = some ((.pointer p85 : Value)) ∧
  nn p85 (fun (q86 : Addr) =>
  ∃ (n87 : Int), w12.cell? (Addr.add q86 1) = some ((.int .i64 n87 : Value)) ∧
  cond (n87 == 2)
  (let w13 := World.drew w12;
  nn p4 (fun (q88 : Addr) =>
  ∃ (p89 : Option Addr), w13.cell? (Addr.add q88 1) = some ((.pointer p89 : Value)) ∧
  nn p89 (fun (q90 : Addr) =>
  ∃ (p91 : Option Addr), w13.cell? (Addr.add q90 3) = some ((.pointer p91 : Value)) ∧
  (0 ≤ (mn n68 n82 : Int) ∧ (mn n68 n82 : Int) ≤ ((c3 : Nat) : Int)) ∧
  CallR Tryz.prog 176 [.pointer p91, .slice a3 (Int.toNat (mn n68 n82)) c3] w13 (fun (r93 : Value) (w14 : World) =>
  ∃ (n92 : Int), r93 = .int .i64 n92 ∧
  Q (.tuple #[.int .i64 (mn n68 n82), .int .i64 0]) w14))))
  (∃ (J94 : List Value → World → Prop),
  (nn p4 (fun (q95 : Addr) =>
  ∃ (n96 : Int), w12.cell? (Addr.add q95 2) = some ((.int .i64 n96 : Value)) ∧
  cond ((IntKind.wrap .i64 ↑(BitVec.ofInt (IntKind.bits .i64) n96 &&& BitVec.ofInt (IntKind.bits .i64) 4).toNat) != 0)
  (nn p4 (fun (q97 : Addr) =>
  ∃ (p98 : Option Addr), w12.cell? (Addr.add q97 1) = some ((.pointer p98 : Value)) ∧
  nn p98 (fun (q99 : Addr) =>
  ∃ (p100 : Option Addr), w12.cell? (Addr.add q99 2) = some ((.pointer p100 : Value)) ∧
  nn p100 (fun (q101 : Addr) =>
  ∃ (a102 : Option Addr) (l102 : Nat) (c102 : Nat), w12.cell? q101 = some ((.slice a102 l102 c102 : Value)) ∧
  nn p4 (fun (q103 : Addr) =>
  stC (Addr.add q103 3) (.int .i64 (((l102 : Nat) : Int))) w12 (fun (w15 : World) =>
  J94 [] w15))))))
  (J94 [] w12))) ∧
  (∀ (_ : Env) (w16 : World), J94 [] w16 →
  let w17 := World.drew w16;
  nn p4 (fun (q104 : Addr) =>
  ∃ (p105 : Option Addr), w17.cell? (Addr.add q104 1) = some ((.pointer p105 : Value)) ∧
  nn p105 (fun (q106 : Addr) =>
  ∃ (p107 : Option Addr), w17.cell? (Addr.add q106 2) = some ((.pointer p107 : Value)) ∧
  nn p4 (fun (q108 : Addr) =>
  ∃ (n109 : Int), w17.cell? (Addr.add q108 3) = some ((.int .i64 n109 : Value)) ∧
  (0 ≤ (mn n68 n82 : Int) ∧ (mn n68 n82 : Int) ≤ ((c3 : Nat) : Int)) ∧
  CallR Tryz.prog 177 [.pointer p107, .int .i64 n109, .slice a3 (Int.toNat (mn n68 n82)) c3] w17 (fun (r111 : Value) (w18 : World) =>
  ∃ (n110 : Int), r111 = .int .i64 n110 ∧
  nn p4 (fun (q112 : Addr) =>
  ∃ (n113 : Int), w18.cell? (Addr.add q112 3) = some ((.int .i64 n113 : Value)) ∧
  inI (n113 + (mn n68 n82)) ∧
  nn p4 (fun (q114 : Addr) =>
  stC (Addr.add q114 3) (.int .i64 (n113 + (mn n68 n82))) w18 (fun (w19 : World) =>
  Q (.tuple #[.int .i64 (mn n68 n82), .int .i64 0]) w19)))))))))))))))))))))))
theorem C67 {p1 : Option Addr} {n2 : Int} {a3 : Option Addr} {l3 : Nat} {c3 : Nat} {Q : Value → World → Prop} {w : World} (h : L67 p1 n2 a3 l3 c3 Q w) : CallR Tryz.prog 67 [.pointer p1, .int .i64 n2, .slice a3 l3 c3] w Q :=
  fun_calls (A := A67) mixed Tryz.func67 (c := (Tryz.f67.body).getD .skip) rfl (by kernel_rfl) (Eq.mp (by kernel_rfl) h)
def A85 : Ann := ⟨[], [], [], [], [], []⟩
def L85 (p1 : Option Addr) (n2 : Int) (Q : Value → World → Prop) (w : World) : Prop :=
  CallR Tryz.prog 168 [.pointer p1, .int .i64 n2] w (fun (r4 : Value) (w1 : World) =>
  ∃ (p3 : Option Addr), r4 = .pointer p3 ∧
  cond (!(Option.isNone p3))
  (nn p3 (fun (q5 : Addr) =>
  ∃ (n6 : Int), w1.cell? (Addr.add q5 2) = some ((.int .i64 n6 : Value)) ∧
  cond ((IntKind.wrap .i64 ↑(BitVec.ofInt (IntKind.bits .i64) n6 &&& BitVec.ofInt (IntKind.bits .i64) 1).toNat) != 0)
  (nn p3 (fun (q7 : Addr) =>
  ∃ (p8 : Option Addr), w1.cell? (Addr.add q7 1) = some ((.pointer p8 : Value)) ∧
  nn p8 (fun (q9 : Addr) =>
  ∃ (n10 : Int), w1.cell? (Addr.add q9 1) = some ((.int .i64 n10 : Value)) ∧
  cond (n10 != 3)
  (Q (.bool true) w1)
  (nn p3 (fun (q11 : Addr) =>
  ∃ (p12 : Option Addr), w1.cell? (Addr.add q11 1) = some ((.pointer p12 : Value)) ∧
  nn p12 (fun (q13 : Addr) =>
  ∃ (p14 : Option Addr), w1.cell? (Addr.add q13 4) = some ((.pointer p14 : Value)) ∧
  CallR Tryz.prog 169 [.pointer p14] w1 (fun (r16 : Value) (w2 : World) =>
  ∃ (b15 : Bool), r16 = .bool b15 ∧
  Q (.bool b15) w2)))))))
  (Q (.bool false) w1)))
  (Q (.bool false) w1))
theorem C85 {p1 : Option Addr} {n2 : Int} {Q : Value → World → Prop} {w : World} (h : L85 p1 n2 Q w) : CallR Tryz.prog 85 [.pointer p1, .int .i64 n2] w Q :=
  fun_calls (A := A85) mixed Tryz.func85 (c := (Tryz.f85.body).getD .skip) rfl (by kernel_rfl) (Eq.mp (by kernel_rfl) h)
def A87 : Ann := ⟨[], [], [], [], [], []⟩
def L87 (p1 : Option Addr) (n2 : Int) (n3 : Int) (Q : Value → World → Prop) (w : World) : Prop :=
  CallR Tryz.prog 168 [.pointer p1, .int .i64 n2] w (fun (r5 : Value) (w1 : World) =>
  ∃ (p4 : Option Addr), r5 = .pointer p4 ∧
  cond (!(Option.isNone p4))
  (nn p4 (fun (q6 : Addr) =>
  ∃ (n7 : Int), w1.cell? (Addr.add q6 2) = some ((.int .i64 n7 : Value)) ∧
  cond ((IntKind.wrap .i64 ↑(BitVec.ofInt (IntKind.bits .i64) n7 &&& BitVec.ofInt (IntKind.bits .i64) 2).toNat) != 0)
  (cond (decide (n3 ≥ 1))
  (cond (decide (n3 ≤ 1048576))
  (nn p4 (fun (q8 : Addr) =>
  ∃ (p9 : Option Addr), w1.cell? (Addr.add q8 1) = some ((.pointer p9 : Value)) ∧
  nn p9 (fun (q10 : Addr) =>
  ∃ (n11 : Int), w1.cell? (Addr.add q10 1) = some ((.int .i64 n11 : Value)) ∧
  cond (n11 != 3)
  (Q (.bool true) w1)
  (nn p4 (fun (q12 : Addr) =>
  ∃ (p13 : Option Addr), w1.cell? (Addr.add q12 1) = some ((.pointer p13 : Value)) ∧
  nn p13 (fun (q14 : Addr) =>
  ∃ (p15 : Option Addr), w1.cell? (Addr.add q14 4) = some ((.pointer p15 : Value)) ∧
  CallR Tryz.prog 173 [.pointer p15, .int .i64 n3] w1 (fun (r17 : Value) (w2 : World) =>
  ∃ (b16 : Bool), r17 = .bool b16 ∧
  Q (.bool b16) w2)))))))
  (Q (.bool false) w1))
  (Q (.bool false) w1))
  (Q (.bool false) w1)))
  (Q (.bool false) w1))
theorem C87 {p1 : Option Addr} {n2 : Int} {n3 : Int} {Q : Value → World → Prop} {w : World} (h : L87 p1 n2 n3 Q w) : CallR Tryz.prog 87 [.pointer p1, .int .i64 n2, .int .i64 n3] w Q :=
  fun_calls (A := A87) mixed Tryz.func87 (c := (Tryz.f87.body).getD .skip) rfl (by kernel_rfl) (Eq.mp (by kernel_rfl) h)
def A83 : Ann := ⟨[], [], [], [], [], []⟩
def L83 (p1 : Option Addr) (n2 : Int) (Q : Value → World → Prop) (w : World) : Prop :=
  CallR Tryz.prog 168 [.pointer p1, .int .i64 n2] w (fun (r4 : Value) (w1 : World) =>
  ∃ (p3 : Option Addr), r4 = .pointer p3 ∧
  cond (Option.isNone p3)
  (Q (.int .i64 0) w1)
  (nn p3 (fun (q5 : Addr) =>
  ∃ (p6 : Option Addr), w1.cell? (Addr.add q5 1) = some ((.pointer p6 : Value)) ∧
  nn p6 (fun (q7 : Addr) =>
  ∃ (n8 : Int), w1.cell? (Addr.add q7 1) = some ((.int .i64 n8 : Value)) ∧
  Q (.int .i64 n8) w1))))
theorem C83 {p1 : Option Addr} {n2 : Int} {Q : Value → World → Prop} {w : World} (h : L83 p1 n2 Q w) : CallR Tryz.prog 83 [.pointer p1, .int .i64 n2] w Q :=
  fun_calls (A := A83) mixed Tryz.func83 (c := (Tryz.f83.body).getD .skip) rfl (by kernel_rfl) (Eq.mp (by kernel_rfl) h)
def A77 : Ann := ⟨[(3, [(3, .one (.slice)), (4, .one (.int .i64))])], [], [], [], [(7, [0, 1, 2, 3, 4, 5, 6, 7, 8, 9, 10, 11, 12, 13, 14, 15, 16, 17, 18, 19, 20, 21, 22, 23, 24, 25, 26], 27, [28, 29])], []⟩
def L77 (p1 : Option Addr) (Q : Value → World → Prop) (w : World) : Prop :=
  ∃ (I2 : List Value → World → Prop) (mu3 : List Value → World → Nat),
  I2 [.slice none 0 0, .int .i64 0] w ∧
  ∀ (_ : Env) (a4 : Option Addr) (l4 : Nat) (c4 : Nat) (n5 : Int) (w1 : World), I2 [.slice a4 l4 c4, .int .i64 n5] w1 →
  nn p1 (fun (q6 : Addr) =>
  ∃ (a7 : Option Addr) (l7 : Nat) (c7 : Nat), w1.cell? q6 = some ((.slice a7 l7 c7 : Value)) ∧
  cond (decide (n5 < (((l7 : Nat) : Int))))
  (nn p1 (fun (q8 : Addr) =>
  ∃ (a9 : Option Addr) (l9 : Nat) (c9 : Nat), w1.cell? q8 = some ((.slice a9 l9 c9 : Value)) ∧
  (0 ≤ (n5 : Int) ∧ (n5 : Int) < ((l9 : Nat) : Int)) ∧
  nn a9 (fun (q10 : Addr) =>
  ∃ (p11 : Option Addr), w1.cell? (Addr.add q10 (Int.toNat n5)) = some ((.pointer p11 : Value)) ∧
  nn p11 (fun (q12 : Addr) =>
  ∃ (n13 : Int), w1.cell? (Addr.add q12 1) = some ((.int .i64 n13 : Value)) ∧
  cond (n13 == 1)
  (∃ (S14 : World → Prop), S14 (World.drew w1) ∧
  let w2 := World.drew w1;
  nn p1 (fun (q15 : Addr) =>
  ∃ (a16 : Option Addr) (l16 : Nat) (c16 : Nat), (∀ wS : World, S14 wS → wS.cell? q15 = some ((.slice a16 l16 c16 : Value))) ∧
  (0 ≤ (n5 : Int) ∧ (n5 : Int) < ((l16 : Nat) : Int)) ∧
  nn a16 (fun (q17 : Addr) =>
  ∃ (p18 : Option Addr), (∀ wS : World, S14 wS → wS.cell? (Addr.add q17 (Int.toNat n5)) = some ((.pointer p18 : Value))) ∧
  nn p18 (fun (q19 : Addr) =>
  ∃ (s20 : ByteArray), (∀ wS : World, S14 wS → wS.cell? q19 = some ((.string s20 : Value))) ∧
  nn p1 (fun (q21 : Addr) =>
  ∃ (a22 : Option Addr) (l22 : Nat) (c22 : Nat), (∀ wS : World, S14 wS → wS.cell? q21 = some ((.slice a22 l22 c22 : Value))) ∧
  (0 ≤ (n5 : Int) ∧ (n5 : Int) < ((l22 : Nat) : Int)) ∧
  nn a22 (fun (q23 : Addr) =>
  ∃ (p24 : Option Addr), (∀ wS : World, S14 wS → wS.cell? (Addr.add q23 (Int.toNat n5)) = some ((.pointer p24 : Value))) ∧
  nn p24 (fun (q25 : Addr) =>
  ∃ (p26 : Option Addr), (∀ wS : World, S14 wS → wS.cell? (Addr.add q25 2) = some ((.pointer p26 : Value))) ∧
  nn p26 (fun (q27 : Addr) =>
  ∃ (a28 : Option Addr) (l28 : Nat) (c28 : Nat), (∀ wS : World, S14 wS → wS.cell? q27 = some ((.slice a28 l28 c28 : Value))) ∧
  ∃ (a29 : Option Addr) (l29 : Nat) (c29 : Nat) (w3 : World), Sem.run Tryz.prog (Builtin.append_ #[40, 40] 40 #[.slice none 0 0, .slice a28 l28 c28]) w2 = .ok ((.slice a29 l29 c29 : Value)) w3 ∧
  S14 w3 ∧
  let w4 := World.alloc w3 (Obj.cells #[.string s20, .slice a29 l29 c29] 122);
  ∃ (a30 : Option Addr) (l30 : Nat) (c30 : Nat) (w5 : World), Sem.run Tryz.prog (Builtin.append_ #[22, 22] 22 #[.slice a4 l4 c4, .slice (some (Addr.mk w3.heap.size 0 none)) 1 1]) w4 = .ok ((.slice a30 l30 c30 : Value)) w5 ∧
  inI (n5 + 1) ∧
  I2 [.slice a30 l30 c30, .int .i64 (n5 + 1)] w5 ∧ mu3 [.slice a30 l30 c30, .int .i64 (n5 + 1)] w5 < mu3 [.slice a4 l4 c4, .int .i64 n5] w1))))))))
  (inI (n5 + 1) ∧
  I2 [.slice a4 l4 c4, .int .i64 (n5 + 1)] w1 ∧ mu3 [.slice a4 l4 c4, .int .i64 (n5 + 1)] w1 < mu3 [.slice a4 l4 c4, .int .i64 n5] w1)))))
  (Q (.slice a4 l4 c4) w1))
theorem C77 {p1 : Option Addr} {Q : Value → World → Prop} {w : World} (h : L77 p1 Q w) : CallR Tryz.prog 77 [.pointer p1] w Q :=
  fun_calls (A := A77) mixed Tryz.func77 (c := (Tryz.f77.body).getD .skip) rfl (by kernel_rfl) (Eq.mp (by kernel_rfl) h)
def A80 : Ann := ⟨[(3, [(3, .one (.slice)), (4, .one (.int .i64))])], [], [], [], [(7, [0, 1, 2, 3, 4, 5, 6, 7, 8, 9, 10, 11, 12, 13, 14, 15, 16, 17, 18, 19, 20, 21, 22, 23, 24, 25, 26], 27, [28, 29])], []⟩
def L80 (p1 : Option Addr) (Q : Value → World → Prop) (w : World) : Prop :=
  ∃ (I2 : List Value → World → Prop) (mu3 : List Value → World → Nat),
  I2 [.slice none 0 0, .int .i64 0] w ∧
  ∀ (_ : Env) (a4 : Option Addr) (l4 : Nat) (c4 : Nat) (n5 : Int) (w1 : World), I2 [.slice a4 l4 c4, .int .i64 n5] w1 →
  nn p1 (fun (q6 : Addr) =>
  ∃ (a7 : Option Addr) (l7 : Nat) (c7 : Nat), w1.cell? q6 = some ((.slice a7 l7 c7 : Value)) ∧
  cond (decide (n5 < (((l7 : Nat) : Int))))
  (nn p1 (fun (q8 : Addr) =>
  ∃ (a9 : Option Addr) (l9 : Nat) (c9 : Nat), w1.cell? q8 = some ((.slice a9 l9 c9 : Value)) ∧
  (0 ≤ (n5 : Int) ∧ (n5 : Int) < ((l9 : Nat) : Int)) ∧
  nn a9 (fun (q10 : Addr) =>
  ∃ (p11 : Option Addr), w1.cell? (Addr.add q10 (Int.toNat n5)) = some ((.pointer p11 : Value)) ∧
  nn p11 (fun (q12 : Addr) =>
  ∃ (n13 : Int), w1.cell? (Addr.add q12 1) = some ((.int .i64 n13 : Value)) ∧
  cond (n13 == 2)
  (∃ (S14 : World → Prop), S14 (World.drew w1) ∧
  let w2 := World.drew w1;
  nn p1 (fun (q15 : Addr) =>
  ∃ (a16 : Option Addr) (l16 : Nat) (c16 : Nat), (∀ wS : World, S14 wS → wS.cell? q15 = some ((.slice a16 l16 c16 : Value))) ∧
  (0 ≤ (n5 : Int) ∧ (n5 : Int) < ((l16 : Nat) : Int)) ∧
  nn a16 (fun (q17 : Addr) =>
  ∃ (p18 : Option Addr), (∀ wS : World, S14 wS → wS.cell? (Addr.add q17 (Int.toNat n5)) = some ((.pointer p18 : Value))) ∧
  nn p18 (fun (q19 : Addr) =>
  ∃ (s20 : ByteArray), (∀ wS : World, S14 wS → wS.cell? q19 = some ((.string s20 : Value))) ∧
  nn p1 (fun (q21 : Addr) =>
  ∃ (a22 : Option Addr) (l22 : Nat) (c22 : Nat), (∀ wS : World, S14 wS → wS.cell? q21 = some ((.slice a22 l22 c22 : Value))) ∧
  (0 ≤ (n5 : Int) ∧ (n5 : Int) < ((l22 : Nat) : Int)) ∧
  nn a22 (fun (q23 : Addr) =>
  ∃ (p24 : Option Addr), (∀ wS : World, S14 wS → wS.cell? (Addr.add q23 (Int.toNat n5)) = some ((.pointer p24 : Value))) ∧
  nn p24 (fun (q25 : Addr) =>
  ∃ (p26 : Option Addr), (∀ wS : World, S14 wS → wS.cell? (Addr.add q25 3) = some ((.pointer p26 : Value))) ∧
  nn p26 (fun (q27 : Addr) =>
  ∃ (a28 : Option Addr) (l28 : Nat) (c28 : Nat), (∀ wS : World, S14 wS → wS.cell? (Addr.add q27 1) = some ((.slice a28 l28 c28 : Value))) ∧
  ∃ (a29 : Option Addr) (l29 : Nat) (c29 : Nat) (w3 : World), Sem.run Tryz.prog (Builtin.append_ #[40, 40] 40 #[.slice none 0 0, .slice a28 l28 c28]) w2 = .ok ((.slice a29 l29 c29 : Value)) w3 ∧
  S14 w3 ∧
  let w4 := World.alloc w3 (Obj.cells #[.string s20, .slice a29 l29 c29] 122);
  ∃ (a30 : Option Addr) (l30 : Nat) (c30 : Nat) (w5 : World), Sem.run Tryz.prog (Builtin.append_ #[22, 22] 22 #[.slice a4 l4 c4, .slice (some (Addr.mk w3.heap.size 0 none)) 1 1]) w4 = .ok ((.slice a30 l30 c30 : Value)) w5 ∧
  inI (n5 + 1) ∧
  I2 [.slice a30 l30 c30, .int .i64 (n5 + 1)] w5 ∧ mu3 [.slice a30 l30 c30, .int .i64 (n5 + 1)] w5 < mu3 [.slice a4 l4 c4, .int .i64 n5] w1))))))))
  (inI (n5 + 1) ∧
  I2 [.slice a4 l4 c4, .int .i64 (n5 + 1)] w1 ∧ mu3 [.slice a4 l4 c4, .int .i64 (n5 + 1)] w1 < mu3 [.slice a4 l4 c4, .int .i64 n5] w1)))))
  (Q (.slice a4 l4 c4) w1))
theorem C80 {p1 : Option Addr} {Q : Value → World → Prop} {w : World} (h : L80 p1 Q w) : CallR Tryz.prog 80 [.pointer p1] w Q :=
  fun_calls (A := A80) mixed Tryz.func80 (c := (Tryz.f80.body).getD .skip) rfl (by kernel_rfl) (Eq.mp (by kernel_rfl) h)
def A89 : Ann := ⟨[], [], [], [], [], []⟩
def L89 (p1 : Option Addr) (n2 : Int) (Q : Value → World → Prop) (w : World) : Prop :=
  CallR Tryz.prog 168 [.pointer p1, .int .i64 n2] w (fun (r4 : Value) (w1 : World) =>
  ∃ (p3 : Option Addr), r4 = .pointer p3 ∧
  cond (Option.isNone p3)
  (Q (.slice none 0 0) w1)
  (nn p3 (fun (q5 : Addr) =>
  ∃ (p6 : Option Addr), w1.cell? (Addr.add q5 1) = some ((.pointer p6 : Value)) ∧
  nn p6 (fun (q7 : Addr) =>
  ∃ (n8 : Int), w1.cell? (Addr.add q7 1) = some ((.int .i64 n8 : Value)) ∧
  cond (n8 != 3)
  (Q (.slice none 0 0) w1)
  (nn p3 (fun (q9 : Addr) =>
  ∃ (p10 : Option Addr), w1.cell? (Addr.add q9 1) = some ((.pointer p10 : Value)) ∧
  nn p10 (fun (q11 : Addr) =>
  ∃ (p12 : Option Addr), w1.cell? (Addr.add q11 4) = some ((.pointer p12 : Value)) ∧
  nn p12 (fun (q13 : Addr) =>
  ∃ (a14 : Option Addr) (l14 : Nat) (c14 : Nat), w1.cell? q13 = some ((.slice a14 l14 c14 : Value)) ∧
  Q (.slice a14 l14 c14) w1))))))))
theorem C89 {p1 : Option Addr} {n2 : Int} {Q : Value → World → Prop} {w : World} (h : L89 p1 n2 Q w) : CallR Tryz.prog 89 [.pointer p1, .int .i64 n2] w Q :=
  fun_calls (A := A89) mixed Tryz.func89 (c := (Tryz.f89.body).getD .skip) rfl (by kernel_rfl) (Eq.mp (by kernel_rfl) h)
end Go.Proofs.YtpoaacnnhgebfaaGreat
namespace Go.Proofs.YtpoaacnnhgebfaaGreat
open Go.Proofs Go.Shelf Go.Sort
def laysSort_ren : Go.Shelf.Ren := ⟨fun | 190 => 180 | 125 => 207 | 258 => 206 | 128 => 220 | 129 => 221 | 302 => 211 | 303 => 212 | 304 => 213 | 305 => 214 | 306 => 215 | 307 => 216 | 308 => 217 | 309 => 218 | 310 => 219 | 333 => 223 | 329 => 224 | 330 => 225 | 334 => 226 | 335 => 227 | 336 => 228 | 344 => 229 | n => n, fun | 31 => 131 | 9 => 9 | 3 => 3 | 46 => 313 | 0 => 0 | 51 => 327 | 53 => 329 | 4 => 4 | 183 => 320 | 182 => 319 | 131 => 240 | 5 => 5 | 218 => 331 | 222 => 335 | 228 => 337 | 229 => 67 | n => n, fun | n => n⟩
theorem laysSort : Go.Proofs.Lays.n190 Tryz.prog laysSort_ren := { 
  mixed := by kernel_rfl,
  f125 := Tryz.func207.trans (congrArg some (by kernel_rfl)),
  f128 := Tryz.func220.trans (congrArg some (by kernel_rfl)),
  f129 := Tryz.func221.trans (congrArg some (by kernel_rfl)),
  f190 := Tryz.func180.trans (congrArg some (by kernel_rfl)),
  f258 := Tryz.func206.trans (congrArg some (by kernel_rfl)),
  f302 := Tryz.func211.trans (congrArg some (by kernel_rfl)),
  f303 := Tryz.func212.trans (congrArg some (by kernel_rfl)),
  f304 := Tryz.func213.trans (congrArg some (by kernel_rfl)),
  f305 := Tryz.func214.trans (congrArg some (by kernel_rfl)),
  f306 := Tryz.func215.trans (congrArg some (by kernel_rfl)),
  f307 := Tryz.func216.trans (congrArg some (by kernel_rfl)),
  f308 := Tryz.func217.trans (congrArg some (by kernel_rfl)),
  f309 := Tryz.func218.trans (congrArg some (by kernel_rfl)),
  f310 := Tryz.func219.trans (congrArg some (by kernel_rfl)),
  f329 := Tryz.func224.trans (congrArg some (by kernel_rfl)),
  f330 := Tryz.func225.trans (congrArg some (by kernel_rfl)),
  f333 := Tryz.func223.trans (congrArg some (by kernel_rfl)),
  f334 := Tryz.func226.trans (congrArg some (by kernel_rfl)),
  f335 := Tryz.func227.trans (congrArg some (by kernel_rfl)),
  f336 := Tryz.func228.trans (congrArg some (by kernel_rfl)),
  f344 := Tryz.func229.trans (congrArg some (by kernel_rfl)),
  t0 := Tryz.underlying0,
  a0 := Tryz.isAgg0,
  z0 := Tryz.sizeOf0,
  v0 := Tryz.zeroValue0,
  t3 := Tryz.underlying3,
  a3 := Tryz.isAgg3,
  z3 := Tryz.sizeOf3,
  v3 := Tryz.zeroValue3,
  t4 := Tryz.underlying4,
  a4 := Tryz.isAgg4,
  z4 := Tryz.sizeOf4,
  v4 := Tryz.zeroValue4,
  t5 := Tryz.underlying5,
  a5 := Tryz.isAgg5,
  z5 := Tryz.sizeOf5,
  v5 := Tryz.zeroValue5,
  t9 := Tryz.underlying9,
  a9 := Tryz.isAgg9,
  z9 := Tryz.sizeOf9,
  v9 := Tryz.zeroValue9,
  t31 := Tryz.underlying131,
  a31 := Tryz.isAgg131,
  z31 := Tryz.sizeOf131,
  v31 := Tryz.zeroValue131,
  t46 := Tryz.underlying313,
  a46 := Tryz.isAgg313,
  z46 := Tryz.sizeOf313,
  v46 := Tryz.zeroValue313,
  t51 := Tryz.underlying327,
  a51 := Tryz.isAgg327,
  z51 := Tryz.sizeOf327,
  v51 := Tryz.zeroValue327,
  t53 := Tryz.underlying329,
  a53 := Tryz.isAgg329,
  z53 := Tryz.sizeOf329,
  v53 := Tryz.zeroValue329,
  t131 := Tryz.underlying240,
  a131 := Tryz.isAgg240,
  z131 := Tryz.sizeOf240,
  v131 := Tryz.zeroValue240,
  t182 := Tryz.underlying319,
  a182 := Tryz.isAgg319,
  z182 := Tryz.sizeOf319,
  v182 := Tryz.zeroValue319,
  t183 := Tryz.underlying320,
  a183 := Tryz.isAgg320,
  z183 := Tryz.sizeOf320,
  v183 := Tryz.zeroValue320,
  t218 := Tryz.underlying331,
  a218 := Tryz.isAgg331,
  z218 := Tryz.sizeOf331,
  v218 := Tryz.zeroValue331,
  t222 := Tryz.underlying335,
  a222 := Tryz.isAgg335,
  z222 := Tryz.sizeOf335,
  v222 := Tryz.zeroValue335,
  t228 := Tryz.underlying337,
  a228 := Tryz.isAgg337,
  z228 := Tryz.sizeOf337,
  v228 := Tryz.zeroValue337,
  t229 := Tryz.underlying67,
  a229 := Tryz.isAgg67,
  z229 := Tryz.sizeOf67,
  v229 := Tryz.zeroValue67 }
theorem sortStr (blk off cap : Nat) (ss : List (List UInt8)) (w : World) (hH : Holds encStr w blk off ss.toArray) (hblk : blk < w.heap.size) (hsz : ss.length < 4611686018427387904) :
    Calls Tryz.prog (laysSort_ren.f 190) #[.slice (some ⟨blk, off, none⟩) ss.length cap] w fun e w' =>
      e = .returned (.tuple #[]) ∧ ∃ n os, w' = grow (putRow encStr (Sort.ahead w n) blk off (ss.mergeSort fun x y => decide (x ≤ y)).toArray) os :=
  calls_of_every_depth fun D => AnyS.slices_Sort_string_in laysSort D blk off cap ss w hH hblk hsz
theorem lenBits (n : Nat) (w : World) (hn : n < 4611686018427387904) : Calls Tryz.prog (laysSort_ren.f 125) #[.int .u64 (n : Int)] w fun e w' => e = .returned (.int .i64 (bitsLen n : Nat)) ∧ w' = w :=
  calls_of_every_depth fun D => Any.lenWalkInSAll { laysSort with } D n w hn
end Go.Proofs.YtpoaacnnhgebfaaGreat
set_option maxRecDepth 512
namespace Go.Lw
open Go.MapKept
abbrev kv (e : MapEntry) : Value × Value := (e.key, e.val)
def RngO (w : World) (b r : Nat) (d : TypeDesc) (m left : List (Value × Value)) : Prop :=
  ∃ es clock since seen c0, w.heap[b]? = some (.map es clock) ∧ Stamped es clock ∧ (∀ x ∈ es.toList, IsKey d x.key) ∧ es.toList.map kv = m ∧
    w.heap[r]? = some (.mapIter (some b) since seen c0) ∧ (∀ x ∈ es.toList, x.born < since) ∧ since ≤ c0 ∧ since ≤ clock ∧ (leftOf es seen).toList.map kv = left
theorem RngO.map {w : World} {b r : Nat} {d : TypeDesc} {m left : List (Value × Value)} (h : RngO w b r d m left) : MapO w b d m := by
  obtain ⟨es, clock, since, seen, c0, hb, hs, hk, hm, _⟩ := h
  exact ⟨es, clock, hb, hs, hk, hm⟩
theorem RngO.lt {w : World} {b r : Nat} {d : TypeDesc} {m left : List (Value × Value)} (h : RngO w b r d m left) : r < w.heap.size := by
  obtain ⟨es, clock, since, seen, c0, hb, hs, hk, hm, hr, _⟩ := h
  exact (Array.getElem?_eq_some_iff.1 hr).1
theorem RngO.keep {w w' : World} {b r : Nat} {d : TypeDesc} {m left : List (Value × Value)} (h : RngO w b r d m left) {S : Nat → Prop} (k : Kept S w w') (hb : ¬ S b) (hr : ¬ S r) : RngO w' b r d m left := by
  have hl := h.map.lt
  have hl2 := h.lt
  obtain ⟨es, clock, since, seen, c0, h1, hs, hk, hm, h2, h⟩ := h
  exact ⟨es, clock, since, seen, c0, (k.block _ hl hb).trans h1, hs, hk, hm, (k.block _ hl2 hr).trans h2, h⟩
section
variable {P : Program} {w : World} {mty kt et : TypeId} {d : TypeDesc} {b r : Nat} {m left : List (Value × Value)}
theorem range_map (hm : P.underlying mty = some (.map kt et)) (h : MapO w b d m) :
    ∃ w', (Instr.range mty (.map (some b))).run P w = .ok (.pointer (some ⟨w.heap.size, 0, none⟩)) w' ∧ RngO w' b w.heap.size d m m ∧ Kept No w w' ∧ w'.heap.size = w.heap.size + 1 := by
  have hlt := h.lt
  obtain ⟨es, clock, hb, hs, hks, rfl⟩ := h
  refine ⟨_, run_range_map w mty kt et b es clock hm hb, ⟨es, clock, clock, #[], clock, ((MapKept.heap_alloc w _).2 b hlt).trans hb, hs, hks, rfl, (MapKept.heap_alloc w _).1, hs.1, Nat.le_refl _, Nat.le_refl _, ?_⟩, Kept.alloc _ _ _, by simp⟩
  unfold leftOf
  congr 2
  simp
theorem left_push (es : Array MapEntry) (seen : Array Nat) (k : Nat) : (leftOf es (seen.push k)).toList = (leftOf es seen).toList.filter fun x => !(x.born == k) := by
  unfold leftOf
  rw [Array.toList_filter, Array.toList_filter, List.filter_filter]
  congr 1
  funext x
  rw [Array.contains_push, Bool.not_or, Bool.and_comm]
theorem filter_one {l : List MapEntry} (hn : (l.map (·.born)).Nodup) {e : MapEntry} (he : e ∈ l) : ∃ l1 l2, l = l1 ++ e :: l2 ∧ (l.filter fun x => !(x.born == e.born)) = l1 ++ l2 := by
  obtain ⟨l1, l2, rfl⟩ := List.append_of_mem he
  refine ⟨l1, l2, rfl, ?_⟩
  rw [List.map_append, List.map_cons, List.nodup_append] at hn
  obtain ⟨h1, h2, h3⟩ := hn
  have h2 := List.nodup_cons.1 h2
  have e1 : (l1.filter fun x => !(x.born == e.born)) = l1 := List.filter_eq_self.2 fun x hx => by
    have := h3 x.born (List.mem_map.2 ⟨x, hx, rfl⟩) e.born (by simp)
    simpa using this
  have e2 : (l2.filter fun x => !(x.born == e.born)) = l2 := List.filter_eq_self.2 fun x hx => by
    have : x.born ≠ e.born := fun e' => h2.1 (List.mem_map.2 ⟨x, hx, e'⟩)
    simpa using this
  rw [List.filter_append, e1, List.filter_cons_of_neg (by simp), e2]
theorem next_map (h : RngO w b r d m left) (ty : TypeId) :
    (left = [] ∧ (Instr.next (.pointer (some ⟨r, 0, none⟩)) false ty).run P w = .ok (.tuple #[.bool false]) w) ∨
    ∃ p l1 l2 w', left = l1 ++ p :: l2 ∧ p ∈ m ∧ (Instr.next (.pointer (some ⟨r, 0, none⟩)) false ty).run P w = .ok (.tuple #[.bool true, p.1, p.2]) w' ∧ RngO w' b r d m (l1 ++ l2) ∧ Kept (· = r) w w' ∧ w'.heap.size = w.heap.size ∧
      (Instr.entry (.pointer (some ⟨r, 0, none⟩))).run P w' = .ok (.tuple #[p.1, p.2]) w' := by
  obtain ⟨es, clock, since, seen, c0, hb, hs, hk, rfl, hr, hold, hsc, hsk, rfl⟩ := h
  have hne : b ≠ r := fun e => by rw [e, hr] at hb; cases hb
  rcases run_next_at (P := P) w ty r b since c0 seen es clock hr hb hold hsc with ⟨h0, hrun⟩ | ⟨e, he, w1, hal, hrun⟩
  · refine .inl ⟨?_, hrun⟩
    have : leftOf es seen = #[] := Array.eq_empty_of_size_eq_zero h0
    rw [this]; rfl
  · have hr1 : w1.heap[r]? = some (.mapIter (some b) since seen c0) := by rcases hal with rfl | rfl <;> exact hr
    have hb1 : w1.heap[b]? = some (.map es clock) := by rcases hal with rfl | rfl <;> exact hb
    have hset := heap_set (o' := .mapIter (some b) since (seen.push e.born) clock) hr1
    have hmem : e ∈ es.toList := by unfold leftOf at he; rw [Array.toList_filter] at he; exact (List.mem_filter.1 he).1
    have hnd : ((leftOf es seen).toList.map (·.born)).Nodup := by
      have : (leftOf es seen).toList.Sublist es.toList := by unfold leftOf; rw [Array.toList_filter]; exact List.filter_sublist
      exact (this.map _).nodup hs.2.1
    obtain ⟨l1, l2, e1, e2⟩ := filter_one hnd he
    have hk1 : Kept No w w1 := by
      rcases hal with rfl | rfl
      · exact Kept.refl _ _
      · exact Kept.drew _ _
    have hbset := (hset.2 b hne).trans hb1
    refine .inr ⟨kv e, l1.map kv, l2.map kv, _, by rw [e1]; simp, List.mem_map.2 ⟨e, hmem, rfl⟩, hrun, ⟨es, clock, since, seen.push e.born, clock, hbset, hs, hk, rfl, hset.1, hold, hsk, hsk, ?_⟩, ?_, ?_, ?_⟩
    · rw [left_push, e2, List.map_append]
    · exact ⟨hk1.os, hk1.tape, hk1.output, by simp [ChangeMaps.setBlock]; exact hk1.size, fun k hkl hkn => (hset.2 k hkn).trans (hk1.block k hkl fun e => e)⟩
    · have : w1.heap.size = w.heap.size := by rcases hal with rfl | rfl <;> rfl
      simp [ChangeMaps.setBlock, this]
    · exact run_entry_at _ r b since seen es clock e hset.1 hbset hmem hs.2.1
end
end Go.Lw
namespace Go.Proofs.YtpoaacnnhgebfaaGreat
open Go.Lw Go.Sort
def Sv (ss : List ByteArray) : List Value := ss.map .string
theorem Sv_one (ss : List ByteArray) : ∀ u ∈ Sv ss, u.oneCell' = true := by
  intro u hu; unfold Sv at hu; rw [List.mem_map] at hu; obtain ⟨n, _, rfl⟩ := hu; rfl
theorem Sv_len (ss : List ByteArray) : (Sv ss).length = ss.length := by unfold Sv; rw [List.length_map]
def dataL (ss : List ByteArray) : List (List UInt8) := ss.map (·.data.toList)
def strL (ls : List (List UInt8)) : List ByteArray := ls.map fun x => ⟨x.toArray⟩
theorem strL_dataL (ss : List ByteArray) : strL (dataL ss) = ss := by
  unfold strL dataL
  rw [List.map_map]
  conv => rhs; rw [← List.map_id ss]
  apply List.map_congr_left
  intro x _
  show (⟨x.data.toList.toArray⟩ : ByteArray) = x
  rfl
def sortN (ss : List ByteArray) : List ByteArray := strL ((dataL ss).mergeSort leB)
theorem sortN_perm (ss : List ByteArray) : (sortN ss).Perm ss := by
  have := (List.mergeSort_perm (dataL ss) leB).map fun x => (⟨x.toArray⟩ : ByteArray)
  unfold sortN
  have e : strL (dataL ss) = ss := strL_dataL ss
  unfold strL at e ⊢
  rw [e] at this
  exact this
theorem sortN_of_perm {ss ts : List ByteArray} (h : ss.Perm ts) : sortN ss = sortN ts := by
  unfold sortN
  have h2 : (dataL ss).Perm (dataL ts) := h.map _
  rw [mergeSort_of_perm h2]
theorem sortN_len (ss : List ByteArray) : (sortN ss).length = ss.length := (sortN_perm ss).length_eq
theorem sort_nil {w : World} {c : Nat} : CallR Tryz.prog 180 [.slice none 0 c] w fun v w' => v = .tuple #[] ∧ w' = w := by
  refine C180 ?_
  unfold L180
  have hlen := lenBits 0 w (by omega)
  refine Calls.mono (hlen : Calls Tryz.prog 207 #[.int .u64 ((0 : Nat) : Int)] w _) ?_
  rintro e w1 ⟨rfl, rfl⟩
  refine ⟨_, rfl, _, rfl, C206 ?_⟩
  unfold L206
  refine ⟨fun vs w' => w' = w1 ∧ ∃ n b1 b2, vs = [.int .i64 0, .int .i64 0, .int .i64 n, .bool b1, .bool b2], fun _ _ => 0, ⟨rfl, _, _, _, rfl⟩, ?_⟩
  rintro _ n7 n8 n9 b10 b11 w2 ⟨rfl, n, b1, b2, hv⟩
  simp only [List.cons.injEq, Value.int.injEq, true_and, and_true] at hv
  obtain ⟨rfl, rfl, _⟩ := hv
  refine ⟨⟨by decide, by decide⟩, condTr2 (C211 ?_)⟩
  unfold L211
  refine ⟨⟨by decide, by decide⟩, fun vs w' => w' = w2 ∧ vs = [.int .i64 1], fun _ _ => 0, ⟨rfl, rfl⟩, ?_⟩
  rintro _ n6 w3 ⟨rfl, hv⟩
  simp only [List.cons.injEq, Value.int.injEq, true_and, and_true] at hv
  subst hv
  exact condFa2 ⟨rfl, rfl, rfl, rfl⟩
theorem sort_ok {w : World} {a : Option Addr} {l c : Nat} {ss : List ByteArray} (h : SlO 1 w a l c (Sv ss)) (hl : l < 4611686018427387904) :
    CallR Tryz.prog 180 [.slice a l c] w fun v w' => v = .tuple #[] ∧ RdS 1 w' a l c (Sv (sortN ss)) ∧ Kept (inA a) w w' := by
  have hlen : ss.length = l := by have := h.1; rw [Sv_len] at this; omega
  rcases h.2 with ⟨rfl, rfl, rfl⟩ | ⟨g, off, cur, rfl, hb, hlc, hcs, htk⟩
  · refine CallR.mono sort_nil ?_
    rintro v w' ⟨rfl, rfl⟩
    have : ss = [] := List.eq_nil_of_length_eq_zero hlen
    subst this
    have e : sortN [] = [] := List.eq_nil_of_length_eq_zero (by rw [sortN_len]; rfl)
    rw [e]
    exact ⟨rfl, RdS.nil 1 _, Kept.refl _ _⟩
  · have hdl : (dataL ss).length = l := by unfold dataL; rw [List.length_map, hlen]
    have henc : ∀ j, j < l → w.cell? ⟨g, off + j, none⟩ = (Sv ss)[j]? := fun j hj => by
      rw [hb.cell, ← htk, List.getElem?_take, if_pos (by omega), List.getElem?_drop]
      simp
    have hH : Holds encStr w g off (dataL ss).toArray := by
      intro j hj
      have hj' : j < ss.length := by have : j < (dataL ss).length := by simpa using hj
                                     omega
      refine ⟨?_, hb.frozen _⟩
      rw [henc j (by omega)]
      unfold Sv dataL
      simp [hj']
    have hs := sortStr g off c (dataL ss) w hH hb.lt (by omega)
    rw [hdl] at hs
    have hs : Calls Tryz.prog 180 #[.slice (some ⟨g, off, none⟩) l c] w _ := hs
    refine Calls.mono hs ?_
    rintro e w' ⟨rfl, n, os, rfl⟩
    have hml : ((dataL ss).mergeSort fun x y => decide (x ≤ y)).length = l := by rw [List.length_mergeSort, hdl]
    have hms : Sv (sortN ss) = ((dataL ss).mergeSort fun x y => decide (x ≤ y)).map encStr := by
      unfold Sv sortN strL
      rw [List.map_map]
      rfl
    generalize hT : ((dataL ss).mergeSort fun x y => decide (x ≤ y)) = T at hml hms
    refine ⟨_, rfl, rfl, ⟨by rw [hms, List.length_map, hml]; omega, hlc, (fun h => by cases h), fun ad had i v hi => ?_⟩, ?_⟩
    · cases had
      rw [add_none]
      have hil : i < T.length := by
        have := (List.getElem?_eq_some_iff.1 hi).1
        rw [hms, List.length_map] at this; exact this
      rw [cell?_grow _ _ _ (by simpa using hb.lt), putRow_ahead, cell?_ahead, cell?_putRow encStr w g off (dataL ss).toArray T.toArray hH (by simp [hml, hdl]) i (by simpa using hil)]
      rw [hms] at hi
      rw [List.getElem?_map, List.getElem?_eq_getElem hil] at hi
      simp only [Option.map_some, Option.some.injEq] at hi
      rw [← hi]
      simp [hil]
    · refine ⟨rfl, rfl, rfl, by simp, fun k hk hne => ?_⟩
      rw [heap_grow_old _ _ (by simpa using hk)]
      have : g ≠ k := fun e => hne ((inA_some _ _ _ _).2 e.symm)
      simp [putRow, mapBlock, Sort.ahead, Array.getElem?_modify, this]
def dataO : AObj → List Int
  | .file bs => bs
  | _ => []
def AK.bytesOf (s : AK) (nm : ByteArray) : List Int := match s.fileOf nm with
  | some f => dataO (s.objs f.2)
  | none => []
def AK.filesV (s : AK) : List (ByteArray × List Int) := (sortN (s.files.map (·.1))).map fun nm => (nm, s.bytesOf nm)
theorem AK.fileOf_mem {s : AK} (h : s.Ok) {f : ByteArray × Nat} (hf : f ∈ s.files) : s.fileOf f.1 = some f := by
  unfold AK.fileOf
  cases hd : s.files.find? (fun g => decide (g.1 = f.1)) with
  | none =>
    rw [List.find?_eq_none] at hd
    have := hd f hf
    simp at this
  | some g =>
    have hg := List.mem_of_find?_eq_some hd
    have hn : g.1 = f.1 := by simpa using List.find?_some hd
    obtain ⟨i, hi, rfl⟩ := List.mem_iff_getElem.1 hf
    obtain ⟨j, hj, rfl⟩ := List.mem_iff_getElem.1 hg
    have : (s.files.map (·.1))[j]'(by simpa using hj) = (s.files.map (·.1))[i]'(by simpa using hi) := by rw [List.getElem_map, List.getElem_map]; exact hn
    have := (List.getElem_inj h.fn).1 this
    subst this
    rfl
theorem AK.termOf_mem {s : AK} (h : (s.terms.map (·.1)).Nodup) {f : ByteArray × Nat} (hf : f ∈ s.terms) : s.termOf f.1 = some f := by
  unfold AK.termOf
  cases hd : s.terms.find? (fun g => decide (g.1 = f.1)) with
  | none =>
    rw [List.find?_eq_none] at hd
    have := hd f hf
    simp at this
  | some g =>
    have hg := List.mem_of_find?_eq_some hd
    have hn : g.1 = f.1 := by simpa using List.find?_some hd
    obtain ⟨i, hi, rfl⟩ := List.mem_iff_getElem.1 hf
    obtain ⟨j, hj, rfl⟩ := List.mem_iff_getElem.1 hg
    have : (s.terms.map (·.1))[j]'(by simpa using hj) = (s.terms.map (·.1))[i]'(by simpa using hi) := by rw [List.getElem_map, List.getElem_map]; exact hn
    have := (List.getElem_inj h).1 this
    subst this
    rfl
theorem AK.filesV_len (s : AK) : s.filesV.length = s.files.length := by
  unfold AK.filesV; rw [List.length_map, sortN_len, List.length_map]
end Go.Proofs.YtpoaacnnhgebfaaGreat
namespace Go.Proofs.YtpoaacnnhgebfaaGreat
open Go.Lw
theorem Nv_one' (es : List (ByteArray × Slc)) : ∀ u ∈ Nv es, u.oneCell' = true := by
  intro u hu
  simp only [Nv, List.mem_flatMap, List.mem_cons, List.not_mem_nil, or_false] at hu
  obtain ⟨f, _, h | h⟩ := hu
  · subst h; rfl
  · subst h; rfl
theorem Nv_app' (a b : List (ByteArray × Slc)) : Nv (a ++ b) = Nv a ++ Nv b := by simp [Nv]
structure OwnN (w0 w : World) (a : Option Addr) (l c : Nat) (fs : List (ByteArray × List Int)) (es : List (ByteArray × Slc)) : Prop where
  sl : SlO 2 w a l c (Nv es)
  len : es.length = fs.length
  each : ∀ i, (h : i < es.length) → (h2 : i < fs.length) → es[i].1 = fs[i].1 ∧ OB w es[i].2.1 es[i].2.2.1 es[i].2.2.2 fs[i].2
  fr : ∀ b, inA a b → w0.heap.size ≤ b
  fe : ∀ i, (h : i < es.length) → ∀ b, inA es[i].2.1 b → w0.heap.size ≤ b ∧ ¬ inA a b
  ap : ∀ i j, (hi : i < es.length) → (hj : j < es.length) → i ≠ j → ∀ b, inA es[i].2.1 b → ¬ inA es[j].2.1 b
theorem OwnN.rd {w0 w : World} {a : Option Addr} {l c : Nat} {fs : List (ByteArray × List Int)} {es : List (ByteArray × Slc)} (h : OwnN w0 w a l c fs es) : RdN RB w a l c fs es :=
  ⟨h.sl.rd, h.len, fun i h1 h2 => ⟨(h.each i h1 h2).1, (h.each i h1 h2).2.rd⟩⟩
theorem OwnN.keep {w0 w w' : World} {a : Option Addr} {l c : Nat} {fs : List (ByteArray × List Int)} {es : List (ByteArray × Slc)} (h : OwnN w0 w a l c fs es) {S : Nat → Prop} (k : Kept S w w') (hn : ∀ b, w0.heap.size ≤ b → b < w.heap.size → ¬ S b) : OwnN w0 w' a l c fs es :=
  ⟨h.sl.keep k fun b hb => hn b (h.fr b hb) (SlO.lt h.sl b hb), h.len, fun i h1 h2 => ⟨(h.each i h1 h2).1, (h.each i h1 h2).2.keep k fun b hb => hn b (h.fe i h1 b hb).1 (SlO.lt (h.each i h1 h2).2 b hb)⟩, h.fr, h.fe, h.ap⟩
theorem OwnN.no {w0 w w' : World} {a : Option Addr} {l c : Nat} {fs : List (ByteArray × List Int)} {es : List (ByteArray × Slc)} (h : OwnN w0 w a l c fs es) (k : Kept No w w') : OwnN w0 w' a l c fs es := h.keep k fun _ _ _ e => e
theorem AK.mF_mem {s : AK} {L : KL} {f : ByteArray × Nat} (hf : f ∈ s.files) : ((.string f.1, pd (L.loc f.2)) : Value × Value) ∈ s.mF L := List.mem_map.2 ⟨f, hf, rfl⟩
set_option maxHeartbeats 2000000 in
theorem kernFiles_ok {w : World} {gk : Nat} {s : AK} {L : KL} (h : KernO w gk s L) :
    CallR Tryz.prog 76 [pd gk] w fun v w' => ∃ a l c es, v = .slice a l c ∧ OwnN w w' a l c s.filesV es ∧ Kept No w w' := by
  refine C76 ?_
  unfold L76
  have hTm : Tryz.prog.underlying 112 = some (.map 9 123) := by kernel_rfl
  have hTs : Tryz.prog.underlying 9 = some .string := by kernel_rfl
  refine enone_to h ⟨false, rfl, condF rfl (nnI ⟨_, h.blk.at (i := 1) rfl, ?_⟩)⟩
  obtain ⟨w2, hrun2, hr2, hk2, hz2⟩ := range_map (P := Tryz.prog) hTm h.mf
  refine ⟨w2, hrun2, ?_⟩
  have hfl := h.ok.fl
  have hLF := h.lt L.rf (by rw [h.oF]; simp)
  obtain ⟨I, hI⟩ : ∃ I : List Value → World → Prop, I = fun vs w' => ∃ (a : Option Addr) (c : Nat) (done : List ByteArray) (lf : List (ByteArray × Nat)), vs = [.slice a done.length c] ∧ RngO w' L.rf w.heap.size .string (s.mF L) (lf.map fun f => (.string f.1, pd (L.loc f.2))) ∧
    SlO 1 w' a done.length c (Sv done) ∧ (∀ b, inA a b → w.heap.size < b) ∧ (done ++ lf.map (·.1)).Perm (s.files.map (·.1)) ∧ Kept No w w' := ⟨_, rfl⟩
  obtain ⟨mu, hmu⟩ : ∃ mu : List Value → World → Nat, mu = fun vs _ => match vs with | [.slice _ l _] => s.files.length - l | _ => 0 := ⟨_, rfl⟩
  refine ⟨I, mu, by rw [hI]; exact ⟨none, 0, [], s.files, rfl, hr2, SlO.nil 1 _, fun b hb => absurd hb (inA_none b), by simp, hk2⟩, ?_⟩
  rintro _ a8 l8 c8 w3 hInv
  rw [hI] at hInv
  obtain ⟨a, c, done, lf, hvs, hr3, hs3, hf3, hp3, hk3⟩ := hInv
  simp only [List.cons.injEq, Value.slice.injEq, and_true] at hvs
  obtain ⟨rfl, rfl, rfl⟩ := hvs
  have hcount : done.length + lf.length = s.files.length := by have := hp3.length_eq; simpa using this
  rcases next_map (P := Tryz.prog) hr3 0 with ⟨hl, hrun⟩ | ⟨p, l1, l2, w5, hl, hpm, hrun, hr5, hk5, hz5, hent⟩
  · left
    have hlf : lf = [] := List.map_eq_nil_iff.1 hl
    subst hlf
    have hp3 : done.Perm (s.files.map (·.1)) := by simpa using hp3
    refine ⟨w3, hrun, CallR.mono (sort_ok hs3 (by omega)) ?_⟩
    rintro v w6 ⟨rfl, hrd6, hk6⟩
    rw [sortN_of_perm hp3] at hrd6
    have k6 : Kept No w w6 := hk3.fresh hk6 fun x hx => by have := hf3 x hx; omega
    have h6 := h.no k6
    have hNl : (sortN (s.files.map (·.1))).length = done.length := by rw [sortN_len, ← hp3.length_eq]
    have hfv : s.filesV.length = done.length := by rw [AK.filesV_len]; simpa using hcount.symm
    refine ⟨rfl, ?_⟩
    obtain ⟨I2, hI2⟩ : ∃ I : List Value → World → Prop, I = fun vs w' => ∃ (i : Nat) (a' : Option Addr) (c' : Nat) (es : List (ByteArray × Slc)), vs = [.slice a' i c', .int .i64 (i : Int)] ∧ i ≤ done.length ∧ OwnN w6 w' a' i c' (s.filesV.take i) es ∧ Kept No w6 w' := ⟨_, rfl⟩
    obtain ⟨mu2, hmu2⟩ : ∃ mu : List Value → World → Nat, mu = fun vs _ => match vs with | [_, .int _ i] => done.length - i.toNat | _ => 0 := ⟨_, rfl⟩
    refine ⟨I2, mu2, by
      rw [hI2]
      exact ⟨0, none, 0, [], rfl, Nat.zero_le _, ⟨SlO.nil 2 _, by simp, fun i h1 => by simp at h1, fun b hb => absurd hb (inA_none b), fun i h1 => by simp at h1, fun i j h1 => by simp at h1⟩, Kept.refl _ _⟩, ?_⟩
    rintro _ a14 l14 c14 n15 w7 hInv
    rw [hI2] at hInv
    obtain ⟨i, a', c', es, hvs, hi, hO, hk7⟩ := hInv
    simp only [List.cons.injEq, Value.slice.injEq, Value.int.injEq, true_and, and_true] at hvs
    obtain ⟨⟨rfl, rfl, rfl⟩, rfl⟩ := hvs
    have hesl : es.length = l14 := by rw [hO.len, List.length_take]; omega
    refine condP (fun hlt => ?_) (fun hge => ?_)
    · have hil : l14 < done.length := by omega
      have hN : l14 < (sortN (s.files.map (·.1))).length := by omega
      have hrd7 := hrd6.keep hk7 fun _ _ _ e => e
      have h7 := h6.no hk7
      obtain ⟨q, hq⟩ : ∃ q, a8 = some q := by
        cases ha : a8 with
        | none => have := RdS.isNone hrd7 ha; omega
        | some q => exact ⟨q, rfl⟩
      generalize hnm : (sortN (s.files.map (·.1)))[l14] = nm
      have hcell := hrd7.2.2.2 q hq l14 (.string nm) (by unfold Sv; rw [List.getElem?_map, List.getElem?_eq_getElem hN, hnm]; rfl)
      obtain ⟨f, hf, hfn⟩ : ∃ f ∈ s.files, f.1 = nm := by
        have : nm ∈ s.files.map (·.1) := (sortN_perm _).mem_iff.1 (by rw [← hnm]; exact List.getElem_mem hN)
        obtain ⟨f, hf, e⟩ := List.mem_map.1 this
        exact ⟨f, hf, e⟩
      have hfo := AK.fileOf_mem h.ok hf
      rw [hfn] at hfo
      have hfi := h.ok.fi f hf
      obtain ⟨bs, hob⟩ : ∃ bs, s.objs f.2 = .file bs := by
        cases ho : s.objs f.2 with
        | file bs => exact ⟨bs, rfl⟩
        | term LL scr => have := hfi.2; rw [ho] at this; cases this
        | pipe bs e0 e1 => have := hfi.2; rw [ho] at this; cases this
      have hby : s.bytesOf nm = bs := by unfold AK.bytesOf; rw [hfo]; dsimp only; rw [hob]; rfl
      have hfv1 : s.filesV.take (l14 + 1) = s.filesV.take l14 ++ [(nm, bs)] := by
        have hx : s.filesV[l14]? = some (nm, bs) := by
          unfold AK.filesV
          rw [List.getElem?_map, List.getElem?_eq_getElem hN, hnm]
          show some (nm, s.bytesOf nm) = _
          rw [hby]
        rw [List.take_add_one, hx]
        rfl
      have hF := h7.ob f.2 hfi.1
      rw [hob] at hF
      have hF : FileO _ w7 (L.loc f.2) bs := hF
      refine ⟨⟨by omega, by omega⟩, nnE2 hq ⟨nm, by rw [Int.toNat_natCast]; exact hcell, nnI ⟨_, h7.blk.at (i := 1) rfl, some ⟨L.loc f.2, 0, none⟩, w7, ?_, ?_⟩⟩⟩
      · have := lookup_in (P := Tryz.prog) hTm hTs h7.mf (k := .string nm) trivial (by have := AK.mF_mem (L := L) hf; rw [hfn] at this; exact this) false
        exact this
      refine CallR.mono (bytes_ok hF) ?_
      rintro v w9 ⟨a21, c21, rfl, ob9, hf9, hk9⟩
      refine ⟨_, _, _, rfl, ?_⟩
      intro w10
      have hk10 : Kept No w9 w10 := Kept.alloc _ _ _
      have hz10 : w10.heap.size = w9.heap.size + 1 := by simp [w10]
      have hnew : SlO 2 w10 (some ⟨w9.heap.size, 0, none⟩) 1 1 (Nv [(nm, (a21, bs.length, c21))]) := SlO.of_blk (sz := 2) (n := 1) (Blk.alloc w9 #[.string nm, .slice a21 bs.length c21] _) rfl
      clear_value w10
      have k710 := hk9.no hk10
      have hO10 := hO.no k710
      obtain ⟨a23, c23, w11, hrun11, hs11, hk11, hat, _⟩ := run_app_sl (P := Tryz.prog) (t := 22) (t2 := 22) (ty := 22) (by kernel_rfl : slTyB Tryz.prog 22 2 40 = true) (by kernel_rfl) hO10.sl hnew.rd (Nv_one' _) (by omega) (by omega)
      rw [← Nv_app'] at hs11
      have hob10 := ob9.keep hk10 fun _ _ e => e
      have hlt9 := SlO.lt ob9
      have hltA := SlO.lt hO.sl
      have hz7 := hk7.size
      have hz9 := hk9.size
      have hz11 := hk11.size
      have hin23 : ∀ b, inA a23 b → inA a14 b ∨ b = w10.heap.size := fun b hb => hat.in hb
      refine ⟨a23, _, c23, w11, hrun11, ⟨by omega, by omega⟩, by
        rw [hI2]
        refine ⟨l14 + 1, a23, c23, es ++ [(nm, (a21, bs.length, c21))], rfl, by omega, ⟨hs11, by rw [hfv1, List.length_append, List.length_append, hO.len]; rfl, fun j h1 h2 => ?_, fun b hb => ?_, fun j h1 b hb => ?_, fun j k h1 h2 hjk b hb hb2 => ?_⟩, (hk7.no k710).fresh hk11 fun x hx => hO.fr x hx⟩
        · by_cases hj : j < es.length
          · have hj2 : j < (s.filesV.take l14).length := by rw [← hO.len]; exact hj
            have e1 : (s.filesV.take (l14 + 1))[j] = (s.filesV.take l14)[j] := by
              simp only [hfv1]
              rw [List.getElem_append_left hj2]
            rw [List.getElem_append_left hj, e1]
            obtain ⟨g1, g2⟩ := hO10.each j hj hj2
            exact ⟨g1, g2.keep hk11 fun b hb e => (hO.fe j hj b hb).2 e⟩
          · have hje : j = l14 := by simp at h1; omega
            subst hje
            have e1 : (s.filesV.take (j + 1))[j] = (nm, bs) := by
              simp only [hfv1]
              rw [List.getElem_append_right (by rw [← hO.len]; omega)]
              simp [← hO.len, hesl]
            rw [List.getElem_append_right (by omega), e1]
            simp only [hesl, Nat.sub_self, List.getElem_cons_zero]
            exact ⟨trivial, hob10.keep hk11 fun b hb e => by have := hf9 b hb; have := hltA b e; omega⟩
        · rcases hin23 b hb with e | e
          · exact hO.fr b e
          · omega
        · by_cases hj : j < es.length
          · rw [List.getElem_append_left hj] at hb
            obtain ⟨g1, g2⟩ := hO.fe j hj b hb
            refine ⟨g1, fun e => ?_⟩
            rcases hin23 b e with e | e
            · exact g2 e
            · have hj2 : j < (s.filesV.take l14).length := by rw [← hO.len]; exact hj
              have := SlO.lt (hO.each j hj hj2).2 b hb
              omega
          · have hje : j = l14 := by simp at h1; omega
            subst hje
            rw [List.getElem_append_right (by omega)] at hb
            simp only [hesl, Nat.sub_self, List.getElem_cons_zero] at hb
            have := hf9 b hb
            refine ⟨by omega, fun e => ?_⟩
            rcases hin23 b e with e | e
            · have := hltA b e; omega
            · have := hlt9 b hb; omega
        · have old : ∀ {m : Nat} (hm : m < es.length), inA es[m].2.1 b → b < w7.heap.size := fun {m} hm hb => by
            have hm2 : m < (s.filesV.take l14).length := by rw [← hO.len]; exact hm
            exact SlO.lt (hO.each m hm hm2).2 b hb
          by_cases hj : j < es.length
          · by_cases hk : k < es.length
            · rw [List.getElem_append_left hj] at hb
              rw [List.getElem_append_left hk] at hb2
              exact hO.ap j k hj hk hjk b hb hb2
            · have hke : k = l14 := by simp at h2; omega
              subst hke
              rw [List.getElem_append_left hj] at hb
              rw [List.getElem_append_right (by omega)] at hb2
              simp only [hesl, Nat.sub_self, List.getElem_cons_zero] at hb2
              have := old hj hb
              have := hf9 b hb2
              omega
          · have hje : j = l14 := by simp at h1; omega
            by_cases hk : k < es.length
            · subst hje
              rw [List.getElem_append_left hk] at hb2
              rw [List.getElem_append_right (by omega)] at hb
              simp only [hesl, Nat.sub_self, List.getElem_cons_zero] at hb
              have := old hk hb2
              have := hf9 b hb
              omega
            · have hke : k = l14 := by simp at h2; omega
              omega, ?_⟩
      rw [hmu2]
      show done.length - ((l14 : Int) + 1).toNat < done.length - (l14 : Int).toNat
      omega
    · have hle : l14 = done.length := by omega
      have htk : s.filesV.take l14 = s.filesV := List.take_of_length_le (by omega)
      rw [htk] at hO
      refine ⟨_, _, _, es, rfl, ⟨hO.sl, hO.len, hO.each, fun b hb => ?_, fun j h1 b hb => ?_, hO.ap⟩, k6.no hk7⟩
      · have := hO.fr b hb; have := k6.size; omega
      · obtain ⟨g1, g2⟩ := hO.fe j h1 b hb
        exact ⟨by have := k6.size; omega, g2⟩
  · right
    obtain ⟨lf1, f, lf2, rfl, e1, rfl, e2⟩ : ∃ lf1 f lf2, lf = lf1 ++ f :: lf2 ∧ l1 = lf1.map (fun f => ((.string f.1, pd (L.loc f.2)) : Value × Value)) ∧ p = (.string f.1, pd (L.loc f.2)) ∧ l2 = lf2.map (fun f => ((.string f.1, pd (L.loc f.2)) : Value × Value)) := by
      obtain ⟨x1, x2, e1, e2, e3⟩ := List.map_eq_append_iff.1 hl
      obtain ⟨f, x3, e4, e5, e6⟩ := List.map_eq_cons_iff.1 e3
      exact ⟨x1, f, x3, by rw [e1, e4], e2.symm, e5.symm, e6.symm⟩
    rw [e1, e2, ← List.map_append] at hr5
    refine ⟨_, _, w5, hrun, f.1, _, w5, hent, ?_⟩
    intro w13
    have hk13 : Kept No w5 w13 := Kept.alloc _ _ _
    have hz13 : w13.heap.size = w5.heap.size + 1 := by simp [w13]
    have hnew : SlO 1 w13 (some ⟨w5.heap.size, 0, none⟩) 1 1 (Sv [f.1]) := SlO.of_blk (sz := 1) (n := 1) (Blk.alloc w5 #[.string f.1] _) rfl
    clear_value w13
    have hit : w.heap.size < w3.heap.size := hr3.lt
    have hs13 := (hs3.keep hk5 fun b hb e => by have := hf3 b hb; omega).keep hk13 fun _ _ e => e
    obtain ⟨a26, c26, w14, hrun14, hs14, hk14, hat, _⟩ := run_app_sl (P := Tryz.prog) (t := 131) (t2 := 131) (ty := 131) (by kernel_rfl : slTyB Tryz.prog 131 1 16 = true) (by kernel_rfl) hs13 hnew.rd (Sv_one _) (by omega) (by omega)
    have hsv : Sv done ++ Sv [f.1] = Sv (done ++ [f.1]) := by simp [Sv]
    rw [hsv] at hs14
    have hdl : done.length + 1 = (done ++ [f.1]).length := by simp
    have hin26 : ∀ b, inA a26 b → w.heap.size < b := fun b hb => by
      rcases hat.in hb with e | e
      · exact hf3 b e
      · omega
    have k5 : Kept No w w5 := hk3.fresh hk5 fun x e => by omega
    refine ⟨a26, _, c26, w14, hrun14, ?_, ?_⟩
    · rw [hI, hdl]
      refine ⟨a26, c26, done ++ [f.1], lf1 ++ lf2, rfl, (hr5.keep hk13 (fun e => e) fun e => e).keep hk14 (fun e => ?_) fun e => ?_, by rw [← hdl]; exact hs14, hin26, ?_, (k5.no hk13).fresh hk14 fun x e => by have := hf3 x e; omega⟩
      · have := hf3 _ e; omega
      · have := hf3 _ e; omega
      · refine List.Perm.trans ?_ hp3
        simp only [List.map_append, List.map_cons, List.append_assoc, List.singleton_append]
        refine List.Perm.append_left _ ?_
        exact (List.perm_middle (l₁ := lf1.map (·.1))).symm
    · rw [hmu]
      show s.files.length - (done.length + 1) < s.files.length - done.length
      have : (lf1 ++ f :: lf2).length = lf1.length + (lf2.length + 1) := by simp
      omega
end Go.Proofs.YtpoaacnnhgebfaaGreat
namespace Go.Proofs.YtpoaacnnhgebfaaGreat
open Go.Lw
theorem strEq (a b : ByteArray) : (ByteArray.toList a == ByteArray.toList b) = decide (a = b) := by
  rw [ByteArray.toList_eq, ByteArray.toList_eq]
  by_cases h : a = b
  · subst h; simp
  · rw [decide_eq_false h]
    have : ¬ a.data.toList = b.data.toList := fun e => h (by
      cases a; cases b
      simp only at e
      rw [Array.toList_inj.1 e])
    simpa using this
theorem sameNamed_ok {w : World} {a : Option Addr} {l c : Nat} {fs : List (ByteArray × List Int)} {es : List (ByteArray × Slc)} (h : RdN RB w a l c fs es) {a2 : Option Addr} {l2 c2 : Nat} {gs : List (ByteArray × List Int)} {es2 : List (ByteArray × Slc)} (h2 : RdN RB w a2 l2 c2 gs es2)
    (hl : l ≤ 140737488355328) (hb : ∀ f ∈ fs, f.2.length ≤ 140737488355328) :
    CallR Tryz.prog 75 [.slice a l c, .slice a2 l2 c2] w fun v w' => v = .bool (decide (fs = gs)) ∧ Kept No w w' := by
  have hfl : fs.length = l := by have := h.rd.1; rw [Nv_len, h.len] at this; omega
  have hgl : gs.length = l2 := by have := h2.rd.1; rw [Nv_len, h2.len] at this; omega
  refine C75 ?_
  unfold L75
  refine condI (fun hne => ⟨?_, Kept.refl _ _⟩) (fun heq => ?_)
  · have hne : l ≠ l2 := by simp at hne; omega
    rw [decide_eq_false]
    rintro rfl
    omega
  · have hll : l = l2 := by simp at heq; omega
    subst hll
    refine ⟨fun vs w' => ∃ n : Nat, vs = [.int .i64 (n : Int)] ∧ n ≤ l ∧ fs.take n = gs.take n ∧ Kept No w w', fun vs _ => l - ix vs, ⟨0, rfl, Nat.zero_le _, by simp, Kept.refl _ _⟩, ?_⟩
    rintro _ n5 w1 ⟨n, hv, hn, htk, hk⟩
    simp only [List.cons.injEq, Value.int.injEq, true_and, and_true] at hv
    subst hv
    refine condP (fun hlt => ?_) (fun hge => ?_)
    · intro w2
      have hk2 : Kept No w w2 := hk.no (Kept.drew _ _)
      clear_value w2
      have hx : n < fs.length := by omega
      have hy : n < gs.length := by omega
      obtain ⟨q, sl, haq, e1, e2, hR, _⟩ := (h.no (fun _ _ _ _ h k => h.no k) hk2).at hx
      obtain ⟨q2, sl2, haq2, e3, e4, hR2, _⟩ := (h2.no (fun _ _ _ _ h k => h.no k) hk2).at hy
      have e0 : Int.toNat (n : Int) = n := Int.toNat_natCast n
      rw [e0]
      have hr : 0 ≤ (n : Int) ∧ (n : Int) < ((l : Nat) : Int) := by omega
      have no : fs[n] ≠ gs[n] → ((.bool false : Value) = .bool (decide (fs = gs)) ∧ Kept No w w2) := fun hne => ⟨by
        rw [decide_eq_false]
        rintro rfl
        exact hne rfl, hk2⟩
      refine ⟨hr, nnE2 haq ⟨_, e1, hr, nnE2 haq2 ⟨_, e3, ?_⟩⟩⟩
      rw [strEq]
      by_cases hnm : fs[n].1 = gs[n].1
      · rw [decide_eq_true hnm]
        have hbl := hb fs[n] (List.getElem_mem hx)
        refine condFa2 ⟨hr, nnE2 haq ⟨_, _, _, e2, hr, nnE2 haq2 ⟨_, _, _, e4, CallR.mono (same_ok hR hR2 (by have := RdB.len hR; omega)) ?_⟩⟩⟩
        rintro v w3 ⟨rfl, hk3, _⟩
        refine ⟨_, rfl, ?_⟩
        by_cases hd : fs[n].2 = gs[n].2
        · rw [decide_eq_true hd]
          refine condFa2 ⟨⟨by omega, by omega⟩, ⟨n + 1, rfl, by omega, ?_, hk2.no hk3⟩, by simp only [ix]; omega⟩
          rw [List.take_add_one, List.take_add_one, htk, List.getElem?_eq_getElem hx, List.getElem?_eq_getElem hy, Prod.ext hnm hd]
        · rw [decide_eq_false hd]
          have := no fun e => hd (by rw [e])
          exact condTr2 ⟨this.1, hk2.no hk3⟩
      · rw [decide_eq_false hnm]
        exact condTr2 (no fun e => hnm (by rw [e]))
    · have : n = l := by omega
      subst this
      rw [List.take_of_length_le (by omega), List.take_of_length_le (by omega)] at htk
      exact ⟨by rw [decide_eq_true htk], hk⟩
theorem run_Bind' {α β : Type} {P : Program} (m : Sem α) (f : α → Sem β) (w : World) : Sem.run P (Sem.bind m f) w = (m.run P w).andThen fun a w' => (f a).run P w' := by
  have : Sem.bind m f = (m >>= f) := rfl
  rw [this, Sem.run_bind]
def intsB (P : Program) (n : Nat) : List Field → Nat → Bool
  | [], o => Nat.beq o n
  | f :: r, o => Nat.beq f.offset o && !(f.name == "_") && (match P.underlying f.type with | some (.int .i64) => true | _ => false) && intsB P n r (o + 1)
theorem eqfI {P : Program} {w : World} {m : Nat} {xs ys : Array Value} {X Y : Nat → Int} (hx : ∀ i, i < m → xs[i]? = some (.int .i64 (X i))) (hy : ∀ i, i < m → ys[i]? = some (.int .i64 (Y i))) (d : Nat) :
    ∀ (fs : List Field) (o : Nat), intsB P m fs o = true → (Op.eqFields (d + 1) xs ys fs).run P w = .ok ((List.range' o fs.length).all fun i => X i == Y i) w ∧ o + fs.length = m
  | [], o, h => by
    have := Nat.eq_of_beq_eq_true h
    subst this
    exact ⟨rfl, rfl⟩
  | f :: r, o, h => by
    unfold intsB at h
    simp only [Bool.and_eq_true] at h
    obtain ⟨⟨⟨h1, h2⟩, h3⟩, h4⟩ := h
    have ho : f.offset = o := Nat.eq_of_beq_eq_true h1
    have hn : f.name ≠ "_" := by simpa using h2
    have hu : P.underlying f.type = some (.int .i64) := by
      split at h3
      · assumption
      · cases h3
    obtain ⟨ih, hl⟩ := eqfI (w := w) hx hy d r (o + 1) h4
    have hlen : o + (f :: r).length = m := by simp; omega
    have ho8 : o < m := by simp at hlen; omega
    have hag : isAggB P f.type = false := by unfold isAggB; rw [hu]
    have px : (part f.type xs f.offset).run P w = .ok (.int .i64 (X o)) w := by
      unfold part
      simp only [Sem.run_bind, run_isAgg hu, hag, Result.andThen_ok, Bool.false_eq_true, if_false, ho, hx o ho8, Sem.run_pure]
    have py : (part f.type ys f.offset).run P w = .ok (.int .i64 (Y o)) w := by
      unfold part
      simp only [Sem.run_bind, run_isAgg hu, hag, Result.andThen_ok, Bool.false_eq_true, if_false, ho, hy o ho8, Sem.run_pure]
    refine ⟨?_, hlen⟩
    unfold Op.eqFields
    simp only [hn, ne_eq, not_false_eq_true, if_true, Sem.run_bind, px, py, Result.andThen_ok, run_equalIn_int w d f.type .i64 .i64 (X o) (Y o) hu]
    cases hxy : (X o == Y o) with
    | false => simp [List.range'_succ, hxy]
    | true => simp [List.range'_succ, hxy, ih]
theorem neFault {w : World} {x y : Operand} (f g : Int × Int) : Sem.run Tryz.prog (Sem.bind (eqGuard .neq 188 x y (.agg #[.int .i64 f.1, .int .i64 f.2]) (.agg #[.int .i64 g.1, .int .i64 g.2])) (fun _ => binOp .neq 188 (.agg #[.int .i64 f.1, .int .i64 f.2]) (.agg #[.int .i64 g.1, .int .i64 g.2]))) w = .ok (.bool (!decide (f = g))) w := by
  have h1 : Tryz.prog.eqGuardType Tryz.prog.depth 188 = false := by kernel_rfl
  have h2 : Tryz.prog.underlying 188 = some (.struct (Tryz.prog.fieldsOf 188)) := by kernel_rfl
  have h3 : Tryz.prog.stoodInHeld 188 = false := by kernel_rfl
  have h4 : intsB Tryz.prog 2 (Tryz.prog.fieldsOf 188).toList 0 = true := by kernel_rfl
  have he := eqfI (P := Tryz.prog) (w := w) (m := 2) (xs := #[.int .i64 f.1, .int .i64 f.2]) (ys := #[.int .i64 g.1, .int .i64 g.2]) (X := fun i => if i = 0 then f.1 else f.2) (Y := fun i => if i = 0 then g.1 else g.2)
    (fun i hi => by match i, hi with | 0, _ => rfl | 1, _ => rfl) (fun i hi => by match i, hi with | 0, _ => rfl | 1, _ => rfl) 9998 _ 0 h4
  have hlen : (Tryz.prog.fieldsOf 188).toList.length = 2 := by have := he.2; omega
  have hall : ((List.range' 0 2).all fun i => (if i = 0 then f.1 else f.2) == (if i = 0 then g.1 else g.2)) = decide (f = g) := by
    obtain ⟨f1, f2⟩ := f
    obtain ⟨g1, g2⟩ := g
    rw [Bool.eq_iff_iff]
    simp [List.range'_succ]
  rw [run_Bind', run_eqGuard_agg w .neq 188 x y _ _ h1, Result.andThen_ok, run_neq_struct, run_equalIn_struct w 9999 188 _ _ h2 h3, he.1, hlen, hall]
  rfl
theorem sameFaults_ok {w : World} {a : Option Addr} {l c : Nat} {ps : List (Int × Int)} (h : RdS 2 w a l c (Fv ps)) {a2 : Option Addr} {l2 c2 : Nat} {qs : List (Int × Int)} (h2 : RdS 2 w a2 l2 c2 (Fv qs)) (hl : l ≤ 140737488355328) :
    CallR Tryz.prog 78 [.slice a l c, .slice a2 l2 c2] w fun v w' => v = .bool (decide (ps = qs)) ∧ Kept No w w' := by
  have hfl : ps.length = l := by have := h.1; rw [Fv_len] at this; omega
  have hgl : qs.length = l2 := by have := h2.1; rw [Fv_len] at this; omega
  refine C78 ?_
  unfold L78
  refine condI (fun hne => ⟨?_, Kept.refl _ _⟩) (fun heq => ?_)
  · have hne : l ≠ l2 := by simp at hne; omega
    rw [decide_eq_false]
    rintro rfl
    omega
  · have hll : l = l2 := by simp at heq; omega
    subst hll
    refine ⟨fun vs w' => ∃ n : Nat, vs = [.int .i64 (n : Int)] ∧ n ≤ l ∧ ps.take n = qs.take n ∧ Kept No w w', fun vs _ => l - ix vs, ⟨0, rfl, Nat.zero_le _, by simp, Kept.refl _ _⟩, ?_⟩
    rintro _ n5 w1 ⟨n, hv, hn, htk, hk⟩
    simp only [List.cons.injEq, Value.int.injEq, true_and, and_true] at hv
    subst hv
    refine condP (fun hlt => ?_) (fun hge => ?_)
    · intro w2
      have hk2 : Kept No w w2 := hk.no (Kept.drew _ _)
      clear_value w2
      have hx : n < ps.length := by omega
      have hy : n < qs.length := by omega
      have h' := h.keep hk2 fun _ _ _ e => e
      have h2' := h2.keep hk2 fun _ _ _ e => e
      obtain ⟨q, haq⟩ : ∃ q, a = some q := by
        cases ha : a with
        | none => have := RdS.isNone h' ha; omega
        | some q => exact ⟨q, rfl⟩
      obtain ⟨q2, haq2⟩ : ∃ q, a2 = some q := by
        cases ha : a2 with
        | none => have := RdS.isNone h2' ha; omega
        | some q => exact ⟨q, rfl⟩
      obtain ⟨f1, f2⟩ := Fv_at hx
      obtain ⟨g1, g2⟩ := Fv_at hy
      have e1 := h'.2.2.2 q haq _ _ f1
      have e2 := h'.2.2.2 q haq _ _ f2
      have e3 := h2'.2.2.2 q2 haq2 _ _ g1
      have e4 := h2'.2.2.2 q2 haq2 _ _ g2
      rw [← Lw.add_add] at e2 e4
      have e0 : Int.toNat (n : Int) = n := Int.toNat_natCast n
      rw [e0]
      have hr : 0 ≤ (n : Int) ∧ (n : Int) < ((l : Nat) : Int) := by omega
      refine ⟨hr, nnE2 haq ⟨_, _, e1, e2, hr, nnE2 haq2 ⟨_, _, e3, e4, _, _, neFault ps[n] qs[n], ?_⟩⟩⟩
      by_cases he : ps[n] = qs[n]
      · rw [decide_eq_true he]
        refine condFa2 ⟨⟨by omega, by omega⟩, ⟨n + 1, rfl, by omega, ?_, hk2⟩, by simp only [ix]; omega⟩
        rw [List.take_add_one, List.take_add_one, htk, List.getElem?_eq_getElem hx, List.getElem?_eq_getElem hy, he]
      · rw [decide_eq_false he]
        refine condTr2 ⟨?_, hk2⟩
        rw [decide_eq_false]
        rintro rfl
        exact he rfl
    · have : n = l := by omega
      subst this
      rw [List.take_of_length_le (by omega), List.take_of_length_le (by omega)] at htk
      exact ⟨by rw [decide_eq_true htk], hk⟩
theorem rest_ok {w : World} {gk : Nat} {s : AK} {L : KL} (h : KernO w gk s L) :
    CallR Tryz.prog 79 [pd gk] w fun v w' => ∃ a c, v = .slice a s.ps.length c ∧ SlO 2 w' a s.ps.length c (Fv s.ps) ∧ Kept No w w' ∧ Fresh w a := by
  refine C79 ?_
  unfold L79
  refine enone_to h ⟨false, rfl, condF rfl (nnI ⟨_, h.blk.at (i := 5) rfl, C182 ?_⟩)⟩
  unfold L182
  obtain ⟨a, l, c, hp, _⟩ := h.pl
  have hl : s.ps.length = l := by have := hp.rd.1; rw [Fv_len] at this; omega
  have := h.ok.ps
  refine condFa2 (nnI ⟨_, _, _, hp.blk.at (i := 1) rfl, CallR.mono (fclone_ok hp.rd (by omega)) ?_⟩)
  rintro v w1 ⟨a', c', rfl, hs, hk, hf⟩
  exact ⟨_, _, _, rfl, _, _, _, rfl, a', c', by rw [hl], by rw [hl]; exact hs, hk, hf⟩
theorem calls_ok {w : World} {gk : Nat} {s : AK} {L : KL} (h : KernO w gk s L) :
    CallR Tryz.prog 74 [pd gk] w fun v w' => v = .tuple #[.int .i64 s.c0, .int .i64 s.c1] ∧ Kept No w w' := by
  refine C74 ?_
  unfold L74
  have hc : ((⟨gk, 0, none⟩ : Addr).add 6).add 1 = (⟨gk, 0, none⟩ : Addr).add 7 := by rw [Lw.add_add]
  have hc0 : ((⟨gk, 0, none⟩ : Addr).add 6).add (Int.toNat 0) = (⟨gk, 0, none⟩ : Addr).add 6 := by rw [Lw.add_add]; rfl
  refine enone_to h ⟨false, rfl, condF rfl (nnI ⟨⟨by omega, by omega⟩, s.c0, ?_, nnI ⟨⟨by omega, by omega⟩, s.c1, ?_, fun nd => ⟨rfl, Kept.drewN _ _ _⟩⟩⟩)⟩
  · rw [hc0]; exact h.blk.at (i := 6) rfl
  · show w.cell? (((⟨gk, 0, none⟩ : Addr).add 6).add 1) = _
    rw [hc]; exact h.blk.at (i := 7) rfl
def scrO : AObj → List Int
  | .term _ scr => scr
  | _ => []
def AK.screenV (s : AK) (nm : ByteArray) : List Int × Bool := match s.termOf nm with
  | some t => (scrO (s.objs t.2), true)
  | none => ([], false)
theorem screen_ok {w : World} {gk : Nat} {s : AK} {L : KL} (h : KernO w gk s L) (nm : ByteArray) :
    CallR Tryz.prog 81 [pd gk, .string nm] w fun v w' => ∃ a l c, v = .tuple #[.slice a l c, .bool (s.screenV nm).2] ∧ OB w' a l c (s.screenV nm).1 ∧ Kept No w w' ∧ Fresh w a := by
  refine C81 ?_
  unfold L81
  have hT : Tryz.prog.underlying 113 = some (.map 9 128) := by kernel_rfl
  have hS : Tryz.prog.underlying 9 = some .string := by kernel_rfl
  refine enone_to h ⟨false, rfl, condF rfl (nnI ⟨_, h.blk.at (i := 2) rfl, ?_⟩)⟩
  unfold AK.screenV
  cases ht : s.termOf nm with
  | none =>
    have hout : ∀ x ∈ s.mT L, x.1 ≠ .string nm := by
      intro x hx e
      obtain ⟨t, htm, rfl⟩ := List.mem_map.1 hx
      simp only [Value.string.injEq] at e
      unfold AK.termOf at ht
      rw [List.find?_eq_none] at ht
      have := ht t htm
      simp [e] at this
    refine ⟨none, false, w, lookup_out hT hS h.mt (k := .string nm) trivial hout (z := .pointer none) (by kernel_rfl) true, C183 ?_⟩
    unfold L183
    exact condTr2 ⟨_, _, _, rfl, none, 0, 0, rfl, OB.nil _, Kept.refl _ _, Fresh.none _⟩
  | some t =>
    have htm := List.mem_of_find?_eq_some ht
    have htn : t.1 = nm := by simpa using List.find?_some ht
    have hti := h.ok.ti t htm
    obtain ⟨LL, scr, hob⟩ : ∃ LL scr, s.objs t.2 = .term LL scr := by
      cases ho : s.objs t.2 with
      | file bs => have := hti.2; rw [ho] at this; cases this
      | term LL scr => exact ⟨LL, scr, rfl⟩
      | pipe bs e0 e1 => have := hti.2; rw [ho] at this; cases this
    have hO := h.ob t.2 hti.1
    rw [hob] at hO
    have hO : TermO _ _ w (L.loc t.2) LL scr := hO
    have hin : ((.string nm, pd (L.loc t.2)) : Value × Value) ∈ s.mT L := by rw [← htn]; exact List.mem_map.2 ⟨t, htm, rfl⟩
    refine ⟨some ⟨L.loc t.2, 0, none⟩, true, w, lookup_in hT hS h.mt (k := .string nm) trivial hin true, CallR.mono (tscreen_ok hO) ?_⟩
    rintro v w' ⟨a', c', rfl, ho, hf, hk⟩
    dsimp only
    rw [hob]
    exact ⟨_, _, _, rfl, a', _, c', rfl, ho, hk, hf⟩
end Go.Proofs.YtpoaacnnhgebfaaGreat
namespace Go.Proofs.YtpoaacnnhgebfaaGreat
open Go.Lw
theorem AK.filesV_bound {w : World} {gk : Nat} {s : AK} {L : KL} (h : KernO w gk s L) : ∀ f ∈ s.filesV, f.2.length ≤ 1048576 := by
  intro f hf
  unfold AK.filesV at hf
  obtain ⟨nm, _, rfl⟩ := List.mem_map.1 hf
  show (s.bytesOf nm).length ≤ 1048576
  unfold AK.bytesOf
  split
  · rename_i g hg
    have hm := List.mem_of_find?_eq_some hg
    have hO := h.ob g.2 (h.ok.fi g hm).1
    cases ho : s.objs g.2 with
    | file bs =>
      rw [ho] at hO
      obtain ⟨_, _, _, _, _, _, hl, _⟩ := hO
      exact hl
    | term _ _ => simp [dataO]
    | pipe _ _ _ => simp [dataO]
  · simp
theorem OwnN.len_eq {w0 w : World} {a : Option Addr} {l c : Nat} {fs : List (ByteArray × List Int)} {es : List (ByteArray × Slc)} (h : OwnN w0 w a l c fs es) : l = fs.length := by
  have := h.rd.rd.1; rw [Nv_len, h.len] at this; omega
structure Two (W w : World) (gk gm : Nat) (s r : AK) (L M : KL) : Prop where
  hk : KernO w gk s L
  hm : KernO w gm r M
  ap : ∀ z, L.own z ≠ none → M.own z = none
  nk : ∀ z, L.own z ≠ none → W.heap.size ≤ z
  nm : ∀ z, M.own z ≠ none → W.heap.size ≤ z
  kp : Kept No W w
theorem Two.no {W w w' : World} {gk gm : Nat} {s r : AK} {L M : KL} (h : Two W w gk gm s r L M) (k : Kept No w w') : Two W w' gk gm s r L M := ⟨h.hk.no k, h.hm.no k, h.ap, h.nk, h.nm, h.kp.no k⟩
theorem Two.first {W w w' : World} {gk gm : Nat} {s r s' : AK} {L M L' : KL} (h : Two W w gk gm s r L M) (hK : KernO w' gk s' L') (st : KStep w w' L L') : Two W w' gk gm s' r L' M where
  hk := hK
  hm := h.hm.keep st.kept fun x hx => h.ap x hx
  ap := fun z hz => by
    rcases st.grew z hz with e | e
    · exact h.ap z e
    · cases ho : M.own z with
      | none => rfl
      | some t => have := h.hm.lt z (by rw [ho]; simp); omega
  nk := fun z hz => by
    rcases st.grew z hz with e | e
    · exact h.nk z e
    · have := h.kp.size; omega
  nm := h.nm
  kp := h.kp.trans st.kept fun y hy e => by have := h.nk y e; omega
theorem Two.old {W w : World} {gk gm : Nat} {s r : AK} {L M : KL} (h : Two W w gk gm s r L M) {z : Nat} (hz : z < W.heap.size) : L.own z = none ∧ M.own z = none := by
  constructor
  · cases ho : L.own z with
    | none => rfl
    | some t => have := h.nk z (by rw [ho]; simp); omega
  · cases ho : M.own z with
    | none => rfl
    | some t => have := h.nm z (by rw [ho]; simp); omega
end Go.Proofs.YtpoaacnnhgebfaaGreat
