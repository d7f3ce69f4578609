/-
  A write through a kernel's description that is made again and again. Conditions: as each says.
-/
import Derived.Test.YtkjmlbplmffekaaGreatRt
import Derived.Test.YtkjmlbplmffekaaGreatKeP
import Derived.Test.YtkjmlbplmffekaaGreatLPt
set_option linter.unusedVariables false
namespace Go.Proofs.YtkjmlbplmffekaaGreat
open Go.Lw
namespace AK

def putN : Nat → AK → Int → List Int → Nat → Nat → Int × Int × AK
  | 0, s, d, b, done, p => ((done : Int), 0, s)
  | k + 1, s, d, b, done, p =>
    if b.length ≤ done then ((b.length : Int), 0, s) else
    if (s.write d (b.drop done)).2.1 = 22 ∨ (s.write d (b.drop done)).2.1 = 23 ∨ ((s.write d (b.drop done)).2.1 = 0 ∧ (s.write d (b.drop done)).1 = 0) then
      (if 8192 ≤ p + 1 then ((done : Int), 81, (s.write d (b.drop done)).2.2) else putN k (s.write d (b.drop done)).2.2 d b done (p + 1))
    else if (s.write d (b.drop done)).2.1 ≠ 0 then ((done : Int), (s.write d (b.drop done)).2.1, (s.write d (b.drop done)).2.2)
    else if (s.write d (b.drop done)).1 < 0 ∨ ((b.drop done).length : Int) < (s.write d (b.drop done)).1 then ((done : Int), 82, (s.write d (b.drop done)).2.2)
    else putN k (s.write d (b.drop done)).2.2 d b (done + (s.write d (b.drop done)).1.toNat) 0

theorem putN_succ (k : Nat) (s : AK) (d : Int) (b : List Int) (done p : Nat) : putN (k + 1) s d b done p =
    if b.length ≤ done then ((b.length : Int), 0, s) else
    if (s.write d (b.drop done)).2.1 = 22 ∨ (s.write d (b.drop done)).2.1 = 23 ∨ ((s.write d (b.drop done)).2.1 = 0 ∧ (s.write d (b.drop done)).1 = 0) then
      (if 8192 ≤ p + 1 then ((done : Int), 81, (s.write d (b.drop done)).2.2) else putN k (s.write d (b.drop done)).2.2 d b done (p + 1))
    else if (s.write d (b.drop done)).2.1 ≠ 0 then ((done : Int), (s.write d (b.drop done)).2.1, (s.write d (b.drop done)).2.2)
    else if (s.write d (b.drop done)).1 < 0 ∨ ((b.drop done).length : Int) < (s.write d (b.drop done)).1 then ((done : Int), 82, (s.write d (b.drop done)).2.2)
    else putN k (s.write d (b.drop done)).2.2 d b (done + (s.write d (b.drop done)).1.toNat) 0 := rfl

def rput (s : AK) (d : Int) (b : List Int) : Int × Int × AK := if 1048576 < b.length then (0, 5, s) else putN (8192 * b.length + 8193) s d b 0 0

end AK

theorem hv_write {w : World} {g : Nat} {d : Int} (args : Array Value) : Sem.run Tryz.prog (callMethod (hv g d) "Write" args) w = .ok (.enter 14 (#[.agg #[pd g, .int .i64 d]] ++ args)) w :=
  call_of (by intro recv w; kernel_rfl) (by kernel_rfl) _ _ _

theorem hv_nilM {g : Nat} {d : Int} : nilM Tryz.prog (hv g d) "Write" := by
  unfold nilM hv
  intro w
  kernel_rfl

theorem hwrite_ok {w : World} {gk : Nat} {s : AK} {L : KL} (h : KernO w gk s L) (d : Int) {a : Option Addr} {l c : Nat} {ds : List Int} (hd : RdB w a l c ds) (hap : ds ≠ [] → ∀ k, inA a k → L.own k = none) (hc : s.c1 ≤ 1152921504606846976) :
    CallR Tryz.prog 14 [.agg #[pd gk, .int .i64 d], .slice a l c] w fun v w' => v = .tuple #[.int .i64 (s.write d ds).1, .int .i64 (s.write d ds).2.1] ∧ ∃ L', KernO w' gk (s.write d ds).2.2 L' ∧ KStep w w' L L' := by
  refine C14 ?_
  unfold L14
  intro w1
  have hb1 : Blk w1 w.heap.size #[pd gk, .int .i64 d] := Blk.alloc _ _ _
  have hk1 : Kept No w w1 := Kept.alloc _ _ _
  clear_value w1
  refine ⟨_, (hb1.cell 0).trans rfl, _, (hb1.cell 1).trans rfl, CallR.mono (kernWrite_ok (h.no hk1) d (hd.keep hk1 fun _ _ _ e => e) hap hc) ?_⟩
  rintro v w2 ⟨rfl, L', h2, st⟩
  exact ⟨_, _, rfl, rfl, L', h2, st.fresh hk1⟩

theorem tup2 {x y e : Int} (h : x = y) : (.tuple #[.int .i64 x, .int .i64 e] : Value) = .tuple #[.int .i64 y, .int .i64 e] := by rw [h]

theorem rput_ok {w : World} {gk : Nat} {s : AK} {L : KL} (h : KernO w gk s L) (d : Int) {a : Option Addr} {l c : Nat} {bs : List Int} (hb : RdB w a l c bs) (hold : ∀ z, z < w.heap.size → inA a z → L.own z = none) (hc : s.c1 ≤ 576460752303423488) :
    CallR Tryz.prog 66 [hv gk d, .slice a l c] w fun v w' => v = .tuple #[.int .i64 (s.rput d bs).1, .int .i64 (s.rput d bs).2.1] ∧ ∃ L', KernO w' gk (s.rput d bs).2.2 L' ∧ KStep w w' L L' := by
  refine C66 ?_
  unfold L66
  have hlen := hb.len
  have hr : s.rput d bs = if 1048576 < bs.length then (0, 5, s) else AK.putN (8192 * bs.length + 8193) s d bs 0 0 := rfl
  refine ⟨_, _, hv_nil, condFa2 (condP (fun e => ?_) (fun e => ?_))⟩
  · rw [hr, if_pos (by omega)]; exact ⟨rfl, L, h, KStep.refl _ _⟩
  rw [if_neg (by omega)] at hr
  intro w2
  have hb2 : Blk w2 w.heap.size #[.int .i64 ((0 : Nat) : Int)] := Blk.alloc _ _ _
  have hk2 : Kept No w w2 := Kept.alloc _ _ _
  clear_value w2
  have h2 := h.no hk2
  have hz2 := hb2.lt
  have hcl : l ≤ c := hb.2.1
  refine ⟨fun vs w3 => ∃ (ar : Option Addr) (done p k : Nat) (s' : AK) (L' : KL), vs = [.slice ar (l - done) (c - done)] ∧ RdB w ar (l - done) (c - done) (bs.drop done) ∧ (∀ z, inA ar z → inA a z) ∧ done ≤ l ∧ p < 8192 ∧ s.rput d bs = AK.putN k s' d bs done p ∧ 8192 * (l - done) + (8192 - p) < k ∧ k ≤ 8192 * l + 8193 ∧ KernO w3 gk s' L' ∧ KStep w w3 L L' ∧ L'.own w.heap.size = none ∧ Blk w3 w.heap.size #[.int .i64 (p : Int)] ∧ s'.c1 + (k : Int) ≤ s.c1 + (8192 * (l : Int) + 8193),
    fun vs w' => match vs with | [.slice _ l' _] => 8192 * l' + mu0 w.heap.size w' | _ => 0,
    ⟨a, 0, 0, 8192 * l + 8193, s, L, rfl, hb, fun z hz => hz, by omega, by omega, by rw [hr, hlen], by omega, by omega, h2, .of_no hk2, h.new_none (Nat.le_refl _), hb2, by omega⟩, ?_⟩
  rintro _ a6 l6 c6 w3 ⟨ar, done, p, k, s', L', hvs, hbr, har, hdone, hp, hrel, hk, hkm, h3, st3, hpo, hb3, hc3⟩
  simp only [List.cons.injEq, Value.slice.injEq, and_true] at hvs
  obtain ⟨rfl, rfl, rfl⟩ := hvs
  obtain ⟨k', rfl⟩ : ∃ k', k = k' + 1 := ⟨k - 1, by omega⟩
  rw [AK.putN_succ] at hrel
  have hz3 := st3.size
  refine condP (fun hlt => ?_) (fun hge => ?_)
  · rw [if_neg (by omega)] at hrel
    have hk4 : Kept No w3 w3.drew := Kept.drew _ _
    intro w4
    have hk4 : Kept No w3 w4 := Kept.drew _ _
    clear_value w4
    refine ⟨hv_nilM, ?_⟩
    intro w5
    have hk5 : Kept No w4 w5 := Kept.alloc _ _ _
    have hs5 : SlO 1 w5 (some ⟨w4.heap.size, 0, none⟩) 0 0 (By []) := SlO.of_blk (Blk.alloc w4 #[] _) (by simp)
    have hz5 : w5.heap.size = w4.heap.size + 1 := by simp [w5]
    clear_value w5
    have k5 := hk4.no hk5
    have hrest : RdB w5 a6 (l - done) (c - done) (bs.drop done) := (hbr.keep st3.kept fun z hz hin e => e (hold z hz (har z hin))).keep k5 fun _ _ _ e => e
    have hrl : (bs.drop done).length = l - done := by rw [List.length_drop]; omega
    obtain ⟨a7, c7, w6, hrun, hs6, hk6, hat, _⟩ := run_app_sl (P := Tryz.prog) (t := 32) (t2 := 32) (ty := 32) (by kernel_rfl : slTyB Tryz.prog 32 1 1 = true) (by kernel_rfl) hs5 (hrest : RdS 1 w5 a6 (l - done) (c - done) (By (bs.drop done))) (By_one _) (by omega) (by omega)
    simp only [Nat.zero_add] at hrun hs6
    rw [show By [] ++ By (bs.drop done) = By (bs.drop done) from rfl] at hs6
    have k6 : Kept No w3 w6 := k5.fresh hk6 fun x e => by rw [inA_some] at e; have := hk4.size; omega
    have h6 := h3.no k6
    have hz4 := hk4.size
    have ha7 : ∀ z, inA a7 z → L'.own z = none := fun z hz => h3.new_none (by
      rcases hat.in hz with e | e
      · rw [inA_some] at e; omega
      · omega)
    refine ⟨_, _, _, w6, hrun, _, _, _, hv_write #[.slice a7 (l - done) c7], CallR.mono (hwrite_ok h6 d (SlO.rd hs6) (fun _ => ha7) (by omega)) ?_⟩
    rintro v w8 ⟨rfl, L8, h8, st8⟩
    obtain ⟨_, _, hcw, _⟩ := AK.write_cs s' d (bs.drop done)
    generalize hgw : s'.write d (bs.drop done) = r at hrel h8 hcw ⊢
    obtain ⟨rn, re, rs⟩ := r
    dsimp only at hrel h8 hcw ⊢
    have hb8 : Blk w8 w.heap.size #[.int .i64 (p : Int)] := (hb3.keep k6 fun e => e).keep st8.kept fun e => e hpo
    have hpo8 : L8.own w.heap.size = none := by
      have := hb3.lt
      have := k6.size
      cases ho : L8.own w.heap.size with
      | none => rfl
      | some t =>
        exfalso
        rcases st8.grew w.heap.size (by rw [ho]; simp) with e | e
        · exact e hpo
        · omega
    have st38 := (st3.no k6).trans st8
    refine ⟨_, _, rfl, ⟨by omega, by omega⟩, fun vs w' => ∃ b : Bool, vs = [.bool b] ∧ w' = w8 ∧ b = decide (re = 22 ∨ re = 23 ∨ (re = 0 ∧ rn = 0)), ?_, ?_⟩
    · refine pass_to ⟨_, rfl, condP (fun h1 => ⟨_, rfl, rfl, ?_⟩) (fun h1 => condI (fun h2 => ⟨_, rfl, rfl, ?_⟩) (fun h2 => ⟨_, rfl, rfl, ?_⟩))⟩
      · rw [decide_eq_true h1, decide_eq_true]; omega
      · have h2 : re = 0 := by simpa using h2
        by_cases h3 : rn = 0
        · rw [decide_eq_true (.inr (.inr ⟨h2, h3⟩) : re = 22 ∨ re = 23 ∨ (re = 0 ∧ rn = 0))]; simp [h3]
        · rw [decide_eq_false (by omega : ¬ (re = 22 ∨ re = 23 ∨ (re = 0 ∧ rn = 0)))]; simp [h3]
      · have h2 : ¬ re = 0 := by simpa using h2
        rw [decide_eq_false (by omega : ¬ (re = 22 ∨ re = 23 ∨ (re = 0 ∧ rn = 0)))]
    · rintro _ b16 w10 ⟨b, hbv, rfl, hbe⟩
      simp only [List.cons.injEq, Value.bool.injEq, and_true] at hbv
      subst hbv
      subst hbe
      refine condP (fun hpass => ?_) (fun hpass => ?_)
      · rw [if_pos hpass] at hrel
        refine CallR.mono (out_ok hb8 (by omega)) ?_
        rintro v w11 ⟨rfl, hb11, hk11⟩
        have h11 : KernO w11 gk rs L8 := h8.keep hk11 fun x e => by rw [e]; exact hpo8
        have st11 := st38.own hk11 (Nat.le_refl _)
        refine ⟨_, rfl, condP (fun hge => ?_) (fun hlt2 => ?_)⟩
        · rw [if_pos hge] at hrel
          rw [hrel]
          exact ⟨tup2 (by omega), L8, h11, st11⟩
        · rw [if_neg hlt2] at hrel
          refine ⟨⟨a6, done, p + 1, k', rs, L8, rfl, hbr, har, hdone, by omega, hrel, by omega, by omega, h11, st11, hpo8, hb11, by omega⟩, ?_⟩
          show 8192 * (l - done) + mu0 _ w11 < 8192 * (l - done) + mu0 _ w3
          rw [mu0_of hb11, mu0_of hb3]
          omega
      · rw [if_neg hpass] at hrel
        refine condN (fun hne => ?_) (fun he => ?_)
        · rw [if_pos hne] at hrel
          rw [hrel]
          exact ⟨tup2 (by omega), L8, h8, st38⟩
        rw [if_neg (fun e => e he)] at hrel
        have bad : rn < 0 ∨ ((bs.drop done).length : Int) < rn → (.tuple #[.int .i64 (((l : Nat) : Int) - (((l - done : Nat)) : Int)), .int .i64 82] : Value) = .tuple #[.int .i64 (s.rput d bs).1, .int .i64 (s.rput d bs).2.1] ∧ ∃ L', KernO w10 gk (s.rput d bs).2.2 L' ∧ KStep w w10 L L' := by
          intro hb
          rw [if_pos hb] at hrel
          rw [hrel]
          exact ⟨tup2 (by omega), L8, h8, st38⟩
        refine condP (fun h1 => bad (.inl h1)) (fun h1 => condP (fun h2 => bad (.inr (by omega))) (fun h2 => ?_))
        rw [if_neg (by omega)] at hrel
        have hrn : rn ≠ 0 := fun e => hpass (.inr (.inr ⟨he, e⟩))
        refine ⟨⟨by omega, by omega⟩, stC_blk hb8 (by simp) fun w12 hb12 hk12 hs12 => ?_⟩
        have hb12 : Blk w12 w.heap.size #[.int .i64 ((0 : Nat) : Int)] := by simpa using hb12
        refine ⟨⟨adv a6 rn.toNat (c - done) 1, done + rn.toNat, 0, k', rs, L8, ?_, ?_, fun z hz => har z (inA_adv.1 hz), by omega, by omega, hrel, by omega, by omega, h8.keep hk12 fun x e => by rw [e]; exact hpo8, st38.own hk12 (Nat.le_refl _), hpo8, hb12, by omega⟩, ?_⟩
        · rw [show l - done - rn.toNat = l - (done + rn.toNat) by omega, show c - done - rn.toNat = c - (done + rn.toNat) by omega]
        · have := hbr.from rn.toNat (by omega)
          rw [List.drop_drop, show l - done - rn.toNat = l - (done + rn.toNat) by omega, show c - done - rn.toNat = c - (done + rn.toNat) by omega] at this
          exact this
        · show 8192 * (l - done - rn.toNat) + mu0 _ w12 < 8192 * (l - done) + mu0 _ w3
          rw [mu0_of hb12, mu0_of hb3]
          omega
  · rw [if_pos (by omega)] at hrel
    rw [hrel]
    exact ⟨by rw [hlen], L', h3, st3⟩

end Go.Proofs.YtkjmlbplmffekaaGreat
