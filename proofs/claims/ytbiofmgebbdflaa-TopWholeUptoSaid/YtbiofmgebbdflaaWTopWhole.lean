/-
  What was read from a pipe, and what it still holds, is the pieces that were taken, each whole, in order: the walk. Conditions: none.
-/
import Derived.Test.YtbiofmgebbdflaaTp
import Derived.Test.YtbiofmgebbdflaaKeV
import Derived.Test.YtbiofmgebbdflaaOTopWhole
set_option linter.unusedVariables false
namespace Go.Proofs.Ytbiofmgebbdflaa
open Go.Lw

set_option maxHeartbeats 4000000 in
theorem walk_topWhole {W : World} {args : List Value} (h : V3 W args) : CallR Try.prog 3 args W fun v w' => v = .bool true ∧ Kept No W w' := by
  obtain ⟨a1, l1, c1, hlc, hz, hl1, hcell, a2, l2, c2, hlc2, hz2, hl2, hcell2, rfl⟩ := h
  obtain ⟨ps, hps, hpl⟩ := rdF_of_view hlc hz hcell
  obtain ⟨ws, hws, hwl⟩ := rdF_of_view hlc2 hz2 hcell2
  refine C3 ?_
  unfold L3
  refine CallR.mono piped_ok ?_
  rintro v w1 ⟨rfl, hk1⟩
  refine ⟨_, rfl, condFa2 ?_⟩
  have hf : RdN RB w1 none 0 0 ([] : List (ByteArray × List Int)) [] := ⟨RdS.nil 2 w1, rfl, fun i h1 h2 => by simp at h1⟩
  have ht : RdN RL w1 none 0 0 ([] : List (ByteArray × List (List Int))) [] := ⟨RdS.nil 2 w1, rfl, fun i h1 h2 => by simp at h1⟩
  refine CallR.mono (kernNew_ok hf ht (hps.keep hk1 fun _ _ _ e => e) (by omega) (by omega)) ?_
  rintro v w2 ⟨hk2, ⟨hne, rfl⟩ | ⟨_, gk, L2, rfl, h2, hL2⟩⟩
  · exact ⟨_, _, rfl, pnum_toT ⟨_, rfl, condT (by simpa using hne) ⟨rfl, hk1.no hk2⟩⟩⟩
  have k2 := hk1.no hk2
  have hz1 := hk1.size
  have hL : ∀ z, L2.own z ≠ none → W.heap.size ≤ z := fun z hz => by have := hL2 z hz; omega
  refine ⟨_, _, rfl, pnum_toT ⟨_, rfl, condFa2 (condFa2 ?_)⟩⟩
  obtain ⟨e1, e2, e3, pd, ec0, ec1⟩ := AK.pd_new ps
  refine CallR.mono (kernPipe_ok h2 (by rw [(AK.new_is _ _ _).2.2.2.1]; omega)) ?_
  rintro v w4 ⟨rfl, L4, h4, st4⟩
  rw [e1, e2, e3]
  generalize (AK.new [] [] ps).pipe.2.2.2 = s4 at h4 pd ec0 ec1
  have k4 : Kept No W w4 := k2.trans st4.kept fun x hx e => by have := hL x e; omega
  have hL4 : ∀ z, L4.own z ≠ none → W.heap.size ≤ z := fun z hz => by
    rcases st4.grew z hz with e | e
    · exact hL z e
    · have := k2.size; omega
  have hz4 := k4.size
  refine ⟨_, _, _, rfl, pnum_toT ⟨_, rfl, condFa2 ?_⟩⟩
  refine ⟨fun vs w' => ∃ (i : Nat) (ai : Option Addr) (ci : Nat) (ao : Option Addr) (co : Nat) (inn out bs : List Int) (s : AK) (L : KL), vs = [.slice ai inn.length ci, .slice ao out.length co, .int .i64 (i : Int)] ∧ i ≤ l2 ∧ inn = out ++ bs ∧ inn.length ≤ 512 * i ∧ OB w' ai inn.length ci inn ∧ OB w' ao out.length co out ∧
      (∀ z, inA ai z → w4.heap.size ≤ z ∧ L.own z = none ∧ ¬ inA ao z) ∧ (∀ z, inA ao z → w4.heap.size ≤ z ∧ L.own z = none) ∧ AK.PD s bs ∧ s.c0 ≤ (i : Int) ∧ s.c1 ≤ (i : Int) ∧ KernO w' gk s L ∧ KStep w4 w' L4 L,
    fun vs _ => match vs with | [_, _, .int _ i] => l2 - i.toNat | _ => 0,
    ⟨0, none, 0, none, 0, [], [], [], s4, L4, rfl, by omega, rfl, by simp, OB.nil _, OB.nil _, fun z hz => absurd hz (inA_none z), fun z hz => absurd hz (inA_none z), pd, by omega, by omega, h4, KStep.refl _ _⟩, ?_⟩
  rintro _ a18 l18 c18 a19 l19 c19 n20 w6 ⟨i, ai, ci, ao, co, inn, out, bs, s, L, hvs, hi, hcat, hil, oi, oo, hai, hao, hpd, hc0, hc1, h6, st6⟩
  simp only [List.cons.injEq, Value.int.injEq, Value.slice.injEq, true_and, and_true] at hvs
  obtain ⟨⟨rfl, rfl, rfl⟩, ⟨rfl, rfl, rfl⟩, rfl⟩ := hvs
  have k6 : Kept No W w6 := k4.trans st6.kept fun x hx e => by have := hL4 x e; omega
  have hpb : bs.length ≤ 4096 := by
    have := h6.ob 0 (h6.ok.di _ (AK.desc_some hpd.d1).1).1
    rw [hpd.ob] at this
    exact this.1.len
  have hol : out.length ≤ inn.length := by rw [hcat, List.length_append]; omega
  refine condP (fun hlt => ?_) (fun hge => ?_)
  · have hiw : i < ws.length := by omega
    obtain ⟨q, haq⟩ : ∃ q, a2 = some q := by
      cases ha : a2 with
      | none => have := hz2 ha; omega
      | some q => exact ⟨q, rfl⟩
    have hcl : ∀ {w' : World}, Kept No W w' → w'.cell? (q.add (Int.toNat (i : Int) * 2)) = some (.int .i64 ws[i].1) ∧ w'.cell? ((q.add (Int.toNat (i : Int) * 2)).add 1) = some (.int .i64 ws[i].2) := by
      intro w' hk
      obtain ⟨g1, g2⟩ := Fv_at hiw
      have hw' := hws.keep hk fun _ _ _ e => e
      rw [Int.toNat_natCast, Lw.add_add]
      exact ⟨hw'.2.2.2 q haq _ _ g1, hw'.2.2.2 q haq _ _ g2⟩
    have hr : 0 ≤ (i : Int) ∧ (i : Int) < ((l2 : Nat) : Int) := by omega
    refine ⟨hr, nnE2 haq ⟨_, (hcl k6).1, condP (fun hneg => ?_) (fun hpos => ?_)⟩⟩
    · -- a read
      obtain ⟨g1, g2, g3⟩ := cutI ws[i].2 3000 (by omega) (by omega)
      refine ⟨hr, nnE2 haq ⟨_, (hcl k6).2, by decide, g1, by decide, ?_⟩⟩
      obtain ⟨n, hn⟩ : ∃ n, n = Int.tmod (Int.tmod ws[i].2 3000 + 3000) 3000 := ⟨_, rfl⟩
      rw [← hn]
      refine CallR.mono (kernRead_ok h6 1 n (by omega)) ?_
      rintro v w7 ⟨a25, l25, c25, L7, rfl, ob7, hf7, h7, st7, hap7⟩
      obtain ⟨k, r1, r2⟩ := AK.pd_read hpd h6.ok.pm n
      obtain ⟨_, rc0, rc1, _⟩ := AK.read_cs s 1 n
      rw [r1] at ob7
      have hl25 := ob7.len
      have htl : (bs.take k).length ≤ bs.length := by rw [List.length_take]; omega
      have hib : out.length + bs.length = inn.length := by rw [hcat, List.length_append]
      have oo7 : OB w7 a19 out.length c19 out := oo.keep st7.kept fun z hz e => e (hao z hz).2
      have oi7 : OB w7 a18 inn.length c18 inn := oi.keep st7.kept fun z hz e => e (hai z hz).2.1
      have hao7 : ∀ z, inA a19 z → L7.own z = none := st7.apart fun z hz => ⟨(hao z hz).2, SlO.lt oo z hz⟩
      have hai7 : ∀ z, inA a18 z → L7.own z = none := st7.apart fun z hz => ⟨(hai z hz).2.1, SlO.lt oi z hz⟩
      obtain ⟨a28, c28, w8, hrun, hs8, hk8, hat8, _⟩ := run_app_sl (P := Try.prog) (t := 36) (t2 := 36) (ty := 36) (by kernel_rfl : slTyB Try.prog 36 1 1 = true) (by kernel_rfl) (oo7 : SlO 1 w7 a19 out.length c19 (By out)) (ob7.rd : RdS 1 w7 a25 l25 c25 (By (bs.take k))) (By_one _) (by omega) (by omega)
      rw [← By_append] at hs8
      have hz6 := st6.size
      have hz7 := st7.size
      have hll : out.length + l25 = (out ++ bs.take k).length := by rw [List.length_append, hl25]
      rw [hll] at hs8 hrun
      refine ⟨_, _, _, _, rfl, a28, (out ++ bs.take k).length, c28, w8, hrun, ⟨by omega, by omega⟩, ⟨i + 1, a18, c18, a28, c28, inn, out ++ bs.take k, bs.drop k, _, L7, rfl, by omega, by rw [List.append_assoc, List.take_append_drop]; exact hcat, by omega, oi7.keep hk8 fun z hz e => (hai z hz).2.2 e, hs8, fun z hz => ⟨(hai z hz).1, hai7 z hz, fun e => ?_⟩, fun z hz => ?_, r2, by omega, by omega, h7.keep hk8 fun z hz => hao7 z hz, (st6.trans st7).priv hk8 fun x e => (hao x e).1⟩, ?_⟩
      · rcases hat8.in e with e | e
        · exact (hai z hz).2.2 e
        · have := SlO.lt oi7 z hz; omega
      · rcases hat8.in hz with e | e
        · exact ⟨(hao z e).1, hao7 z e⟩
        · subst e; exact ⟨by omega, h7.new_none (Nat.le_refl _)⟩
      · show l2 - Int.toNat ((i : Int) + 1) < l2 - Int.toNat (i : Int)
        omega
    · -- a write
      obtain ⟨g1, g2, g3⟩ := cutI ws[i].2 513 (by omega) (by omega)
      refine ⟨hr, nnE2 haq ⟨_, (hcl k6).2, by decide, g1, by decide, ?_⟩⟩
      obtain ⟨n, hn⟩ : ∃ n : Nat, (n : Int) = Int.tmod (Int.tmod ws[i].2 513 + 513) 513 := ⟨(Int.tmod (Int.tmod ws[i].2 513 + 513) 513).toNat, by omega⟩
      rw [← hn]
      obtain ⟨w9, hrun9, hs9, hk9, hz9⟩ := run_mk (P := Try.prog) (t := 36) tyB (w := w6) (k := .i64) (k' := .i64) (n := n) (m := n) (Nat.le_refl _) (by omega) (by omega)
      have hz6 := st6.size
      refine ⟨_, _, _, w9, hrun9, fun vs w' => ∃ (j : Nat) (xs : List Int), vs = [.int .i64 (j : Int)] ∧ j ≤ n ∧ OB w' (some ⟨w6.heap.size, 0, none⟩) n n xs ∧ Kept No w6 w', fun vs _ => n - ix vs, ⟨0, List.replicate n 0, rfl, by omega, by have := By_zeros n; show SlO 1 _ _ _ _ (By _); rw [← this]; exact hs9, hk9⟩, ?_⟩
      rintro _ n34 w10 ⟨j, xs, hvs, hj, hox, hk10⟩
      simp only [List.cons.injEq, Value.int.injEq, true_and, and_true] at hvs
      subst hvs
      have k10 := k6.no hk10
      refine condP (fun hlt => ⟨hr, nnE2 haq ⟨_, (hcl k10).1, ⟨by omega, by omega⟩, nnI ?_⟩⟩) (fun hge => ?_)
      · rw [Int.toNat_natCast]
        refine stC_slo (j := j) hox rfl (by omega) fun w11 hs11 hk11 hz11 => ?_
        rw [By_set] at hs11
        refine ⟨⟨by omega, by omega⟩, ⟨j + 1, _, rfl, by omega, hs11, hk10.fresh hk11 fun x e => by rw [inA_some] at e; omega⟩, by simp only [ix]; omega⟩
      have hxl := hox.len
      have h10 := h6.no hk10
      have oi10 : OB w10 a18 inn.length c18 inn := oi.keep hk10 fun z hz e => e
      have oo10 : OB w10 a19 out.length c19 out := oo.keep hk10 fun z hz e => e
      refine CallR.mono (kernWrite_ok h10 2 hox.rd (fun _ k hk => by rw [inA_some] at hk; subst hk; exact h6.new_none (Nat.le_refl _)) (by omega)) ?_
      rintro v w12 ⟨rfl, L12, h12, st12⟩
      obtain ⟨hw, wc0, wc1⟩ := AK.pd_write hpd h6.ok.pm (ds := xs) (by omega)
      have oi12 : OB w12 a18 inn.length c18 inn := oi10.keep st12.kept fun z hz e => e (hai z hz).2.1
      have oo12 : OB w12 a19 out.length c19 out := oo10.keep st12.kept fun z hz e => e (hao z hz).2
      have hai12 : ∀ z, inA a18 z → L12.own z = none := st12.apart fun z hz => ⟨(hai z hz).2.1, SlO.lt oi10 z hz⟩
      have hao12 : ∀ z, inA a19 z → L12.own z = none := st12.apart fun z hz => ⟨(hao z hz).2, SlO.lt oo10 z hz⟩
      have st612 := (st6.no hk10).trans st12
      refine ⟨_, _, rfl, pnum_toT ⟨_, rfl, ?_⟩⟩
      rcases hw with ⟨he, hn', hpd'⟩ | ⟨he, hn', hpd'⟩
      · rw [he, hn']
        refine condTr2 (condF (by rw [hxl]; simp) (pnum_toT ⟨_, rfl, condFa2 (pnum_toT ⟨_, rfl, condTr2 ?_⟩)⟩))
        have hox12 : RdB w12 (some ⟨w6.heap.size, 0, none⟩) n n xs := hox.rd.keep st12.kept fun b _ hb e => by rw [inA_some] at hb; subst hb; exact e (h6.new_none (Nat.le_refl _))
        obtain ⟨a47, c47, w16, hrun, hs16, hk16, hat16, _⟩ := run_app_sl (P := Try.prog) (t := 36) (t2 := 36) (ty := 36) (by kernel_rfl : slTyB Try.prog 36 1 1 = true) (by kernel_rfl) (oi12 : SlO 1 w12 a18 inn.length c18 (By inn)) (hox12 : RdS 1 w12 _ n n (By xs)) (By_one _) (by omega) (by omega)
        rw [← By_append] at hs16
        have hll : inn.length + n = (inn ++ xs).length := by rw [List.length_append, hxl]
        rw [hll] at hs16 hrun
        have hz12 := st12.size
        have hz10 := hk10.size
        refine ⟨a47, (inn ++ xs).length, c47, w16, hrun, ⟨by omega, by omega⟩, ⟨i + 1, a47, c47, a19, c19, inn ++ xs, out, bs ++ xs, _, L12, rfl, by omega, by rw [hcat, List.append_assoc], by omega, hs16, oo12.keep hk16 fun z hz e => (hai z e).2.2 hz, fun z hz => ?_, fun z hz => ⟨(hao z hz).1, hao12 z hz⟩, hpd', by omega, by omega, h12.keep hk16 fun z hz => hai12 z hz, st612.priv hk16 fun x e => (hai x e).1⟩, ?_⟩
        · rcases hat16.in hz with e | e
          · exact ⟨(hai z e).1, hai12 z e, (hai z e).2.2⟩
          · subst e
            refine ⟨by omega, h12.new_none (Nat.le_refl _), fun e => ?_⟩
            have := SlO.lt oo12 _ e
            omega
        · show l2 - Int.toNat ((i : Int) + 1) < l2 - Int.toNat (i : Int)
          omega
      · rw [hn']
        refine condF (by simpa using he) (pnum_toT ⟨_, rfl, condT (by simpa using he) (condFa2 (pnum_toT ⟨_, rfl, condF (by simpa using he) ?_⟩))⟩)
        refine ⟨⟨by omega, by omega⟩, ⟨i + 1, a18, c18, a19, c19, inn, out, bs, _, L12, rfl, by omega, hcat, by omega, oi12, oo12, fun z hz => ⟨(hai z hz).1, hai12 z hz, (hai z hz).2.2⟩, fun z hz => ⟨(hao z hz).1, hao12 z hz⟩, hpd', by omega, by omega, h12, st612⟩, ?_⟩
        show l2 - Int.toNat ((i : Int) + 1) < l2 - Int.toNat (i : Int)
        omega
  · have hhd : s.held 1 = bs := by
      unfold AK.held
      rw [if_neg (fun e => e (AK.find_of hpd.d1 (by decide))), hpd.d1]
      dsimp only
      rw [hpd.ob]
    refine CallR.mono (kernHeld_ok h6 1) ?_
    rw [hhd]
    rintro v w24 ⟨a59, l59, c59, rfl, ob59, hf59, hk24⟩
    have hl59 := ob59.len
    refine ⟨_, _, _, rfl, condT (by rw [decide_eq_true]; omega) ?_⟩
    have oo24 : OB w24 a19 out.length c19 out := oo.keep hk24 fun z hz e => e
    obtain ⟨a61, c61, w25, hrun, hs25, hk25, hat25, _⟩ := run_app_sl (P := Try.prog) (t := 36) (t2 := 36) (ty := 36) (by kernel_rfl : slTyB Try.prog 36 1 1 = true) (by kernel_rfl) (oo24 : SlO 1 w24 a19 out.length c19 (By out)) (ob59.rd : RdS 1 w24 a59 l59 c59 (By bs)) (By_one _) (by omega) (by omega)
    rw [← By_append, ← hcat] at hs25
    refine ⟨_, _, _, w25, hrun, ?_⟩
    have oi25 : RdB w25 a18 inn.length c18 inn := (oi.rd.keep hk24 fun _ _ _ e => e).keep hk25 fun b _ hb e => (hai b hb).2.2 e
    refine CallR.mono (same_ok (SlO.rd hs25 : RdB w25 _ _ _ inn) oi25 (by omega)) ?_
    rintro v w26 ⟨rfl, hk26, _⟩
    exact ⟨_, rfl, by simp, ((k6.no hk24).fresh hk25 fun x e => by have := (hao x e).1; omega).no hk26⟩

end Go.Proofs.Ytbiofmgebbdflaa
