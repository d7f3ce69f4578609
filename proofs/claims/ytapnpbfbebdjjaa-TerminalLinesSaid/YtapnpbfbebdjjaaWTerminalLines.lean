/-
  All that is read is all lines: the walk. Conditions: none.
-/
import Derived.Test.YtapnpbfbebdjjaaTermC
import Derived.Test.YtapnpbfbebdjjaaOTerminalLines
set_option linter.unusedVariables false
namespace Go.Proofs.Ytapnpbfbebdjjaa
open Go.Lw

theorem term_ll {F R : Nat → Prop} {w : World} {b : Nat} {LL : List (List Int)} {scr : List Int} (h : TermO F R w b LL scr) : ∃ la lc, w.cell? ⟨b, 1, none⟩ = some (.slice la LL.length lc) := by
  obtain ⟨la, ll, lc, i, sa, sl, sc, raw, hb, hl, hc, _⟩ := h
  have : LL.length = ll := by rw [hc.len, hl.len]
  rw [this]
  exact ⟨la, lc, (hb.cell 1).trans rfl⟩

theorem walk_terminalLines {W : World} {args : List Value} (h : V7 W args) : CallR Try.prog 7 args W fun v w' => v = .bool true ∧ Kept No W w' := by
  obtain ⟨a, l, c, hlc, hz, hl, hv, n, _, rfl⟩ := h
  obtain ⟨LL, hL, hLs, _⟩ := rdL_of_view hlc hz hv
  have hLl := hL.len
  refine C7 ?_
  unfold L7
  refine talive_ok.mono fun v w1 ⟨hv1, hk1⟩ => ⟨_, hv1, condF rfl ?_⟩
  refine (tnew_ok (hL.keep hk1 (fun _ _ e => e)) (fun x hx => by have := hLs x hx; omega)).mono fun v w2 ⟨hk2, h2⟩ => ?_
  have h02 := hk1.no hk2
  rcases h2 with ⟨hne, rfl⟩ | ⟨_, b, F, R, rfl, ht, hnew⟩
  · exact ⟨_, _, rfl, tnum_to ⟨_, rfl, condT (by simpa using hne) ⟨rfl, h02⟩⟩⟩
  have hsh := ht.short
  have hF0 : ∀ k, F k → W.heap.size ≤ k := fun k hk => Nat.le_trans hk1.size (hnew k (.inl hk))
  have hFb : F b := by obtain ⟨la, ll, lc, i, sa, sl, sc, raw, hb, hl, hc, ho, hna, hs, hF, _⟩ := ht; exact (hF b).2 (.inl rfl)
  refine ⟨_, _, rfl, tnum_to ⟨_, rfl, condF rfl (condF rfl ?_)⟩⟩
  have ht1 := Int.tmod_lt_of_pos (Int.tmod n 64 + 64) (show (0 : Int) < 64 by decide)
  have ht0 := Int.tmod_lt_of_pos n (show (0 : Int) < 64 by decide)
  have ht2 : -64 < Int.tmod n 64 := by
    have := Int.lt_tmod_of_pos n (show (0 : Int) < 64 by decide)
    omega
  have ht3 : 0 ≤ Int.tmod (Int.tmod n 64 + 64) 64 := Int.tmod_nonneg _ (by omega)
  refine ⟨by decide, by unfold inI; omega, by decide, by unfold inI; omega, ?_⟩
  generalize hN : (1 : Int) + Int.tmod (Int.tmod n 64 + 64) 64 = N
  have hN1 : 1 ≤ N := by omega
  have hN2 : N ≤ 64 := by omega
  clear hN ht0 ht1 ht2 ht3
  have readC : ∀ (x : List Int) (r : List (List Int)), readT N (x :: r) = (0, x.take N.toNat, if x.length ≤ N.toNat then r else x.drop N.toNat :: r) := fun x r => by
    unfold readT; rw [if_neg (by omega)]
  have readE : readT N [] = (0, [], []) := by
    unfold readT; rw [if_neg (by omega)]
  refine ⟨fun vs w => ∃ i : Nat, vs = [.int .i64 (i : Int)] ∧ i ≤ l ∧ Kept No W w ∧ TermO F R w b (LL.drop i) [], fun vs _ => match vs with | [.int _ i] => (l - i).toNat | _ => 0, ⟨0, rfl, Nat.zero_le _, h02, by simpa using ht⟩, ?_⟩
  intro _ n12 w4 hI
  obtain ⟨i, hvs, hi, hk4, ht4⟩ := hI
  simp only [List.cons.injEq, Value.int.injEq, true_and, and_true] at hvs
  subst hvs
  have hbW : ∀ x, x = b → W.heap.size ≤ x := fun x e => by rw [e]; exact hF0 b hFb
  refine condP (fun hlt => ?_) (fun hge => ?_)
  · have hil : i < LL.length := by omega
    have hd : LL.drop i = LL[i] :: LL.drop (i + 1) := List.drop_eq_getElem_cons hil
    have hLi := hsh.2 LL[i] (List.getElem_mem hil)
    have hdl : (LL.drop (i + 1)).length = l - (i + 1) := by rw [List.length_drop, hLl]
    -- the pieces of one line: k bytes of it are read, or all of it
    refine ⟨fun vs w => ∃ (a' : Option Addr) (l' c' : Nat) (got : List Int), vs = [.slice a' l' c'] ∧ Kept No W w ∧ OB w a' l' c' got ∧ (∀ x, inA a' x → W.heap.size ≤ x ∧ ¬ F x ∧ ¬ R x) ∧
        ((∃ k, got = LL[i].take k ∧ (k = 0 ∨ k < LL[i].length) ∧ TermO F R w b (LL[i].drop k :: LL.drop (i + 1)) []) ∨ (got = LL[i] ∧ TermO F R w b (LL.drop (i + 1)) [])),
      fun vs w => (match w.cell? ⟨b, 1, none⟩ with | some (.slice _ ll _) => ll | _ => 0) * 10000 + (10000 - match vs with | [.slice _ l' _] => l' | _ => 0),
      ⟨none, 0, 0, [], rfl, hk4, OB.nil w4, fun x hx => absurd hx (inA_none x), .inl ⟨0, by simp, .inl rfl, by rw [hd] at ht4; simpa using ht4⟩⟩, ?_⟩
    intro _ a15 l15 c15 w5 hJ
    obtain ⟨a', l', c', got, hvs, hk5, ho5, hap, hst⟩ := hJ
    simp only [List.cons.injEq, Value.slice.injEq, and_true] at hvs
    obtain ⟨rfl, rfl, rfl⟩ := hvs
    have hgl := ho5.len
    rcases hst with ⟨k, rfl, hk, ht5⟩ | ⟨rfl, ht5⟩
    · refine tleft_to ht5 ⟨_, rfl, by unfold inI; omega, condT ?_ ?_⟩
      · simp only [List.length_cons, hdl, beq_iff_eq]; omega
      refine (tread_ok ht5 N).mono fun v w7 ⟨a7, c7, hv7, ho7, hf7, hk7, ht7⟩ => ⟨_, _, _, _, hv7, ?_⟩
      rw [readC] at ho7 ht7 ⊢
      simp only at ho7 ht7
      have hkl : k ≤ LL[i].length := by omega
      have hk57 : Kept No W w7 := hk5.fresh hk7 hbW
      have hpl : ((LL[i].drop k).take N.toNat).length = min N.toNat (LL[i].length - k) := by simp
      have ho57 : OB w7 a15 l15 c15 (LL[i].take k) := ho5.keep hk7 (fun x hx e => (hap x hx).2.1 (e ▸ hFb))
      have happ : ∃ (a8 : Option Addr) (c8 : Nat) (w8 : World), (Builtin.append_ #[22, 22] 22 #[.slice a15 l15 c15, .slice a7 ((LL[i].drop k).take N.toNat).length c7]).run Try.prog w7 = .ok (.slice a8 (l15 + ((LL[i].drop k).take N.toNat).length) c8) w8 ∧
          OB w8 a8 (l15 + ((LL[i].drop k).take N.toNat).length) c8 (LL[i].take k ++ (LL[i].drop k).take N.toNat) ∧ Kept (inA a15) w7 w8 ∧ (∀ x, inA a8 x → W.heap.size ≤ x ∧ ¬ F x ∧ ¬ R x) := by
        obtain ⟨a8, c8, w8, hrun, hs8, hk8, hat, _⟩ := run_app_sl (P := Try.prog) (t := 22) (t2 := 22) (ty := 22) (by kernel_rfl : slTyB Try.prog 22 1 1 = true) (by kernel_rfl) ho57 ho7.rd (By_one _) (by simp at hgl; omega) (by simp at hgl; omega)
        rw [← By_append] at hs8
        refine ⟨a8, c8, w8, hrun, hs8, hk8, fun x hx => ?_⟩
        rcases hat.in hx with h | rfl
        · exact hap x h
        · refine ⟨hk57.size, fun h => ?_, fun h => ?_⟩
          · have := ht7.lt _ (.inl h); omega
          · have := ht7.lt _ (.inr h); omega
      obtain ⟨a8, c8, w8, hrun, ho8, hk8, hap8⟩ := happ
      have ht8 := ht7.keep hk8 (fun x hx h => (hap x h).2.1 hx) (fun x hx h => (hap x h).2.2 hx)
      have hk08 : Kept No W w8 := hk57.fresh hk8 (fun x hx => (hap x hx).1)
      have hnext : LL[i].take k ++ (LL[i].drop k).take N.toNat = LL[i].take (k + N.toNat) := by rw [List.take_add]
      rw [hnext] at ho8
      have hl8 := ho8.len
      have cell5 := term_ll ht5
      have cell8 := term_ll ht8
      obtain ⟨x5, y5, hc5⟩ := cell5
      obtain ⟨x8, y8, hc8⟩ := cell8
      have fin : (∃ (a' : Option Addr) (l' c' : Nat) (got : List Int), [Value.slice a8 (l15 + ((LL[i].drop k).take N.toNat).length) c8] = [.slice a' l' c'] ∧ Kept No W w8 ∧ OB w8 a' l' c' got ∧ (∀ x, inA a' x → W.heap.size ≤ x ∧ ¬ F x ∧ ¬ R x) ∧
          ((∃ k, got = LL[i].take k ∧ (k = 0 ∨ k < LL[i].length) ∧ TermO F R w8 b (LL[i].drop k :: LL.drop (i + 1)) []) ∨ (got = LL[i] ∧ TermO F R w8 b (LL.drop (i + 1)) []))) ∧
          (match w8.cell? ⟨b, 1, none⟩ with | some (.slice _ ll _) => ll | _ => 0) * 10000 + (10000 - (l15 + ((LL[i].drop k).take N.toNat).length)) < (match w5.cell? ⟨b, 1, none⟩ with | some (.slice _ ll _) => ll | _ => 0) * 10000 + (10000 - l15) := by
        rw [hc5, hc8]
        by_cases hall : (LL[i].drop k).length ≤ N.toNat
        · rw [if_pos hall] at ht8 ⊢
          have hkn : LL[i].take (k + N.toNat) = LL[i] := List.take_of_length_le (by simp at hall; omega)
          rw [hkn] at ho8
          refine ⟨⟨_, _, _, _, rfl, hk08, ho8, hap8, .inr ⟨rfl, ht8⟩⟩, ?_⟩
          simp only [List.length_cons]
          simp at hgl
          omega
        · rw [if_neg hall] at ht8 ⊢
          have hlt2 : k + N.toNat < LL[i].length := by simp at hall; omega
          rw [List.drop_drop] at ht8
          refine ⟨⟨_, _, _, _, rfl, hk08, ho8, hap8, .inl ⟨k + N.toNat, rfl, .inr hlt2, ht8⟩⟩, ?_⟩
          simp only [List.length_cons]
          simp at hgl
          rw [hpl]
          omega
      refine tnum_to ⟨_, rfl, condF rfl (condP (fun hbig => ?_) (fun hok => ?_))⟩
      · exfalso
        have hb2 : (((LL[i].drop k).take N.toNat).length : Int) > N := hbig
        rw [hpl] at hb2
        clear fin hbig hc5 hc8
        omega
      · refine condI (fun he0 => ⟨⟨by omega, by omega⟩, ?_⟩) (fun he0 => ⟨_, _, _, w8, hrun, fin⟩)
        obtain ⟨q, ⟨ea, el, ec⟩, hq, hc, hrd, _⟩ := (hL.keep hk57 (fun _ _ e => e)).get hil
        subst hq
        simp only at hc hrd
        obtain rfl : LL[i].length = el := hrd.len
        refine nnI ⟨_, _, _, hc, condP (fun hpos => ?_) (fun hnp => ⟨_, _, _, w8, hrun, fin⟩)⟩
        exfalso
        have he2 : ((((LL[i].drop k).take N.toNat).length : Nat) : Int) = 0 := by simpa using he0
        rw [hpl] at he2
        clear fin he0 hc5 hc8
        omega
    · refine tleft_to ht5 ⟨_, rfl, by unfold inI; omega, condF ?_ ⟨⟨by omega, by omega⟩, ?_⟩⟩
      · rw [hdl]; simp; omega
      obtain ⟨q, ⟨ea, el, ec⟩, hq, hc, hrd, _⟩ := (hL.keep hk5 (fun _ _ e => e)).get hil
      subst hq
      simp only at hc hrd
      obtain rfl : LL[i].length = el := hrd.len
      refine nnI ⟨_, _, _, hc, (same_ok ho5.rd hrd (by omega)).mono fun v w11 ⟨hv11, hk11, _⟩ => ⟨_, hv11, condF (by simp) ?_⟩⟩
      have ht11 := ht5.keep hk11 (fun _ _ e => e) (fun _ _ e => e)
      refine tleft_to ht11 ⟨_, rfl, by unfold inI; omega, by unfold inI; omega, condF ?_ ⟨by unfold inI; omega, ⟨i + 1, rfl, by omega, hk5.no hk11, ht11⟩, ?_⟩⟩
      · rw [hdl]; simp; omega
      · show ((l : Int) - ((i : Int) + 1)).toNat < ((l : Int) - (i : Int)).toNat
        omega
  · have hil : LL.drop i = [] := List.drop_of_length_le (by omega)
    rw [hil] at ht4
    refine (tread_ok ht4 N).mono fun v w5 ⟨a5, c5, hv5, ho5, hf5, hk5, ht5⟩ => ⟨_, _, _, _, hv5, ?_⟩
    rw [readE]
    exact tnum_to ⟨_, rfl, condT rfl ⟨rfl, hk4.fresh hk5 hbW⟩⟩

end Go.Proofs.Ytapnpbfbebdjjaa
