/-
  The screen is all that was written: the walk. Conditions: none.
-/
import Derived.Test.YtapnpbfbebdjjaaTermC
import Derived.Test.YtapnpbfbebdjjaaOTerminalScreen
set_option linter.unusedVariables false
namespace Go.Proofs.Ytapnpbfbebdjjaa
open Go.Lw

theorem walk_terminalScreen {W : World} {args : List Value} (h : V8 W args) : CallR Try.prog 8 args W fun v w' => v = .bool true ∧ Kept No W w' := by
  obtain ⟨a, l, c, hlc, hz, hl, hv, a2, l2, c2, hlc2, hz2, hl2, hv2, rfl⟩ := h
  obtain ⟨LL, hL, hLs, _⟩ := rdL_of_view hlc hz hv
  obtain ⟨TT, hT, hTs, _⟩ := rdL_of_view hlc2 hz2 hv2
  have hTl := hT.len
  refine C8 ?_
  unfold L8
  refine talive_ok.mono fun v w1 ⟨hv1, hk1⟩ => ⟨_, hv1, condF rfl ?_⟩
  refine (tnew_ok (hL.keep hk1 (fun _ _ e => e)) (fun x hx => by have := hLs x hx; omega)).mono fun v w2 ⟨hk2, h2⟩ => ?_
  have h02 := hk1.no hk2
  rcases h2 with ⟨hne, rfl⟩ | ⟨_, b, F, R, rfl, ht, hnew⟩
  · exact ⟨_, _, rfl, tnum_to ⟨_, rfl, condT (by simpa using hne) ⟨rfl, h02⟩⟩⟩
  refine ⟨_, _, rfl, tnum_to ⟨_, rfl, condF rfl (condF rfl ?_)⟩⟩
  refine ⟨fun vs w => ∃ (i : Nat) (a' : Option Addr) (l' c' : Nat) (want : List Int) (LL : List (List Int)) (F R : Nat → Prop), vs = [.slice a' l' c', .int .i64 (i : Int)] ∧ i ≤ l2 ∧ Kept No W w ∧ TermO F R w b LL want ∧ OB w a' l' c' want ∧
      (∀ k, F k → W.heap.size ≤ k) ∧ (∀ k, inA a' k → W.heap.size ≤ k ∧ ¬ F k ∧ ¬ R k), fun vs _ => match vs with | [_, .int _ i] => (l2 - i).toNat | _ => 0,
    ⟨0, none, 0, 0, [], LL, F, R, rfl, Nat.zero_le _, h02, ht, OB.nil w2, fun k hk => Nat.le_trans hk1.size (hnew k (.inl hk)), fun k hk => absurd hk (inA_none k)⟩, ?_⟩
  intro _ a4 l4 c4 n13 w4 hI
  obtain ⟨i, a', l', c', want, L4, F4, R4, hvs, hi, hk4, ht4, ho4, hF4, hap⟩ := hI
  simp only [List.cons.injEq, Value.slice.injEq, Value.int.injEq, true_and, and_true] at hvs
  obtain ⟨⟨rfl, rfl, rfl⟩, rfl⟩ := hvs
  have hwl := ho4.len
  have hws := ht4.scr
  have hFb : F4 b := by obtain ⟨la, ll, lc, i, sa, sl, sc, raw, hb, hl, hc, ho, hna, hs, hF, _⟩ := ht4; exact (hF b).2 (.inl rfl)
  refine condP (fun hlt => ?_) (fun hge => ?_)
  · have hm0 : 0 ≤ Int.tmod (i : Int) 7 := Int.tmod_nonneg _ (by omega)
    have hm1 := Int.tmod_lt_of_pos (i : Int) (show (0 : Int) < 7 by decide)
    have hit : i < TT.length := by omega
    refine ⟨by decide, by unfold inI; omega, (tread_ok ht4 _).mono fun v w5 ⟨a5, c5, hv5, ho5, hf5, hk5, ht5⟩ => ⟨_, _, _, _, hv5, ⟨by omega, by omega⟩, ?_⟩⟩
    have hk05 : Kept No W w5 := hk4.fresh hk5 (fun x e => by rw [e]; exact hF4 b hFb)
    obtain ⟨q, ⟨ea, el, ec⟩, hq, hc, hrd, _⟩ := (hT.keep hk05 (fun _ _ e => e)).get hit
    subst hq
    simp only at hc hrd
    obtain rfl : TT[i].length = el := hrd.len
    have hti := hTs TT[i] (List.getElem_mem hit)
    refine nnI ⟨_, _, _, hc, (twrite_ok ht5 hrd (by omega)).mono fun v w6 ⟨hv6, F6, ht6, hg6, hk6⟩ => ⟨_, hv6, ⟨by omega, by omega⟩, ?_⟩⟩
    have hk06 : Kept No W w6 := hk05.fresh hk6 hF4
    obtain ⟨q', ⟨ea', el', ec'⟩, hq', hc', hrd', _⟩ := (hT.keep hk06 (fun _ _ e => e)).get hit
    cases hq'
    simp only at hc' hrd'
    obtain rfl : TT[i].length = el' := hrd'.len
    refine nnI ⟨_, _, _, hc', by unfold inI; omega, tnum_to ⟨_, rfl, ?_⟩⟩
    have ho6 : OB w6 a4 l4 c4 want := (ho4.keep hk5 (fun k hk e => (hap k hk).2.1 (e ▸ hFb))).keep hk6 (fun k hk => (hap k hk).2.1)
    have hF6 : ∀ k, F6 k → W.heap.size ≤ k := fun k hk => by
      rcases hg6 k hk with h | h
      · exact hF4 k h
      · have := hk05.size; omega
    have hlt4 := SlO.lt ho4
    have hap6 : ∀ k, inA a4 k → W.heap.size ≤ k ∧ ¬ F6 k ∧ ¬ R4 k := fun k hk => ⟨(hap k hk).1, fun h => by
      rcases hg6 k h with h | h
      · exact (hap k hk).2.1 h
      · have := hlt4 k hk; have := hk5.size; omega, (hap k hk).2.2⟩
    by_cases hfull : 1048576 < want.length + TT[i].length
    · have e : writeT TT[i] want = (31, want) := by unfold writeT; rw [if_pos hfull]
      rw [e] at ht6 ⊢
      have hd : decide ((l4 : Int) + (TT[i].length : Int) > 1048576) = true := by simp; omega
      refine condF (by rw [hd]; rfl) (condF (by rw [hd]; rfl) ⟨by unfold inI; omega, ⟨i + 1, a4, l4, c4, want, _, F6, R4, rfl, by omega, hk06, ht6, ho6, hF6, hap6⟩, ?_⟩)
      show ((l2 : Int) - ((i : Int) + 1)).toNat < ((l2 : Int) - (i : Int)).toNat
      omega
    · have e : writeT TT[i] want = (0, want ++ TT[i]) := by unfold writeT; rw [if_neg hfull]
      rw [e] at ht6 ⊢
      have hd : decide ((l4 : Int) + (TT[i].length : Int) > 1048576) = false := by simp; omega
      refine condF (by rw [hd]; rfl) (condT (by rw [hd]; rfl) ⟨⟨by omega, by omega⟩, nnI ⟨_, _, _, hc', ?_⟩⟩)
      obtain ⟨a8, c8, w8, hrun, hs8, hk8, hat, _⟩ := run_app_sl (P := Try.prog) (t := 22) (t2 := 22) (ty := 22) (by kernel_rfl : slTyB Try.prog 22 1 1 = true) (by kernel_rfl) ho6 hrd' (By_one _) (by omega) (by omega)
      have ht8 := ht6.keep hk8 (fun k hk h => (hap6 k h).2.1 hk) (fun k hk h => (hap6 k h).2.2 hk)
      rw [← By_append] at hs8
      refine ⟨_, _, _, w8, hrun, by unfold inI; omega, ⟨i + 1, a8, _, c8, want ++ TT[i], _, F6, R4, rfl, by omega, hk06.fresh hk8 (fun k hk => (hap6 k hk).1), ht8, hs8, hF6, fun k hk => ?_⟩, ?_⟩
      · rcases hat.in hk with h | rfl
        · exact hap6 k h
        · refine ⟨hk06.size, fun h => ?_, fun h => ?_⟩
          · have := ht6.lt _ (.inl h); omega
          · have := ht6.lt _ (.inr h); omega
      · show ((l2 : Int) - ((i : Int) + 1)).toNat < ((l2 : Int) - (i : Int)).toNat
        omega
  · refine (tscreen_ok ht4).mono fun v w9 ⟨a9, c9, hv9, ho9, hf9, hk9⟩ => ⟨_, _, _, hv9, ?_⟩
    refine (same_ok ho9.rd (ho4.keep hk9 (fun _ _ e => e)).rd (by omega)).mono fun v w10 ⟨hv10, hk10, _⟩ => ⟨_, hv10, by simp, (hk4.no hk9).no hk10⟩

end Go.Proofs.Ytapnpbfbebdjjaa
