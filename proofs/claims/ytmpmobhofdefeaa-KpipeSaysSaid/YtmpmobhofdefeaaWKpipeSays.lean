/-
  CanRead and CanWrite say whether a call would wait: the walk. Conditions: none.
-/
import Derived.Test.YtmpmobhofdefeaaKpC
import Derived.Test.YtmpmobhofdefeaaOKpipeSays
set_option linter.unusedVariables false
namespace Go.Proofs.Ytmpmobhofdefeaa
open Go.Lw

theorem walk_kpipeSays {W : World} {args : List Value} (h : V5 W args) : CallR Try.prog 5 args W fun v w' => v = .bool true ∧ Kept No W w' := by
  obtain ⟨a, l, c, hlc, hz, hl, hst, n2, hn2, rfl⟩ := h
  refine C5 ?_
  unfold L5
  have ht := Int.tmod_lt_of_pos n2 (show (0 : Int) < 5000 by decide)
  have ht2 := Int.lt_tmod_of_pos n2 (show (0 : Int) < 5000 by decide)
  obtain ⟨f, hf, hf', hf0⟩ : ∃ f : Nat, (1 : Int) + Int.tmod (Int.tmod n2 5000 + 5000) 5000 = (f : Int) ∧ f ≤ 5000 ∧ 1 ≤ f := by
    refine ⟨((1 : Int) + Int.tmod (Int.tmod n2 5000 + 5000) 5000).toNat, ?_, ?_, ?_⟩ <;> rw [Int.tmod_eq_emod_of_nonneg (by omega)] <;> omega
  rw [hf]
  refine kalive_ok.mono fun v w1 ⟨hv1, hk1⟩ => ⟨_, hv1, condF rfl ?_⟩
  refine (kboth_ok w1).mono fun v w2 ⟨b, hv2, hp2, hk2, hbn⟩ => ⟨_, hv2, condF rfl ?_⟩
  have h02 := hk1.no hk2
  have hbW : W.heap.size ≤ b := Nat.le_trans hk1.size hbn
  have fr : ∀ {x}, x = b → W.heap.size ≤ x := by intro x e; omega
  refine ⟨fun vs w => ∃ i : Nat, vs = [.int .i64 (i : Int)] ∧ i ≤ l ∧ Kept No W w ∧ ∃ bs e0 e1, PipeO w b bs e0 e1, fun vs _ => l - ix vs, ⟨0, rfl, Nat.zero_le _, h02, _, _, _, hp2⟩, ?_⟩
  intro _ n9 w3 hI
  obtain ⟨i, hvs, hi, h03, bs, e0, e1, hp3⟩ := hI
  simp only [List.cons.injEq, Value.int.injEq, true_and, and_true] at hvs
  subst hvs
  refine condP (fun hlt => ?_) (fun hge => ?_)
  · have hil : i < l := by omega
    obtain ⟨q, rfl⟩ : ∃ q, a = some q := by
      cases a with
      | none => have := hz rfl; omega
      | some q => exact ⟨q, rfl⟩
    obtain ⟨x1, _, x2, _, x3, a9, l9, c9, ds, hd, _, hl9, c1, c2, c3, c4, _⟩ := hst q rfl i hil
    have hd : RdB W a9 l9 c9 ds := hd
    have hr : (0 ≤ (i : Int) ∧ (i : Int) < ((l : Nat) : Int)) := by omega
    have hdone : ∀ {w' bs' e0' e1'}, Kept No W w' → PipeO w' b bs' e0' e1' → inI ((i : Int) + 1) ∧ (∃ i' : Nat, [Value.int .i64 ((i : Int) + 1)] = [.int .i64 (i' : Int)] ∧ i' ≤ l ∧ Kept No W w' ∧ ∃ bs e0 e1, PipeO w' b bs e0 e1) ∧ l - ix [Value.int .i64 ((i : Int) + 1)] < l - ix [Value.int .i64 (i : Int)] := by
      intro w' bs' e0' e1' hk hp
      exact ⟨by unfold inI; omega, ⟨i + 1, by simp, by omega, hk, _, _, _, hp⟩, by simp only [ix]; omega⟩
    refine ⟨hr, nnI ⟨x1, by rw [Int.toNat_natCast]; exact h03.cell c1 (fun e => e), condI (fun _ => ⟨hr, nnI ⟨x2, by rw [Int.toNat_natCast]; exact h03.cell c2 (fun e => e), ?_⟩⟩) (fun _ => condI (fun _ => ?_) (fun _ => condI (fun _ => ⟨hr, nnI ⟨x3, by rw [Int.toNat_natCast]; exact h03.cell c3 (fun e => e), ?_⟩⟩) (fun _ => condI (fun _ => ⟨hr, nnI ⟨x3, by rw [Int.toNat_natCast]; exact h03.cell c3 (fun e => e), ?_⟩⟩) (fun _ => hdone h03 hp3))))⟩⟩
    · exact (kread_ok hp3 x2).mono fun v w4 ⟨a4, l4, c4, hv4, _, _, hp4, hk4⟩ => ⟨_, _, _, _, hv4, hdone (h03.fresh hk4 fun x e => fr e) hp4⟩
    · intro w5
      have hk5 : Kept No w3 w5 := Kept.drew _ _
      have hp5 : PipeO w5 b bs e0 e1 := hp3
      clear_value w5
      have h05 := h03.no hk5
      refine ⟨hr, nnI ⟨a9, l9, c9, by rw [Int.toNat_natCast]; exact h05.cell c4 (fun e => e), hr, nnI ⟨x2, by rw [Int.toNat_natCast]; exact h05.cell c2 (fun e => e), ?_⟩⟩⟩
      exact (kwrite_ok hp5 (hd.keep h05 (fun _ _ _ e => e)) (fun hne hin => by have := RdS.old hd (by cases ds <;> simp_all [By]) b hin; omega) hd.2.1 x2).mono fun v w6 ⟨hv6, hp6, hk6⟩ => ⟨_, _, hv6, hdone (h05.fresh hk6 fun x e => fr e) hp6⟩
    · exact (kjoin_ok hp3 x3).mono fun v w6 ⟨hv6, hp6, hk6⟩ => ⟨_, hv6, hdone (h03.fresh hk6 fun x e => fr e) hp6⟩
    · exact (kleave_ok hp3 x3).mono fun v w6 ⟨hv6, hp6, hk6⟩ => ⟨_, hv6, hdone (h03.fresh hk6 fun x e => fr e) hp6⟩
  · refine kends_to hp3 fun nd => ?_
    have h04 : Kept No W (w3.drewN nd) := h03.no (Kept.drewN No _ _)
    have hp4 : PipeO (w3.drewN nd) b bs e0 e1 := hp3
    revert h04 hp4
    generalize w3.drewN nd = w4
    intro h04 hp4
    refine ⟨_, _, rfl, by decide, by unfold inI; omega, by decide, by unfold inI; omega, kcanr_to hp4 ⟨_, rfl, kcanw_to hp4 _ ⟨_, rfl, ?_⟩⟩⟩
    have hbl := hp4.len
    refine condI (fun g1 => condI (fun g2 => ?_) (fun g2 => condI (fun g3 => condI (fun g4 => ?_) (fun g4 => ?_)) (fun g3 => ?_))) (fun g1 => condI (fun g3 => condI (fun g4 => ?_) (fun g4 => ?_)) (fun g3 => ?_))
    · exfalso; simp [canRP] at g1 g2; omega
    · exfalso; simp [canWP] at g3 g4; omega
    rotate_left 2
    · exfalso; simp [canWP] at g3 g4; omega
    all_goals
      refine ⟨fun vs w6 => vs = [] ∧ Kept No W w6 ∧ PipeO w6 b bs e0 e1, ?_, ?_⟩
      · refine condP (fun g => mk_zeros (k := f) (by omega) fun w3 zs hz ho3 hk3 => ?_) (fun g => ⟨rfl, h04, hp4⟩)
        have hzl : zs.length = f := by rw [hz]; exact List.length_replicate
        refine (kwrite_ok (hp4.keep hk3 (fun e => e)) ho3.rd (fun _ e => by rw [inA_some] at e; have := hp4.lt; omega) (Nat.le_refl _) f).mono fun v w5 ⟨hv5, hp5, hk5⟩ => ⟨_, _, hv5, knum_to ⟨_, rfl, ?_⟩⟩
        have h05 := (h04.no hk3).fresh hk5 fun x e => fr e
        by_cases he0 : e0 = 0
        · have e : writeP zs f bs e0 e1 = (0, 53, bs) := by unfold writeP; rw [if_neg (by omega), if_neg (by omega), if_neg (by omega), if_pos he0]
          have ec : canWP f bs e0 e1 = true := by unfold canWP; simp only [decide_eq_true_eq]; omega
          rw [e] at hp5
          rw [e, ec]
          exact condF rfl (knum_to ⟨_, rfl, condF rfl ⟨rfl, h05, hp5⟩⟩)
        · have e := writeP_eq (ds := zs) (most := f) (bs := bs) (e0 := e0) (e1 := e1) (by omega) (by omega) (by omega) he0 (by omega)
          rw [hzl] at e
          by_cases ht : takesP bs.length f = 0
          · rw [if_pos ht] at e
            have ec : canWP f bs e0 e1 = false := by unfold canWP; simp only [decide_eq_false_iff_not]; omega
            rw [e] at hp5
            rw [e, ec]
            exact condF rfl (knum_to ⟨_, rfl, condF rfl ⟨rfl, h05, hp5⟩⟩)
          · rw [if_neg ht] at e
            have ht0 : 0 ≤ takesP bs.length f := by unfold takesP; split <;> omega
            have ec : canWP f bs e0 e1 = true := by unfold canWP; simp only [decide_eq_true_eq]; omega
            rw [e] at hp5
            rw [e, ec]
            exact condF rfl (knum_to ⟨_, rfl, condT rfl ⟨rfl, h05⟩⟩)
      · rintro _ w6 ⟨_, h06, hp6⟩
        refine condP (fun g => ?_) (fun g => ⟨rfl, h06⟩)
        refine (kread_ok hp6 1).mono fun v w7 ⟨a7, l7, c7, hv7, _, _, _, hk7⟩ => ⟨_, _, _, _, hv7, knum_to ⟨_, rfl, ?_, h06.fresh hk7 fun x e => fr e⟩⟩
        by_cases hc : bs = [] ∧ e1 > 0
        · have e : readP 1 bs e0 e1 = ([], 52, bs) := by unfold readP; rw [if_neg (by omega), if_neg (by omega), if_pos hc]
          have ec : canRP bs e0 e1 = false := by unfold canRP; simp only [decide_eq_false_iff_not, hc.1, List.length_nil]; omega
          rw [e, ec]; rfl
        · have e : (readP 1 bs e0 e1).2.1 = 0 := by unfold readP; rw [if_neg (by omega), if_neg (by omega), if_neg hc]
          have ec : canRP bs e0 e1 = true := by
            unfold canRP; simp only [decide_eq_true_eq]
            refine ⟨by omega, ?_⟩
            by_cases hb0 : bs = []
            · right; have : ¬ e1 > 0 := fun h => hc ⟨hb0, h⟩; omega
            · left; exact List.length_pos_iff.mpr hb0
          rw [e, ec]; rfl

end Go.Proofs.Ytmpmobhofdefeaa
