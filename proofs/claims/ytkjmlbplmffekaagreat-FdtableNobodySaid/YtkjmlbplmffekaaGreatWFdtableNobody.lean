/-
  Refused calls change nothing; tables that no call made: the walk. Conditions: none.
-/
import Derived.Test.YtkjmlbplmffekaaGreatFdN
import Derived.Test.YtkjmlbplmffekaaGreatKeP
import Derived.Test.YtkjmlbplmffekaaGreatKeW
import Derived.Test.YtkjmlbplmffekaaGreatCf
import Derived.Test.YtkjmlbplmffekaaGreatOFdtableNobody
set_option linter.unusedVariables false
namespace Go.Proofs.YtkjmlbplmffekaaGreat
open Go.Lw

theorem copyints7_ok {w : World} {a : Option Addr} {l c : Nat} {ns : List Int} (h : RdS 1 w a l c (In ns)) (hl : l * 8 ≤ 140737488355328) :
    CallR Tryz.prog 46 [.slice a l c] w fun v w' => ∃ a' c', v = .slice a' l c' ∧ SlO 1 w' a' l c' (In ns) ∧ Kept No w w' ∧ Fresh w a' := by
  refine C46 ?_
  unfold L46
  obtain ⟨a', c', w2, hrun, hs, hk, hat, hnn⟩ := run_app_sl (P := Tryz.prog) (t := 98) (t2 := 98) (ty := 98) (by kernel_rfl : slTyB Tryz.prog 98 1 8 = true) (by kernel_rfl) (SlO.nil 1 w) h (In_one ns) (by omega) (by omega)
  simp only [Nat.zero_add, List.nil_append] at hrun hs
  exact ⟨a', l, c', w2, hrun, a', c', rfl, hs, hk.mono (fun b _ hb => inA_none b hb), hat.fresh (Fresh.none w) (Nat.le_refl _)⟩

theorem tOpen_law (sl : List (Int × Bool)) (s : AK) (nm : ByteArray) (fl : Int) : ((tOpen sl s nm fl).2.1 ≠ 0 → (tOpen sl s nm fl).2.2.1 = sl) ∧ (tOpen sl s nm fl).2.2.2.next ≤ s.next + 1 := by
  have h := AK.open_cs s nm fl
  unfold tOpen
  split
  · exact ⟨fun _ => rfl, by dsimp only; omega⟩
  · split
    · exact ⟨fun _ => rfl, by dsimp only; omega⟩
    · exact ⟨fun e => absurd rfl e, by dsimp only; omega⟩

theorem tInstall_law (sl : List (Int × Bool)) (s : AK) (d : Int) : ((tInstall sl s d).2.1 ≠ 0 → (tInstall sl s d).2.2.1 = sl) ∧ (tInstall sl s d).2.2.2.next = s.next := by
  have h := AK.keep_cs s d
  unfold tInstall
  split
  · exact ⟨fun _ => rfl, rfl⟩
  · split
    · exact ⟨fun _ => rfl, h.2.2⟩
    · exact ⟨fun e => absurd rfl e, h.2.2⟩

theorem tDup_law (sl : List (Int × Bool)) (s : AK) (fd : Int) : ((tDup sl s fd).2.1 ≠ 0 → (tDup sl s fd).2.2.1 = sl) ∧ (tDup sl s fd).2.2.2.next = s.next := by
  unfold tDup
  split
  · exact ⟨fun _ => rfl, rfl⟩
  · exact tInstall_law _ _ _

theorem tClose_law (sl : List (Int × Bool)) (s : AK) (fd : Int) : (tClose sl s fd).1 ≠ 0 → (tClose sl s fd).2.1 = sl := by
  unfold tClose
  split
  · exact fun _ => rfl
  · exact fun e => absurd rfl e

theorem tDupTo_law (sl : List (Int × Bool)) (s : AK) (fd to : Int) : (tDupTo sl s fd to).1 ≠ 0 → (tDupTo sl s fd to).2.1 = sl := by
  unfold tDupTo
  split
  · exact fun _ => rfl
  · repeat' split
    all_goals first | exact fun _ => rfl | exact fun e => absurd rfl e

theorem tPipe_law (sl : List (Int × Bool)) (s : AK) : (tPipe sl s).2.2.2.2.next ≤ s.next + 2 := by
  have h := AK.pipe_cs s
  unfold tPipe
  split
  · split <;> (dsimp only; omega)
  · dsimp only; omega

set_option maxRecDepth 20000 in
set_option maxHeartbeats 4000000 in
theorem walk_fdtableNobody {W : World} {args : List Value} (h : V7 W args) : CallR Tryz.prog 7 args W fun v w' => v = .bool true ∧ Kept No W w' := by
  obtain ⟨a1, l1, c1, h1, h2, h3, h4, a2, l2, c2, g1, g2, g3, g4, a3, l3, c3, k1, k2, k3, k4, a4, l4, c4, s1, s2, s3, s4, z0, _, znm, _, z2, _, z3, _, z4, _, zb, za, zl, zc, zs, hz1, hz2, hz3, rfl⟩ := h
  obtain ⟨fs, ts, ps, hset⟩ := setup_of_view h1 h2 h3 h4 g1 g2 g3 g4 k1 k2 k3 k4
  have hl4b : l4 * 80 ≤ 140737488351232 := s3
  refine C7 ?_
  unfold L7
  intro w1 w1b
  have hb1 : Blk w1 W.heap.size #[.slice a1 l1 c1, .slice a2 l2 c2, .slice a3 l3 c3] := Blk.alloc _ _ _
  have hk1 : Kept No W w1 := Kept.alloc _ _ _
  have hb1b : Blk w1b w1.heap.size #[.int .i64 z0, .string znm, .int .i64 z2, .int .i64 z3, .int .i64 z4, .bool zb, .slice za zl zc] := Blk.alloc _ _ _
  have hk1b : Kept No w1 w1b := Kept.alloc _ _ _
  clear_value w1b
  clear_value w1
  refine CallR.mono alive7_ok ?_
  rintro v w3 ⟨rfl, hk3⟩
  refine ⟨_, rfl, condFa2 (CallR.mono (nothing7_ok (.inl rfl)) ?_)⟩
  rintro v w4 ⟨rfl, hk4⟩
  refine ⟨_, rfl, condFa2 ?_⟩
  intro w5
  have hn5 : NoT w5 (some ⟨w4.heap.size, 0, none⟩) := .inr ⟨_, _, rfl, Blk.alloc _ _ _, rfl⟩
  have hk5 : Kept No w4 w5 := Kept.alloc _ _ _
  clear_value w5
  refine CallR.mono (nothing7_ok hn5) ?_
  rintro v w6 ⟨rfl, hk6⟩
  refine ⟨_, rfl, condFa2 (C41 ?_)⟩
  unfold L41
  intro w7
  have hn7 : NoT w7 (some ⟨w6.heap.size, 0, none⟩) := .inr ⟨_, _, rfl, Blk.alloc _ _ _, rfl⟩
  have hk7 : Kept No w6 w7 := Kept.alloc _ _ _
  clear_value w7
  refine ⟨_, rfl, CallR.mono (nothing7_ok hn7) ?_⟩
  rintro v w8 ⟨rfl, hk8⟩
  have kb8 : Kept No w1b w8 := ((((hk3.no hk4).no hk5).no hk6).no hk7).no hk8
  have k8 : Kept No W w8 := (hk1.no hk1b).no kb8
  have hb8 := (hb1.keep hk1b fun e => e).keep kb8 fun e => e
  have hbz8 := hb1b.keep kb8 fun e => e
  clear hn5 hn7
  refine ⟨_, rfl, condFa2 ⟨_, _, _, _, _, _, _, _, _, (hb8.cell 0).trans rfl, (hb8.cell 1).trans rfl, (hb8.cell 2).trans rfl, CallR.mono (config_ok (hset.no k8)) ?_⟩⟩
  rintro v w9 ⟨af, cf, at_, ct, ap, cp, rfl, hk9, hset9⟩
  obtain ⟨ef, hef⟩ := hset9.ef
  obtain ⟨et, het⟩ := hset9.et
  have q1 := hset9.lf
  have q2 := hset9.lt
  refine ⟨_, _, _, _, _, _, _, _, _, rfl, CallR.mono (kernNew_ok hef het hset9.pp (by omega) (by omega)) ?_⟩
  rintro v w10 ⟨hk10, ⟨hne, rfl⟩ | ⟨hck, gk, L4, rfl, h10, hL4⟩⟩
  · exact ⟨_, _, rfl, tnum_to ⟨_, rfl, condT (by simpa using hne) ⟨rfl, (k8.no hk9).no hk10⟩⟩⟩
  refine ⟨_, _, rfl, tnum_to ⟨_, rfl, condFa2 (condFa2 (CallR.mono (tnew_okT gk) ?_))⟩⟩
  rintro v w12 ⟨rfl, hT12, hk12⟩
  have h12 := h10.no hk12
  have k10 := (k8.no hk9).no hk10
  have k12 := k10.no hk12
  have hbz12 := ((hbz8.keep hk9 fun e => e).keep hk10 fun e => e).keep hk12 fun e => e
  have hWz : W.heap.size ≤ w1.heap.size := hk1.size
  have hz1t : w1.heap.size < w10.heap.size := by have := hbz8.lt; have := (hk9.no hk10).size; omega
  have hL12 : ∀ z, L4.own z ≠ none → w1.heap.size < z ∧ z < w10.heap.size := fun z hz => by
    have e := hL4 z hz
    have e2 := h10.lt z hz
    have e3 := hbz8.lt
    have e4 := hk9.size
    exact ⟨by omega, e2⟩
  have hn12 : L4.own w10.heap.size = none := h10.new_none (Nat.le_refl _)
  obtain ⟨t, rfl⟩ : ∃ t, t = w10.heap.size := ⟨_, rfl⟩
  refine ⟨_, rfl, condFa2 ?_⟩
  obtain ⟨R, hR⟩ : ∃ R : List (Int × Bool) → AK → KL → World → Prop, R = fun sl s L w' => TabO w' w10.heap.size gk sl ∧ KernO w' gk s L ∧ L.own w10.heap.size = none ∧ (∀ z, L.own z ≠ none → w1.heap.size < z) ∧ Kept No W w' ∧ Blk w' w1.heap.size #[.int .i64 z0, .string znm, .int .i64 z2, .int .i64 z3, .int .i64 z4, .bool zb, .slice za zl zc] := ⟨_, rfl⟩
  have step : ∀ {w w' : World} {sl sl' : List (Int × Bool)} {s s' : AK} {L L' : KL}, R sl s L w → TabO w' w10.heap.size gk sl' → KernO w' gk s' L' → TStep w10.heap.size w w' L L' → R sl' s' L' w' := by
    intro w w' sl sl' s s' L L' hr hT hK st
    rw [hR] at hr ⊢
    obtain ⟨a, b, c, d, e, f⟩ := hr
    have hzw := e.size
    have hlt := a.lt
    have hflt := f.lt
    refine ⟨hT, hK, st.own c hlt, fun z hz => ?_, e.trans st.kept fun y hy h => ?_, f.keep st.kept fun h => ?_⟩
    · rcases st.grew z hz with h | h
      · exact d z h
      · omega
    · rcases h with h | h
      · have := d y h; omega
      · omega
    · rcases h with h | h
      · have := d _ h; omega
      · omega
  have same : ∀ {w w' : World} {sl : List (Int × Bool)} {s : AK} {L : KL}, R sl s L w → Kept No w w' → R sl s L w' := by
    intro w w' sl s L hr k
    rw [hR] at hr ⊢
    obtain ⟨a, b, c, d, e, f⟩ := hr
    exact ⟨a.keep k fun e => e, b.no k, c, d, e.no k, f.keep k fun e => e⟩
  have h12R : R slots0 (AK.new fs ts ps) L4 w12 := by
    rw [hR]
    exact ⟨hT12, h12, hn12, fun z hz => (hL12 z hz).1, k12, hbz12⟩
  obtain ⟨I, hI⟩ : ∃ I : List Value → World → Prop, I = fun vs w' => ∃ (i : Nat) (sl : List (Int × Bool)) (s : AK) (L : KL), vs = [.int .i64 (i : Int)] ∧ i ≤ l4 ∧ s.next ≤ 1 + 2 * (i : Int) ∧ R sl s L w' := ⟨_, rfl⟩
  obtain ⟨mu, hmu⟩ : ∃ mu : List Value → World → Nat, mu = fun vs _ => l4 - ix vs := ⟨_, rfl⟩
  refine ⟨I, mu, by rw [hI]; exact ⟨0, _, _, L4, rfl, by omega, by rw [(AK.new_is _ _ _).2.2.2.1]; omega, h12R⟩, ?_⟩
  intro _ n38 w13 hInv
  rw [hI] at hInv
  obtain ⟨i, sl, s, L, hvs, hi, hnx, hr13⟩ := hInv
  simp only [List.cons.injEq, Value.int.injEq, true_and, and_true] at hvs
  subst hvs
  have k13 : Kept No W w13 := by have := hr13; rw [hR] at this; exact this.2.2.2.2.1
  have parts : ∀ {w : World} {sl : List (Int × Bool)} {s : AK} {L : KL}, R sl s L w → TabO w w10.heap.size gk sl ∧ KernO w gk s L ∧ L.own w10.heap.size = none := by
    intro w sl s L hr
    rw [hR] at hr
    exact ⟨hr.1, hr.2.1, hr.2.2.1⟩
  refine condP (fun hlt => ?_) (fun hge => ?_)
  · obtain ⟨q, haq⟩ : ∃ q, a4 = some q := by
      cases ha : a4 with
      | none => have := s2 ha; omega
      | some q => exact ⟨q, rfl⟩
    obtain ⟨n1, _, sn, _, n2, _, n3, _, n4, _, bb, da, dl, dc, ns, _, _, _, e0, e1, e2, e3, e4, e5, e6, _⟩ := s4 q haq i (by omega)
    have fin : ∀ {w' : World} {sl' : List (Int × Bool)} {s' : AK} {L' : KL}, R sl' s' L' w' → s'.next ≤ 1 + 2 * ((i : Int) + 1) → inI ((i : Int) + 1) ∧ I [.int .i64 ((i : Int) + 1)] w' ∧ mu [.int .i64 ((i : Int) + 1)] w' < mu [.int .i64 (i : Int)] w13 := by
      intro w' sl' s' L' hr b1
      refine ⟨⟨by omega, by omega⟩, ?_, ?_⟩
      · rw [hI]; exact ⟨i + 1, sl', s', L', rfl, by omega, by omega, hr⟩
      · rw [hmu]; simp only [ix]; omega
    have e0n : Int.toNat (i : Int) = i := Int.toNat_natCast i
    rw [e0n]
    have hrg : 0 ≤ (i : Int) ∧ (i : Int) < ((l4 : Nat) : Int) := by omega
    obtain ⟨hT, hK, hn⟩ := parts hr13
    refine ⟨hrg, nnE2 haq ⟨_, k13.cell e0 fun e => e, condI (fun _ => ?_) (fun _ => condI (fun _ => ?_) (fun _ => condI (fun _ => ?_) (fun _ => fin hr13 (by omega))))⟩⟩
    · intro w14
      have hk14 : Kept No w13 w14 := Kept.drew _ _
      clear_value w14
      have hr14 := same hr13 hk14
      obtain ⟨hT, hK, hn⟩ := parts hr14
      have k14 := k13.no hk14
      refine ⟨hrg, nnE2 haq ⟨_, k14.cell e1 fun e => e, hrg, nnE2 haq ⟨_, k14.cell e2 fun e => e, CallR.mono (topen_ok hT hK hn sn n2 (by omega)) ?_⟩⟩⟩
      rintro v w15 ⟨rfl, L', hT', hK', st⟩
      have hl := (tOpen_law sl s sn n2).2
      exact ⟨_, _, rfl, fin (step hr14 hT' hK' st) (by omega)⟩
    · refine CallR.mono (tpipe_ok hT hK hn (by omega)) ?_
      rintro v w15 ⟨rfl, L', hT', hK', st⟩
      have hl := tPipe_law sl s
      exact ⟨_, _, _, rfl, fin (step hr13 hT' hK' st) (by omega)⟩
    · refine ⟨hrg, nnE2 haq ⟨_, k13.cell e2 fun e => e, CallR.mono (tdup_ok hT hK hn n2) ?_⟩⟩
      rintro v w15 ⟨rfl, L', hT', hK', st⟩
      have hl := (tDup_law sl s n2).2
      exact ⟨_, _, rfl, fin (step hr13 hT' hK' st) (by omega)⟩
  · obtain ⟨hT, hK, hn⟩ := parts hr13
    refine CallR.mono (tlist_ok hT) ?_
    rintro v w18 ⟨a57, l57, c57, rfl, hs57, hf57, hk18⟩
    have hr18 := same hr13 hk18
    have hl57 : l57 ≤ 64 := by
      have h1 := (usedL_lt sl 64 0).1
      have h2 := In_len hs57.rd
      have h3 : (castI (usedIx sl)).length = (usedIx sl).length := by unfold castI; rw [List.length_map]
      unfold usedIx at h3 h2
      omega
    refine ⟨_, _, _, rfl, CallR.mono (copyints7_ok hs57.rd (by omega)) ?_⟩
    rintro v w19 ⟨a59, c59, rfl, hs59, hk19, hf59⟩
    have hr19 := same hr18 hk19
    obtain ⟨hT19, hK19, hn19⟩ := parts hr19
    have hbz19 : Blk w19 w1.heap.size #[.int .i64 z0, .string znm, .int .i64 z2, .int .i64 z3, .int .i64 z4, .bool zb, .slice za zl zc] := by have := hr19; rw [hR] at this; exact this.2.2.2.2.2
    refine ⟨_, _, _, rfl, fun vs w' => ∃ (e : Int) (sl' : List (Int × Bool)) (s' : AK) (L' : KL), vs = [.int .i64 e] ∧ (e ≠ 0 → sl' = sl) ∧ R sl' s' L' w' ∧ TStep w10.heap.size w19 w' L L', ?_, ?_⟩
    · refine ⟨_, (hbz19.cell 0).trans rfl, condI (fun _ => ⟨_, (hbz19.cell 1).trans rfl, _, (hbz19.cell 2).trans rfl, CallR.mono (topen_ok hT19 hK19 hn19 _ _ (by omega)) ?_⟩) (fun _ => condI (fun _ => ⟨_, (hbz19.cell 2).trans rfl, CallR.mono (tinstall_ok hT19 hK19 hn19 _) ?_⟩) (fun _ => condI (fun _ => ⟨_, (hbz19.cell 2).trans rfl, CallR.mono (tclose_ok hT19 hK19 hn19 _) ?_⟩) (fun _ => condI (fun _ => ⟨_, (hbz19.cell 2).trans rfl, CallR.mono (tdup_ok hT19 hK19 hn19 _) ?_⟩) (fun _ => condI (fun _ => ⟨_, (hbz19.cell 2).trans rfl, _, (hbz19.cell 3).trans rfl, CallR.mono (tdupto_ok hT19 hK19 hn19 _ _) ?_⟩) (fun _ => ⟨0, sl, s, L, rfl, fun e => absurd rfl e, hr19, TStep.refl _ _ _⟩)))))⟩
      · rintro v w20 ⟨rfl, L', hT', hK', st⟩
        exact ⟨_, _, rfl, _, _, _, _, rfl, (tOpen_law _ _ _ _).1, step hr19 hT' hK' st, st⟩
      · rintro v w20 ⟨rfl, L', hT', hK', st⟩
        exact ⟨_, _, rfl, _, _, _, _, rfl, (tInstall_law _ _ _).1, step hr19 hT' hK' st, st⟩
      · rintro v w20 ⟨rfl, L', hT', hK', st⟩
        exact ⟨_, rfl, _, _, _, _, rfl, tClose_law _ _ _, step hr19 hT' hK' st, st⟩
      · rintro v w20 ⟨rfl, L', hT', hK', st⟩
        exact ⟨_, _, rfl, _, _, _, _, rfl, (tDup_law _ _ _).1, step hr19 hT' hK' st, st⟩
      · rintro v w20 ⟨rfl, L', hT', hK', st⟩
        exact ⟨_, rfl, _, _, _, _, rfl, tDupTo_law _ _ _ _, step hr19 hT' hK' st, st⟩
    · rintro _ n83 w25 ⟨e, sl', s', L', hvs, href, hr25, st25⟩
      simp only [List.cons.injEq, Value.int.injEq, true_and, and_true] at hvs
      subst hvs
      obtain ⟨hT25, hK25, hn25⟩ := parts hr25
      have hT13lt := hT.lt
      have hs59k := hs59.keep st25.kept fun b hb h => by
        have e1 := hf59 b hb
        have e2 := hk18.size
        rcases h with h | h
        · have := (parts hr13).2.1.lt b h; omega
        · omega
      refine CallR.mono (tlist_ok hT25) ?_
      rintro v w26 ⟨a84, l84, c84, rfl, hs84, hf84, hk26⟩
      have hr26 := same hr25 hk26
      have hs59b := hs59k.keep hk26 fun b hb h => h
      refine ⟨_, _, _, rfl, ?_⟩
      obtain ⟨I2, hI2⟩ : ∃ I : List Value → World → Prop, I = fun vs w' => ∃ (j : Nat) (xs : List Value), vs = [.int .i64 (j : Int)] ∧ j ≤ l84 ∧ SlO 1 w' a84 l84 c84 xs ∧ Kept (inA a84) w26 w' := ⟨_, rfl⟩
      obtain ⟨mu2, hmu2⟩ : ∃ mu : List Value → World → Nat, mu = fun vs _ => l84 - ix vs := ⟨_, rfl⟩
      have hl84 : l84 ≤ 64 := by
        have h1 := (usedL_lt sl' 64 0).1
        have h2 := In_len hs84.rd
        have h3 : (castI (usedIx sl')).length = (usedIx sl').length := by unfold castI; rw [List.length_map]
        unfold usedIx at h3 h2
        omega
      refine ⟨I2, mu2, by rw [hI2]; exact ⟨0, _, rfl, by omega, hs84, Kept.refl _ _⟩, ?_⟩
      intro _ n88 w27 hInv2
      rw [hI2] at hInv2
      obtain ⟨j, xs, hvs2, hj, hxs, hkx⟩ := hInv2
      simp only [List.cons.injEq, Value.int.injEq, true_and, and_true] at hvs2
      subst hvs2
      refine condP (fun hlt2 => ?_) (fun hge2 => ?_)
      · obtain ⟨q, haq⟩ : ∃ q, a84 = some q := by
          cases ha : a84 with
          | none => subst ha; have := RdS.isNone hxs.rd rfl; omega
          | some q => exact ⟨q, rfl⟩
        rw [Int.toNat_natCast]
        refine ⟨⟨by omega, by omega⟩, nnE2 haq (stC_slo hxs haq (by omega) fun w28 hxs28 hk28 _ => ⟨⟨by omega, by omega⟩, ?_, ?_⟩)⟩
        · rw [hI2]; exact ⟨j + 1, _, rfl, by omega, hxs28, hkx.trans hk28 fun _ _ h => h⟩
        · rw [hmu2]; simp only [ix]; omega
      · have h26lt := (parts hr25).1.lt
        have hz26 := hk26.size
        have hr27 : R sl' s' L' w27 := by
          have := hr26
          rw [hR] at this ⊢
          obtain ⟨a, b, c, d, e, f⟩ := this
          refine ⟨a.keep hkx fun h => ?_, b.keep hkx fun x hx => ?_, c, d, e.fresh hkx fun x hx => ?_, f.keep hkx fun h => ?_⟩
          · have := hf84 _ h; omega
          · cases ho : L'.own x with
            | none => rfl
            | some t => have := hK25.lt x (by rw [ho]; simp); have := hf84 _ hx; omega
          · have := hf84 _ hx; have := (by have := hr25; rw [hR] at this; exact this.2.2.2.2.1 : Kept No W w25).size; omega
          · have := hf84 _ h; have := (by have := hr25; rw [hR] at this; exact this.2.2.2.2.2 : Blk w25 _ _).lt; omega
        have hs59c := hs59b.keep hkx fun b hb h => by
          have e1 := hf84 _ h
          have e2 := SlO.lt hs59k b hb
          omega
        obtain ⟨hT27, hK27, hn27⟩ := parts hr27
        refine CallR.mono (tlist_ok hT27) ?_
        rintro v w29 ⟨a90, l90, c90, rfl, hs90, hf90, hk29⟩
        have hr29 := same hr27 hk29
        have k29 : Kept No W w29 := by have := hr29; rw [hR] at this; exact this.2.2.2.2.1
        have hl90 : l90 ≤ 64 := by
          have h1 := (usedL_lt sl' 64 0).1
          have h2 := In_len hs90.rd
          have h3 : (castI (usedIx sl')).length = (usedIx sl').length := by unfold castI; rw [List.length_map]
          unfold usedIx at h3 h2
          omega
        refine ⟨_, _, _, rfl, tnum_to ⟨_, rfl, condI (fun hne => ?_) (fun he => condI (fun _ => ⟨rfl, k29⟩) (fun hne0 => ?_))⟩⟩
        · have hne : n83 ≠ 0 := by simpa using hne
          have := href hne
          subst this
          refine CallR.mono (sameInts_ok hs90.rd (hs59c.keep hk29 fun b hb h => h).rd (by omega)) ?_
          rintro v w31 hv
          obtain ⟨rfl, hk31⟩ := hv
          exact ⟨_, rfl, by rw [decide_eq_true rfl], k29.no hk31⟩
        · have hne0 : l90 ≠ 0 := by simp at hne0; omega
          have hlen := In_len hs90.rd
          obtain ⟨q, haq, hc⟩ := In_cell hs90.rd (i := 0) (by omega)
          refine ⟨⟨by omega, by omega⟩, nnE2 haq ⟨_, hc, ?_, k29⟩⟩
          have hm : (castI (usedIx sl'))[0] ∈ castI (usedIx sl') := List.getElem_mem _
          unfold castI at hm
          obtain ⟨x, hx, hxe⟩ := List.mem_map.1 hm
          have hx2 := (usedL_lt sl' 64 0).2 x hx
          have hxe : (x : Int) = (castI (usedIx sl'))[0] := hxe
          rw [← hxe, decide_eq_true (by omega)]

end Go.Proofs.YtkjmlbplmffekaaGreat
