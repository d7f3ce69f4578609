/-
  When all tables have closed all, no description is left: a pipe's other end finds its end: the walk. Conditions: none.
-/
import Derived.Test.YtbiofmgebbdflaaFdA
import Derived.Test.YtbiofmgebbdflaaFdQ
import Derived.Test.YtbiofmgebbdflaaKeV
import Derived.Test.YtbiofmgebbdflaaLFh
import Derived.Test.YtbiofmgebbdflaaOFdtableDrops
set_option linter.unusedVariables false
namespace Go.Proofs.Ytbiofmgebbdflaa
open Go.Lw

def h9 : AK := AK.new [] [] []
def h9a := tPipe slots0 h9
def h9b := tInstall slots0 h9a.2.2.2.2 1
theorem h9_is : HP (tot 1 [h9a.2.2.2.1]) (tot 2 [h9a.2.2.2.1]) h9b.2.2.2 ∧ h9a.2.2.2.1[1]? = some (2, false) ∧ tAt h9b.2.2.1 0 = some (1, false) :=
  ⟨⟨by kernel_rfl, by kernel_rfl, by kernel_rfl, by kernel_rfl, by kernel_rfl⟩, by kernel_rfl, by kernel_rfl⟩
theorem h9_slots : Slots h9a.2.2.2.1 := ⟨by kernel_rfl, fun x hx => by
  have : h9a.2.2.2.1 = (slots0.set 0 (1, false)).set 1 (2, false) := by kernel_rfl
  rw [this] at hx
  rcases List.mem_or_eq_of_mem_set hx with e | e
  · rcases List.mem_or_eq_of_mem_set e with e | e
    · have := List.eq_of_mem_replicate e
      rw [this]; exact ⟨.inl rfl, rfl⟩
    · rw [e]; exact ⟨.inr (.inl rfl), rfl⟩
  · rw [e]; exact ⟨.inr (.inr rfl), rfl⟩⟩

def pdV (ps : List Nat) : List Value := ps.map pd
theorem pdV_one (ps : List Nat) : ∀ u ∈ pdV ps, u.oneCell' = true := by
  intro u hu; unfold pdV at hu; rw [List.mem_map] at hu; obtain ⟨n, _, rfl⟩ := hu; rfl
theorem pdV_len (ps : List Nat) : (pdV ps).length = ps.length := by unfold pdV; rw [List.length_map]

set_option maxHeartbeats 4000000 in
theorem walk_fdtableDrops {W : World} {args : List Value} (h : V10 W args) : CallR Try.prog 10 args W fun v w' => v = .bool true ∧ Kept No W w' := by
  obtain ⟨n1, _, a2, l2, c2, ds, hds, _, hl2, rfl⟩ := h
  have hds : RdS 1 W a2 l2 c2 (In ds) := hds
  have hlend := In_len hds
  refine C10 ?_
  unfold L10
  refine CallR.mono alive7_ok ?_
  rintro v w1 ⟨rfl, hk1⟩
  refine ⟨_, rfl, condFa2 ?_⟩
  have hf : RdN RB w1 none 0 0 ([] : List (ByteArray × List Int)) [] := ⟨RdS.nil 2 w1, rfl, fun i h1 h2 => by simp at h1⟩
  have ht : RdN RL w1 none 0 0 ([] : List (ByteArray × List (List Int))) [] := ⟨RdS.nil 2 w1, rfl, fun i h1 h2 => by simp at h1⟩
  refine CallR.mono (kernNew_ok hf ht (ps := []) (RdS.nil 2 w1) (by omega) (by omega)) ?_
  rintro v w2 ⟨hk2, ⟨hne, rfl⟩ | ⟨_, gk, L2, rfl, h2, hL2⟩⟩
  · exact absurd (by kernel_rfl : checkK [] [] [] = 0) hne
  have h2 : KernO w2 gk h9 L2 := h2
  have k2 := hk1.no hk2
  have hz1 := hk1.size
  have hL : ∀ z, L2.own z ≠ none → W.heap.size ≤ z := fun z hz => by have := hL2 z hz; omega
  refine ⟨_, _, rfl, CallR.mono (tnew_okT gk) ?_⟩
  rintro v w3 ⟨rfl, hT3, hk3⟩
  refine ⟨_, rfl, CallR.mono (tnew_okT gk) ?_⟩
  rintro v w4 ⟨rfl, hR4, hk4⟩
  have h4 := (h2.no hk3).no hk4
  have hT4 := hT3.keep hk4 fun e => e
  have hn2t : L2.own w2.heap.size = none := h2.new_none (Nat.le_refl _)
  have hn2r : L2.own w3.heap.size = none := h2.new_none hk3.size
  have hTlt := hT3.lt
  have hRlt := hR4.lt
  refine ⟨_, rfl, tnum_to ⟨_, rfl, condFa2 (condFa2 (condFa2 ?_))⟩⟩
  have hx : h9.next = 1 := by kernel_rfl
  refine CallR.mono (tpipe_ok hT4 h4 hn2t (by omega)) ?_
  rintro v w6 ⟨rfl, L6, hT6, h6, st6⟩
  have hT6 : TabO w6 _ gk h9a.2.2.2.1 := hT6
  have h6 : KernO w6 gk h9a.2.2.2.2 L6 := h6
  rw [show (tPipe slots0 h9).1 = 0 by kernel_rfl, show (tPipe slots0 h9).2.1 = 1 by kernel_rfl, show (tPipe slots0 h9).2.2.1 = 0 by kernel_rfl]
  have hn6t := st6.own hn2t hT4.lt
  have hn6r := st6.own hn2r hR4.lt
  have hR6 : TabO w6 w3.heap.size gk slots0 := hR4.keep st6.kept fun e => by
    rcases e with e | e
    · exact e hn2r
    · omega
  refine ⟨_, _, _, rfl, CallR.mono (tdesc_ok hT6 0) ?_⟩
  rintro v w7 ⟨rfl, ⟨ha, _⟩ | ⟨x, ha, rfl⟩⟩
  · exact absurd ((by kernel_rfl : tAt h9a.2.2.2.1 0 = some (1, false)).symm.trans ha) (by simp)
  have hxe : x = (1, false) := Option.some.inj (ha.symm.trans (by kernel_rfl : tAt h9a.2.2.2.1 0 = some (1, false)))
  subst hxe
  refine ⟨_, _, rfl, CallR.mono (tinstall_ok hR6 h6 hn6r 1) ?_⟩
  rintro v w8 ⟨rfl, L8, hR8, h8, st8⟩
  have hR8 : TabO w8 _ gk h9b.2.2.1 := hR8
  have h8 : KernO w8 gk h9b.2.2.2 L8 := h8
  rw [show (tInstall slots0 h9a.2.2.2.2 1).1 = 0 by kernel_rfl, show (tInstall slots0 h9a.2.2.2.2 1).2.1 = 0 by kernel_rfl]
  have hT8 : TabO w8 w2.heap.size gk h9a.2.2.2.1 := hT6.keep st8.kept fun e => by
    rcases e with e | e
    · exact e hn6t
    · omega
  have hn8t := st8.own hn6t hT6.lt
  have hn8r := st8.own hn6r hR6.lt
  refine ⟨_, _, rfl, CallR.mono (tdesc_ok hT8 1) ?_⟩
  rintro v w9 ⟨rfl, ⟨ha, _⟩ | ⟨x, ha, rfl⟩⟩
  · exact absurd ((by kernel_rfl : tAt h9a.2.2.2.1 1 = some (2, false)).symm.trans ha) (by simp)
  have hxe : x = (2, false) := Option.some.inj (ha.symm.trans (by kernel_rfl : tAt h9a.2.2.2.1 1 = some (2, false)))
  subst hxe
  refine ⟨_, _, rfl, tnum_to ⟨_, rfl, tnum_to ⟨_, rfl, ⟨by omega, by omega⟩, tnum_to ⟨_, rfl, ⟨by omega, by omega⟩, tnum_to ⟨_, rfl, ⟨by omega, by omega⟩, condFa2 ?_⟩⟩⟩⟩⟩
  obtain ⟨hp, h1s, hrA⟩ := h9_is
  have hsl := h9_slots
  generalize h9a.2.2.2.1 = sl0 at hT8 hp h1s hsl
  generalize h9b.2.2.1 = slr at hR8 hrA
  generalize h9b.2.2.2 = s8 at h8 hp
  have k8 : Kept No W w9 := by
    refine (((k2.no hk3).no hk4).trans st6.kept fun x hx e => ?_).trans st8.kept fun x hx e => ?_
    · rcases e with e | e
      · have := hL x e; omega
      · have := k2.size; omega
    · rcases e with e | e
      · rcases st6.grew x e with e | e
        · have := hL x e; omega
        · have := k2.size; omega
      · have := k2.size; omega
  have hL8 : ∀ z, L8.own z ≠ none → W.heap.size ≤ z := fun z hz => by
    have := k2.size
    rcases st8.grew z hz with e | e
    · rcases st6.grew z e with e | e
      · exact hL z e
      · omega
    · have := st6.kept.size; omega
  have hWt : W.heap.size ≤ w2.heap.size := k2.size
  have htr : w2.heap.size < w3.heap.size := hTlt
  clear hf ht h2 hT3 hR4 h4 hT4 hT6 h6 hR6 st6 st8 hk1 hk2 hk3 hk4
  generalize w2.heap.size = t at *
  generalize w3.heap.size = r at *
  intro w14
  have hk14 : Kept No w9 w14 := Kept.alloc _ _ _
  have hs14 : SlO 1 w14 (some ⟨w9.heap.size, 0, none⟩) 1 1 (pdV [t]) := SlO.of_blk (sz := 1) (n := 1) (Blk.alloc w9 #[pd t] _) (by simp)
  clear_value w14
  have hlt9t := hT8.lt
  have hlt9r := hR8.lt
  have hz8 := k8.size
  obtain ⟨g1, g2, g3⟩ := cutI n1 5 (by omega) (by omega)
  refine ⟨fun vs w' => ∃ (k : Nat) (a : Option Addr) (c : Nat) (ps : List Nat) (tabs : List (List (Int × Bool))) (s : AK) (L : KL), vs = [.slice a (k + 1) c, .int .i64 (k : Int)] ∧ (k : Int) ≤ Int.tmod (Int.tmod n1 5 + 5) 5 ∧ ps.length = k + 1 ∧ tabs.length = k + 1 ∧ SlO 1 w' a (k + 1) c (pdV ps) ∧
      (∀ z, inA a z → w9.heap.size ≤ z ∧ L.own z = none ∧ ∀ p ∈ ps, p ≠ z) ∧ (∀ i, (h : i < ps.length) → (h' : i < tabs.length) → TabO w' ps[i] gk tabs[i]) ∧ (∀ p ∈ ps, W.heap.size ≤ p ∧ L.own p = none ∧ p ≠ r) ∧ ps.Nodup ∧
      (∀ sl ∈ tabs, Slots sl ∧ sl[1]? = some (2, false)) ∧ HP (tot 1 tabs) (tot 2 tabs) s ∧ KernO w' gk s L ∧ (∀ z, L.own z ≠ none → W.heap.size ≤ z) ∧ TabO w' r gk slr ∧ L.own r = none ∧ Kept No W w' ∧ w9.heap.size ≤ w'.heap.size,
    fun vs _ => match vs with | [_, .int _ k] => 5 - k.toNat | _ => 0,
    ⟨0, _, _, [t], [sl0], s8, L8, rfl, g2, rfl, rfl, hs14, fun z hz => by
      rw [inA_some] at hz
      subst hz
      exact ⟨Nat.le_refl _, h8.new_none (Nat.le_refl _), fun p hp e => by simp only [List.mem_singleton] at hp; omega⟩, fun i h1 h2 => by
      have : i = 0 := by simpa using h1
      subst this
      exact hT8.keep hk14 fun e => e, fun p hp => by simp only [List.mem_singleton] at hp; subst hp; exact ⟨hWt, hn8t, by omega⟩, by simp, fun sl hsl' => by simp only [List.mem_singleton] at hsl'; subst hsl'; exact ⟨hsl, h1s⟩, hp, h8.no hk14, hL8, hR8.keep hk14 (fun e => e), hn8r, k8.no hk14, hk14.size⟩, ?_⟩
  rintro _ a37 l37 c37 n38 w15 ⟨k, a, c, ps, tabs, s, L, hvs, hkn, hpl, htl, hs, hap, hTs, hpn, hnd, hsl, hp, hK, hLW, hR, hnr, kW, hz9⟩
  simp only [List.cons.injEq, Value.int.injEq, Value.slice.injEq, true_and, and_true] at hvs
  obtain ⟨⟨rfl, rfl, rfl⟩, rfl⟩ := hvs
  have hk5 : k ≤ 4 := by omega
  have hzW := kW.size
  refine ⟨by decide, g1, by decide, condP (fun hlt => ?_) (fun hge => ?_)⟩
  · -- one more fork
    obtain ⟨q, haq⟩ : ∃ q, a37 = some q := by
      cases ha : a37 with
      | none => have := RdS.isNone hs.rd ha; omega
      | some q => exact ⟨q, rfl⟩
    have hkp : k < ps.length := by omega
    have hkt : k < tabs.length := by omega
    have hcell := hs.rd.2.2.2 q haq k (pd ps[k]) (by unfold pdV; rw [List.getElem?_map, List.getElem?_eq_getElem hkp]; rfl)
    have e0 : Int.toNat ((((k + 1 : Nat)) : Int) - 1) = k := by omega
    refine ⟨⟨by omega, by omega⟩, ⟨by omega, by omega⟩, nnE2 haq ⟨_, by rw [e0]; exact hcell, ?_⟩⟩
    have hTk := hTs k hkp hkt
    have hpk := hpn ps[k] (List.getElem_mem hkp)
    have hslk := hsl tabs[k] (List.getElem_mem hkt)
    have hcount1 := tot_le 1 fun sl h => (hsl sl h).1
    have hcount2 := tot_le 2 fun sl h => (hsl sl h).1
    have htot2 : tot 2 tabs ≠ 0 := by
      intro e
      have hd := hp.d2
      have hc2 : 1 ≤ cnt 2 tabs[k] := by
        have hi : 1 < tabs[k].length := by rw [hslk.1.len]; omega
        have hg : (tabs[k])[1] = (2, false) := by have := hslk.2; rw [List.getElem?_eq_getElem hi] at this; exact Option.some.inj this
        unfold cnt
        exact List.countP_pos_iff.2 ⟨(tabs[k])[1], List.getElem_mem hi, by rw [hg]; rfl⟩
      have : ∀ (l : List (List (Int × Bool))) (x : List (Int × Bool)), x ∈ l → cnt 2 x ≤ tot 2 l := by
        intro l
        induction l with
        | nil => intro x hx; cases hx
        | cons y l ih =>
          intro x hx
          rcases List.mem_cons.1 hx with rfl | hx
          · show cnt 2 x ≤ cnt 2 x + tot 2 l; omega
          · have := ih x hx; show cnt 2 x ≤ cnt 2 y + tot 2 l; omega
      have := this tabs tabs[k] (List.getElem_mem hkt)
      omega
    obtain ⟨f1, f2⟩ := hp.fork hslk.1 (by omega) (by omega) htot2
    refine CallR.mono (tfork_ok hTk hK hpk.2.1) ?_
    rintro v w16 ⟨cc, L16, rfl, hcc, hC16, h16, hnc16, st16⟩
    rw [f1] at hC16
    refine ⟨_, rfl, condFa2 ?_⟩
    have hz16 := st16.size
    have hLW16 : ∀ z, L16.own z ≠ none → W.heap.size ≤ z := fun z hz => by
      rcases st16.grew z hz with e | e
      · exact hLW z e
      · omega
    have hclt := hC16.lt
    refine ⟨fun vs w' => ∃ (m : Nat) (slc : List (Int × Bool)) (s' : AK) (L' : KL), vs = [.int .i64 (m : Int)] ∧ m ≤ l2 ∧ Slots slc ∧ slc[1]? = some (2, false) ∧ HP (cnt 1 slc + tot 1 tabs) (cnt 2 slc + tot 2 tabs) s' ∧ TabO w' cc gk slc ∧ KernO w' gk s' L' ∧ TStep cc w16 w' L16 L',
      fun vs _ => l2 - ix vs, ⟨0, tabs[k], _, L16, rfl, by omega, hslk.1, hslk.2, by rw [Nat.add_comm (cnt 1 _), Nat.add_comm (cnt 2 _)]; exact f2, hC16, h16, .refl _ _ _⟩, ?_⟩
    rintro _ n45 w17 ⟨m, slc, s', L', hvs, hm, hsc, hsc1, hp', hC17, h17, st17⟩
    simp only [List.cons.injEq, Value.int.injEq, true_and, and_true] at hvs
    subst hvs
    have k17 : Kept No W w17 := (kW.trans st16.kept fun x hx e => by have := hLW x e; omega).trans st17.kept fun x hx e => by
      rcases e with e | e
      · have := hLW16 x e; omega
      · omega
    have hnc17 := st17.own hnc16 hC16.lt
    refine condP (fun hlt => ?_) (fun hge => ?_)
    · have hml : m < ds.length := by omega
      obtain ⟨q2, haq2, hc⟩ := In_cell (hds.keep k17 fun _ _ _ e => e) hml
      obtain ⟨slc', d1, d2, d3, d4⟩ := hp'.dupto hsc hsc1 (by omega) ds[m]
      refine ⟨⟨by omega, by omega⟩, nnE2 haq2 ⟨_, by rw [Int.toNat_natCast]; exact hc, CallR.mono (tdupto_ok hC17 h17 hnc17 1 ds[m]) ?_⟩⟩
      rintro v w18 ⟨rfl, L18, hC18, h18, st18⟩
      rw [d1] at hC18
      exact ⟨_, rfl, ⟨by omega, by omega⟩, ⟨m + 1, slc', _, L18, rfl, by omega, d2, d3, d4, hC18, h18, st17.trans st18⟩, by simp only [ix]; omega⟩
    · intro w19
      have hk19 : Kept No w17 w19 := Kept.alloc _ _ _
      have hone : RdS 1 w19 (some ⟨w17.heap.size, 0, none⟩) 1 1 (pdV [cc]) := (SlO.of_blk (sz := 1) (n := 1) (Blk.alloc w17 #[pd cc] _) (by simp)).rd
      clear_value w19
      have hav : ∀ z, inA a37 z → z < w15.heap.size := SlO.lt hs
      have hcne : ∀ z, z < w15.heap.size → z ≠ cc := fun z hz e => by omega
      have keepT : ∀ {T : Nat} {sl : List (Int × Bool)}, TabO w15 T gk sl → L.own T = none → TabO w17 T gk sl ∧ L'.own T = none := by
        intro T sl hT hn
        have hTl := hT.lt
        have g1 := hT.step hn st16
        have n1 : L16.own T = none := st16.own' hn hTl
        refine ⟨g1.keep st17.kept fun e => ?_, st17.own n1 g1.lt⟩
        rcases e with e | e
        · exact e n1
        · omega
      have hz17 := st17.kept.size
      have hs17 : SlO 1 w17 a37 (k + 1) c37 (pdV ps) := (hs.keep st16.kept fun z hz e => e (hap z hz).2.1).keep st17.kept fun z hz e => by
        rcases e with e | e
        · exact e (st16.own' (hap z hz).2.1 (hav z hz))
        · exact hcne z (hav z hz) e
      have hapn : ∀ z, inA a37 z → L'.own z = none := fun z hz => st17.own (st16.own' (hap z hz).2.1 (hav z hz)) (by have := hav z hz; omega)
      obtain ⟨a50, c50, w20, hrun, hs20, hk20, hat20, _⟩ := run_app_sl (P := Try.prog) (t := 88) (t2 := 88) (ty := 88) (by kernel_rfl : slTyB Try.prog 88 1 8 = true) (by kernel_rfl) (hs17.keep hk19 fun _ _ e => e) hone (pdV_one _) (by omega) (by omega)
      have hpd : pdV ps ++ pdV [cc] = pdV (ps ++ [cc]) := by unfold pdV; rw [List.map_append]
      rw [hpd] at hs20
      have hz19 := hk19.size
      have keep20 : ∀ {T : Nat} {sl : List (Int × Bool)}, TabO w17 T gk sl → (∀ z, inA a37 z → T ≠ z) → TabO w20 T gk sl := fun hT hn => (hT.keep hk19 fun e => e).keep hk20 fun e => hn _ e rfl
      have hcc2 : ∀ p ∈ ps, p ≠ cc := fun p hp => by
        obtain ⟨i, hi, rfl⟩ := List.mem_iff_getElem.1 hp
        exact hcne _ (hTs i hi (by omega)).lt
      refine ⟨a50, k + 1 + 1, c50, w20, hrun, ⟨by omega, by omega⟩, ⟨k + 1, a50, c50, ps ++ [cc], tabs ++ [slc], s', L', rfl, by omega, by rw [List.length_append, hpl]; rfl, by rw [List.length_append, htl]; rfl, hs20, fun z hz => ?_, fun i h1 h2 => ?_, fun p hp => ?_, ?_, fun sl hsl2 => ?_, ?_, (h17.no hk19).keep hk20 fun z hz => hapn z hz, fun z hz => ?_, ?_, ?_, (k17.no hk19).fresh hk20 fun x e => by have := (hap x e).1; omega, by have := hk20.size; omega⟩, ?_⟩
      · rcases hat20.in hz with e | e
        · refine ⟨(hap z e).1, hapn z e, fun p hp => ?_⟩
          rcases List.mem_append.1 hp with hp | hp
          · exact (hap z e).2.2 p hp
          · simp only [List.mem_singleton] at hp
            subst hp
            exact fun e2 => hcne z (hav z e) e2.symm
        · subst e
          refine ⟨by omega, h17.new_none hz19, fun p hp e2 => ?_⟩
          rcases List.mem_append.1 hp with hp | hp
          · obtain ⟨i, hi, rfl⟩ := List.mem_iff_getElem.1 hp
            have := (hTs i hi (by omega)).lt
            omega
          · simp only [List.mem_singleton] at hp
            have := hC17.lt
            omega
      · by_cases hi : i < ps.length
        · have hi2 : i < tabs.length := by omega
          rw [List.getElem_append_left hi, List.getElem_append_left hi2]
          have hTi := keepT (hTs i hi hi2) (hpn _ (List.getElem_mem hi)).2.1
          exact keep20 hTi.1 fun z hz => (hap z hz).2.2 _ (List.getElem_mem hi)
        · have hi3 : i = ps.length := by rw [List.length_append, List.length_singleton] at h1; omega
          subst hi3
          rw [List.getElem_append_right (Nat.le_refl _), List.getElem_append_right (by omega)]
          simp only [Nat.sub_self, hpl, htl, List.getElem_cons_zero]
          exact keep20 hC17 fun z hz e => hcne z (hav z hz) e.symm
      · rcases List.mem_append.1 hp with hp | hp
        · obtain ⟨i, hi, hpe⟩ := List.mem_iff_getElem.1 hp
          have hTi := keepT (hTs i hi (by omega)) (hpn _ (List.getElem_mem hi)).2.1
          rw [hpe] at hTi
          exact ⟨(hpn p hp).1, hTi.2, (hpn p hp).2.2⟩
        · simp only [List.mem_singleton] at hp
          subst hp
          refine ⟨by omega, hnc17, fun e => ?_⟩
          have := hR.lt
          omega
      · exact AK.nodup_snoc hnd fun e => hcc2 cc e rfl
      · rcases List.mem_append.1 hsl2 with e | e
        · exact hsl sl e
        · simp only [List.mem_singleton] at e
          subst e
          exact ⟨hsc, hsc1⟩
      · rw [tot_snoc, tot_snoc, Nat.add_comm (tot 1 tabs), Nat.add_comm (tot 2 tabs)]
        exact hp'
      · rcases st17.grew z hz with e | e
        · exact hLW16 z e
        · omega
      · exact keep20 (keepT hR hnr).1 fun z hz e => by have := (hap z hz).1; omega
      · exact (keepT hR hnr).2
      · show 5 - Int.toNat ((k : Int) + 1) < 5 - Int.toNat (k : Int)
        omega
  · -- all are closed, one by one
    have hrd : ∀ {s : AK} {n1 n2 : Nat}, HP n1 n2 s → n2 ≠ 0 → s.read 1 1 = ([], 52, s) := by
      intro s n1 n2 hp hn
      unfold AK.read
      rw [if_neg (fun e => e (AK.find_of hp.d1 (by show bitI 1 1 = 1; decide))), if_neg (by omega), if_neg (by omega), hp.d1]
      dsimp only
      have hw : s.waits ⟨1, 0, 1, 0, (n1 : Int) + 1⟩ = true := by
        unfold AK.waits
        rw [show s.objs 0 = _ from hp.ob, if_neg hn]
        rfl
      rw [hw, if_pos rfl]
    have hcntp : ∀ {sl : List (Int × Bool)}, Slots sl → sl[1]? = some (2, false) → 1 ≤ cnt 2 sl := by
      intro sl h h1
      have hi : 1 < sl.length := by rw [h.len]; omega
      have hg : sl[1] = (2, false) := by rw [List.getElem?_eq_getElem hi] at h1; exact Option.some.inj h1
      unfold cnt
      exact List.countP_pos_iff.2 ⟨sl[1], List.getElem_mem hi, by rw [hg]; rfl⟩
    refine ⟨fun vs w' => ∃ (j : Nat) (s' : AK) (L' : KL), vs = [.int .i64 (j : Int)] ∧ j ≤ k + 1 ∧ SlO 1 w' a37 (k + 1) c37 (pdV ps) ∧ (∀ z, inA a37 z → L'.own z = none) ∧ (∀ i, j ≤ i → (h : i < ps.length) → (h' : i < tabs.length) → TabO w' ps[i] gk tabs[i] ∧ L'.own ps[i] = none) ∧
        HP (tot 1 (tabs.drop j)) (tot 2 (tabs.drop j)) s' ∧ KernO w' gk s' L' ∧ (∀ z, L'.own z ≠ none → W.heap.size ≤ z) ∧ TabO w' r gk slr ∧ L'.own r = none ∧ Kept No W w',
      fun vs _ => k + 1 - ix vs, ⟨0, s, L, rfl, by omega, hs, fun z hz => (hap z hz).2.1, fun i _ h h' => ⟨hTs i h h', (hpn _ (List.getElem_mem h)).2.1⟩, hp, hK, hLW, hR, hnr, kW⟩, ?_⟩
    rintro _ n53 w21 ⟨j, s', L', hvs, hj, hs21, hap21, hTs21, hp21, hK21, hLW21, hR21, hnr21, k21⟩
    simp only [List.cons.injEq, Value.int.injEq, true_and, and_true] at hvs
    subst hvs
    refine condP (fun hlt => ?_) (fun hge => ?_)
    · have hjp : j < ps.length := by omega
      have hjt : j < tabs.length := by omega
      rw [List.drop_eq_getElem_cons hjt] at hp21
      have hp21 : HP (cnt 1 tabs[j] + tot 1 (tabs.drop (j + 1))) (cnt 2 tabs[j] + tot 2 (tabs.drop (j + 1))) s' := hp21
      have hslj := hsl tabs[j] (List.getElem_mem hjt)
      have hc2 := hcntp hslj.1 hslj.2
      have hkind : s'.kind 2 = 3 := by
        have hd := hp21.d2' (by omega)
        unfold AK.kind
        rw [if_neg (fun e => e (AK.find_of hd (AK.bit0 _))), hd]
        dsimp only
        rw [show s'.objs 0 = _ from hp21.ob]
        rfl
      refine CallR.mono (kind_ok hK21 2) ?_
      rw [hkind]
      rintro v w22 ⟨rfl, hk22⟩
      refine ⟨_, rfl, condFa2 ?_⟩
      have hK22 := hK21.no hk22
      have hR22 := hR21.keep hk22 fun e => e
      have htr : tRead slr s' 0 1 = ([], 52, s') := by unfold tRead; rw [hrA]; exact hrd hp21 (by omega)
      refine CallR.mono (tread_okT hR22 hK22 0 1 (by rw [hp21.c0]; omega)) ?_
      rw [htr]
      rintro v w23 ⟨a56, l56, c56, L23, rfl, ob56, hf56, hK23, st23, _⟩
      have hz21 := k21.size
      have hz22 := hk22.size
      have hs23 : SlO 1 w23 a37 (k + 1) c37 (pdV ps) := (hs21.keep hk22 fun _ _ e => e).keep st23.kept fun z hz e => e (hap21 z hz)
      have hapn23 : ∀ z, inA a37 z → L23.own z = none := fun z hz => st23.own' (hap21 z hz) (by have := SlO.lt hs21 z hz; omega)
      obtain ⟨hTj, hnj⟩ := hTs21 j (Nat.le_refl _) hjp hjt
      have hTj23 := (hTj.keep hk22 fun e => e).step hnj st23
      have hnj23 : L23.own ps[j] = none := st23.own' hnj (by have := hTj.lt; omega)
      obtain ⟨q, haq⟩ : ∃ q, a37 = some q := by
        cases ha : a37 with
        | none => have := RdS.isNone hs.rd ha; omega
        | some q => exact ⟨q, rfl⟩
      have hcell : ∀ {w' : World}, SlO 1 w' a37 (k + 1) c37 (pdV ps) → w'.cell? (q.add (Int.toNat (j : Int))) = some (pd ps[j]) := fun h => by
        rw [Int.toNat_natCast]
        exact h.rd.2.2.2 q haq j (pd ps[j]) (by unfold pdV; rw [List.getElem?_map, List.getElem?_eq_getElem hjp]; rfl)
      have hr : 0 ≤ (j : Int) ∧ (j : Int) < (((k + 1 : Nat)) : Int) := by omega
      refine ⟨_, _, _, _, rfl, tnum_to ⟨_, rfl, condFa2 ⟨hr, nnE2 haq ⟨_, hcell hs23, CallR.mono (tcloseall_ok hTj23 hK23 hnj23) ?_⟩⟩⟩⟩
      rintro v w25 ⟨rfl, L25, hT25, hK25, st25⟩
      obtain ⟨q1, q2⟩ := hp21.closeAll hslj.1
      have hdis : ∀ z, inA a37 z → ¬ (L23.own z ≠ none ∨ z = ps[j]) := fun z hz e => by
        rcases e with e | e
        · exact e (hapn23 z hz)
        · exact (hap z hz).2.2 _ (List.getElem_mem hjp) e.symm
      have hs25 := hs23.keep st25.kept hdis
      refine ⟨rfl, hr, nnE2 haq ⟨_, hcell hs25, CallR.mono (tlist_ok hT25) ?_⟩⟩
      rintro v w26 ⟨a66, l66, c66, rfl, hs66, hf66, hk26⟩
      have hl66 := In_len hs66.rd
      rw [q1] at hl66
      have hl0 : l66 = 0 := by simpa [castI] using hl66.symm
      subst hl0
      have hnr23 : L23.own r = none := st23.own' hnr21 (by have := hR21.lt; omega)
      have hR23 := hR22.step hnr21 st23
      have hz23 := st23.size
      have hjr := (hpn _ (List.getElem_mem hjp)).2.2
      refine ⟨_, _, _, rfl, condFa2 ⟨⟨by omega, by omega⟩, ⟨j + 1, _, L25, rfl, by omega, hs25.keep hk26 (fun _ _ e => e), fun z hz => st25.own (hapn23 z hz) (by have := SlO.lt hs23 z hz; omega), fun i hi h h' => ?_, q2, hK25.no hk26, fun z hz => ?_, (hR23.keep st25.kept fun e => ?_).keep hk26 fun e => e, st25.own hnr23 hR23.lt, ?_⟩, by simp only [ix]; omega⟩⟩
      · obtain ⟨hTi, hni⟩ := hTs21 i (by omega) h h'
        have hTi23 := (hTi.keep hk22 fun e => e).step hni st23
        have hni23 : L23.own ps[i] = none := st23.own' hni (by have := hTi.lt; omega)
        have hij : ps[i] ≠ ps[j] := fun e => by have := (List.getElem_inj hnd).1 e; omega
        refine ⟨(hTi23.keep st25.kept fun e => ?_).keep hk26 fun e => e, st25.own hni23 hTi23.lt⟩
        rcases e with e | e
        · exact e hni23
        · exact hij e
      · rcases st25.grew z hz with e | e
        · rcases st23.grew z e with e | e
          · exact hLW21 z e
          · omega
        · omega
      · rcases e with e | e
        · exact e hnr23
        · exact hjr e.symm
      · refine (((k21.no hk22).trans st23.kept fun x hx e => by have := hLW21 x e; omega).trans st25.kept fun x hx e => ?_).no hk26
        rcases e with e | e
        · rcases st23.grew x e with e | e
          · have := hLW21 x e; omega
          · omega
        · have := (hpn _ (List.getElem_mem hjp)).1; omega
    · have hj' : j = k + 1 := by omega
      subst hj'
      rw [List.drop_of_length_le (by omega)] at hp21
      have hp21 : HP 0 0 s' := hp21
      have hrd0 : s'.read 1 1 = ([], 0, s'.met0.setO 0 (.pipe [] 1 0)) := by
        unfold AK.read
        rw [if_neg (fun e => e (AK.find_of hp21.d1 (by decide))), if_neg (by omega), if_neg (by omega), hp21.d1]
        dsimp only
        have hw : s'.waits ⟨1, 0, 1, 0, ((0 : Nat) : Int) + 1⟩ = false := by
          unfold AK.waits
          rw [show s'.objs 0 = _ from hp21.ob]
          rfl
        have hmet : metF s'.ps 1 = (1, 0) := by rw [hp21.ps]; rfl
        rw [hw, if_neg (by simp), hmet, if_neg (by simp)]
        unfold AK.rdO
        rw [show s'.met0.objs 0 = _ from hp21.ob]
        rfl
      have htr : tRead slr s' 0 1 = ([], 0, s'.met0.setO 0 (.pipe [] 1 0)) := by unfold tRead; rw [hrA]; exact hrd0
      refine CallR.mono (tread_okT hR21 hK21 0 1 (by rw [hp21.c0]; omega)) ?_
      rw [htr]
      rintro v w27 ⟨a68, l68, c68, L27, rfl, ob68, hf68, hK27, st27, _⟩
      have hl68 := ob68.len
      have hl0 : l68 = 0 := by simpa using hl68.symm
      subst hl0
      have hkind : (s'.met0.setO 0 (.pipe [] 1 0)).kind 2 = 0 := by
        have hd : (s'.met0.setO 0 (.pipe [] 1 0)).desc 2 = none := hp21.d2
        unfold AK.kind
        rw [if_pos (by rw [AK.find_none 0 hd]; decide)]
      refine ⟨_, _, _, _, rfl, CallR.mono (kind_ok hK27 2) ?_⟩
      rw [hkind]
      rintro v w28 ⟨rfl, hk28⟩
      exact ⟨_, rfl, condTr2 (tnum_to ⟨_, rfl, condTr2 ⟨rfl, (k21.trans st27.kept fun x hx e => by have := hLW21 x e; omega).no hk28⟩⟩)⟩

end Go.Proofs.Ytbiofmgebbdflaa
