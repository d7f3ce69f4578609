/-
  A small write is taken whole or not at all: the walk. Conditions: none.
-/
import Derived.Test.YtmpmobhofdefeaaKpC
import Derived.Test.YtmpmobhofdefeaaOKpipeWhole
set_option linter.unusedVariables false
namespace Go.Proofs.Ytmpmobhofdefeaa
open Go.Lw

theorem fill_is {f : Nat} (hf : f ≤ 4096) (h0 : 0 < f) {zs : List Int} (hz : zs.length = f) : writeP zs 1048576 [] 1 1 = ((f : Int), 0, zs) := by
  have e1 : takesP 0 f = f := by unfold takesP; rw [if_neg (by omega)]; omega
  have e2 : wtk f 1048576 0 = f := by unfold wtk; rw [e1]; split <;> omega
  rw [writeP_eq (by omega) (by decide) (by decide) (by decide) (by omega), hz, List.length_nil, e1, e2, if_neg (by omega), List.nil_append, List.take_of_length_le (by omega)]

theorem small_is {ds bs : List Int} {most : Int} (hm : 1 ≤ most ∧ most ≤ 1048576) (hd : ds.length ≤ 512) (hb : bs.length ≤ 4096) :
    writeP ds most bs 1 1 = if ds.length + bs.length > 4096 then (0, 52, bs) else ((ds.length : Int), 0, bs ++ ds) := by
  by_cases h0 : ds = []
  · subst h0
    rw [if_neg (by simp; omega)]
    unfold writeP; rw [if_neg (by decide), if_neg (by omega), if_neg (by decide), if_neg (by decide), if_pos rfl]; simp
  · have hl : 0 < ds.length := List.length_pos_iff.mpr h0
    rw [writeP_eq (by omega) hm (by decide) (by decide) hl]
    by_cases hr : ds.length + bs.length > 4096
    · have e1 : takesP bs.length ds.length = 0 := by unfold takesP; rw [if_pos (by omega)]
      rw [if_pos e1, if_pos hr]
    · have e1 : takesP bs.length ds.length = ds.length := by unfold takesP; rw [if_neg (by omega)]; omega
      have e2 : wtk ds.length most bs.length = ds.length := by unfold wtk; rw [if_neg (by omega), e1]
      rw [e1, e2, if_neg (by omega), if_neg hr, Int.toNat_natCast, List.take_length]

theorem walk_kpipeWhole {W : World} {args : List Value} (h : V4 W args) : CallR Try.prog 4 args W fun v w' => v = .bool true ∧ Kept No W w' := by
  obtain ⟨n1, hn1, a, l, c, ds, hx, _, hl, n3, hn3, rfl⟩ := h
  have hx : RdB W a l c ds := hx
  have hlc : l ≤ c := hx.2.1
  have hlen := hx.len
  refine C4 ?_
  unfold L4
  have ht := Int.tmod_lt_of_pos n1 (show (0 : Int) < 4097 by decide)
  have ht2 := Int.lt_tmod_of_pos n1 (show (0 : Int) < 4097 by decide)
  obtain ⟨f, hf, hf'⟩ : ∃ f : Nat, Int.tmod (Int.tmod n1 4097 + 4097) 4097 = (f : Int) ∧ f ≤ 4096 := by
    refine ⟨(Int.tmod (Int.tmod n1 4097 + 4097) 4097).toNat, ?_, ?_⟩ <;> rw [Int.tmod_eq_emod_of_nonneg (by omega)] <;> omega
  rw [hf]
  refine kalive_ok.mono fun v w1 ⟨hv1, hk1⟩ => ⟨_, hv1, condF rfl ?_⟩
  refine (kboth_ok w1).mono fun v w2 ⟨b, hv2, hp2, hk2, hbn⟩ => ⟨_, hv2, condF rfl ?_⟩
  have h02 := hk1.no hk2
  have hbW : W.heap.size ≤ b := Nat.le_trans hk1.size hbn
  have fr : ∀ {x}, x = b → W.heap.size ≤ x := by intro x e; omega
  refine ⟨by decide, by unfold inI; omega, by decide, fun vs w6 => vs = [] ∧ ∃ bs, PipeO w6 b bs 1 1 ∧ bs.length = f ∧ Kept No W w6, ?_, ?_⟩
  · refine condP (fun g => mk_zeros (k := f) (by omega) fun w3 zs hz ho3 hk3 => ?_) (fun g => ⟨rfl, [], hp2, by simp; omega, h02⟩)
    have hzl : zs.length = f := by rw [hz]; exact List.length_replicate
    refine (kwrite_ok (hp2.keep hk3 (fun e => e)) ho3.rd (fun _ e => by rw [inA_some] at e; have := hp2.lt; omega) (Nat.le_refl _) 1048576).mono fun v w4 ⟨hv4, hp4, hk4⟩ => ⟨_, _, hv4, ?_⟩
    have e := fill_is hf' (by omega) hzl
    rw [e] at hp4
    rw [e]
    exact knum_to ⟨_, rfl, condF rfl (condF (by simp) ⟨rfl, zs, hp4, hzl, (h02.no hk3).fresh hk4 fun x e => fr e⟩)⟩
  · rintro _ w6 ⟨_, bs, hp6, hbl, h06⟩
    refine condP (fun _ => ⟨rfl, h06⟩) (fun g1 => condP (fun _ => ⟨rfl, h06⟩) (fun g2 => condP (fun _ => ⟨rfl, h06⟩) (fun g3 => ?_)))
    refine (kwrite_ok hp6 (hx.keep h06 (fun _ _ _ e => e)) (fun hne hin => by have := RdS.old hx (by cases ds <;> simp_all [By]) b hin; omega) hlc n3).mono fun v w7 ⟨hv7, hp7, hk7⟩ => ⟨_, _, hv7, ?_⟩
    have h07 := h06.fresh hk7 fun x e => fr e
    have e := small_is (ds := ds) (bs := bs) (most := n3) (by omega) (by omega) (by omega)
    by_cases hr : ds.length + bs.length > 4096
    · rw [if_pos hr] at e
      rw [e] at hp7
      rw [e]
      refine knum_to ⟨_, rfl, condT rfl (condT rfl ⟨by unfold inI; omega, condT (by simp; omega) ((kheld_ok hp7).mono fun v w9 ⟨a9, c9, hv9, _, _, hk9⟩ => ⟨_, _, _, hv9, ?_, h07.no hk9⟩)⟩)⟩
      show Value.bool ((bs.length : Int) == f) = _
      rw [hbl]; simp
    · rw [if_neg hr] at e
      rw [e] at hp7
      rw [e]
      refine knum_to ⟨_, rfl, condF rfl (knum_to ⟨_, rfl, condT rfl (condT (by simp; omega) ((kheld_ok hp7).mono fun v w9 ⟨a9, c9, hv9, _, _, hk9⟩ => ⟨_, _, _, hv9, by unfold inI; show _ ≤ (f : Int) + (ds.length : Int) ∧ (f : Int) + (ds.length : Int) ≤ _; omega, ?_, h07.no hk9⟩))⟩)⟩
      show Value.bool ((((bs ++ ds).length : Nat) : Int) == (f : Int) + (ds.length : Int)) = _
      rw [List.length_append, hbl]; simp

end Go.Proofs.Ytmpmobhofdefeaa
