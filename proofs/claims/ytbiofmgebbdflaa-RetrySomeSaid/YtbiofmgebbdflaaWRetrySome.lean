/-
  A read that answers tells at least one byte, as long as there is one, and none at the end: the walk. Conditions: none.
-/
import Derived.Test.YtbiofmgebbdflaaRtA
import Derived.Test.YtbiofmgebbdflaaKeV
import Derived.Test.YtbiofmgebbdflaaORetrySome
set_option linter.unusedVariables false
namespace Go.Proofs.Ytbiofmgebbdflaa
open Go.Lw

theorem KStep.no_of {W w0 w1 w : World} {L0 L : KL} (k : Kept No W w0) (st : KStep w0 w L0 L) (hL : ∀ z, L0.own z ≠ none → W.heap.size ≤ z) : Kept No W w :=
  k.trans st.kept fun x hx e => by have := hL x e; omega

set_option maxHeartbeats 1000000 in
theorem walk_retrySome {W : World} {args : List Value} (h : V5 W args) : CallR Try.prog 5 args W fun v w' => v = .bool true ∧ Kept No W w' := by
  obtain ⟨a1, l1, c1, bs, hbs, _, hl1, a5, l6, c7, hlc, hz, hl6, hcell, n3, _, rfl⟩ := h
  obtain ⟨ps, hps, hpl⟩ := rdF_of_view hlc hz hcell
  have hbs : RdB W a1 l1 c1 bs := hbs
  have hlen := hbs.len
  refine C5 ?_
  unfold L5
  refine CallR.mono alive8_ok ?_
  rintro v w1 ⟨rfl, hk1⟩
  refine ⟨_, rfl, condFa2 ?_⟩
  intro w2
  have hb2 : Blk w2 w1.heap.size #[.string (ByteArray.mk #[102]), .slice a1 l1 c1] := Blk.alloc _ _ _
  have hk2 : Kept No w1 w2 := Kept.alloc _ _ _
  clear_value w2
  have k2 := hk1.no hk2
  have hR : RB w2 (a1, l1, c1) bs := RB.no (s := (a1, l1, c1)) hbs k2
  refine CallR.mono (kernNew_ok (rdN_one (R := RB) hb2 hR) (rdN_nil (R := RL)) (hps.keep k2 fun _ _ _ e => e) (by omega) (by omega)) ?_
  rintro v w3 ⟨hk3, ⟨hne, rfl⟩ | ⟨hck, gk, L3, rfl, h3, hL3⟩⟩
  · exact ⟨_, _, rfl, rnum_to ⟨_, rfl, condT (by simpa using hne) ⟨rfl, k2.no hk3⟩⟩⟩
  refine ⟨_, _, rfl, rnum_to ⟨_, rfl, condFa2 (condFa2 ?_)⟩⟩
  have k3 := k2.no hk3
  have hL : ∀ z, L3.own z ≠ none → W.heap.size ≤ z := fun z hz => by have := hL3 z hz; have := k2.size; omega
  have hckk := AK.check_zero hck
  have hfile := hckk.fs _ (List.mem_singleton.2 rfl)
  have hfile : bs.length ≤ 1048576 := hfile.2
  refine CallR.mono (kernOpen_ok h3 (ByteArray.mk #[102]) 1 (by rw [(AK.new_is _ _ _).2.2.2.1]; omega)) ?_
  rintro v w5 ⟨rfl, L5, h5, st5⟩
  rw [AK.open_one (ByteArray.mk #[102]) (by kernel_rfl) bs ps 1 (by kernel_rfl) (by kernel_rfl) (by kernel_rfl)] at h5 ⊢
  have hfd := AK.fd_one (ByteArray.mk #[102]) bs ps 1
  generalize hs5 : (AK.new [(ByteArray.mk #[102], bs)] [] ps).newD 0 1 = s5 at h5 hfd
  have hps5 : s5.ps = ps := by rw [← hs5]; rfl
  have hc5 : s5.c0 = 0 := by rw [← hs5]; rfl
  have hpsl : ps.length ≤ 4096 := hckk.pl
  have hfit : (∀ p ∈ s5.ps, mayP p) ∧ s5.ps.length ≤ 4096 := by rw [hps5]; exact ⟨hckk.pm, hckk.pl⟩
  obtain ⟨g1, g2, g3⟩ := cutI n3 30 (by omega) (by omega)
  refine ⟨_, _, rfl, by decide, g1, by decide, ⟨by omega, by omega⟩, ?_⟩
  obtain ⟨n, hn⟩ : ∃ n, n = (1 : Int) + Int.tmod (Int.tmod n3 30 + 30) 30 := ⟨_, rfl⟩
  rw [← hn]
  have hn1 : 1 ≤ n := by omega
  have hn2 : n ≤ 30 := by omega
  clear hn g1 g2 g3
  refine ⟨fun vs w' => ∃ (at_ : Nat) (s' : AK) (L' : KL), vs = [.int .i64 (at_ : Int)] ∧ at_ ≤ l1 ∧ AK.FD s' 1 0 bs 1 (at_ : Int) ∧ (∀ p ∈ s'.ps, mayP p) ∧ s'.ps.length ≤ 4096 ∧ s'.c0 + (s'.ps.length : Int) ≤ 4096 + (at_ : Int) ∧ KernO w' gk s' L' ∧ KStep w3 w' L3 L',
    fun vs _ => l1 - ix vs, ⟨0, s5, L5, rfl, by omega, hfd, hfit.1, hfit.2, by rw [hc5, hps5]; omega, h5, st5⟩, ?_⟩
  rintro _ n16 w6 ⟨at_, s6, L6, hvs, hat, hfd6, hpm6, hpl6, hc6, h6, st6⟩
  simp only [List.cons.injEq, Value.int.injEq, true_and, and_true] at hvs
  subst hvs
  have k6 : Kept No W w6 := KStep.no_of (w1 := w3) k3 st6 hL
  obtain ⟨m, hm1, hm2, q1, q2, q3, q4, q5, q6, q7, q8⟩ := AK.rsome_fd hfd6 (by kernel_rfl) hn1 (by omega) hpm6 hpl6
  have hpn : (piece bs (at_ : Int) m).length = min m.toNat (l1 - at_) := by unfold piece; rw [List.length_take, List.length_drop, Int.toNat_natCast, hlen]
  have hsome := rsome_ok h6 1 n (by omega)
  rw [q1, q2] at hsome
  refine condP (fun hlt => ?_) (fun hge => ?_)
  · refine CallR.mono hsome ?_
    rintro v w7 ⟨a, l, c, L7, rfl, ob, hf, h7, st7⟩
    have hol := ob.len
    have k7 := KStep.no_of (w1 := w3) k3 (st6.trans st7) hL
    refine ⟨_, _, _, _, rfl, rnum_to ⟨_, rfl, condFa2 (condF (by simp; omega) (condF (by simp; omega) ⟨⟨by omega, by omega⟩, condF (by simp; omega) ⟨⟨by omega, by omega⟩, ⟨by omega, by have := hbs.2.1; omega⟩, ⟨by omega, by omega⟩, ?_⟩⟩))⟩⟩
    have e1 : Int.toNat (at_ : Int) = at_ := by omega
    have e2 : Int.toNat ((at_ : Int) + ((l : Nat) : Int)) = at_ + l := by omega
    rw [e1, e2]
    have hcut : RdB w7 (adv a1 at_ c1 1) (at_ + l - at_) (c1 - at_) ((bs.take (at_ + l)).drop at_) := ((hbs.keep k7 fun _ _ _ e => e).to (at_ + l) (by omega)).from at_ (by omega)
    refine CallR.mono (same_ok ob.rd hcut (by omega)) ?_
    rintro v w9 ⟨rfl, hk9, _⟩
    have heq : piece bs (at_ : Int) m = (bs.take (at_ + l)).drop at_ := by
      unfold piece
      rw [List.drop_take, Int.toNat_natCast, show at_ + l - at_ = l by omega, ← hol, hpn]
      apply List.ext_getElem?
      intro i
      rw [List.getElem?_take, List.getElem?_take]
      by_cases h1 : i < min m.toNat (l1 - at_)
      · rw [if_pos (by omega), if_pos h1]
      · rw [if_neg h1]
        by_cases h2 : i < m.toNat
        · rw [if_pos h2, List.getElem?_eq_none (by rw [List.length_drop, hlen]; omega)]
        · rw [if_neg h2]
    refine ⟨_, rfl, condF (by rw [decide_eq_true heq]; rfl) ⟨⟨by omega, by omega⟩, ⟨at_ + l, _, L7, by simp, by omega, ?_, q4, by omega, by omega, h7.no hk9, (st6.trans st7).no hk9⟩, ?_⟩⟩
    · have := q3
      rw [hol] at this
      rw [Int.natCast_add]; exact this
    · simp only [ix]; omega
  · refine CallR.mono hsome ?_
    rintro v w10 ⟨a, l, c, L7, rfl, ob, hf, h7, st7⟩
    have hol := ob.len
    have k7 := KStep.no_of (w1 := w3) k3 (st6.trans st7) hL
    have : l = 0 := by omega
    subst this
    exact ⟨_, _, _, _, rfl, rnum_to ⟨_, rfl, condTr2 ⟨rfl, k7⟩⟩⟩

end Go.Proofs.Ytbiofmgebbdflaa
