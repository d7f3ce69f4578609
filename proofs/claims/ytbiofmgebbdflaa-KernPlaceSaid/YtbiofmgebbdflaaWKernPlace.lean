/-
  What two holders of one description read, by turns, is the file, once; two descriptions of it read it each for itself, and see what the other one writes at once: the walk. Conditions: none.
-/
import Derived.Test.YtbiofmgebbdflaaKaA
import Derived.Test.YtbiofmgebbdflaaKeT
import Derived.Test.YtbiofmgebbdflaaKeV
import Derived.Test.YtbiofmgebbdflaaLKb
import Derived.Test.YtbiofmgebbdflaaOKernPlace
set_option linter.unusedVariables false
namespace Go.Proofs.Ytbiofmgebbdflaa
open Go.Lw

def kp3 (bs : List Int) : AK := ((((AK.new [(ByteArray.mk #[102], bs)] [] []).newD 0 1).newD 0 3).keep 1).2
theorem kp3_is (bs : List Int) : ((((AK.new [(ByteArray.mk #[102], bs)] [] []).newD 0 1).newD 0 3).keep 1).1 = 0 ∧ AK.FD (kp3 bs) 1 0 bs 1 0 ∧ AK.FD (kp3 bs) 2 0 bs 3 0 ∧ (kp3 bs).ps = [] ∧ (kp3 bs).c0 = 0 ∧ (kp3 bs).c1 = 0 :=
  ⟨by kernel_rfl, ⟨⟨2, by kernel_rfl⟩, by kernel_rfl, by decide⟩, ⟨⟨1, by kernel_rfl⟩, by kernel_rfl, by decide⟩, by kernel_rfl, by kernel_rfl, by kernel_rfl⟩

set_option maxHeartbeats 2000000 in
theorem walk_kernPlace {W : World} {args : List Value} (h : V7 W args) : CallR Try.prog 7 args W fun v w' => v = .bool true ∧ Kept No W w' := by
  obtain ⟨a1, l1, c1, bs, hbs, _, hl1, a2, l2, c2, cs, hcs, _, hl2, a3, l3, c3, xs, hxs, _, hl3, rfl⟩ := h
  have hbs : RdB W a1 l1 c1 bs := hbs
  have hxs : RdB W a3 l3 c3 xs := hxs
  have hcs : RdS 1 W a2 l2 c2 (In cs) := hcs
  have hlen := hbs.len
  have hlenx := hxs.len
  have hlenc : cs.length = l2 := by have := hcs.1; rw [In_length] at this; omega
  refine C7 ?_
  unfold L7
  refine CallR.mono alive6_ok ?_
  rintro v w1 ⟨rfl, hk1⟩
  refine ⟨_, rfl, condFa2 ?_⟩
  intro w2
  have hb2 : Blk w2 w1.heap.size #[.string (ByteArray.mk #[102]), .slice a1 l1 c1] := Blk.alloc _ _ _
  have hk2 : Kept No w1 w2 := Kept.alloc _ _ _
  clear_value w2
  have k2 := hk1.no hk2
  have hR : RB w2 (a1, l1, c1) bs := RB.no (s := (a1, l1, c1)) hbs k2
  refine CallR.mono (kernNew_ok (rdN_one6 (R := RB) hb2 hR) (rdN_nil6 (R := RL)) (ps := []) (RdS.nil 2 w2) (by omega) (by omega)) ?_
  rintro v w3 ⟨hk3, ⟨hne, rfl⟩ | ⟨hck, gk, L3, rfl, h3, hL3⟩⟩
  · refine ⟨_, _, rfl, lnum_to ⟨_, rfl, condT (by simpa using hne) (condTr2 ⟨?_, k2.no hk3⟩)⟩⟩
    rw [decide_eq_true]
    refine Decidable.byContradiction fun hn => hne ?_
    rw [AK.ck_one (by kernel_rfl) (by omega)]
    rfl
  refine ⟨_, _, rfl, lnum_to ⟨_, rfl, condFa2 (condFa2 ?_)⟩⟩
  have k3 := k2.no hk3
  have hz3 := k3.size
  have hL : ∀ z, L3.own z ≠ none → W.heap.size ≤ z := fun z hz => by have := hL3 z hz; have := k2.size; omega
  have hfile : bs.length ≤ 1048576 := ((AK.check_zero hck).fs _ (List.mem_singleton.2 rfl)).2
  obtain ⟨of1, of2⟩ := AK.one_file (ByteArray.mk #[102]) bs []
  have hn1 : namedS (ByteArray.mk #[102]) = true := by kernel_rfl
  refine CallR.mono (kernOpen_ok h3 (ByteArray.mk #[102]) 1 (by rw [(AK.new_is _ _ _).2.2.2.1]; omega)) ?_
  rintro v w5 ⟨rfl, L5, h5, st5⟩
  have o1 : (AK.new [(ByteArray.mk #[102], bs)] [] []).open_ (ByteArray.mk #[102]) 1 = (1, 0, (AK.new [(ByteArray.mk #[102], bs)] [] []).newD 0 1) := AK.open_there hn1 (by kernel_rfl) (by show 0 < 256; omega) of1 of2 (by kernel_rfl) (by kernel_rfl)
  have o2 : ((AK.new [(ByteArray.mk #[102], bs)] [] []).newD 0 1).open_ (ByteArray.mk #[102]) 3 = (2, 0, ((AK.new [(ByteArray.mk #[102], bs)] [] []).newD 0 1).newD 0 3) := AK.open_there hn1 (by kernel_rfl) (by show 1 < 256; omega) of1 of2 (by kernel_rfl) (by kernel_rfl)
  rw [o1] at h5 ⊢
  dsimp only at h5 ⊢
  refine ⟨_, _, rfl, CallR.mono (kernOpen_ok h5 (ByteArray.mk #[102]) 3 (by show (1 : Int) + 1 ≤ _; omega)) ?_⟩
  rintro v w6 ⟨rfl, L6, h6, st6⟩
  rw [o2] at h6 ⊢
  dsimp only at h6 ⊢
  refine ⟨_, _, rfl, lnum_to ⟨_, rfl, lnum_to ⟨_, rfl, ⟨by omega, by omega⟩, CallR.mono (kernKeep_ok h6 1) ?_⟩⟩⟩
  rintro v w9 ⟨rfl, L9, h9, st9⟩
  obtain ⟨e1, fd1, fd2, eps, ec0, ec1⟩ := kp3_is bs
  have e1' : ((((AK.new [(ByteArray.mk #[102], bs)] [] []).newD 0 1).newD 0 3).keep (1 : Int)).1 = 0 := e1
  refine ⟨_, rfl, lnum_to ⟨_, rfl, ?_⟩⟩
  rw [e1']
  refine ⟨⟨by omega, by omega⟩, condFa2 ?_⟩
  have h9 : KernO w9 gk (kp3 bs) L9 := h9
  have st39 := (st5.trans st6).trans st9
  generalize kp3 bs = s9 at h9 fd1 fd2 eps ec0 ec1
  clear hR h3 h5 h6 st5 st6 st9 hk3 hk2 hk1 hb2
  refine ⟨fun vs w' => ∃ (at_ i : Nat) (a c : _) (s' : AK) (L' : KL), vs = [.slice a at_ c, .int .i64 (i : Int)] ∧ i ≤ l2 ∧ at_ ≤ l1 ∧ (at_ < l1 → i ≤ at_) ∧ OB w' a at_ c (bs.take at_) ∧ (∀ z, inA a z → w3.heap.size ≤ z ∧ L'.own z = none) ∧
      AK.FD s' 1 0 bs 1 (at_ : Int) ∧ AK.FD s' 2 0 bs 3 0 ∧ s'.ps = [] ∧ s'.c0 = (i : Int) ∧ s'.c1 = 0 ∧ KernO w' gk s' L' ∧ Kept No W w' ∧ KStep w3 w' L3 L',
    fun vs _ => match vs with | [_, .int _ i] => l2 - i.toNat | _ => 0,
    ⟨0, 0, none, 0, s9, L9, rfl, by omega, by omega, fun _ => by omega, OB.nil _, fun z hz => absurd hz (inA_none z), fd1, fd2, eps, ec0, ec1, h9, st39.no_of k3 hL, st39⟩, ?_⟩
  rintro _ a27 l27 c27 n28 w11 ⟨at_, i, _, _, s', L', hvs, hi, hat, hprog, ob, hap, f1, f2, hps, hc0, hc1, h11, k11, st11⟩
  simp only [List.cons.injEq, Value.int.injEq, Value.slice.injEq, true_and, and_true] at hvs
  obtain ⟨⟨rfl, hli, rfl⟩, rfl⟩ := hvs
  obtain rfl : at_ = l27 := hli.symm
  refine condP (fun hlt => ?_) (fun hge => ?_)
  · have hil : i < cs.length := by omega
    have hc11 := hcs.keep k11 fun _ _ _ e => e
    obtain ⟨q, haq⟩ : ∃ q, a2 = some q := by
      cases ha : a2 with
      | none => have := RdS.isNone hcs ha; omega
      | some q => exact ⟨q, rfl⟩
    have hcell := hc11.2.2.2 q haq i _ (In_get cs i hil)
    obtain ⟨g1, g2, g3⟩ := cutI cs[i] 9 (by omega) (by omega)
    refine ⟨⟨by omega, by omega⟩, nnE2 haq ⟨cs[i], by simpa using hcell, by decide, g1, by decide, ⟨by omega, by omega⟩, ?_⟩⟩
    obtain ⟨n, hn⟩ : ∃ n, n = (1 : Int) + Int.tmod (Int.tmod cs[i] 9 + 9) 9 := ⟨_, rfl⟩
    rw [← hn]
    have hb1 : 1 ≤ n := by omega
    have hb2 : n ≤ 9 := by omega
    clear hn g1 g2 g3
    refine CallR.mono (kernRead_ok h11 1 n (by omega)) ?_
    rintro v w12 ⟨a31, l31, c31, L12, rfl, ob12, hf12, h12, st12, hap12⟩
    have hmet : (metF s'.ps n) = (n, 0) := by rw [hps]; rfl
    obtain ⟨r1, r2, r3, r4, r5, r6, _⟩ := (AK.read_fd f1 (by kernel_rfl) hb1 (by omega)).2 (by rw [hmet])
    have r7 := AK.FD.read_other f1 (by kernel_rfl) hb1 (by omega) f2 (by decide)
    rw [hmet] at r1 r3
    dsimp only at r1 r3
    rw [r2]
    rw [r1] at ob12
    have hl31 := ob12.len
    have hpn : (piece bs (at_ : Int) n).length = min n.toNat (l1 - at_) := by unfold piece; rw [List.length_take, List.length_drop, Int.toNat_natCast, hlen]
    refine ⟨_, _, _, _, rfl, lnum_to ⟨_, rfl, condFa2 ?_⟩⟩
    have ob11 : OB w12 a27 at_ c27 (bs.take at_) := ob.keep st12.kept fun z hz e => e (hap z hz).2
    have hapL : ∀ z, inA a27 z → L12.own z = none := st12.apart fun z hz => ⟨(hap z hz).2, SlO.lt ob z hz⟩
    obtain ⟨a36, c36, w14, hrun, hs14, hk14, hat14, _⟩ := run_app_sl (P := Try.prog) (t := 36) (t2 := 36) (ty := 36) (by kernel_rfl : slTyB Try.prog 36 1 1 = true) (by kernel_rfl) (ob11 : SlO 1 w12 a27 at_ c27 (By (bs.take at_))) (ob12.rd : RdS 1 w12 a31 l31 c31 (By (piece bs (at_ : Int) n))) (By_one _) (by omega) (by omega)
    rw [← By_append] at hs14
    have hcat : bs.take at_ ++ piece bs (at_ : Int) n = bs.take (at_ + l31) := by
      rw [List.take_add]
      refine congrArg (List.take at_ bs ++ ·) ?_
      unfold piece
      rw [Int.toNat_natCast, ← hl31, hpn]
      apply List.ext_getElem?
      intro i
      rw [List.getElem?_take, List.getElem?_take]
      by_cases h1 : i < min n.toNat (l1 - at_)
      · rw [if_pos (by omega), if_pos h1]
      · rw [if_neg h1]
        by_cases h2 : i < n.toNat
        · rw [if_pos h2, List.getElem?_eq_none (by rw [List.length_drop, hlen]; omega)]
        · rw [if_neg h2]
    rw [hcat] at hs14
    have k12 : Kept No W w12 := (st11.trans st12).no_of k3 hL
    have hz12 := st12.size
    have hz11' := st11.size
    have hz11 := k11.size
    have h14 : KernO w14 gk (s'.read 1 n).2.2 L12 := h12.keep hk14 fun z hz => hapL z hz
    have st14 : KStep w3 w14 L3 L12 := (st11.trans st12).priv hk14 fun x e => (hap x e).1
    refine ⟨_, _, _, w14, hrun, ⟨by omega, by omega⟩, ⟨at_ + l31, i + 1, a36, c36, _, L12, rfl, by omega, by omega, fun _ => by omega, hs14, fun z hz => ?_, ?_, r7, by rw [r4, hps]; rfl, by rw [r5, hc0]; omega, by rw [r6, hc1], h14, k12.fresh hk14 fun x e => by have := (hap x e).1; omega, st14⟩, ?_⟩
    · rcases hat14.in hz with e | e
      · exact ⟨(hap z e).1, hapL z e⟩
      · subst e; exact ⟨by omega, h12.new_none (Nat.le_refl _)⟩
    · rw [hl31] at r3; rw [Int.natCast_add]; exact r3
    · show l2 - Int.toNat ((i : Int) + 1) < l2 - Int.toNat (i : Int)
      omega
  · have hi2 : i = l2 := by omega
    subst hi2
    refine condF (by simp; omega) ⟨by have := hbs.2.1; omega, ?_⟩
    have hto : RdB w11 a1 (Int.toNat ((at_ : Nat) : Int)) c1 (bs.take (Int.toNat ((at_ : Nat) : Int))) := (hbs.keep k11 fun _ _ _ e => e).to _ (by omega)
    rw [Int.toNat_natCast] at hto ⊢
    refine CallR.mono (same_ok ob.rd hto (by omega)) ?_
    rintro v w15 ⟨rfl, hk15, _⟩
    refine ⟨_, rfl, condF (by simp) ?_⟩
    have h15 := h11.no hk15
    have k15 := k11.no hk15
    have st15 := st11.no hk15
    refine (fun tail => condP (fun _ => condP (fun _ => absurd (hprog (by omega)) (by omega)) (fun _ => tail)) (fun _ => tail)) ?_
    have hold := st15.not_old hL hz3
    refine CallR.mono (kernWrite_ok h15 2 (hxs.keep k15 fun _ _ _ e => e) (fun hne k hk => hold k (RdS.old hxs (by intro e; apply hne; exact By_inj (b := []) e) k hk)) (by omega)) ?_
    rintro v w16 ⟨rfl, L16, h16, st16⟩
    have k16 := (st15.trans st16).no_of k3 hL
    refine ⟨_, _, rfl, condI (fun h0 => ⟨?_, k16⟩) (fun h0 => condP (fun hbig => ⟨?_, k16⟩) (fun hsm => ?_))⟩
    · rw [AK.write_zero (.inl (by have : l3 = 0 := (by simpa using h0); omega))]; rfl
    · rw [AK.write_zero (.inr (by omega))]; rfl
    have h0 : ¬ l3 = 0 := by simpa using h0
    have hne : xs ≠ [] := fun e => by rw [e] at hlenx; simp at hlenx; omega
    have hmet : metF s'.ps (xs.length : Int) = ((xs.length : Int), 0) := by rw [hps]; rfl
    obtain ⟨m, hm, hm1, hm2, hd, hx, hw⟩ := (AK.write_fd (at_ := 0) f2 (by kernel_rfl) (by kernel_rfl) hne (by omega) (by omega) (by rw [hps]; simp)).2 (by rw [hmet])
    rw [hmet] at hm
    have hm : m = xs.length := by dsimp only at hm; omega
    subst hm
    rw [List.take_length] at hw
    have g1 := f1.write_other (bs2 := lay bs 0 xs) (at2 := ((0 : Nat) : Int) + (xs.length : Int)) (hd := hd) (by decide : (1 : Int) ≠ 2)
    rw [hw] at h16 ⊢
    dsimp only at h16 ⊢
    have hps2 : ((s'.met1.setO 0 (.file (lay bs 0 xs))).setD 2 (((0 : Nat) : Int) + (xs.length : Int)) hd).ps = [] := by show s'.ps.drop 1 = []; rw [hps]; rfl
    have hcc : ((s'.met1.setO 0 (.file (lay bs 0 xs))).setD 2 (((0 : Nat) : Int) + (xs.length : Int)) hd).c0 = (i : Int) := hc0
    generalize (s'.met1.setO 0 (.file (lay bs 0 xs))).setD 2 (((0 : Nat) : Int) + (xs.length : Int)) hd = s16 at h16 g1 hps2 hcc
    refine CallR.mono (kernSeek_ok h16 1 0 0) ?_
    rintro v w17 ⟨rfl, L17, h17, st17⟩
    obtain ⟨hd2, hsk, g2⟩ := AK.seek_fd g1 (off := 0) (by omega) (by omega)
    rw [hsk] at h17 ⊢
    dsimp only at h17 ⊢
    refine ⟨_, _, rfl, CallR.mono (kernRead_ok h17 1 ((l3 : Nat) : Int) (by show s16.c0 ≤ _; omega)) ?_⟩
    rintro v w18 ⟨a45, l45, c45, L18, rfl, ob18, _, h18, st18, _⟩
    have hmet2 : metF (s16.setD 1 0 hd2).ps ((l3 : Nat) : Int) = (((l3 : Nat) : Int), 0) := by rw [show (s16.setD 1 0 hd2).ps = [] from hps2]; rfl
    obtain ⟨r1, r2, _⟩ := (AK.read_fd g2 (by kernel_rfl) (by omega : 1 ≤ ((l3 : Nat) : Int)) (by omega)).2 (by rw [hmet2])
    rw [r2]
    rw [r1, hmet2] at ob18
    have hpc : piece (lay bs 0 xs) 0 ((l3 : Nat) : Int) = xs := by
      have := lay_piece bs 0 xs
      unfold piece
      rw [Int.toNat_natCast, ← hlenx]
      exact this
    dsimp only at ob18
    rw [hpc] at ob18
    have k18 := (((st15.trans st16).trans st17).trans st18).no_of k3 hL
    refine ⟨_, _, _, _, rfl, lnum_to ⟨_, rfl, lnum_to ⟨_, rfl, ⟨by omega, by omega⟩, lnum_to ⟨_, rfl, ⟨by omega, by omega⟩, condTr2 (condT (by simp; omega) (condTr2 ?_))⟩⟩⟩⟩
    refine CallR.mono (same_ok ob18.rd (hxs.keep k18 fun _ _ _ e => e) (by have := ob18.len; omega)) ?_
    rintro v w22 ⟨rfl, hk22, _⟩
    exact ⟨_, rfl, by rw [decide_eq_true rfl], k18.no hk22⟩

end Go.Proofs.Ytbiofmgebbdflaa
