
/-
  With any faults what is read, all together, and what is written, is the same as without, in pieces: the walk. Conditions: none.
-/
import Derived.Test.YtkjmlbplmffekaaKaA
import Derived.Test.YtkjmlbplmffekaaKeV
import Derived.Test.YtkjmlbplmffekaaKfB
import Derived.Test.YtkjmlbplmffekaaKfX
import Derived.Test.YtkjmlbplmffekaaLKg
import Derived.Test.YtkjmlbplmffekaaOKernPieces
set_option linter.unusedVariables false
namespace Go.Proofs.Ytkjmlbplmffekaa
open Go.Lw

theorem ps_one {ps : List (Int × Int)} (h : ps ≠ []) : 1 ≤ ps.length := by
  cases ps with
  | nil => exact absurd rfl h
  | cons a r => simp

theorem putAr2' {X done m l : Nat} (h : l = X - done) (h2 : m ≤ l) (hd : done ≤ X) : done + m ≤ X := by omega

set_option maxHeartbeats 4000000 in
theorem walk_kernPieces {W : World} {args : List Value} (h : V4 W args) : CallR Try.prog 4 args W fun v w' => v = .bool true ∧ Kept No W w' := by
  obtain ⟨a1, l1, c1, bs, hbs, _, hl1, a2, l2, c2, xs, hxs, _, hl2, a5, l6, c7, hlc, hz, hl6, hcell, n3, _, rfl⟩ := h
  obtain ⟨ps, hps, hpl⟩ := rdF_of_view hlc hz hcell
  have hbs : RdB W a1 l1 c1 bs := hbs
  have hxs : RdB W a2 l2 c2 xs := hxs
  have hlen := hbs.len
  have hlen2 := hxs.len
  refine C4 ?_
  unfold L4
  refine CallR.mono alive6_ok ?_
  rintro v w1 ⟨rfl, hk1⟩
  refine ⟨_, rfl, condFa2 ?_⟩
  intro w2
  have hb2 : Blk w2 w1.heap.size #[.string nF, .slice a1 l1 c1] := Blk.alloc _ _ _
  have hk2 : Kept No w1 w2 := Kept.alloc _ _ _
  clear_value w2
  have k2 := hk1.no hk2
  have hR : RB w2 (a1, l1, c1) bs := RB.no (s := (a1, l1, c1)) hbs k2
  have hN : RdN RB w2 (some ⟨w1.heap.size, 0, none⟩) 1 1 [(nF, bs)] [(nF, (a1, l1, c1))] := ⟨(SlO.of_blk (sz := 2) (n := 1) hb2 (by simp)).rd, rfl, fun i h1 h2 => by
    have : i = 0 := by simpa using h1
    subst this
    exact ⟨rfl, hR⟩⟩
  have hT : RdN RL w2 none 0 0 ([] : List (ByteArray × List (List Int))) [] := ⟨RdS.nil 2 w2, rfl, fun i h1 h2 => by simp at h1⟩
  refine CallR.mono (kernNew_ok hN hT (hps.keep k2 fun _ _ _ e => e) (by omega) (by omega)) ?_
  rintro v w3 ⟨hk3, ⟨hne, rfl⟩ | ⟨hck, gk, L3, rfl, h3, hL3⟩⟩
  · exact ⟨_, _, rfl, lnum_to ⟨_, rfl, condT (by simpa using hne) ⟨rfl, k2.no hk3⟩⟩⟩
  refine ⟨_, _, rfl, lnum_to ⟨_, rfl, condFa2 (condFa2 ?_)⟩⟩
  have k3 := k2.no hk3
  have hL : ∀ z, L3.own z ≠ none → W.heap.size ≤ z := fun z hz => by have := hL3 z hz; have := k2.size; omega
  have hckk := AK.check_zero hck
  have hfile := hckk.fs _ (List.mem_singleton.2 rfl)
  have hfile : bs.length ≤ 1048576 := hfile.2
  have hpsl : ps.length ≤ 4096 := hckk.pl
  have hop1 := AK.open_one nF (by kernel_rfl) bs ps 1 (by kernel_rfl) (by kernel_rfl) (by kernel_rfl)
  refine CallR.mono (kernOpen_ok h3 nF 1 (by rw [(AK.new_is _ _ _).2.2.2.1]; omega)) ?_
  rintro v w5 ⟨rfl, L5, h5, st5⟩
  rw [hop1] at h5 ⊢
  have hop2 := AK.open_two bs ps
  refine ⟨_, _, rfl, CallR.mono (kernOpen_ok h5 nG 10 (by show (2 : Int) ≤ _; omega)) ?_⟩
  rintro v w6 ⟨rfl, L6, h6, st6⟩
  rw [hop2] at h6 ⊢
  have h6 : KernO w6 gk (AK.twoF bs ps) L6 := h6
  have st6 := st5.trans st6
  obtain ⟨g1, g2, g3⟩ := cutI n3 16 (by omega) (by omega)
  refine ⟨_, _, rfl, lnum_to ⟨_, rfl, lnum_to ⟨_, rfl, ⟨by dsimp only; omega, by dsimp only; omega⟩, condFa2 ⟨by decide, g1, by decide, ⟨by omega, by omega⟩, ?_⟩⟩⟩⟩
  obtain ⟨n, hn⟩ : ∃ n, n = (1 : Int) + Int.tmod (Int.tmod n3 16 + 16) 16 := ⟨_, rfl⟩
  rw [← hn]
  have hn1 : 1 ≤ n := by omega
  have hn2 : n ≤ 16 := by omega
  clear hn g1 g2 g3
  have hpm : ∀ p ∈ (AK.twoF bs ps).ps, mayP p := hckk.pm
  have hpl6 : l6 = ps.length := hpl.symm
  subst hpl6
  -- all of it is read
  obtain ⟨I, hI⟩ : ∃ I : List Value → World → Prop, I = fun vs w' => ∃ (i at_ : Nat) (a : Option Addr) (c : Nat) (s : AK) (L : KL), vs = [.slice a at_ c, .int .i64 (i : Int)] ∧ at_ ≤ bs.length ∧ i ≤ bs.length + ps.length + 1 ∧ (i + s.ps.length ≤ at_ + ps.length ∨ at_ = bs.length) ∧
    OB w' a at_ c (bs.take at_) ∧ (∀ z, inA a z → w3.heap.size ≤ z ∧ L.own z = none) ∧ AK.FD s 1 0 bs 1 (at_ : Int) ∧ AK.FD s 2 1 [] 10 0 ∧ (∀ p ∈ s.ps, mayP p) ∧ s.ps.length ≤ ps.length ∧ s.c0 ≤ (i : Int) ∧ s.c1 = 0 ∧ s.files = [(nF, 0), (nG, 1)] ∧ KernO w' gk s L ∧ KStep w3 w' L3 L := ⟨_, rfl⟩
  obtain ⟨mu, hmu⟩ : ∃ mu : List Value → World → Nat, mu = fun vs _ => match vs with | [_, .int _ i] => bs.length + ps.length + 1 - i.toNat | _ => 0 := ⟨_, rfl⟩
  refine ⟨I, mu, by
    rw [hI]
    exact ⟨0, 0, none, 0, _, L6, rfl, by omega, by omega, .inl (by show 0 + ps.length ≤ 0 + ps.length; omega), OB.nil _, fun z hz => absurd hz (inA_none z), AK.two_r bs ps, AK.two_w bs ps, hpm, Nat.le_refl _, Int.le_refl _, rfl, rfl, h6, st6⟩, ?_⟩
  rintro _ a24 l24 c24 n25 w9 hInv
  rw [hI] at hInv
  obtain ⟨i, at_, a, c, s, L, hvs, hat, hi, hprog, ob9, hap9, hfd, hfw, hpms, hpls, hc0, hc1, hfiles, h9, st9⟩ := hInv
  simp only [List.cons.injEq, Value.slice.injEq, Value.int.injEq, true_and, and_true] at hvs
  obtain ⟨⟨rfl, rfl, rfl⟩, rfl⟩ := hvs
  have k9 : Kept No W w9 := k3.trans st9.kept fun x hx e => by have := hL x e; omega
  refine ⟨⟨by omega, by omega⟩, condP (fun hlt => ?_) (fun hge => ?_)⟩
  · refine CallR.mono (kernRead_ok h9 1 n (by omega)) ?_
    rintro v w10 ⟨a26, l26, c26, L10, rfl, ob26, hf26, h10, st10, hap26⟩
    have hl26 := ob26.len
    obtain ⟨r1, r2⟩ := AK.read_fd hfd (by kernel_rfl) hn1 (by omega)
    have hfw' := AK.FD.read_other hfd (by kernel_rfl) hn1 (by omega) hfw (by omega)
    have hcs := AK.read_cs s 1 n
    have hdp : ∀ p ∈ s.ps.drop 1, mayP p := fun p hq => hpms p (List.mem_of_mem_drop hq)
    have hrl : ((s.read 1 n).1.length : Int) ≤ n := AK.read_len (by omega)
    -- what the read answers
    obtain ⟨m, hm, her, hbits, hfd', hps', hprog'⟩ : ∃ m : Nat, (s.read 1 n).1 = (bs.drop l24).take m ∧ ((s.read 1 n).2.1 = 0 ∨ (s.read 1 n).2.1 = 22 ∨ (s.read 1 n).2.1 = 23) ∧ l24 + (s.read 1 n).1.length ≤ bs.length ∧
        AK.FD (s.read 1 n).2.2 1 0 bs 1 ((l24 + (s.read 1 n).1.length : Nat) : Int) ∧ (∀ p ∈ (s.read 1 n).2.2.ps, mayP p) ∧ (s.read 1 n).2.2.ps.length ≤ s.ps.length ∧ (i + 1 + (s.read 1 n).2.2.ps.length ≤ l24 + (s.read 1 n).1.length + ps.length ∨ l24 + (s.read 1 n).1.length = bs.length) := by
      rcases AK.metF_ok hpms hn1 with ⟨e, g1, g2⟩ | ⟨_, e, hne⟩
      · obtain ⟨q1, q2, q3, q4, q5, q6, q7⟩ := r2 e
        have hp1 : (s.read 1 n).1 = (bs.drop l24).take (metF s.ps n).1.toNat := by rw [q1]; unfold piece; rw [Int.toNat_natCast]
        have hpl1 : (s.read 1 n).1.length = min (metF s.ps n).1.toNat (bs.length - l24) := by rw [hp1, List.length_take, List.length_drop]
        have hpsl1 : (s.read 1 n).2.2.ps.length = s.ps.length - 1 := by rw [q4, List.length_drop]
        refine ⟨_, hp1, .inl q2, by omega, ?_, by rw [q4]; exact hdp, by omega, ?_⟩
        · rw [← q1] at q3
          rw [Int.natCast_add]; exact q3
        · rcases hprog with hp | hp
          · by_cases e2 : l24 = bs.length
            · right; omega
            · left; omega
          · right; omega
      · have hz : (metF s.ps n).2 ≠ 0 := by omega
        have hpsl1 : s.met0.ps.length = s.ps.length - 1 := by show (s.ps.drop 1).length = _; rw [List.length_drop]
        have := ps_one hne
        obtain ⟨hd, hx⟩ := hfd.ex
        rw [r1 hz]
        refine ⟨0, by simp, .inr e, by simpa using hat, ⟨⟨hd, hx⟩, hfd.ob, hfd.a0⟩, hdp, by dsimp only; omega, ?_⟩
        dsimp only
        rcases hprog with hp | hp
        · left; simp only [List.length_nil]; omega
        · right; simpa using hp
    refine ⟨_, _, _, _, rfl, fun vs w' => vs = [] ∧ w' = w10, ?_, ?_⟩
    · have fin : cond (decide ((((l26 : Nat)) : Int) > n)) ((.bool false : Value) = .bool true ∧ Kept No W w10) (([] : List Value) = [] ∧ w10 = w10) := condF (by rw [decide_eq_false]; omega) ⟨rfl, rfl⟩
      refine lnum_to ⟨_, rfl, ?_⟩
      rcases her with e | e | e <;> rw [e]
      · exact condFa2 fin
      · exact condTr2 (lnum_to ⟨_, rfl, condFa2 fin⟩)
      · exact condTr2 (lnum_to ⟨_, rfl, condTr2 (lnum_to ⟨_, rfl, condFa2 fin⟩)⟩)
    · rintro _ w14 ⟨_, rfl⟩
      have ob10 := ob9.keep st10.kept fun z hz e => e (hap9 z hz).2
      have hlt10 := SlO.lt ob9
      obtain ⟨a36, c36, w15, hrun, hs15, hk15, hat15, _⟩ := run_app_sl (P := Try.prog) (t := 36) (t2 := 36) (ty := 36) (by kernel_rfl : slTyB Try.prog 36 1 1 = true) (by kernel_rfl) ob10 ob26.rd (By_one _) (by omega) (by omega)
      have hcat : bs.take l24 ++ (s.read 1 n).1 = bs.take (l24 + (s.read 1 n).1.length) := by
        rw [hm, take_app_drop, List.length_take, List.length_drop]
        by_cases e : m ≤ bs.length - l24
        · rw [Nat.min_eq_left e]
        · rw [List.take_of_length_le (by omega), List.take_of_length_le (by omega)]
      rw [← By_append, hcat] at hs15
      have hz10 := st10.size
      have hap10 : ∀ z, inA a24 z → L10.own z = none := fun z hz => by
        cases ho : L10.own z with
        | none => rfl
        | some t =>
          exfalso
          rcases st10.grew z (by rw [ho]; simp) with e | e
          · exact e (hap9 z hz).2
          · have := hlt10 z hz; omega
      have h15 : KernO w15 gk (s.read 1 n).2.2 L10 := h10.keep hk15 hap10
      have hzk := k9.size
      have hz3 := k3.size
      have hInv' : I [.slice a36 (l24 + l26) c36, .int .i64 ((i : Int) + 1)] w15 := by
        rw [hI]
        refine ⟨i + 1, l24 + l26, a36, c36, _, L10, rfl, by omega, by omega, ?_, ?_, fun z hz => ?_, ?_, hfw', hps', ?_, ?_, ?_, ?_, h15, ?_⟩
        · rw [← hl26]; exact hprog'.2
        · rw [← hl26] at hs15 ⊢; exact hs15
        · rcases hat15.in hz with e | e
          · exact ⟨(hap9 z e).1, hap10 z e⟩
          · exact ⟨by have := st9.size; omega, h10.new_none (by omega)⟩
        · rw [← hl26]; exact hfd'
        · have := hprog'.1; omega
        · have := hcs.2.1; omega
        · rw [hcs.2.2.1]; exact hc1
        · rw [hcs.2.2.2.2.1]; exact hfiles
        · exact (st9.trans st10).priv hk15 fun x hx => (hap9 x hx).1
      refine ⟨a36, _, c36, w15, hrun, ⟨by omega, by omega⟩, hInv', ?_⟩
      rw [hmu]
      show bs.length + ps.length + 1 - ((i : Int) + 1).toNat < bs.length + ps.length + 1 - (i : Int).toNat
      omega
  · -- all of it was read
    have hat2 : l24 = bs.length := by
      rcases hprog with hp | hp
      · omega
      · exact hp
    have hgot : bs.take l24 = bs := List.take_of_length_le (by omega)
    rw [hgot] at ob9
    have hc0' : s.c0 ≤ 1099511627776 := by omega
    clear I mu hI hmu
    refine ⟨fun vs w' => vs = [] ∧ ∃ (s' : AK) (L' : KL), (xs.length ≤ 1048576 → s'.objs 1 = .file xs) ∧ s'.objs 0 = .file bs ∧ s'.files = [(nF, 0), (nG, 1)] ∧ KernO w' gk s' L' ∧ KStep w3 w' L3 L' ∧ OB w' a24 l24 c24 bs, ?_, ?_⟩
    · obtain ⟨I, hI⟩ : ∃ I : List Value → World → Prop, I = fun vs w' => ∃ (done i : Nat) (s' : AK) (L' : KL), vs = [.int .i64 (done : Int), .int .i64 (i : Int)] ∧ done ≤ xs.length ∧ i ≤ xs.length + ps.length + 1 ∧ (i + s'.ps.length ≤ done + ps.length ∨ done = xs.length) ∧
        AK.FD s' 2 1 (xs.take done) 10 (done : Int) ∧ s'.objs 0 = .file bs ∧ (∀ p ∈ s'.ps, mayP p) ∧ s'.ps.length ≤ ps.length ∧ s'.c1 ≤ (i : Int) ∧ s'.files = [(nF, 0), (nG, 1)] ∧ KernO w' gk s' L' ∧ KStep w3 w' L3 L' ∧ OB w' a24 l24 c24 bs ∧ (∀ z, inA a24 z → L'.own z = none) := ⟨_, rfl⟩
      obtain ⟨mu, hmu⟩ : ∃ mu : List Value → World → Nat, mu = fun vs _ => match vs with | [_, .int _ i] => xs.length + ps.length + 1 - i.toNat | _ => 0 := ⟨_, rfl⟩
      refine ⟨I, mu, by
        rw [hI]
        exact ⟨0, 0, s, L, rfl, by omega, by omega, .inl (by omega), hfw, hfd.ob, hpms, hpls, by omega, hfiles, h9, st9, ob9, fun z hz => (hap9 z hz).2⟩, ?_⟩
      rintro _ n40 n41 w16 hInv
      rw [hI] at hInv
      obtain ⟨done, j, s', L', hvs, hdone, hj, hprog', hfd', h0', hpm', hpl', hc1', hfiles', h16, st16, ob16, hap16⟩ := hInv
      simp only [List.cons.injEq, Value.int.injEq, true_and, and_true] at hvs
      obtain ⟨rfl, rfl⟩ := hvs
      have out : (xs.length ≤ 1048576 → done = xs.length) → ([] : List Value) = [] ∧ ∃ (s' : AK) (L' : KL), (xs.length ≤ 1048576 → s'.objs 1 = .file xs) ∧ s'.objs 0 = .file bs ∧ s'.files = [(nF, 0), (nG, 1)] ∧ KernO w16 gk s' L' ∧ KStep w3 w16 L3 L' ∧ OB w16 a24 l24 c24 bs := fun hd =>
        ⟨rfl, s', L', fun hx => by rw [hfd'.ob, List.take_of_length_le (by have := hd hx; omega)], h0', hfiles', h16, st16, ob16⟩
      have k16 : Kept No W w16 := k3.trans st16.kept fun x hx e => by have := hL x e; omega
      refine ⟨⟨by omega, by omega⟩, condP (fun hlt => condP (fun hlt2 => condP (fun hle => ?_) (fun hgt => out fun hx => by omega)) (fun hge => out fun _ => by omega)) (fun hge => out fun _ => by
        rcases hprog' with hp | hp
        · omega
        · exact hp)⟩
      have e1 : Int.toNat (done : Int) = done := by omega
      rw [e1]
      have hrest : RdB w16 (adv a2 done c2 1) (l2 - done) (c2 - done) (xs.drop done) := (hxs.keep k16 fun _ _ _ e => e).from done (by omega)
      have hrl : (xs.drop done).length = xs.length - done := List.length_drop
      have hne : xs.drop done ≠ [] := fun e => by rw [e] at hrl; simp at hrl; omega
      have hown : xs.drop done ≠ [] → ∀ z, inA (adv a2 done c2 1) z → L'.own z = none := fun _ z hz => st16.not_old hL k3.size z (RdS.old hxs (fun e => by rw [By_inj (b := []) e] at hne; simp at hne) z (inA_adv.1 hz))
      refine ⟨⟨by omega, by omega⟩, CallR.mono (kernWrite_ok h16 2 hrest hown (by omega)) ?_⟩
      rintro v w17 ⟨rfl, L17, h17, st17⟩
      obtain ⟨r1, r2⟩ := AK.write_fd hfd' (by kernel_rfl) (by kernel_rfl) hne (by omega) (by omega) hpm'
      have hdp : ∀ p ∈ s'.ps.drop 1, mayP p := fun p hq => hpm' p (List.mem_of_mem_drop hq)
      have hcw := AK.write_cs s' 2 (xs.drop done)
      obtain ⟨m, hm, hmn, her, hfd2, h02, hps2, hpl2, hprog2⟩ : ∃ m : Nat, (s'.write 2 (xs.drop done)).1 = (m : Int) ∧ done + m ≤ xs.length ∧ ((s'.write 2 (xs.drop done)).2.1 = 0 ∨ (s'.write 2 (xs.drop done)).2.1 = 22 ∨ (s'.write 2 (xs.drop done)).2.1 = 23) ∧
          AK.FD (s'.write 2 (xs.drop done)).2.2 2 1 (xs.take (done + m)) 10 (((done + m : Nat)) : Int) ∧ (s'.write 2 (xs.drop done)).2.2.objs 0 = .file bs ∧ (∀ p ∈ (s'.write 2 (xs.drop done)).2.2.ps, mayP p) ∧ (s'.write 2 (xs.drop done)).2.2.ps.length ≤ s'.ps.length ∧ (j + 1 + (s'.write 2 (xs.drop done)).2.2.ps.length ≤ done + m + ps.length) := by
        have hpp : j + s'.ps.length ≤ done + ps.length := by
          rcases hprog' with hp | hp
          · exact hp
          · omega
        rcases AK.metF_ok hpm' (n := ((xs.drop done).length : Int)) (by omega) with ⟨e, _, _⟩ | ⟨_, e, hne2⟩
        · obtain ⟨m, hm, m1, m2, hd2, hdx, hw⟩ := r2 e
          have hfd3 := AK.FD.of_write (s := s') (d := 2) (i := 1) (bs := xs) (bs2 := lay (xs.take done) done ((xs.drop done).take m)) (m := m) hdx
          have hl2 : lay (xs.take done) done ((xs.drop done).take m) = xs.take (done + m) := by
            have e1 : (xs.take done).length = done := by rw [List.length_take]; omega
            have := lay_end0 (xs.take done) ((xs.drop done).take m)
            rw [e1] at this
            rw [this, take_app_drop]
          have hA : done + m ≤ xs.length := putAr2' hrl m2 hdone
          rw [hl2] at hfd3 hw
          rw [hw]
          clear r1 r2 hm
          exact ⟨m, rfl, hA, .inl rfl, hfd3, h0', hdp, by show (s'.ps.drop 1).length ≤ _; rw [List.length_drop]; omega, by show j + 1 + (s'.ps.drop 1).length ≤ _; rw [List.length_drop]; omega⟩
        · have hz : (metF s'.ps ((xs.drop done).length : Int)).2 ≠ 0 := by omega
          rw [r1 hz]
          have := ps_one hne2
          obtain ⟨hd, hx⟩ := hfd'.ex
          clear r1 r2
          exact ⟨0, rfl, hdone, .inr e, ⟨⟨hd, hx⟩, hfd'.ob, hfd'.a0⟩, h0', hdp, by show (s'.ps.drop 1).length ≤ _; rw [List.length_drop]; omega, by show j + 1 + (s'.ps.drop 1).length ≤ _; rw [List.length_drop]; omega⟩
      clear r1 r2
      rw [hm]
      refine ⟨_, _, rfl, fun vs w' => vs = [] ∧ w' = w17, ?_, ?_⟩
      · have fin : cond (decide ((m : Int) < 0)) ((.bool false : Value) = .bool true ∧ Kept No W w17) (inI ((((l2 : Nat)) : Int) - (done : Int)) ∧ cond (decide ((m : Int) > (((l2 : Nat)) : Int) - (done : Int))) ((.bool false : Value) = .bool true ∧ Kept No W w17) (([] : List Value) = [] ∧ w17 = w17)) :=
          condF (by rw [decide_eq_false]; omega) ⟨⟨by omega, by omega⟩, condF (by rw [decide_eq_false]; omega) ⟨rfl, rfl⟩⟩
        refine lnum_to ⟨_, rfl, ?_⟩
        rcases her with e | e | e <;> rw [e]
        · exact condFa2 fin
        · exact condTr2 (lnum_to ⟨_, rfl, condFa2 fin⟩)
        · exact condTr2 (lnum_to ⟨_, rfl, condTr2 (lnum_to ⟨_, rfl, condFa2 fin⟩)⟩)
      · rintro _ w21 ⟨_, rfl⟩
        have hlt16 := SlO.lt ob16
        have hInv' : I [.int .i64 ((done : Int) + (m : Int)), .int .i64 ((j : Int) + 1)] w21 := by
          rw [hI]
          refine ⟨done + m, j + 1, _, L17, by simp, hmn, by omega, .inl hprog2, hfd2, h02, hps2, by omega, by have := hcw.2.2.1; omega, by rw [hcw.2.2.2.2.1]; exact hfiles', h17, st16.trans st17, ob16.keep st17.kept fun z hz e => e (hap16 z hz), fun z hz => ?_⟩
          cases ho : L17.own z with
          | none => rfl
          | some t =>
            exfalso
            rcases st17.grew z (by rw [ho]; simp) with e | e
            · exact e (hap16 z hz)
            · have := hlt16 z hz; omega
        refine ⟨⟨by omega, by omega⟩, ⟨by omega, by omega⟩, hInv', ?_⟩
        rw [hmu]
        show xs.length + ps.length + 1 - ((j : Int) + 1).toNat < xs.length + ps.length + 1 - (j : Int).toNat
        omega
    · rintro _ w22 ⟨_, s', L', hx1, hx0, hfiles', h22, st22, ob22⟩
      have k22 : Kept No W w22 := k3.trans st22.kept fun x hx e => by have := hL x e; omega
      have hbs22 := hbs.keep k22 fun _ _ _ e => e
      refine condP (fun hgt => CallR.mono (same_ok ob22.rd hbs22 (by omega)) ?_) (fun hle => CallR.mono (kernFiles_ok h22) ?_)
      · rintro v w23 ⟨rfl, hk23, _⟩
        exact ⟨_, rfl, by rw [decide_eq_true rfl], k22.no hk23⟩
      · rintro v w24 ⟨a54, l54, c54, es, rfl, hO, hk24⟩
        rw [AK.filesV_two hfiles' hx0 (hx1 (by omega))] at hO
        have hl54 : l54 = 2 := by have := hO.sl.1; rw [Nv_len, hO.len] at this; simp at this; omega
        subst hl54
        have k24 := k22.no hk24
        refine ⟨_, _, _, rfl, CallR.mono (same_ok (ob22.rd.keep hk24 fun _ _ _ e => e) (hbs22.keep hk24 fun _ _ _ e => e) (by omega)) ?_⟩
        rintro v w25 ⟨rfl, hk25, _⟩
        rw [decide_eq_true rfl]
        have hes : es.length = 2 := by rw [hO.len]; rfl
        have he1 : 1 < es.length := by omega
        obtain ⟨q, hq⟩ : ∃ q, a54 = some q := by
          cases ha : a54 with
          | none => have := RdS.isNone hO.sl.rd ha; omega
          | some q => exact ⟨q, rfl⟩
        have hcell2 : w24.cell? ((q.add (1 * 2)).add 1) = some (.slice es[1].2.1 es[1].2.2.1 es[1].2.2.2) := by
          rw [Lw.add_add]
          exact hO.sl.rd.2.2.2 q hq _ _ (Nv_at he1).2
        have hob2 : OB w24 es[1].2.1 es[1].2.2.1 es[1].2.2.2 xs := (hO.each 1 he1 (by simp)).2
        refine ⟨_, rfl, condTr2 (condTr2 ⟨⟨by omega, by omega⟩, nnE2 hq ⟨_, _, _, hk25.cell hcell2 fun e => e, CallR.mono (same_ok (hob2.rd.keep hk25 fun _ _ _ e => e) ((hxs.keep k24 fun _ _ _ e => e).keep hk25 fun _ _ _ e => e) (by have := hob2.len; omega)) ?_⟩⟩)⟩
        rintro v w26 ⟨rfl, hk26, _⟩
        exact ⟨_, rfl, by rw [decide_eq_true rfl], (k24.no hk25).no hk26⟩

end Go.Proofs.Ytkjmlbplmffekaa
