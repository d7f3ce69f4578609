/-
  What is duplicated, and what a fork inherits, is one place: the walk. Conditions: none.
-/
import Derived.Test.YtbiofmgebbdflaaFdA
import Derived.Test.YtbiofmgebbdflaaKeV
import Derived.Test.YtbiofmgebbdflaaLFg
import Derived.Test.YtbiofmgebbdflaaOFdtableShares
set_option linter.unusedVariables false
namespace Go.Proofs.Ytbiofmgebbdflaa
open Go.Lw

theorem tnewN {w : World} : CallR Try.prog 24 [.pointer none] w fun v w' => v = pd w.heap.size ∧ Kept No w w' := by
  refine C24 ?_
  unfold L24
  intro w1
  have hk : Kept No w w1 := Kept.alloc _ _ _
  clear_value w1
  exact ⟨rfl, hk⟩

def g8 (bs : List Int) : AK := AK.new [(ByteArray.mk #[102], bs)] [] []
def g8a (bs : List Int) := tOpen slots0 (g8 bs) (ByteArray.mk #[102]) 1
def g8b (bs : List Int) := tDup (g8a bs).2.2.1 (g8a bs).2.2.2 0
def g8c (bs : List Int) := tDupTo (g8b bs).2.2.1 (g8b bs).2.2.2 0 60
def g8d (bs : List Int) := tFork (g8c bs).2.1 (g8c bs).2.2

theorem g8_is (bs : List Int) : (g8a bs).1 = 0 ∧ (g8b bs).1 = 1 ∧ (g8c bs).1 = 0 ∧ AK.FD (g8d bs).2 1 0 bs 1 0 ∧ (g8d bs).2.ps = [] ∧ (g8d bs).2.c0 = 0 ∧
    tAt (g8c bs).2.1 0 = some (1, false) ∧ tAt (g8c bs).2.1 1 = some (1, false) ∧ tAt (g8d bs).1 60 = some (1, false) ∧ tAt (g8d bs).1 1 = some (1, false) :=
  ⟨by kernel_rfl, by kernel_rfl, by kernel_rfl, ⟨⟨6, by kernel_rfl⟩, by kernel_rfl, by decide⟩, by kernel_rfl, by kernel_rfl, by kernel_rfl, by kernel_rfl, by kernel_rfl, by kernel_rfl⟩

set_option maxHeartbeats 4000000 in
theorem walk_fdtableShares {W : World} {args : List Value} (h : V8 W args) : CallR Try.prog 8 args W fun v w' => v = .bool true ∧ Kept No W w' := by
  obtain ⟨a1, l1, c1, bs, hbs, _, hl1, a2, l2, c2, cs, hcs, _, hl2, rfl⟩ := h
  have hbs : RdB W a1 l1 c1 bs := hbs
  have hcs : RdS 1 W a2 l2 c2 (In cs) := hcs
  have hlen := hbs.len
  have hlenc := In_len hcs
  refine C8 ?_
  unfold L8
  refine CallR.mono alive7_ok ?_
  rintro v w1 ⟨rfl, hk1⟩
  refine ⟨_, rfl, condFa2 ?_⟩
  intro w2
  have hb2 : Blk w2 w1.heap.size #[.string (ByteArray.mk #[102]), .slice a1 l1 c1] := Blk.alloc _ _ _
  have hk2 : Kept No w1 w2 := Kept.alloc _ _ _
  clear_value w2
  have k2 := hk1.no hk2
  have hR : RB w2 (a1, l1, c1) bs := RB.no (s := (a1, l1, c1)) hbs k2
  have hfs : RdN RB w2 (some ⟨w1.heap.size, 0, none⟩) 1 1 [(ByteArray.mk #[102], bs)] [(ByteArray.mk #[102], (a1, l1, c1))] :=
    ⟨(SlO.of_blk (sz := 2) (n := 1) hb2 (by simp)).rd, rfl, fun i h1 h2 => by
      have : i = 0 := by simpa using h1
      subst this
      exact ⟨rfl, hR⟩⟩
  have hnil : RdN RL w2 none 0 0 ([] : List (ByteArray × List (List Int))) [] := ⟨RdS.nil 2 w2, rfl, fun i h1 h2 => by simp at h1⟩
  refine CallR.mono (kernNew_ok hfs hnil (ps := []) (RdS.nil 2 w2) (by omega) (by omega)) ?_
  rintro v w3 ⟨hk3, ⟨hne, rfl⟩ | ⟨hck, gk, L3, rfl, h3, hL3⟩⟩
  · refine ⟨_, _, rfl, CallR.mono tnewN ?_⟩
    rintro v w4 ⟨rfl, hk4⟩
    refine ⟨_, rfl, tnum_to ⟨_, rfl, condT (by simpa using hne) ⟨?_, (k2.no hk3).no hk4⟩⟩⟩
    rw [decide_eq_true]
    refine Decidable.byContradiction fun hn => hne ?_
    rw [AK.ck_one (by kernel_rfl) (by omega)]
    rfl
  have k3 := k2.no hk3
  have hz3 := k3.size
  have hL : ∀ z, L3.own z ≠ none → W.heap.size ≤ z := fun z hz => by have := hL3 z hz; have := k2.size; omega
  have hfile : bs.length ≤ 1048576 := ((AK.check_zero hck).fs _ (List.mem_singleton.2 rfl)).2
  have h3 : KernO w3 gk (g8 bs) L3 := h3
  refine ⟨_, _, rfl, CallR.mono (tnew_okT gk) ?_⟩
  rintro v w4 ⟨rfl, hT4, hk4⟩
  have h4 := h3.no hk4
  have hn4 : L3.own w3.heap.size = none := h3.new_none (Nat.le_refl _)
  refine ⟨_, rfl, tnum_to ⟨_, rfl, condFa2 (condFa2 ?_)⟩⟩
  obtain ⟨e1, e2, e3, fd0, eps, ec0, t0, t1, t2, t3⟩ := g8_is bs
  have hx : (g8 bs).next = 1 := (AK.new_is _ _ _).2.2.2.1
  refine CallR.mono (topen_ok hT4 h4 hn4 (ByteArray.mk #[102]) 1 (by omega)) ?_
  rintro v w6 ⟨rfl, L6, hT6, h6, st6⟩
  have hT6 : TabO w6 _ gk (g8a bs).2.2.1 := hT6
  have h6 : KernO w6 gk (g8a bs).2.2.2 L6 := h6
  have hn6 := st6.own hn4 hT4.lt
  have e1' : (tOpen slots0 (g8 bs) (ByteArray.mk #[102]) 1).1 = 0 := e1
  rw [e1']
  refine ⟨_, _, rfl, CallR.mono (tdup_ok hT6 h6 hn6 0) ?_⟩
  rintro v w7 ⟨rfl, L7, hT7, h7, st7⟩
  have hT7 : TabO w7 _ gk (g8b bs).2.2.1 := hT7
  have h7 : KernO w7 gk (g8b bs).2.2.2 L7 := h7
  have hn7 := st7.own hn6 hT6.lt
  have e2' : (tDup (g8a bs).2.2.1 (g8a bs).2.2.2 0).1 = 1 := e2
  rw [e2']
  refine ⟨_, _, rfl, CallR.mono (tdupto_ok hT7 h7 hn7 0 60) ?_⟩
  rintro v w8 ⟨rfl, L8, hT8, h8, st8⟩
  have hT8 : TabO w8 _ gk (g8c bs).2.1 := hT8
  have h8 : KernO w8 gk (g8c bs).2.2 L8 := h8
  have hn8 := st8.own hn7 hT7.lt
  have e3' : (tDupTo (g8b bs).2.2.1 (g8b bs).2.2.2 0 60).1 = 0 := e3
  rw [e3']
  refine ⟨_, rfl, CallR.mono (tfork_ok hT8 h8 hn8) ?_⟩
  rintro v w9 ⟨tc, L9, rfl, hc, hC9, h9, hnc9, st9⟩
  have hC9 : TabO w9 tc gk (g8d bs).1 := hC9
  have h9 : KernO w9 gk (g8d bs).2 L9 := h9
  have hT9 : TabO w9 w3.heap.size gk (g8c bs).2.1 := hT8.step hn8 st9
  have hn9 : L9.own w3.heap.size = none := st9.own' hn8 hT8.lt
  have st49 : TStep w3.heap.size w4 w9 L3 L9 := (((st6.trans st7).trans st8).trans (.of_k st9))
  have k9 : Kept No W w9 := (k3.no hk4).trans st49.kept fun x hx e => by
    rcases e with e | e
    · have := hL x e; omega
    · omega
  have hL9 : ∀ z, L9.own z ≠ none → W.heap.size ≤ z := fun z hz => by
    rcases st49.grew z hz with e | e
    · exact hL z e
    · have := hk4.size; omega
  clear hR hfs hnil h3 h4 h6 h7 h8 hT4 hT6 hT7 hT8 st6 st7 st8 st9 st49 hk1 hk2 hk3 hb2
  refine ⟨_, rfl, tnum_to ⟨_, rfl, condFa2 (condFa2 ?_)⟩⟩
  generalize htg : w3.heap.size = t at *
  generalize (g8d bs).2 = s9 at h9 fd0 eps ec0
  generalize (g8d bs).1 = slc at hC9 t2 t3
  generalize (g8c bs).2.1 = slt at hT9 t0 t1
  have hz9 := k9.size
  obtain ⟨I, hI⟩ : ∃ I : List Value → World → Prop, I = fun vs w' => ∃ (at_ i : Nat) (a : Option Addr) (c : Nat) (s' : AK) (L' : KL), vs = [.slice a at_ c, .int .i64 (i : Int)] ∧ i ≤ l2 ∧ at_ ≤ l1 ∧ (at_ < l1 → i ≤ at_) ∧ OB w' a at_ c (bs.take at_) ∧ (∀ z, inA a z → w9.heap.size ≤ z ∧ L'.own z = none) ∧
      AK.FD s' 1 0 bs 1 (at_ : Int) ∧ s'.ps = [] ∧ s'.c0 = (i : Int) ∧ KernO w' gk s' L' ∧ TabO w' t gk slt ∧ TabO w' tc gk slc ∧ L'.own t = none ∧ L'.own tc = none ∧ KStep w9 w' L9 L' := ⟨_, rfl⟩
  obtain ⟨mu, hmu⟩ : ∃ mu : List Value → World → Nat, mu = fun vs _ => match vs with | [_, .int _ i] => l2 - i.toNat | _ => 0 := ⟨_, rfl⟩
  refine ⟨I, mu, by rw [hI]; exact ⟨0, 0, none, 0, s9, L9, rfl, by omega, by omega, fun _ => by omega, OB.nil _, fun z hz => absurd hz (inA_none z), fd0, eps, ec0, h9, hT9, hC9, hn9, hnc9, KStep.refl _ _⟩, ?_⟩
  intro _ a26 l26 c26 n27 w11 hInv
  rw [hI] at hInv
  obtain ⟨at_, i, _, _, s', L', hvs, hi, hat, hprog, ob, hap, f1, hps, hc0, h11, hT11, hC11, hnt, hnc, st11⟩ := hInv
  simp only [List.cons.injEq, Value.int.injEq, Value.slice.injEq, true_and, and_true] at hvs
  obtain ⟨⟨rfl, hli, rfl⟩, rfl⟩ := hvs
  obtain rfl : at_ = l26 := hli.symm
  have k11 : Kept No W w11 := k9.trans st11.kept fun x hx e => by have := hL9 x e; omega
  refine condP (fun hlt => ?_) (fun hge => ?_)
  · have hil : i < cs.length := by omega
    obtain ⟨q, haq, hcell⟩ := In_cell (hcs.keep k11 fun _ _ _ e => e) hil
    obtain ⟨g1, g2, g3⟩ := cutI cs[i] 7 (by omega) (by omega)
    refine ⟨⟨by omega, by omega⟩, nnE2 haq ⟨cs[i], by rw [Int.toNat_natCast]; exact hcell, by decide, g1, by decide, ⟨by omega, by omega⟩, by decide, ?_⟩⟩
    obtain ⟨n, hn⟩ : ∃ n, n = (1 : Int) + Int.tmod (Int.tmod cs[i] 7 + 7) 7 := ⟨_, rfl⟩
    rw [← hn]
    have hb1 : 1 ≤ n := by omega
    have hb2 : n ≤ 7 := by omega
    clear hn g1 g2 g3
    have step : ∀ {T : Nat} {sl : List (Int × Bool)} {fd : Int}, TabO w11 T gk sl → tAt sl fd = some (1, false) → CallR Try.prog 45 [pd T, .int .i64 fd, .int .i64 n] w11 fun r w' => ∃ (a : Option Addr) (l c : Nat) (e : Int), r = .tuple #[.slice a l c, .int .i64 e] ∧
        ∃ (a' : Option Addr) (l' c' : Nat) (w'' : World), Sem.run Try.prog (Builtin.append_ #[36, 36] 36 #[.slice a26 at_ c26, .slice a l c]) w' = .ok ((.slice a' l' c' : Value)) w'' ∧ inI ((i : Int) + 1) ∧ I [.slice a' l' c', .int .i64 ((i : Int) + 1)] w'' ∧ mu [.slice a' l' c', .int .i64 ((i : Int) + 1)] w'' < mu [.slice a26 at_ c26, .int .i64 (i : Int)] w11 := by
      intro T sl fd hT hA
      have hrd : tRead sl s' fd n = s'.read 1 n := by unfold tRead; rw [hA]
      refine CallR.mono (tread_okT hT h11 fd n (by omega)) ?_
      rw [hrd]
      rintro v w12 ⟨a31, l31, c31, L12, rfl, ob12, hf12, h12, st12, hap12⟩
      have hmet : (metF s'.ps n) = (n, 0) := by rw [hps]; rfl
      obtain ⟨r1, r2, r3, r4, r5, r6, _⟩ := (AK.read_fd f1 (by kernel_rfl) hb1 (by omega)).2 (by rw [hmet])
      rw [hmet] at r1 r3
      dsimp only at r1 r3
      rw [r1] at ob12
      have hl31 := ob12.len
      have hpn : (piece bs (at_ : Int) n).length = min n.toNat (l1 - at_) := by unfold piece; rw [List.length_take, List.length_drop, Int.toNat_natCast, hlen]
      have ob11 : OB w12 a26 at_ c26 (bs.take at_) := ob.keep st12.kept fun z hz e => e (hap z hz).2
      have hapL : ∀ z, inA a26 z → L12.own z = none := st12.apart fun z hz => ⟨(hap z hz).2, SlO.lt ob z hz⟩
      obtain ⟨a36, c36, w14, hrun, hs14, hk14, hat14, _⟩ := run_app_sl (P := Try.prog) (t := 36) (t2 := 36) (ty := 36) (by kernel_rfl : slTyB Try.prog 36 1 1 = true) (by kernel_rfl) (ob11 : SlO 1 w12 a26 at_ c26 (By (bs.take at_))) (ob12.rd : RdS 1 w12 a31 l31 c31 (By (piece bs (at_ : Int) n))) (By_one _) (by omega) (by omega)
      rw [← By_append] at hs14
      have hcat : bs.take at_ ++ piece bs (at_ : Int) n = bs.take (at_ + l31) := by
        rw [List.take_add]
        refine congrArg (List.take at_ bs ++ ·) ?_
        unfold piece
        rw [Int.toNat_natCast, ← hl31, hpn]
        apply List.ext_getElem?
        intro i
        rw [List.getElem?_take, List.getElem?_take]
        by_cases h1 : i < min n.toNat (l1 - at_)
        · rw [if_pos (by omega), if_pos h1]
        · rw [if_neg h1]
          by_cases h2 : i < n.toNat
          · rw [if_pos h2, List.getElem?_eq_none (by rw [List.length_drop, hlen]; omega)]
          · rw [if_neg h2]
      rw [hcat] at hs14
      have hz12 := st12.size
      have hz11 := st11.size
      have h14 : KernO w14 gk (s'.read 1 n).2.2 L12 := h12.keep hk14 fun z hz => hapL z hz
      have st14 : KStep w9 w14 L9 L12 := (st11.trans st12).priv hk14 fun x e => (hap x e).1
      have htl := hT9.lt
      have hcl := hC9.lt
      refine ⟨_, _, _, _, rfl, _, _, _, w14, hrun, ⟨by omega, by omega⟩, ?_, ?_⟩
      · rw [hI]
        refine ⟨at_ + l31, i + 1, a36, c36, _, L12, rfl, by omega, by omega, fun _ => by omega, hs14, fun z hz => ?_, ?_, by rw [r4, hps]; rfl, by rw [r5, hc0]; omega, h14, (hT11.step hnt st12).keep hk14 (fun e => by have := (hap _ e).1; omega), (hC11.step hnc st12).keep hk14 (fun e => by have := (hap _ e).1; omega), st12.own' hnt hT11.lt, st12.own' hnc hC11.lt, st14⟩
        · rcases hat14.in hz with e | e
          · exact ⟨(hap z e).1, hapL z e⟩
          · subst e; exact ⟨by omega, h12.new_none (Nat.le_refl _)⟩
        · rw [hl31] at r3; rw [Int.natCast_add]; exact r3
      · rw [hmu]
        show l2 - Int.toNat ((i : Int) + 1) < l2 - Int.toNat (i : Int)
        omega
    have hm4 := Int.tmod_nonneg 4 (by omega : (0 : Int) ≤ (i : Int))
    have hm4' := Int.tmod_lt_of_pos (i : Int) (by omega : (0 : Int) < 4)
    refine condI (fun _ => step hT11 t0) (fun n0 => condI (fun _ => step hT11 t1) (fun n1 => condI (fun _ => step hC11 t2) (fun n2 => condI (fun _ => step hC11 t3) (fun n3 => ?_))))
    have n0 : ¬ Int.tmod (i : Int) 4 = 0 := by simpa using n0
    have n1 : ¬ Int.tmod (i : Int) 4 = 1 := by simpa using n1
    have n2 : ¬ Int.tmod (i : Int) 4 = 2 := by simpa using n2
    have n3 : ¬ Int.tmod (i : Int) 4 = 3 := by simpa using n3
    omega
  · have hi2 : i = l2 := by omega
    subst hi2
    refine condT (by rw [decide_eq_true]; omega) ⟨by have := hbs.2.1; omega, ?_⟩
    have hto : RdB w11 a1 (Int.toNat ((at_ : Nat) : Int)) c1 (bs.take (Int.toNat ((at_ : Nat) : Int))) := (hbs.keep k11 fun _ _ _ e => e).to _ (by omega)
    rw [Int.toNat_natCast] at hto ⊢
    refine CallR.mono (same_ok ob.rd hto (by omega)) ?_
    rintro v w15 ⟨rfl, hk15, _⟩
    refine ⟨_, rfl, condT (by simp) (condP (fun _ => ⟨rfl, k11.no hk15⟩) (fun hgt => ⟨?_, k11.no hk15⟩))⟩
    have : at_ = l1 := by
      by_cases e : at_ < l1
      · have := hprog e; omega
      · omega
    rw [this]; simp

end Go.Proofs.Ytbiofmgebbdflaa
