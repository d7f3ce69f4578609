
/-
  Whatever the faults are: all that is asked for is read, and all that is given is written, as without them: the walk. Conditions: none.
-/
import Derived.Test.YtkjmlbplmffekaaRtA
import Derived.Test.YtkjmlbplmffekaaKeV
import Derived.Test.YtkjmlbplmffekaaKfB
import Derived.Test.YtkjmlbplmffekaaKfX
import Derived.Test.YtkjmlbplmffekaaLRw
import Derived.Test.YtkjmlbplmffekaaORetryWhole
set_option linter.unusedVariables false
namespace Go.Proofs.Ytkjmlbplmffekaa
open Go.Lw

theorem rput_nil {w : World} {gk : Nat} {d : Int} {a : Option Addr} {c : Nat} : CallR Try.prog 26 [hv gk d, .slice a 0 c] w fun v w' => v = .tuple #[.int .i64 0, .int .i64 0] ∧ Kept No w w' := by
  refine C26 ?_
  unfold L26
  refine ⟨_, _, hv_nil, condFa2 (condF (by simp) ?_)⟩
  intro w2
  have hk2 : Kept No w w2 := Kept.alloc _ _ _
  clear_value w2
  refine ⟨fun vs w3 => vs = [.slice a 0 c] ∧ w3 = w2, fun _ _ => 0, ⟨rfl, rfl⟩, ?_⟩
  rintro _ a6 l6 c6 w3 ⟨hvs, rfl⟩
  simp only [List.cons.injEq, Value.slice.injEq, and_true] at hvs
  obtain ⟨rfl, rfl, rfl⟩ := hvs
  exact condF (by simp) ⟨rfl, hk2⟩

theorem rput_ok' {w : World} {gk : Nat} {s : AK} {L : KL} (h : KernO w gk s L) (d : Int) {a : Option Addr} {l c : Nat} {bs : List Int} (hb : RdB w a l c bs) (hold : bs ≠ [] → ∀ z, inA a z → L.own z = none) (hc : s.c1 ≤ 576460752303423488) :
    CallR Try.prog 26 [hv gk d, .slice a l c] w fun v w' => v = .tuple #[.int .i64 (s.rput d bs).1, .int .i64 (s.rput d bs).2.1] ∧ ∃ L', KernO w' gk (s.rput d bs).2.2 L' ∧ KStep w w' L L' := by
  by_cases hbe : bs = []
  · subst hbe
    obtain rfl : 0 = l := hb.len
    refine CallR.mono rput_nil ?_
    rintro v w' ⟨rfl, hk⟩
    exact ⟨rfl, L, h.no hk, .of_no hk⟩
  · exact rput_ok h d hb (fun z _ hz => hold hbe z hz) hc

set_option maxHeartbeats 1000000 in
theorem walk_retryWhole {W : World} {args : List Value} (h : V6 W args) : CallR Try.prog 6 args W fun v w' => v = .bool true ∧ Kept No W w' := by
  obtain ⟨a1, l1, c1, bs, hbs, _, hl1, a2, l2, c2, xs, hxs, _, hl2, a5, l6, c7, hlc, hz, hl6, hcell, n3, _, rfl⟩ := h
  obtain ⟨ps, hps, hpl⟩ := rdF_of_view hlc hz hcell
  have hbs : RdB W a1 l1 c1 bs := hbs
  have hxs : RdB W a2 l2 c2 xs := hxs
  have hlen := hbs.len
  have hlen2 := hxs.len
  refine C6 ?_
  unfold L6
  refine CallR.mono alive8_ok ?_
  rintro v w1 ⟨rfl, hk1⟩
  refine ⟨_, rfl, condFa2 ?_⟩
  intro w2
  have hb2 : Blk w2 w1.heap.size #[.string nF, .slice a1 l1 c1] := Blk.alloc _ _ _
  have hk2 : Kept No w1 w2 := Kept.alloc _ _ _
  clear_value w2
  have k2 := hk1.no hk2
  have hR : RB w2 (a1, l1, c1) bs := RB.no (s := (a1, l1, c1)) hbs k2
  refine CallR.mono (kernNew_ok (rdN_one (R := RB) hb2 hR) (rdN_nil (R := RL)) (hps.keep k2 fun _ _ _ e => e) (by omega) (by omega)) ?_
  rintro v w3 ⟨hk3, ⟨hne, rfl⟩ | ⟨hck, gk, L3, rfl, h3, hL3⟩⟩
  · exact ⟨_, _, rfl, rnum_to ⟨_, rfl, condT (by simpa using hne) ⟨rfl, k2.no hk3⟩⟩⟩
  refine ⟨_, _, rfl, rnum_to ⟨_, rfl, condFa2 (condFa2 ?_)⟩⟩
  have k3 := k2.no hk3
  have hL : ∀ z, L3.own z ≠ none → W.heap.size ≤ z := fun z hz => by have := hL3 z hz; have := k2.size; omega
  have hckk := AK.check_zero hck
  have hfile := hckk.fs _ (List.mem_singleton.2 rfl)
  have hfile : bs.length ≤ 1048576 := hfile.2
  have hop1 := AK.open_one nF (by kernel_rfl) bs ps 1 (by kernel_rfl) (by kernel_rfl) (by kernel_rfl)
  refine CallR.mono (kernOpen_ok h3 nF 1 (by rw [(AK.new_is _ _ _).2.2.2.1]; omega)) ?_
  rintro v w5 ⟨rfl, L5, h5, st5⟩
  rw [hop1] at h5 ⊢
  have hop2 := AK.open_two bs ps
  refine ⟨_, _, rfl, CallR.mono (kernOpen_ok h5 nG 10 (by show (2 : Int) ≤ _; omega)) ?_⟩
  rintro v w6 ⟨rfl, L6, h6, st6⟩
  rw [hop2] at h6 ⊢
  have h6 : KernO w6 gk (AK.twoF bs ps) L6 := h6
  have st6 := st5.trans st6
  refine ⟨_, _, rfl, rnum_to ⟨_, rfl, rnum_to ⟨_, rfl, ⟨by dsimp only; omega, by dsimp only; omega⟩, condFa2 (condP (fun e => ?_) fun hx => ?_)⟩⟩⟩
  · have k6 : Kept No W w6 := k3.trans st6.kept fun x hx e => by have := hL x e; omega
    exact ⟨by rw [decide_eq_true e], k6⟩
  have hxl : xs.length ≤ 1048576 := by omega
  obtain ⟨g1, g2, g3⟩ := cutI n3 300 (by omega) (by omega)
  refine ⟨by decide, g1, by decide, ⟨by omega, by omega⟩, ?_⟩
  obtain ⟨n, hn⟩ : ∃ n, n = (1 : Int) + Int.tmod (Int.tmod n3 300 + 300) 300 := ⟨_, rfl⟩
  rw [← hn]
  have hn1 : 1 ≤ n := by omega
  have hn2 : n ≤ 300 := by omega
  clear hn g1 g2 g3
  have hpm : ∀ p ∈ (AK.twoF bs ps).ps, mayP p := hckk.pm
  have hpl2 : (AK.twoF bs ps).ps.length ≤ 4096 := hckk.pl
  obtain ⟨r1, r2, r3, r4, r5⟩ := AK.rall_fd (AK.two_r bs ps) (by kernel_rfl) hn1 (by omega) hpm hpl2
  refine CallR.mono (rall_ok h6 1 n (by show (0 : Int) ≤ _; omega)) ?_
  rintro v w9 ⟨a22, l22, c22, L9, rfl, ob9, hf9, h9, st9, hap9⟩
  rw [r1] at ob9
  rw [r2]
  have hw9 : AK.FD ((AK.twoF bs ps).rall 1 n).2.2 2 1 [] 10 0 := (AK.two_w bs ps).fr r3 (by omega)
  have hfiles := r3.files
  have hobjs := r3.objs
  have hc1 : ((AK.twoF bs ps).rall 1 n).2.2.c1 = 0 := r3.c1
  generalize ((AK.twoF bs ps).rall 1 n).2.2 = s9 at h9 hw9 hfiles hobjs r4 r5 hc1
  have st39 := st6.trans st9
  have k9 : Kept No W w9 := k3.trans st39.kept fun x hx e => by have := hL x e; omega
  obtain ⟨s10, p1, p2, p3, p4, p5⟩ := AK.rput_fd hw9 (by kernel_rfl) (by kernel_rfl) hxl r4 (by omega)
  refine ⟨_, _, _, _, rfl, CallR.mono (rput_ok' h9 2 (hxs.keep k9 fun _ _ _ e => e) (fun hne z hin => st39.not_old hL k3.size z (RdS.old hxs (fun e => hne (By_inj (b := []) e)) z hin)) (by rw [hc1]; omega)) ?_⟩
  rintro v w10 ⟨rfl, L10, h10, st10⟩
  rw [p1] at h10 ⊢
  have st310 := st39.trans st10
  have k10 : Kept No W w10 := k3.trans st310.kept fun x hx e => by have := hL x e; omega
  refine ⟨_, _, rfl, CallR.mono (kernFiles_ok h10) ?_⟩
  rintro v w11 ⟨a28, l28, c28, es, rfl, hO, hk11⟩
  have hfv : s10.filesV = [(nF, bs), (nG, xs)] := AK.filesV_two (by rw [p4, hfiles]; rfl) (by rw [p3 0 (by omega), hobjs]; rfl) p2
  rw [hfv] at hO
  have k11 := k10.no hk11
  have hl28 : l28 = 2 := by have := hO.sl.1; rw [Nv_len, hO.len] at this; simp at this; omega
  subst hl28
  have hmn : mn n (((l1 : Nat)) : Int) = ((min n.toNat l1 : Nat) : Int) := by unfold mn; omega
  rw [hmn]
  have hmt : Int.toNat ((min n.toNat l1 : Nat) : Int) = min n.toNat l1 := by omega
  have hlc1 := hbs.2.1
  refine ⟨_, _, _, rfl, rnum_to ⟨_, rfl, rnum_to ⟨_, rfl, ⟨by dsimp only; omega, by dsimp only; omega⟩, condTr2 ⟨⟨by omega, by omega⟩, ?_⟩⟩⟩⟩
  rw [hmt]
  have hcut : RdB w11 a1 (min n.toNat l1) c1 (bs.take (min n.toNat l1)) := (hbs.keep k11 fun _ _ _ e => e).to (min n.toNat l1) (by omega)
  have hap : ∀ z, inA a22 z → w9.heap.size ≤ z ∨ z < w9.heap.size := fun z _ => by omega
  have ob11 : RdB w11 a22 l22 c22 (bs.take n.toNat) := ((ob9.keep st10.kept fun z hz e => e (hap9 z hz)).keep hk11 fun _ _ e => e).rd
  have hol := ob9.len
  refine CallR.mono (same_ok ob11 hcut (by rw [List.length_take] at hol; omega)) ?_
  rintro v w14 ⟨rfl, hk14, _⟩
  have heq : bs.take n.toNat = bs.take (min n.toNat l1) := by
    rw [← hlen]
    by_cases e : n.toNat ≤ bs.length
    · rw [Nat.min_eq_left e]
    · rw [List.take_of_length_le (by omega), List.take_of_length_le (by omega)]
  rw [decide_eq_true heq]
  have hes : es.length = 2 := by rw [hO.len]; rfl
  have he1 : 1 < es.length := by omega
  obtain ⟨q, hq⟩ : ∃ q, a28 = some q := by
    cases ha : a28 with
    | none => have := RdS.isNone hO.sl.rd ha; omega
    | some q => exact ⟨q, rfl⟩
  have hcell2 : w11.cell? ((q.add (1 * 2)).add 1) = some (.slice es[1].2.1 es[1].2.2.1 es[1].2.2.2) := by
    rw [Lw.add_add]
    exact hO.sl.rd.2.2.2 q hq _ _ (Nv_at he1).2
  have hob2 := (hO.each 1 he1 (by simp)).2
  have hob2 : OB w11 es[1].2.1 es[1].2.2.1 es[1].2.2.2 xs := hob2
  refine ⟨_, rfl, condTr2 (condT (by simp [hlen2]) (condTr2 ⟨⟨by omega, by omega⟩, nnE2 hq ⟨_, _, _, hk14.cell hcell2 fun e => e, CallR.mono (same_ok (hob2.rd.keep hk14 fun _ _ _ e => e) ((hxs.keep k11 fun _ _ _ e => e).keep hk14 fun _ _ _ e => e) (by have := hob2.len; omega)) ?_⟩⟩))⟩
  rintro v w15 ⟨rfl, hk15, _⟩
  exact ⟨_, rfl, by rw [decide_eq_true rfl], (k11.no hk14).no hk15⟩

end Go.Proofs.Ytkjmlbplmffekaa
