/-
  A read of a kernel's description that is made again and again; all of so many bytes. Conditions: as each says.
  The example of retry's law. Conditions: none.
-/
import Derived.Test.YtkjmlbplmffekaaGreatKeN
import Derived.Test.YtkjmlbplmffekaaGreatKeP
import Derived.Test.YtkjmlbplmffekaaGreatLRt
set_option linter.unusedVariables false
namespace Go.Proofs.YtkjmlbplmffekaaGreat
open Go.Lw

def hv (gk : Nat) (d : Int) : Value := .iface 31 (.agg #[pd gk, .int .i64 d])

theorem hv_nil {w : World} {g : Nat} {d : Int} {x y : Operand} : Sem.run Tryz.prog (Sem.bind (eqGuard .eql 141 x y (hv g d) .nilIface) (fun _ => binOp .eql 141 (hv g d) .nilIface)) w = .ok (.bool false) w := by
  unfold hv
  kernel_rfl

theorem hv_read {w : World} {g : Nat} {d : Int} (args : Array Value) : Sem.run Tryz.prog (callMethod (hv g d) "Read" args) w = .ok (.enter 13 (#[.agg #[pd g, .int .i64 d]] ++ args)) w :=
  call_of (by intro recv w; kernel_rfl) (by kernel_rfl) _ _ _

theorem hread_ok {w : World} {gk : Nat} {s : AK} {L : KL} (h : KernO w gk s L) (d n : Int) (hc : s.c0 ≤ 1152921504606846976) :
    CallR Tryz.prog 13 [.agg #[pd gk, .int .i64 d], .int .i64 n] w fun v w' => ∃ a l c L', v = .tuple #[.slice a l c, .int .i64 (s.read d n).2.1] ∧ OB w' a l c (s.read d n).1 ∧ Fresh w a ∧ KernO w' gk (s.read d n).2.2 L' ∧ KStep w w' L L' ∧ (∀ z, inA a z → L'.own z = none) := by
  refine C13 ?_
  unfold L13
  intro w1
  have hb1 : Blk w1 w.heap.size #[pd gk, .int .i64 d] := Blk.alloc _ _ _
  have hk1 : Kept No w w1 := Kept.alloc _ _ _
  clear_value w1
  have hz := hk1.size
  refine ⟨_, (hb1.cell 0).trans rfl, _, (hb1.cell 1).trans rfl, CallR.mono (kernRead_ok (h.no hk1) d n hc) ?_⟩
  rintro v w2 ⟨a, l, c, L', rfl, ob, hf, h2, st, hap⟩
  exact ⟨a, l, c, _, rfl, a, l, c, L', rfl, ob, fun b hb => by have := hf b hb; omega, h2, st.fresh hk1, hap⟩

theorem pass_to {w : World} {e : Int} {Q : Value → World → Prop} (hq : Q (.bool (decide (e = 22 ∨ e = 23))) w) : CallR Tryz.prog 153 [.int .i64 e] w Q := by
  refine C153 ?_
  unfold L153
  refine condI (fun h => ?_) (fun h => ?_)
  · have h : e = 22 := by simpa using h
    subst h; exact hq
  · have h : ¬ e = 22 := by simpa using h
    have e2 : (e == 23) = decide (e = 22 ∨ e = 23) := by
      by_cases h3 : e = 23
      · subst h3; rfl
      · simp [h, h3]
    rw [e2]; exact hq

theorem out_ok {w : World} {b k : Nat} (h : Blk w b #[.int .i64 (k : Int)]) (hk : k ≤ 8192) : CallR Tryz.prog 154 [pd b] w fun v w' => v = .bool (decide (8192 ≤ k + 1)) ∧ Blk w' b #[.int .i64 ((k + 1 : Nat) : Int)] ∧ Kept (· = b) w w' := by
  refine C154 ?_
  unfold L154
  refine nnI ⟨_, h.at0 rfl, ⟨by omega, by omega⟩, nnI (stC_blk h (by simp) fun w1 hb1 hk1 hs1 => ?_)⟩
  have hb1 : Blk w1 b #[.int .i64 ((k : Int) + 1)] := hb1
  refine nnI ⟨_, hb1.at0 rfl, ?_, hb1, hk1⟩
  congr 1
  exact decide_eq_decide.2 (by omega)

def mu0 (b : Nat) (w : World) : Nat := match w.cell? ⟨b, 0, none⟩ with
  | some (.int _ k) => 8192 - k.toNat
  | _ => 0
theorem mu0_of {w : World} {b k : Nat} (h : Blk w b #[.int .i64 (k : Int)]) : mu0 b w = 8192 - k := by
  unfold mu0
  rw [(h.cell 0).trans rfl]
  simp

theorem rsome_ok {w : World} {gk : Nat} {s : AK} {L : KL} (h : KernO w gk s L) (d n : Int) (hc : s.c0 ≤ 576460752303423488) :
    CallR Tryz.prog 62 [hv gk d, .int .i64 n] w fun v w' => ∃ a l c L', v = .tuple #[.slice a l c, .int .i64 (s.rsome d n).2.1] ∧ OB w' a l c (s.rsome d n).1 ∧ Fresh w a ∧ KernO w' gk (s.rsome d n).2.2 L' ∧ KStep w w' L L' ∧ (∀ z, inA a z → L'.own z = none) := by
  refine C62 ?_
  unfold L62
  have hr : s.rsome d n = if n < 1 ∨ n > 1048576 then ([], 4, s) else AK.someN 8192 s d n := rfl
  have bad : n < 1 ∨ n > 1048576 → ∃ a l c L', (.tuple #[.slice none 0 0, .int .i64 4] : Value) = .tuple #[.slice a l c, .int .i64 (s.rsome d n).2.1] ∧ OB w a l c (s.rsome d n).1 ∧ Fresh w a ∧ KernO w gk (s.rsome d n).2.2 L' ∧ KStep w w L L' ∧ (∀ z, inA a z → L'.own z = none) := by
    intro e
    rw [hr, if_pos e]
    exact ⟨none, 0, 0, L, rfl, OB.nil _, Fresh.none _, h, KStep.refl _ _, fun z hz => absurd hz (inA_none z)⟩
  refine ⟨_, _, hv_nil, condFa2 (condP (fun e => bad (.inl e)) (fun e1 => condP (fun e => bad (.inr e)) (fun e2 => ?_)))⟩
  rw [if_neg (by omega)] at hr
  intro w2
  have hb2 : Blk w2 w.heap.size #[.int .i64 ((0 : Nat) : Int)] := Blk.alloc _ _ _
  have hk2 : Kept No w w2 := Kept.alloc _ _ _
  have hs2 : w2.heap.size = w.heap.size + 1 := by simp [w2]
  clear_value w2
  have h2 := h.no hk2
  refine ⟨fun vs w3 => ∃ (k : Nat) (s' : AK) (L' : KL), vs = [] ∧ k < 8192 ∧ s.rsome d n = AK.someN (8192 - k) s' d n ∧ KernO w3 gk s' L' ∧ KStep w w3 L L' ∧ L'.own w.heap.size = none ∧ Blk w3 w.heap.size #[.int .i64 (k : Int)] ∧ s'.c0 ≤ s.c0 + (k : Int),
    fun _ w' => mu0 w.heap.size w', ⟨0, s, L, rfl, by omega, hr, h2, .of_no hk2, h.new_none (Nat.le_refl _), hb2, by omega⟩, ?_⟩
  rintro _ w3 ⟨k, s', L', _, hk, hrk, h3, st3, hpo, hb3, hck⟩
  refine ⟨_, _, _, hv_read #[.int .i64 n], CallR.mono (hread_ok h3 d n (by omega)) ?_⟩
  rintro v w5 ⟨a, l, c, L5, rfl, ob, hf, h5, st5, hap5⟩
  have st25 := st3.trans st5
  have hb3lt := hb3.lt
  have hb5 : Blk w5 w.heap.size #[.int .i64 (k : Int)] := hb3.keep st5.kept fun e => e hpo
  have hpo5 : L5.own w.heap.size = none := by
    cases ho : L5.own w.heap.size with
    | none => rfl
    | some t =>
      exfalso
      rcases st5.grew w.heap.size (by rw [ho]; simp) with e | e
      · exact e hpo
      · omega
  obtain ⟨k', hk'⟩ : ∃ k', 8192 - k = k' + 1 := ⟨8192 - k - 1, by omega⟩
  rw [hk'] at hrk
  have hrk : s.rsome d n = if (s'.read d n).2.1 = 22 ∨ (s'.read d n).2.1 = 23 then AK.someN k' (s'.read d n).2.2 d n else s'.read d n := hrk
  obtain ⟨_, hc5, _⟩ := AK.read_cs s' d n
  have hz3 := st3.size
  refine ⟨_, _, _, _, rfl, pass_to ⟨_, rfl, condP (fun hp => ?_) (fun hp => ?_)⟩⟩
  · rw [if_pos hp] at hrk
    refine CallR.mono (out_ok hb5 (by omega)) ?_
    rintro v w7 ⟨rfl, hb7, hk7⟩
    have h7 : KernO w7 gk (s'.read d n).2.2 L5 := h5.keep hk7 fun x e => by rw [e]; exact hpo5
    have st7 : KStep w w7 L L5 := st25.own hk7 (Nat.le_refl _)
    refine ⟨_, rfl, condP (fun hge => ?_) (fun hlt => ?_)⟩
    · have : k' = 0 := by omega
      subst this
      rw [hrk]
      exact ⟨none, 0, 0, L5, rfl, OB.nil _, Fresh.none _, h7, st7, fun z hz => absurd hz (inA_none z)⟩
    · refine ⟨⟨k + 1, _, L5, rfl, by omega, by rw [hrk, show 8192 - (k + 1) = k' by omega], h7, st7, hpo5, hb7, by omega⟩, ?_⟩
      show mu0 _ w7 < mu0 _ w3
      rw [mu0_of hb7, mu0_of hb3]
      omega
  · rw [if_neg hp] at hrk
    rw [hrk]
    refine condN (fun hne => ?_) (fun he => ?_)
    · refine ⟨none, 0, 0, L5, rfl, ?_, Fresh.none _, h5, st25, fun z hz => absurd hz (inA_none z)⟩
      rw [AK.read_err hne]; exact OB.nil _
    · have hlen := AK.read_len (s := s') (d := d) (n := n) (by omega)
      have hol := ob.len
      refine condF (by rw [decide_eq_false]; omega) ⟨a, l, c, L5, by rw [he], ob, fun b hb => by have := hf b hb; omega, h5, st25, hap5⟩

def muAll (n : Int) : List Value → World → Nat := fun vs _ => match vs with
  | [.slice _ l _, _, .slice _ l' _] => 2 * (n - (l' : Int)).toNat + (if l = 0 then 0 else 1)
  | _ => 0

theorem rall_ok {w : World} {gk : Nat} {s : AK} {L : KL} (h : KernO w gk s L) (d n : Int) (hc : s.c0 ≤ 288230376151711744) :
    CallR Tryz.prog 64 [hv gk d, .int .i64 n] w fun v w' => ∃ a l c L', v = .tuple #[.slice a l c, .int .i64 (s.rall d n).2.1] ∧ OB w' a l c (s.rall d n).1 ∧ Fresh w a ∧ KernO w' gk (s.rall d n).2.2 L' ∧ KStep w w' L L' ∧ (∀ z, inA a z → L'.own z = none) := by
  refine C64 ?_
  unfold L64
  refine CallR.mono (rsome_ok h d n (by omega)) ?_
  rintro v w1 ⟨a3, l3, c3, L1, rfl, ob3, hf3, h1, st1, _⟩
  refine ⟨_, _, _, _, rfl, ?_⟩
  intro w2
  have hk2 : Kept No w1 w2 := Kept.alloc _ _ _
  have hs0 : SlO 1 w2 (some ⟨w1.heap.size, 0, none⟩) 0 0 (By []) := SlO.of_blk (Blk.alloc w1 #[] _) (by simp)
  have hs2 : w2.heap.size = w1.heap.size + 1 := by simp [w2]
  clear_value w2
  have hl3 := ob3.len
  have hr0 : s.rall d n = if (s.rsome d n).2.1 = 0 ∧ (s.rsome d n).1.length ≠ 0 ∧ (((s.rsome d n).1).length : Int) < n then AK.allN n.toNat (s.rsome d n).2.2 d n (s.rsome d n).1 else ((s.rsome d n).1, (s.rsome d n).2.1, (s.rsome d n).2.2) := by
    show AK.allN (n.toNat + 1) s d n [] = _
    rw [AK.allN_succ]
    simp only [List.length_nil, Int.natCast_zero, Int.sub_zero, List.nil_append, Nat.zero_add]
  have hb3 : (l3 : Int) ≤ 1048576 := by
    by_cases e : (s.rsome d n).2.1 = 0
    · have := AK.rsome_len e; omega
    · rw [AK.rsome_err e] at hl3; simp at hl3; omega
  obtain ⟨a6, c6, w3, hrun, hs3, hk3, hat, _⟩ := run_app_sl (P := Tryz.prog) (t := 32) (t2 := 32) (ty := 32) (by kernel_rfl : slTyB Tryz.prog 32 1 1 = true) (by kernel_rfl) hs0 ((RdB.keep ob3.rd hk2 (fun _ _ _ e => e)) : RdS 1 w2 a3 l3 c3 (By (s.rsome d n).1)) (By_one _) (by omega) (by omega)
  simp only [Nat.zero_add] at hrun hs3
  rw [show By [] ++ By (s.rsome d n).1 = By (s.rsome d n).1 from rfl] at hs3
  refine ⟨_, _, _, w3, hrun, ?_⟩
  have k3 : Kept No w1 w3 := hk2.fresh hk3 fun x e => by rw [inA_some] at e; omega
  have st3 := st1.no k3
  have ha6 : ∀ z, inA a6 z → w1.heap.size ≤ z := fun z hz => by
    rcases hat.in hz with e | e
    · rw [inA_some] at e; omega
    · omega
  obtain ⟨_, hc0, _⟩ := AK.rsome_cs s d n
  have hz1 := st1.size
  refine ⟨fun vs w4 => ∃ (a9 : Option Addr) (l9 c9 : Nat) (e : Int) (a11 : Option Addr) (l11 c11 : Nat) (k : Nat) (s' : AK) (L' : KL) (acc : List Int), vs = [.slice a9 l9 c9, .int .i64 e, .slice a11 l11 c11] ∧ OB w4 a11 l11 c11 acc ∧ KernO w4 gk s' L' ∧ KStep w w4 L L' ∧
      (∀ z, inA a11 z → w.heap.size ≤ z ∧ L'.own z = none) ∧ s.rall d n = (if e = 0 ∧ l9 ≠ 0 ∧ (l11 : Int) < n then AK.allN k s' d n acc else (acc, e, s')) ∧ (e = 0 → 1 ≤ n ∧ n ≤ 1048576 ∧ (l11 : Int) ≤ n) ∧ (l9 ≠ 0 → n ≤ (k : Int) + (l11 : Int)) ∧ (k : Int) ≤ (n.toNat : Int) ∧ s'.c0 ≤ s.c0 + 8192 * ((n.toNat : Int) + 1 - (k : Int)),
    muAll n, ⟨a3, l3, c3, _, a6, l3, c6, n.toNat, _, L1, _, rfl, hs3, h1.no k3, st3, fun z hz => ⟨by have := ha6 z hz; omega, h1.new_none (ha6 z hz)⟩, ?_, ?_, ?_, Int.le_refl _, by omega⟩, ?_⟩
  · rw [hr0, hl3]
  · intro e
    have := AK.rsome_len e
    omega
  · intro _; omega
  rintro _ a9 l9 c9 n10 a11 l11 c11 w4 ⟨_, _, _, e, _, _, _, k, s', L', acc, hvs, ob, h4, st4, hap, hrel, hrng, hkn, hkn2, hc4⟩
  simp only [List.cons.injEq, Value.int.injEq, Value.slice.injEq, true_and, and_true] at hvs
  obtain ⟨⟨rfl, rfl, rfl⟩, rfl, rfl, rfl, rfl⟩ := hvs
  have done : ¬ (n10 = 0 ∧ l9 ≠ 0 ∧ (l11 : Int) < n) → ∃ a l c L', (.tuple #[.slice a11 l11 c11, .int .i64 n10] : Value) = .tuple #[.slice a l c, .int .i64 (s.rall d n).2.1] ∧ OB w4 a l c (s.rall d n).1 ∧ Fresh w a ∧ KernO w4 gk (s.rall d n).2.2 L' ∧ KStep w w4 L L' ∧ (∀ z, inA a z → L'.own z = none) := by
    intro hn
    rw [if_neg hn] at hrel
    rw [hrel]
    exact ⟨a11, l11, c11, L', rfl, ob, fun z hz => (hap z hz).1, h4, st4, fun z hz => (hap z hz).2⟩
  have hla := ob.len
  refine condI (fun h0 => condP (fun hb => condP (fun hlt => ?_) (fun hge => done fun x => by omega)) (fun hb => done fun x => by omega)) (fun h0 => done fun x => by simp at h0; exact h0 x.1)
  have h0 : n10 = 0 := by simpa using h0
  have hl9 : l9 ≠ 0 := by omega
  obtain ⟨hn1, hn2, hn3⟩ := hrng h0
  rw [if_pos ⟨h0, hl9, hlt⟩] at hrel
  have hkk := hkn hl9
  obtain ⟨k', rfl⟩ : ∃ k', k = k' + 1 := ⟨k - 1, by omega⟩
  refine ⟨⟨by omega, by omega⟩, CallR.mono (rsome_ok h4 d _ (by omega)) ?_⟩
  rintro v w5 ⟨a12, l12, c12, L5, rfl, ob12, hf12, h5, st5, _⟩
  have hl12 := ob12.len
  have hz4 : ∀ z, inA a11 z → z < w4.heap.size := SlO.lt ob
  have ob5 : OB w5 a11 l11 c11 acc := ob.keep st5.kept fun z hz e => e (hap z hz).2
  have hap5 : ∀ z, inA a11 z → L5.own z = none := st5.apart fun z hz => ⟨(hap z hz).2, hz4 z hz⟩
  obtain ⟨_, hc5, _⟩ := AK.rsome_cs s' d (n - (l11 : Int))
  have hb12 : (l12 : Int) ≤ n - (l11 : Int) := by
    by_cases e : (s'.rsome d (n - (l11 : Int))).2.1 = 0
    · have := AK.rsome_len e; omega
    · rw [AK.rsome_err e] at hl12; simp at hl12; omega
  obtain ⟨a15, c15, w6, hrun, hs6, hk6, hat6, _⟩ := run_app_sl (P := Tryz.prog) (t := 32) (t2 := 32) (ty := 32) (by kernel_rfl : slTyB Tryz.prog 32 1 1 = true) (by kernel_rfl) (ob5 : SlO 1 w5 a11 l11 c11 (By acc)) (ob12.rd : RdS 1 w5 a12 l12 c12 (By (s'.rsome d (n - (l11 : Int))).1)) (By_one _) (by omega) (by omega)
  rw [← By_append] at hs6
  have hz5 := st5.size
  have hz04 := st4.size
  have k6 : Kept (fun z => inA a11 z) w5 w6 := hk6
  have h6 : KernO w6 gk (s'.rsome d (n - (l11 : Int))).2.2 L5 := h5.keep k6 fun z hz => hap5 z hz
  have st6 : KStep w w6 L L5 := ⟨(st4.trans st5).kept.trans k6 fun x hx e => by have := (hap x e).1; omega, (st4.trans st5).grew⟩
  have hrel' : s.rall d n = if (s'.rsome d (n - (l11 : Int))).2.1 = 0 ∧ l12 ≠ 0 ∧ ((l11 + l12 : Nat) : Int) < n then AK.allN k' (s'.rsome d (n - (l11 : Int))).2.2 d n (acc ++ (s'.rsome d (n - (l11 : Int))).1) else (acc ++ (s'.rsome d (n - (l11 : Int))).1, (s'.rsome d (n - (l11 : Int))).2.1, (s'.rsome d (n - (l11 : Int))).2.2) := by
    rw [hrel]
    show AK.allN (k' + 1) s' d n acc = _
    rw [AK.allN_succ, hla, hl12]
  refine ⟨_, _, _, _, rfl, _, _, _, w6, hrun, ⟨a12, l12, c12, _, a15, l11 + l12, c15, k', _, L5, _, rfl, hs6, h6, st6, fun z hz => ?_, hrel', fun _ => ⟨hn1, hn2, by omega⟩, fun _ => by omega, by omega, by omega⟩, ?_⟩
  · rcases hat6.in hz with e | e
    · exact ⟨(hap z e).1, hap5 z e⟩
    · subst e; exact ⟨by omega, h5.new_none (Nat.le_refl _)⟩
  · show 2 * (n - ((l11 + l12 : Nat) : Int)).toNat + (if l12 = 0 then 0 else 1) < 2 * (n - (l11 : Int)).toNat + (if l9 = 0 then 0 else 1)
    rw [if_neg hl9]
    split <;> omega

end Go.Proofs.YtkjmlbplmffekaaGreat

namespace Go.Proofs.YtkjmlbplmffekaaGreat
open Go.Lw

theorem rnum_to {w : World} {n : Int} {Q : Value → World → Prop} (h : Q (.int .i64 n) w) : CallR Tryz.prog 57 [.int .i64 n] w Q := C57 h

theorem str_is8 {s : ByteArray} {bs : List Int} (h : strOfNums bs = s) : (ByteArray.toList (strOfNums bs) == ByteArray.toList s) = true := by rw [h]; exact beq_self_eq_true _

def ex8 : List (ByteArray × List Int) := [(ByteArray.mk #[97], [104, 101, 108, 108, 111])]
def ps8 : List (Int × Int) := [(1, 1), (2, 0), (3, 0), (1, 2)]

theorem ex8_ck : checkK ex8 [] ps8 = 0 := by kernel_rfl
theorem ex8_open : ((AK.new ex8 [] ps8).open_ (ByteArray.mk #[97]) 1).1 = 1 ∧ ((AK.new ex8 [] ps8).open_ (ByteArray.mk #[97]) 1).2.1 = 0 := ⟨by kernel_rfl, by kernel_rfl⟩
theorem ex8_all : (((AK.new ex8 [] ps8).open_ (ByteArray.mk #[97]) 1).2.2.rall 1 5).1 = [104, 101, 108, 108, 111] ∧ (((AK.new ex8 [] ps8).open_ (ByteArray.mk #[97]) 1).2.2.rall 1 5).2.1 = 0 := ⟨by kernel_rfl, by kernel_rfl⟩
theorem ex8_c : ((AK.new ex8 [] ps8).open_ (ByteArray.mk #[97]) 1).2.2.c0 = 0 := by kernel_rfl

/-- A list of one named thing. -/
theorem rdN_one {α : Type} {R : World → Slc → α → Prop} {w : World} {b : Nat} {nm : ByteArray} {s : Slc} {x : α} (hb : Blk w b #[.string nm, .slice s.1 s.2.1 s.2.2]) (hR : R w s x) : RdN R w (some ⟨b, 0, none⟩) 1 1 [(nm, x)] [(nm, s)] :=
  ⟨(SlO.of_blk (sz := 2) (n := 1) hb (by simp)).rd, rfl, fun i h1 h2 => by
    have : i = 0 := by simpa using h1
    subst this
    exact ⟨rfl, hR⟩⟩
theorem rdN_nil {α : Type} {R : World → Slc → α → Prop} {w : World} : RdN R w none 0 0 ([] : List (ByteArray × α)) [] :=
  ⟨RdS.nil 2 w, rfl, fun i h1 h2 => by simp at h1⟩

theorem alive8_ok {w : World} : CallR Tryz.prog 58 [] w fun v w' => v = .bool true ∧ Kept No w w' := by
  refine C58 ?_
  unfold L58
  intro w1
  obtain ⟨w2, hrun, hrd, hk2, hs2⟩ := run_const (P := Tryz.prog) w (t := 32) (e := 5) (by kernel_rfl) [104, 101, 108, 108, 111]
  refine ⟨_, _, _, w2, hrun, ?_⟩
  intro w3 w4
  have hb3 : Blk w3 w2.heap.size #[.string (ByteArray.mk #[97]), .slice (some ⟨w.heap.size, 0, none⟩) 5 5] := Blk.alloc _ _ _
  have hk3 : Kept No w2 w3 := Kept.alloc _ _ _
  clear_value w3
  have hb4 : Blk w4 w3.heap.size #[.int .i64 1, .int .i64 1, .int .i64 2, .int .i64 0, .int .i64 3, .int .i64 0, .int .i64 1, .int .i64 2] := Blk.alloc _ _ _
  have hk4 : Kept No w3 w4 := Kept.alloc _ _ _
  clear_value w4
  have k4 := (hk2.no hk3).no hk4
  have hR : RB w4 (some ⟨w.heap.size, 0, none⟩, 5, 5) [104, 101, 108, 108, 111] := RB.no (RB.no (s := (some ⟨w.heap.size, 0, none⟩, 5, 5)) hrd hk3) hk4
  have hps : RdS 2 w4 (some ⟨w3.heap.size, 0, none⟩) 4 4 (Fv ps8) := (SlO.of_blk (sz := 2) (n := 4) hb4 (by simp)).rd
  refine CallR.mono (kernNew_ok (rdN_one (R := RB) (hb3.keep hk4 fun e => e) hR) (rdN_nil (R := RL)) hps (by omega) (by omega)) ?_
  rintro v w5 ⟨hk5, ⟨hne, _⟩ | ⟨_, gk, L, rfl, h5, hL⟩⟩
  · exact absurd ex8_ck hne
  refine ⟨_, _, rfl, rnum_to ⟨_, rfl, condFa2 (condFa2 ?_)⟩⟩
  have k5 := k4.no hk5
  refine CallR.mono (kernOpen_ok h5 (ByteArray.mk #[97]) 1 (by rw [(AK.new_is _ _ _).2.2.2.1]; omega)) ?_
  rintro v w7 ⟨rfl, L7, h7, st7⟩
  have h7 : KernO w7 gk ((AK.new ex8 [] ps8).open_ (ByteArray.mk #[97]) 1).2.2 L7 := h7
  have e1 : ((AK.new [(ByteArray.mk #[97], [104, 101, 108, 108, 111])] [] ps8).open_ (ByteArray.mk #[97]) 1).1 = 1 := ex8_open.1
  have e2 : ((AK.new [(ByteArray.mk #[97], [104, 101, 108, 108, 111])] [] ps8).open_ (ByteArray.mk #[97]) 1).2.1 = 0 := ex8_open.2
  rw [e1, e2]
  refine ⟨_, _, rfl, CallR.mono (rall_ok h7 1 5 (by rw [ex8_c]; omega)) ?_⟩
  rintro v w8 ⟨a, l, c, L8, rfl, ob, hf, h8, st8, _⟩
  rw [ex8_all.2]
  rw [ex8_all.1] at ob
  refine ⟨_, _, _, _, rfl, rnum_to ⟨_, rfl, rnum_to ⟨_, rfl, ⟨by omega, by omega⟩, condTr2 ⟨_, w8, run_str w8 (t := 32) (ts := 9) (by kernel_rfl) (by kernel_rfl) ob.rd, ?_, ?_⟩⟩⟩⟩
  · rw [str_is8 (by kernel_rfl)]
  · refine k5.trans (st7.trans st8).kept fun x hx e => ?_
    have := hL x e
    have := k4.size
    omega

end Go.Proofs.YtkjmlbplmffekaaGreat
