/-
  First in, first out: the walk. Conditions: none.
-/
import Derived.Test.YtmpmobhofdefeaaKpD
import Derived.Test.YtmpmobhofdefeaaOKpipeOrder
set_option linter.unusedVariables false
namespace Go.Proofs.Ytmpmobhofdefeaa
open Go.Lw

def ix3 (vs : List Value) : Nat := match vs with
  | [_, _, .int _ n] => n.toNat
  | _ => 0

theorem walk_kpipeOrder {W : World} {args : List Value} (h : V3 W args) : CallR Try.prog 3 args W fun v w' => v = .bool true ∧ Kept No W w' := by
  obtain ⟨a, l, c, hlc, hz, hl, hst, rfl⟩ := h
  refine C3 ?_
  unfold L3
  refine kalive_ok.mono fun v w1 ⟨hv1, hk1⟩ => ⟨_, hv1, condF rfl ?_⟩
  refine (kboth_ok w1).mono fun v w2 ⟨b, hv2, hp2, hk2, hbn⟩ => ⟨_, hv2, condF rfl ?_⟩
  have h02 := hk1.no hk2
  have hbW : W.heap.size ≤ b := Nat.le_trans hk1.size hbn
  refine ⟨fun vs w => ∃ (i : Nat) (a8 : Option Addr) (l8 c8 : Nat) (a9 : Option Addr) (l9 c9 : Nat), vs = [.slice a8 l8 c8, .slice a9 l9 c9, .int .i64 (i : Int)] ∧ i ≤ l ∧ Kept No W w ∧ ∃ bs ins outs, PipeO w b bs 1 1 ∧ OB w a8 l8 c8 ins ∧ OB w a9 l9 c9 outs ∧
      ins = outs ++ bs ∧ l8 ≤ i * 4096 ∧ (∀ x, inA a8 x → W.heap.size ≤ x ∧ x ≠ b ∧ ¬ inA a9 x) ∧ (∀ x, inA a9 x → W.heap.size ≤ x ∧ x ≠ b),
    fun vs _ => l - ix3 vs, ⟨0, none, 0, 0, none, 0, 0, rfl, Nat.zero_le _, h02, [], [], [], hp2, OB.nil _, OB.nil _, rfl, by omega, fun x hx => absurd hx (inA_none x), fun x hx => absurd hx (inA_none x)⟩, ?_⟩
  intro _ a8 l8 c8 a9 l9 c9 n10 w3 hI
  obtain ⟨i, _, _, _, _, _, _, hvs, hi, h03, bs, ins, outs, hp3, hin, hout, hio, hb8, hs8, hs9⟩ := hI
  simp only [List.cons.injEq, Value.int.injEq, Value.slice.injEq, true_and, and_true] at hvs
  obtain ⟨⟨rfl, rfl, rfl⟩, ⟨rfl, rfl, rfl⟩, rfl⟩ := hvs
  have hpl := hp3.len
  have hil8 := hin.len
  have hil9 := hout.len
  have hsum : l8 = l9 + bs.length := by rw [← hil8, hio, List.length_append, hil9]
  have hp3lt := hp3.lt
  have lt8 : ∀ x, inA a8 x → x < w3.heap.size := fun x hx => SlO.lt hin x hx
  have lt9 : ∀ x, inA a9 x → x < w3.heap.size := fun x hx => SlO.lt hout x hx
  have h03s := h03.size
  refine condP (fun hlt => ?_) (fun hge => ?_)
  · have hil : i < l := by omega
    obtain ⟨q, rfl⟩ : ∃ q, a = some q := by
      cases a with
      | none => have := hz rfl; omega
      | some q => exact ⟨q, rfl⟩
    obtain ⟨x1, _, x2, _, x3, a0, l0, c0, ds, hd, _, hl0, c1, c2, c3, c4, _⟩ := hst q rfl i hil
    have hd : RdB W a0 l0 c0 ds := hd
    have hr : (0 ≤ (i : Int) ∧ (i : Int) < ((l : Nat) : Int)) := by omega
    refine ⟨hr, nnI ⟨x1, by rw [Int.toNat_natCast]; exact h03.cell c1 (fun e => e), condI (fun _ => ⟨hr, nnI ⟨x2, by rw [Int.toNat_natCast]; exact h03.cell c2 (fun e => e), ?_⟩⟩) (fun _ => ?_)⟩⟩
    · refine (kread_ok hp3 x2).mono fun v w4 ⟨a15, l15, c15, hv4, ho4, hf4, hp4, hk4⟩ => ⟨_, _, _, _, hv4, ?_⟩
      have hs4 := hk4.size
      obtain ⟨outb, rest, hrd, hrr, hrd2, hrdl⟩ : ∃ o r, (readP x2 bs 1 1).1 = o ∧ (readP x2 bs 1 1).2.2 = r ∧ o ++ r = bs ∧ o.length ≤ 4096 := by
        refine ⟨_, _, rfl, rfl, ?_, ?_⟩ <;> (unfold readP; split <;> try simp) <;> (split <;> try simp) <;> omega
      rw [hrd] at ho4
      rw [hrr] at hp4
      have hol := ho4.len
      have hin4 := hin.keep hk4 (fun x hx e => (hs8 x hx).2.1 e)
      have hout4 := hout.keep hk4 (fun x hx e => (hs9 x hx).2 e)
      have ho4lt : ∀ x, inA a15 x → x < w4.heap.size := fun x hx => SlO.lt ho4 x hx
      obtain ⟨a18, c18, w5, hrun5, hs5, hk5, hat5, hnn5⟩ := run_app_sl (P := Try.prog) (t := 26) (t2 := 26) (ty := 26) (by kernel_rfl : slTyB Try.prog 26 1 1 = true) (by kernel_rfl) hout4 ho4.rd (By_one _) (by omega) (by omega)
      rw [← By_append] at hs5
      have hp5 := hp4.keep hk5 (fun e => (hs9 _ e).2 rfl)
      have hin5 := hin4.keep hk5 (fun x hx => (hs8 x hx).2.2)
      have h05 : Kept No W w5 := (h03.fresh hk4 (by intro x e; omega)).fresh hk5 (fun x hx => (hs9 x hx).1)
      refine ⟨a18, _, c18, w5, hrun5, (kheld_ok hp5).mono fun v w6 ⟨a19, c19, hv6, ho6, hf6, hk6⟩ => ⟨_, _, _, hv6, ?_⟩⟩
      have hp5l := hp5.len
      have hb8' : l8 ≤ (i + 1) * 4096 := Nat.le_trans hb8 (Nat.mul_le_mul_right _ (Nat.le_succ i))
      have hfin : Kept No W w6 := h05.no hk6
      have hp6 : PipeO w6 b rest 1 1 := hp5.keep hk6 (fun e => e)
      have hin6 := hin5.keep hk6 (fun _ _ e => e)
      have hout6 : OB w6 a18 (l9 + l15) c18 (outs ++ outb) := OB.keep hs5 hk6 (fun _ _ e => e)
      have heq : ins = outs ++ outb ++ rest := by rw [hio, List.append_assoc, hrd2]
      refine condF (by simp; omega) ⟨by unfold inI; omega, ?_, by simp only [ix3]; omega⟩
      refine ⟨i + 1, a8, l8, c8, a18, l9 + l15, c18, by simp, by omega, hfin, rest, ins, outs ++ outb, hp6, hin6, hout6, heq, hb8', fun x hx => ⟨(hs8 x hx).1, (hs8 x hx).2.1, fun e => ?_⟩, fun x hx => ?_⟩
      · rcases hat5.in e with e | e
        · exact (hs8 x hx).2.2 e
        · have := lt8 x hx; omega
      · rcases hat5.in hx with e | e
        · exact hs9 x e
        · omega
    · intro w7
      have hk7 : Kept No w3 w7 := Kept.drew _ _
      have hp7 : PipeO w7 b bs 1 1 := hp3
      have hin7 : OB w7 a8 l8 c8 ins := hin
      have hout7 : OB w7 a9 l9 c9 outs := hout
      have hs7 : w7.heap.size = w3.heap.size := rfl
      clear_value w7
      have h07 := h03.no hk7
      refine ⟨hr, nnI ⟨a0, l0, c0, by rw [Int.toNat_natCast]; exact h07.cell c4 (fun e => e), hr, nnI ⟨x2, by rw [Int.toNat_natCast]; exact h07.cell c2 (fun e => e), ?_⟩⟩⟩
      refine (kwrite_ok hp7 (hd.keep h07 (fun _ _ _ e => e)) (fun hne hin => by have := RdS.old hd (by cases ds <;> simp_all [By]) b hin; omega) hd.2.1 x2).mono fun v w8 ⟨hv8, hp8, hk8⟩ => ⟨_, _, hv8, ?_⟩
      obtain ⟨k, hk, hkl, hbs', hroom⟩ : ∃ k : Nat, (writeP ds x2 bs 1 1).1 = (k : Int) ∧ k ≤ ds.length ∧ (writeP ds x2 bs 1 1).2.2 = bs ++ ds.take k ∧ bs.length + k ≤ 4096 := by
        obtain ⟨f1, f2, f3, f4⟩ := writeP_is (ds := ds) (most := x2) (bs := bs) (e0 := 1) (e1 := 1) hpl
        exact ⟨(writeP ds x2 bs 1 1).1.toNat, by omega, by omega, f3, by omega⟩
      rw [hbs'] at hp8
      rw [hk]
      have hdl := hd.len
      have hdc : l0 ≤ c0 := hd.2.1
      have hs8' := hk8.size
      have h08 := h07.fresh hk8 (by intro x e; omega)
      have hin8 := hin7.keep hk8 (fun x hx e => (hs8 x hx).2.1 e)
      have hout8 := hout7.keep hk8 (fun x hx e => (hs9 x hx).2 e)
      have hd8 := (hd.keep h08 (fun _ _ _ e => e)).to k (by omega)
      obtain ⟨a18, c18, w9, hrun9, hs9', hk9, hat9, hnn9⟩ := run_app_sl (P := Try.prog) (t := 26) (t2 := 26) (ty := 26) (by kernel_rfl : slTyB Try.prog 26 1 1 = true) (by kernel_rfl) hin8 hd8 (By_one _) (by omega) (by omega)
      rw [← By_append] at hs9'
      have hp9 := hp8.keep hk9 (fun e => (hs8 _ e).2.1 rfl)
      have hout9 := hout8.keep hk9 (fun x hx e => (hs8 x e).2.2 hx)
      have h09 : Kept No W w9 := h08.fresh hk9 (fun x hx => (hs8 x hx).1)
      refine condF (by simp) ⟨hr, nnI ⟨a0, l0, c0, by rw [Int.toNat_natCast]; exact h08.cell c4 (fun e => e), condF (by simp; omega) ⟨hr, nnI ⟨a0, l0, c0, by rw [Int.toNat_natCast]; exact h08.cell c4 (fun e => e), ⟨by omega, by omega⟩, a18, _, c18, w9, by rw [Int.toNat_natCast]; exact hrun9, (kheld_ok hp9).mono fun v w10 ⟨a19, c19, hv10, ho10, hf10, hk10⟩ => ⟨_, _, _, hv10, ?_⟩⟩⟩⟩⟩
      have hp9l := hp9.len
      have hb8' : l8 + k ≤ (i + 1) * 4096 := Nat.le_trans (Nat.add_le_add hb8 (show k ≤ 4096 by omega)) (Nat.le_of_eq (Nat.succ_mul i 4096).symm)
      refine condF (by simp; simp at hp9l; omega) ⟨by unfold inI; omega, ⟨i + 1, a18, l8 + k, c18, a9, l9, c9, by simp, by omega, h09.no hk10, bs ++ ds.take k, ins ++ ds.take k, outs, hp9.keep hk10 (fun e => e), OB.keep hs9' hk10 (fun _ _ e => e), hout9.keep hk10 (fun _ _ e => e), by rw [hio, List.append_assoc], hb8', fun x hx => ?_, hs9⟩, by simp only [ix3]; omega⟩
      rcases hat9.in hx with e | e
      · exact hs8 x e
      · refine ⟨by omega, by omega, fun e' => ?_⟩
        have := lt9 x e'; omega
  · refine (kheld_ok hp3).mono fun v w11 ⟨a35, c35, hv11, ho11, hf11, hk11⟩ => ⟨_, _, _, hv11, ?_⟩
    have hin11 := hin.keep hk11 (fun _ _ e => e)
    have hout11 := hout.keep hk11 (fun _ _ e => e)
    obtain ⟨a37, c37, w12, hrun12, hs12, hk12, hat12, hnn12⟩ := run_app_sl (P := Try.prog) (t := 26) (t2 := 26) (ty := 26) (by kernel_rfl : slTyB Try.prog 26 1 1 = true) (by kernel_rfl) hout11 ho11.rd (By_one _) (by omega) (by omega)
    rw [← By_append] at hs12
    have hin12 := hin11.keep hk12 (fun x hx => (hs8 x hx).2.2)
    refine ⟨a37, _, c37, w12, hrun12, (same_ok (SlO.rd hs12) hin12.rd (by omega)).mono fun v w13 ⟨hv13, hk13, _⟩ => ⟨_, hv13, ?_, ?_⟩⟩
    · rw [hio]; simp
    · exact ((h03.no hk11).fresh hk12 (fun x hx => (hs9 x hx).1)).no hk13

end Go.Proofs.Ytmpmobhofdefeaa
