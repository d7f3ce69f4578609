/-
  A file read in pieces: the walk. Conditions: none.
-/
import Derived.Test.YtapnpbfbebdjjaaFileC
import Derived.Test.YtapnpbfbebdjjaaOFilePieces
namespace Go.Proofs.Ytapnpbfbebdjjaa
open Go.Lw

theorem walk_filePieces {W : World} {args : List Value} (h : V4 W args) : CallR Try.prog 4 args W fun v w' => v = .bool true ∧ Kept No W w' := by
  obtain ⟨a, l, c, bs, hrd, _, hl, n, _, rfl⟩ := h
  have hrd : RdB W a l c bs := hrd
  have hlen := hrd.len
  refine C4 ?_
  unfold L4
  refine alive_ok.mono fun v w1 ⟨hv, hk1⟩ => ⟨_, hv, condF rfl ?_⟩
  refine (new_ok (hrd.keep hk1 (fun _ _ _ e => e)) (by omega)).mono fun v w2 h => ?_
  rcases h with ⟨hbig, rfl, hw⟩ | ⟨hsm, b, F, rfl, hf, hk2, hF⟩
  · refine ⟨_, _, rfl, num_to ⟨_, rfl, condT rfl (condT rfl ⟨?_, by rw [hw]; exact hk1⟩)⟩⟩
    have : (l : Int) > 1048576 := by omega
    simp [this]
  refine ⟨_, _, rfl, num_to ⟨_, rfl, condF rfl (condF rfl ?_)⟩⟩
  have ht1 := Int.tmod_lt_of_pos (Int.tmod n 5000 + 5000) (show (0 : Int) < 5000 by decide)
  have ht0 := Int.tmod_lt_of_pos n (show (0 : Int) < 5000 by decide)
  have ht2 : -5000 < Int.tmod n 5000 := by
    have := Int.lt_tmod_of_pos n (show (0 : Int) < 5000 by decide)
    omega
  have ht3 : 0 ≤ Int.tmod (Int.tmod n 5000 + 5000) 5000 := Int.tmod_nonneg _ (by omega)
  refine ⟨by decide, by unfold inI; omega, by decide, by unfold inI; omega, ?_⟩
  generalize hN : (1 : Int) + Int.tmod (Int.tmod n 5000 + 5000) 5000 = N
  have hN1 : 1 ≤ N := by omega
  have hN2 : N ≤ 5000 := by omega
  clear hN ht0 ht1 ht2 ht3
  have hk02 := hk1.no hk2
  have hF0 : ∀ k, F k → W.heap.size ≤ k := fun k hk => Nat.le_trans hk1.size (hF k hk)
  refine ⟨fun vs w => Kept No W w ∧ FileO F w b bs ∧ ∃ (a' : Option Addr) (l' c' : Nat) (at_ : Nat), vs = [.slice a' l' c', .int .i64 (at_ : Int)] ∧ at_ ≤ 2000000 ∧ OB w a' l' c' (bs.take at_) ∧ (∀ k, inA a' k → W.heap.size ≤ k ∧ ¬ F k),
    fun vs _ => match vs with | [_, .int _ i] => (2000000 - i).toNat | _ => 0, ⟨hk02, hf, none, 0, 0, 0, rfl, by omega, by simpa using OB.nil w2, fun k hk => absurd hk (inA_none k)⟩, ?_⟩
  intro _ a' l' c' n13 w4 hI
  obtain ⟨hk4, hf4, a'', l'', c'', i, hvs, hi, ho, hap⟩ := hI
  simp only [List.cons.injEq, Value.slice.injEq, Value.int.injEq, true_and, and_true] at hvs
  obtain ⟨⟨rfl, rfl, rfl⟩, rfl⟩ := hvs
  refine condP (fun hle => ?_) (fun hgt => ?_)
  · refine (readAt_ok hf4 i N).mono fun v w5 ⟨a5, c5, cs, e5, hv5, ho5, hfr5, hk5, hyes, _⟩ => ⟨a5, _, c5, e5, hv5, ?_⟩
    obtain ⟨rfl, rfl⟩ := hyes (by simp [okN]; omega) (by simp [okN]; omega)
    refine num_to ⟨_, rfl, condF rfl ⟨by unfold inI; omega, ?_⟩⟩
    have hpl : (piece bs i N).length = min N.toNat (l - i) := by simp [piece, hlen]
    refine condI (fun hne => ?_) (fun _ => ?_)
    · exfalso
      simp only [mn_eq, bne_iff_ne, ne_eq] at hne
      exact hne (by rw [hpl]; omega)
    · have hl' := ho.len
      have hil : min i bs.length = l' := by rw [← hl', List.length_take]
      have ho4 := ho.keep hk5 (fun _ _ e => e)
      obtain ⟨a6, c6, w6, hrun, hs, hk6, hat, _⟩ := run_app_sl (P := Try.prog) (t := 22) (t2 := 22) (ty := 22) (by kernel_rfl : slTyB Try.prog 22 1 1 = true) (by kernel_rfl) ho4 ho5.rd (By_one _) (by omega) (by omega)
      have hk46 : Kept No W w6 := (hk4.no hk5).fresh hk6 (fun x hx => (hap x hx).1)
      have hf6 : FileO F w6 b bs := (hf4.keep hk5 (fun _ _ e => e)).keep hk6 (fun k hk hin => (hap k hin).2 hk)
      have hnew : bs.take i ++ piece bs i N = bs.take (i + N.toNat) := by rw [List.take_add]; rfl
      have hcast : ((i : Int) + N) = ((i + N.toNat : Nat) : Int) := by omega
      rw [hcast]
      refine ⟨_, _, _, w6, hrun, by unfold inI; omega, ⟨hk46, hf6, a6, _, c6, i + N.toNat, rfl, by omega, ?_, fun k hk => ?_⟩, ?_⟩
      · rw [← hnew]; unfold OB; rw [By_append]; exact hs
      · rcases hat.in hk with h | rfl
        · exact hap k h
        · exact ⟨(hk4.no hk5).size, fun hFk => by have := hf4.lt _ hFk; have := hk5.size; omega⟩
      · show (2000000 - ((i + N.toNat : Nat) : Int)).toNat < (2000000 - (i : Int)).toNat
        omega
  · have hall : bs.take i = bs := List.take_of_length_le (by omega)
    rw [hall] at ho
    refine (same_ok ho.rd (hrd.keep hk4 (fun _ _ _ e => e)) (by have := ho.len; omega)).mono fun v w8 ⟨hv, hk8, _⟩ => ⟨_, hv, condT (by simp) ?_⟩
    refine (size_ok (hf4.keep hk8 (fun _ _ e => e))).mono fun v w9 ⟨hv, hw⟩ => ⟨_, hv, ?_, by rw [hw]; exact hk4.no hk8⟩
    rw [hlen]; simp

end Go.Proofs.Ytapnpbfbebdjjaa
