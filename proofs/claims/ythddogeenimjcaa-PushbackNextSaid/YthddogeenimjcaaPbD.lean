/-
  What is held, by the page and by the program; bytes put back by the program. Conditions: as each says.
-/
import Derived.Test.YthddogeenimjcaaPbC
import Derived.Test.YthddogeenimjcaaPbR
set_option linter.unusedVariables false
namespace Go.Proofs.Ythddogeenimjcaa
open Go.Lw

theorem rheld {w : World} {p : Pu} {s : Sl3} (h : Rd3 w s p) (hbd : Bd p) :
    CallR Try.prog 13 [.agg (cs p s)] w fun v w' => ∃ a' l' c', v = .tuple #[.slice a' l' c', .int .i64 (heldP p).2] ∧ OB w' a' l' c' (heldP p).1 ∧ Fresh w a' ∧ Kept No w w' := by
  refine C13 ?_
  unfold L13
  intro w1
  have hb1 : Blk w1 w.heap.size (cs p s) := Blk.alloc _ _ _
  have hk1 : Kept No w w1 := Kept.alloc _ _ _
  clear_value w1
  refine ld11 hb1 (CallR.mono (beg_ok (h.no hk1) hbd) ?_)
  rintro v w2 ⟨rfl, hk2⟩
  have hb2 := hb1.keep hk2 (fun e => e)
  have hk02 := hk1.no hk2
  refine ⟨_, rfl, condN (fun he => ?_) (fun he => ?_)⟩
  · refine ⟨none, 0, 0, ?_, ?_, Fresh.none w, hk02⟩
    · unfold heldP; rw [if_pos he]
    · unfold heldP; rw [if_pos he]; exact OB.nil _
  have hres : heldP p = (p.k.reverse ++ p.i, 0) := by unfold heldP; rw [if_neg (fun h => h he)]
  obtain ⟨hk8, hi8⟩ := ck8 (begP_ck he)
  rw [hres]
  have hkl : p.k.length = s.kl := h.2.2.len
  have hil : p.i.length = s.il := h.2.1.len
  obtain ⟨hB1, hB2, hB3⟩ := hbd
  refine ⟨_, _, _, (hb2.cell 6).trans rfl, ⟨by omega, by omega⟩, ?_⟩
  refine ⟨fun vs w' => ∃ (j : Nat) (a : Option Addr) (l c : Nat), vs = [.slice a l c, .int .i64 ((s.kl : Int) - 1 - j)] ∧ j ≤ s.kl ∧ OB w' a l c (p.k.reverse.take j) ∧ Fresh w2 a ∧ Kept No w2 w' ∧ Blk w' w.heap.size (cs p s),
    fun vs _ => match vs with | [_, .int _ n] => (n + 1).toNat | _ => 0, ⟨0, none, 0, 0, by simp, by omega, OB.nil _, Fresh.none _, Kept.refl _ _, hb2⟩, ?_⟩
  intro _ a l c n w3 hI
  obtain ⟨j, a', l', c', hvs, hj, hoa, hfa, hk23, hb3⟩ := hI
  have hk3 : Kept No w w3 := hk02.no hk23
  simp only [List.cons.injEq, Value.int.injEq, Value.slice.injEq, true_and, and_true] at hvs
  obtain ⟨⟨rfl, rfl, rfl⟩, rfl⟩ := hvs
  have hjl : (p.k.reverse.take j).length = j := by rw [List.length_take, List.length_reverse]; omega
  have hll : l = j := by have := hoa.len; omega
  have hlt2 := hb2.lt
  have hz02 : w.heap.size ≤ w2.heap.size := hk02.size
  refine condP (fun hlt => ?_) (fun hge => ?_)
  · have hj' : j < s.kl := by omega
    have hjb : s.kl - 1 - j < p.k.length := by omega
    obtain ⟨q, haq, hg⟩ := ((h.no hk3).2.2).get hjb
    have etn : Int.toNat ((s.kl : Int) - 1 - j) = s.kl - 1 - j := by omega
    refine ⟨_, _, _, (hb3.cell 6).trans rfl, ⟨by omega, by omega⟩, ?_⟩
    rw [haq]
    refine nnI ⟨p.k[s.kl - 1 - j], by rw [etn]; exact hg, ?_⟩
    intro w4
    have hk4 : Kept No w3 w4 := Kept.alloc _ _ _
    have hone : RdB w4 (some ⟨w3.heap.size, 0, none⟩) 1 1 [p.k[s.kl - 1 - j]] := OB1
    clear_value w4
    obtain ⟨a5, c5, w5, hrun, hs, hk5, hat, hnn⟩ := run_app_sl (P := Try.prog) (t := 22) (t2 := 22) (ty := 22) (by kernel_rfl : slTyB Try.prog 22 1 1 = true) (by kernel_rfl) (hoa.keep hk4 fun _ _ e => e) hone (By_one _) (by omega) (by omega)
    rw [← By_append] at hs
    have hks : p.k.reverse.take j ++ [p.k[s.kl - 1 - j]] = p.k.reverse.take (j + 1) := by
      rw [rev_take (by omega : j < p.k.length)]
      simp only [hkl]
    rw [hks] at hs
    have hz3 : w2.heap.size ≤ w4.heap.size := (hk23.no hk4).size
    refine ⟨a5, _, c5, w5, hrun, ⟨by omega, by omega⟩, ⟨j + 1, a5, l + 1, c5, by simp; omega, by omega, hs, ?_, ?_, ?_⟩, ?_⟩
    · intro b hb
      rcases hat.in hb with h | h
      · exact hfa b h
      · omega
    · exact (hk23.no hk4).fresh hk5 (fun x e => by have := hfa x e; omega)
    · exact (hb3.keep hk4 (fun e => e)).keep hk5 (fun e => by have := hfa _ e; omega)
    · show ((s.kl : Int) - 1 - j - 1 + 1).toNat < ((s.kl : Int) - 1 - j + 1).toNat
      omega
  · have hjj : j = s.kl := by omega
    have htk : p.k.reverse.take j = p.k.reverse := List.take_of_length_le (by rw [List.length_reverse]; omega)
    rw [htk] at hoa
    refine ⟨_, _, _, (hb3.cell 5).trans rfl, ?_⟩
    obtain ⟨a5, c5, w5, hrun, hs, hk5, hat, hnn⟩ := run_app_sl (P := Try.prog) (t := 22) (t2 := 22) (ty := 22) (by kernel_rfl : slTyB Try.prog 22 1 1 = true) (by kernel_rfl) hoa ((h.no hk3).2.1) (By_one _) (by omega) (by omega)
    rw [← By_append] at hs
    exact ⟨a5, _, c5, w5, hrun, a5, _, c5, rfl, hs, hat.fresh (Fresh.base hfa hz02) hk3.size, hk3.fresh hk5 (fun x e => by have := hfa x e; omega)⟩

/-- Turned about in place. -/
theorem reverse_ok {w : World} {a : Option Addr} {l c : Nat} {bs : List Int} (h : OB w a l c bs) (hl : l ≤ 140737488355328) :
    CallR Try.prog 26 [.slice a l c] w fun v w' => v = .tuple #[] ∧ OB w' a l c bs.reverse ∧ Kept (inA a) w w' := by
  refine C26 ?_
  unfold L26
  have hlen := h.len
  refine ⟨⟨by omega, by omega⟩, ?_⟩
  refine ⟨fun vs w' => ∃ (i : Nat) (xs : List Int), vs = [.int .i64 (i : Int), .int .i64 ((l : Int) - 1 - i)] ∧ i ≤ l ∧ OB w' a l c xs ∧ Kept (inA a) w w' ∧ (∀ k, k < l → xs.getD k 0 = if k < i ∨ l - i ≤ k then bs.getD (l - 1 - k) 0 else bs.getD k 0) ∧ 2 * i ≤ l + 1,
    fun vs _ => match vs with | [.int _ i, .int _ j] => (j + 1 - i).toNat | _ => 0, ⟨0, bs, by simp, by omega, h, Kept.refl _ _, fun k hk => by rw [if_neg (by omega)], by omega⟩, ?_⟩
  intro _ n4 n5 w1 hI
  obtain ⟨i, xs, hvs, hi, ho, hk, hx, h2i⟩ := hI
  simp only [List.cons.injEq, Value.int.injEq, true_and, and_true] at hvs
  obtain ⟨rfl, rfl⟩ := hvs
  have hxl := ho.len
  have etn : Int.toNat ((l : Int) - 1 - i) = l - 1 - i := by omega
  refine condP (fun hlt => ?_) (fun hge => ?_)
  · intro w2
    have ho2 : OB w2 a l c xs := SlO.drew ho
    have hk2 : Kept (inA a) w w2 := hk.no (Kept.drew _ _)
    clear_value w2
    have hi' : i < xs.length := by omega
    have hj' : l - 1 - i < xs.length := by omega
    obtain ⟨q, haq, hg1⟩ := ho2.rd.get hj'
    obtain ⟨q', haq', hg2⟩ := ho2.rd.get hi'
    subst haq
    simp only [Option.some.injEq] at haq'
    subst haq'
    refine ⟨⟨by omega, by omega⟩, nnI ⟨_, by rw [etn]; exact hg1, ⟨by omega, by omega⟩, nnI ⟨_, by simpa using hg2, ⟨by omega, by omega⟩, nnI ?_⟩⟩⟩
    refine stC_slo (j := i) ho2 rfl (by omega) fun w3 ho3 hk3 hsz3 => ?_
    rw [By_set] at ho3
    refine ⟨⟨by omega, by omega⟩, nnI ?_⟩
    rw [etn]
    refine stC_slo (j := l - 1 - i) ho3 rfl (by omega) fun w4 ho4 hk4 hsz4 => ?_
    rw [By_set] at ho4
    refine ⟨⟨by omega, by omega⟩, ⟨by omega, by omega⟩, ⟨i + 1, _, by simp; omega, by omega, ho4, (hk2.trans hk3 fun _ _ e => e).trans hk4 fun _ _ e => e, ?_, by omega⟩, ?_⟩
    · intro k hkl
      have hxk := hx k hkl
      have hxi := hx i (by omega)
      have hxj := hx (l - 1 - i) (by omega)
      rw [if_neg (by omega)] at hxi
      rw [if_neg (by omega)] at hxj
      have g1 : xs[l - 1 - i] = xs.getD (l - 1 - i) 0 := by simp [List.getD, hj']
      have g2 : xs[i] = xs.getD i 0 := by simp [List.getD, hi']
      rw [g1, g2, hxi, hxj]
      simp only [List.getD_eq_getElem?_getD, List.getElem?_set] at hxk ⊢
      simp only [List.length_set]
      by_cases e1 : l - 1 - i = k
      · subst e1
        rw [if_pos rfl, if_pos (by omega), if_pos (by omega)]
        have : l - 1 - (l - 1 - i) = i := by omega
        rw [this]; rfl
      · rw [if_neg e1]
        by_cases e2 : i = k
        · subst e2
          rw [if_pos rfl, if_pos (by omega), if_pos (by omega)]; rfl
        · rw [if_neg e2, hxk]
          by_cases e3 : k < i ∨ l - i ≤ k
          · rw [if_pos e3, if_pos (by omega)]
          · rw [if_neg e3, if_neg (by omega)]
    · show ((l : Int) - 1 - i - 1 + 1 - (i + 1)).toNat < ((l : Int) - 1 - i + 1 - i).toNat
      omega
  · have hxr : xs = bs.reverse := by
      refine ext_getD (by rw [List.length_reverse]; omega) fun k hk => ?_
      rw [hx k (by omega)]
      have e : bs.reverse.getD k 0 = bs.getD (l - 1 - k) 0 := by
        rw [List.getD_eq_getElem?_getD, List.getD_eq_getElem?_getD, List.getElem?_reverse (by omega), hlen]
      rw [e]
      split
      · rfl
      · have : k = l - 1 - k := by omega
        rw [← this]
    subst hxr
    exact ⟨rfl, ho, hk⟩

theorem held_ok {w : World} {p : Pu} {s : Sl3} (h : Rd3 w s p) (hbd : Bd p) :
    CallR Try.prog 12 [.agg (cs p s)] w fun v w' => ∃ a' l' c', v = .tuple #[.slice a' l' c', .int .i64 (heldP p).2] ∧ OB w' a' l' c' (heldP p).1 ∧ Fresh w a' ∧ Kept No w w' := by
  refine C12 ?_
  unfold L12
  intro w1
  have hb1 : Blk w1 w.heap.size (cs p s) := Blk.alloc _ _ _
  have hk1 : Kept No w w1 := Kept.alloc _ _ _
  clear_value w1
  refine ld11 hb1 (CallR.mono (own_ok (h.no hk1) hbd) ?_)
  rintro v w2 ⟨s', rfl, ho, hk2⟩
  have hk02 := hk1.no hk2
  refine ⟨_, _, _, _, _, _, _, _, _, _, _, _, _, _, _, _, _, _, rfl, ?_⟩
  intro w3
  have hb3 : Blk w3 w2.heap.size (cs ⟨false, false, 0, 0, [], [], [], 0, false, false, false⟩ Sl3.no) := Blk.alloc _ _ _
  have hk3 : Kept No w2 w3 := Kept.alloc _ _ _
  clear_value w3
  have hz02 : w.heap.size ≤ w2.heap.size := hk02.size
  have hz1 : w.heap.size ≤ w1.heap.size := hk1.size
  have hlt : ∀ b, inA s'.oa b ∨ inA s'.ia b ∨ inA s'.ka b → b < w2.heap.size := fun b hb => by
    rcases hb with hb | hb | hb
    · exact ho.1.1.lt b hb
    · exact ho.1.2.1.lt b hb
    · exact ho.1.2.2.lt b hb
  refine st11 (p := p) (s := s') hb3 rfl fun w14 hb14 hk14 => ?_
  have hk214 : Kept No w2 w14 := hk3.fresh hk14 (fun x e => by omega)
  have hk014 := hk02.no hk214
  have ho14 : Ow3 w1 w14 s' p := ho.no hk214
  refine condN (fun he => ?_) (fun he => ?_)
  · refine ⟨none, 0, 0, ?_, ?_, Fresh.none w, hk014⟩
    · unfold heldP; rw [if_pos he]
    · unfold heldP; rw [if_pos he]; exact OB.nil _
  have hres : heldP p = (p.k.reverse ++ p.i, 0) := by unfold heldP; rw [if_neg (fun h => h he)]
  obtain ⟨hk8, hi8⟩ := ck8 (begP_ck he)
  rw [hres]
  obtain ⟨hB1, hB2, hB3⟩ := hbd
  have hkl : p.k.length = s'.kl := ho.1.2.2.len
  have hil : p.i.length = s'.il := ho.1.2.1.len
  refine ⟨_, _, _, (hb14.cell 6).trans rfl, CallR.mono (reverse_ok ho14.1.2.2 (by omega)) ?_⟩
  rintro v w15 ⟨rfl, hr15, hk15⟩
  have hb15 := hb14.keep hk15 (fun e => by have := hlt _ (.inr (.inr e)); omega)
  have hi15 := ho14.1.2.1.keep hk15 (fun b hb e => (ho.2.2.1 b e).1 hb)
  have hfk : Fresh w s'.ka := Fresh.base ho.2.1.2.2 hz1
  have hk015 : Kept No w w15 := hk014.fresh hk15 hfk
  refine ⟨rfl, _, _, _, (hb15.cell 6).trans rfl, _, _, _, (hb15.cell 5).trans rfl, ?_⟩
  obtain ⟨a5, c5, w5, hrun, hs, hk5, hat, hnn⟩ := run_app_sl (P := Try.prog) (t := 22) (t2 := 22) (ty := 22) (by kernel_rfl : slTyB Try.prog 22 1 1 = true) (by kernel_rfl) hr15 hi15.rd (By_one _) (by omega) (by omega)
  rw [← By_append] at hs
  exact ⟨a5, _, c5, w5, hrun, a5, _, c5, rfl, hs, hat.fresh hfk hk015.size, hk015.fresh hk5 hfk⟩

end Go.Proofs.Ythddogeenimjcaa
