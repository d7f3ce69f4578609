/-
  A copy of a stream's state, and what is wrong with it. Conditions: as each says.
-/
import Derived.Test.YthddogeenimjcaaPbK
set_option linter.unusedVariables false
namespace Go.Proofs.Ythddogeenimjcaa
open Go.Lw

theorem clone2_ok {w : World} {a : Option Addr} {l c : Nat} {bs : List Int} (h : RdB w a l c bs) (hl : l ≤ 140737488355328) :
    CallR Try.prog 34 [.slice a l c] w fun v w' => ∃ a' c', v = .slice a' l c' ∧ OB w' a' l c' bs ∧ Kept No w w' ∧ Fresh w a' := by
  refine C34 ?_
  unfold L34
  have hlen := h.len
  refine condI (fun hn => ?_) (fun hn => ?_)
  · have ha : a = none := by simpa using hn
    obtain ⟨h1, _, h3⟩ := RdS.isNone h ha
    have : bs = [] := List.eq_nil_of_length_eq_zero (by omega)
    subst this h1 ha
    exact ⟨none, 0, rfl, OB.nil w, Kept.refl _ _, Fresh.none w⟩
  · intro w1
    have hk1 : Kept No w w1 := Kept.alloc _ w _
    have hs0 : SlO 1 w1 (some ⟨w.heap.size, 0, none⟩) 0 0 (By []) := SlO.of_blk (Blk.alloc w #[] _) (by simp)
    obtain ⟨a', c', w2, hrun, hs, hk, hat, hnn⟩ := run_app_sl (P := Try.prog) (t := 22) (t2 := 22) (ty := 22) (by kernel_rfl : slTyB Try.prog 22 1 1 = true) (by kernel_rfl) hs0 (RdB.keep h hk1 (fun _ _ _ e => e)) (By_one bs) (by omega) (by omega)
    simp only [Nat.zero_add] at hrun hs
    refine ⟨a', l, c', w2, hrun, a', c', rfl, ?_, ?_, ?_⟩
    · exact hs
    · exact hk1.trans hk (fun b hb hin => by rw [inA_some] at hin; subst hin; omega)
    · exact hat.fresh (fun b hb => by rw [inA_some] at hb; omega) (by exact hk1.size)

theorem copied_ok {w : World} {a : Option Addr} {l c : Nat} {bs : List Int} (h : RdB w a l c bs) (hl : l ≤ 140737488355328) :
    CallR Try.prog 32 [.slice a l c] w fun v w' => ∃ a' c', v = .slice a' l c' ∧ OB w' a' l c' bs ∧ Kept No w w' ∧ Fresh w a' := by
  refine C32 ?_
  unfold L32
  obtain ⟨a', c', w2, hrun, hs, hk, hat, hnn⟩ := run_app_sl (P := Try.prog) (t := 22) (t2 := 22) (ty := 22) (by kernel_rfl : slTyB Try.prog 22 1 1 = true) (by kernel_rfl) (SlO.nil 1 w) h (By_one bs) (by omega) (by omega)
  simp only [Nat.zero_add, List.nil_append] at hrun hs
  exact ⟨a', l, c', w2, hrun, a', c', rfl, hs, hk.mono (fun b _ hb => inA_none b hb), hat.fresh (Fresh.none w) (Nat.le_refl _)⟩

theorem cs_put {p : Pu} {s : Sl3} {a1 a2 a3 : Option Addr} {l1 l2 l3 c1 c2 c3 : Nat} :
    (((cs p s).setIfInBounds 4 (.slice a1 l1 c1)).setIfInBounds 5 (.slice a2 l2 c2)).setIfInBounds 6 (.slice a3 l3 c3) = cs p ⟨a1, l1, c1, a2, l2, c2, a3, l3, c3⟩ := rfl

/-- Three copies by three calls, put in place. -/
theorem own3 {f : Nat} (hf : ∀ {w : World} {a : Option Addr} {l c : Nat} {bs : List Int}, RdB w a l c bs → l ≤ 140737488355328 → CallR Try.prog f [.slice a l c] w fun v w' => ∃ a' c', v = .slice a' l c' ∧ OB w' a' l c' bs ∧ Kept No w w' ∧ Fresh w a')
    {w0 w : World} {g : Nat} {p : Pu} {s : Sl3} (hg : w0.heap.size ≤ g) (hw : w0.heap.size ≤ w.heap.size) (hb : Blk w g (cs p s)) (h : Rd3 w s p) (hbd : Bd p) {K : World → Prop}
    (hk : ∀ s' w', Blk w' g (cs p s') → Ow3 w0 w' s' p → (∀ b, inA s'.oa b ∨ inA s'.ia b ∨ inA s'.ka b → w.heap.size ≤ b) → Kept (· = g) w w' → K w') :
    ∃ (S28 : World → Prop), S28 (World.drew w) ∧
  let w5 := World.drew w;
  ∃ (a29 : Option Addr) (l29 : Nat) (c29 : Nat), (∀ wS : World, S28 wS → wS.cell? (Addr.mk g 4 none) = some ((.slice a29 l29 c29 : Value))) ∧
  ∃ (a30 : Option Addr) (l30 : Nat) (c30 : Nat), (∀ wS : World, S28 wS → wS.cell? (Addr.mk g 5 none) = some ((.slice a30 l30 c30 : Value))) ∧
  ∃ (a31 : Option Addr) (l31 : Nat) (c31 : Nat), (∀ wS : World, S28 wS → wS.cell? (Addr.mk g 6 none) = some ((.slice a31 l31 c31 : Value))) ∧
  CallR Try.prog f [.slice a29 l29 c29] w5 (fun (r33 : Value) (w6 : World) =>
  ∃ (a32 : Option Addr) (l32 : Nat) (c32 : Nat), r33 = .slice a32 l32 c32 ∧
  S28 w6 ∧
  CallR Try.prog f [.slice a30 l30 c30] w6 (fun (r35 : Value) (w7 : World) =>
  ∃ (a34 : Option Addr) (l34 : Nat) (c34 : Nat), r35 = .slice a34 l34 c34 ∧
  S28 w7 ∧
  CallR Try.prog f [.slice a31 l31 c31] w7 (fun (r37 : Value) (w8 : World) =>
  ∃ (a36 : Option Addr) (l36 : Nat) (c36 : Nat), r37 = .slice a36 l36 c36 ∧
  stC (Addr.mk g 4 none) (.slice a32 l32 c32) w8 (fun (w9 : World) =>
  stC (Addr.mk g 5 none) (.slice a34 l34 c34) w9 (fun (w10 : World) =>
  stC (Addr.mk g 6 none) (.slice a36 l36 c36) w10 K))))) := by
  obtain ⟨b1, b2, b3⟩ := hbd
  refine ⟨fun wS => Blk wS g (cs p s), hb.drew, _, _, _, fun wS hS => (hS.cell 4).trans rfl, _, _, _, fun wS hS => (hS.cell 5).trans rfl, _, _, _, fun wS hS => (hS.cell 6).trans rfl, ?_⟩
  have hkd : Kept No w w.drew := Kept.drew _ _
  have h1 := h.no hkd
  refine CallR.mono (hf h1.1 (by rw [← h.1.len]; omega)) ?_
  rintro v w6 ⟨a1, c1, rfl, ho1, hk1, hf1⟩
  have hb6 := (hb.drew).keep hk1 (fun e => e)
  have h6 := h1.no hk1
  refine ⟨_, _, _, rfl, hb6, CallR.mono (hf h6.2.1 (by rw [← h.2.1.len]; omega)) ?_⟩
  rintro v w7 ⟨a2, c2, rfl, ho2, hk2, hf2⟩
  have hb7 := hb6.keep hk2 (fun e => e)
  have h7 := h6.no hk2
  refine ⟨_, _, _, rfl, hb7, CallR.mono (hf h7.2.2 (by rw [← h.2.2.len]; omega)) ?_⟩
  rintro v w8 ⟨a3, c3, rfl, ho3, hk3, hf3⟩
  have hb8 := hb7.keep hk3 (fun e => e)
  have z0 : (cs p s).size = 11 := rfl
  have l1 := ho1.lt
  have l2 := ho2.lt
  have hgw := hb.lt
  have y1 : w.heap.size ≤ w6.heap.size := Nat.le_trans hkd.size hk1.size
  have y2 : w6.heap.size ≤ w7.heap.size := hk2.size
  have y0 : w.drew.heap.size = w.heap.size := rfl
  refine ⟨_, _, _, rfl, ?_⟩
  refine stC_blk hb8 (by omega) fun w9 h9 k9 s9 => ?_
  refine stC_blk h9 (by rw [Array.size_setIfInBounds]; omega) fun w10 h10 k10 s10 => ?_
  refine stC_blk h10 (by rw [Array.size_setIfInBounds, Array.size_setIfInBounds]; omega) fun w11 h11 k11 s11 => ?_
  rw [cs_put] at h11
  have kx : Kept (· = g) w8 w11 := (k9.trans k10 fun _ _ e => e).trans k11 fun _ _ e => e
  have n1 : ∀ b, inA a1 b → b ≠ g := fun b hb e => by have := hf1 b hb; omega
  have n2 : ∀ b, inA a2 b → b ≠ g := fun b hb e => by have := hf2 b hb; omega
  have n3 : ∀ b, inA a3 b → b ≠ g := fun b hb e => by have := hf3 b hb; omega
  refine hk ⟨a1, s.ol, c1, a2, s.il, c2, a3, s.kl, c3⟩ w11 h11 ⟨⟨((ho1.keep hk2 fun _ _ e => e).keep hk3 fun _ _ e => e).keep kx n1, (ho2.keep hk3 fun _ _ e => e).keep kx n2, ho3.keep kx n3⟩,
    ⟨fun b hb => by have := hf1 b hb; omega, fun b hb => by have := hf2 b hb; omega, fun b hb => by have := hf3 b hb; omega⟩,
    fun b hb => ⟨fun hb2 => by have := hf3 b hb; have := l2 b hb2; omega, fun hb2 => by have := hf3 b hb; have := l1 b hb2; omega⟩, fun b hb hb2 => by have := hf2 b hb; have := l1 b hb2; omega⟩
    (fun b hb => by
      rcases hb with hb | hb | hb
      · have := hf1 b hb; omega
      · have := hf2 b hb; omega
      · have := hf3 b hb; omega) ?_
  have kn : Kept No w w8 := ((hkd.no hk1).no hk2).no hk3
  exact (kn.mono (fun _ _ e => e.elim)).trans kx fun _ _ e => e

def Sl3.no : Sl3 := ⟨none, 0, 0, none, 0, 0, none, 0, 0⟩

theorem own_ok {w : World} {p : Pu} {s : Sl3} (h : Rd3 w s p) (hbd : Bd p) :
    CallR Try.prog 23 [.agg (cs p s)] w fun v w' => ∃ s', v = .tuple #[.agg (cs p s'), .int .i64 (begP p)] ∧ Ow3 w w' s' p ∧ Kept No w w' := by
  refine C23 ?_
  unfold L23
  intro w1 w2
  have hb1 : Blk w1 w.heap.size (cs p s) := Blk.alloc _ _ _
  have hk1 : Kept No w w1 := Kept.alloc _ _ _
  clear_value w1
  have hb2 : Blk w2 w1.heap.size #[.bool false, .bool false, .int .i64 0, .int .i64 0, .slice none 0 0, .slice none 0 0, .slice none 0 0, .int .i64 0, .bool false, .bool false, .bool false] := Blk.alloc _ _ _
  have hk2 : Kept No w1 w2 := Kept.alloc _ _ _
  clear_value w2
  have hb12 := hb1.keep hk2 (fun e => e)
  have hk02 := hk1.no hk2
  have hne : w.heap.size ≠ w1.heap.size := by have := hb1.lt; omega
  have hlt1 : w.heap.size < w1.heap.size := hb1.lt
  refine ld11 hb12 (CallR.mono (check_ok p s (h.no hk02) hbd) ?_)
  rintro v w3 ⟨rfl, hk3⟩
  have hb13 := hb12.keep hk3 (fun e => e)
  have hb23 := hb2.keep hk3 (fun e => e)
  have hk03 := hk02.no hk3
  have hsz : w1.heap.size < w3.heap.size := hb23.lt
  refine ⟨_, rfl, fun vs w4 => vs = [.int .i64 (begP p)] ∧ w4 = w3, ?_, ?_⟩
  · refine condE (fun he => ⟨_, (hb13.cell 10).trans rfl, ?_⟩) (fun he => ?_)
    · have hc : ckP p := by
        by_cases hc : ckP p
        · exact hc
        · rw [if_neg hc] at he; omega
      cases hpc : p.c
      · refine condFa ⟨?_, rfl⟩
        unfold begP; rw [if_pos hc, hpc, if_pos hc]; rfl
      · refine condTr ⟨?_, rfl⟩
        unfold begP; rw [if_pos hc, hpc]; rfl
    · have hc : ¬ ckP p := fun hc => he (by rw [if_pos hc])
      refine ⟨?_, rfl⟩
      unfold begP; rw [if_neg hc, if_neg hc]
  · rintro _ n w4 ⟨hn, rfl⟩
    simp only [List.cons.injEq, Value.int.injEq, true_and, and_true] at hn
    subst hn
    refine own3 (f := 34) clone2_ok (w0 := w) (Nat.le_refl _) hk03.size hb13 (h.no hk03) hbd fun s' w11 hb11 ho hfr hk11 => ?_
    have hb2' := hb23.keep hk11 (fun e => hne e.symm)
    refine ld11 hb11 (st11 hb2' rfl fun w22 hb22 hk22 => ld11 hb22 ⟨s', rfl, ho.keep hk22 (fun b hb e => by have := hfr b hb; omega), ?_⟩)
    exact (hk03.fresh hk11 (fun x e => by rw [e]; exact Nat.le_refl _)).fresh hk22 (fun x e => by rw [e]; exact Nat.le_of_lt hlt1)

theorem own2_ok {w : World} {p : Pu} {s : Sl3} (h : Rd3 w s p) (hbd : Bd p) :
    CallR Try.prog 22 [.agg (cs p s)] w fun v w' => ∃ s', v = .agg (cs p s') ∧ Ow3 w w' s' p ∧ Kept No w w' := by
  refine C22 ?_
  unfold L22
  intro w1 w2
  have hb1 : Blk w1 w.heap.size (cs p s) := Blk.alloc _ _ _
  have hk1 : Kept No w w1 := Kept.alloc _ _ _
  clear_value w1
  have hb2 : Blk w2 w1.heap.size #[.bool false, .bool false, .int .i64 0, .int .i64 0, .slice none 0 0, .slice none 0 0, .slice none 0 0, .int .i64 0, .bool false, .bool false, .bool false] := Blk.alloc _ _ _
  have hk2 : Kept No w1 w2 := Kept.alloc _ _ _
  clear_value w2
  have hb12 := hb1.keep hk2 (fun e => e)
  have hk02 := hk1.no hk2
  have hne : w.heap.size ≠ w1.heap.size := by have := hb1.lt; omega
  have hlt1 : w.heap.size < w1.heap.size := hb1.lt
  have hsz : w1.heap.size < w2.heap.size := hb2.lt
  refine own3 (f := 32) copied_ok (w0 := w) (Nat.le_refl _) hk02.size hb12 (h.no hk02) hbd fun s' w11 hb11 ho hfr hk11 => ?_
  have hb2' := hb2.keep hk11 (fun e => hne e.symm)
  refine ld11 hb11 (st11 hb2' rfl fun w22 hb22 hk22 => ld11 hb22 ⟨s', rfl, ho.keep hk22 (fun b hb e => by have := hfr b hb; omega), ?_⟩)
  exact (hk02.fresh hk11 (fun x e => by rw [e]; exact Nat.le_refl _)).fresh hk22 (fun x e => by rw [e]; exact Nat.le_of_lt hlt1)

theorem given_ok {w : World} {p : Pu} {s : Sl3} (h : Rd3 w s p) (hbd : Bd p) :
    CallR Try.prog 7 [.agg (cs p s)] w fun v w' => ∃ s', v = .agg (cs p s') ∧ Ow3 w w' s' p ∧ Kept No w w' := by
  refine C7 ?_
  unfold L7
  intro w1 w2
  have hb1 : Blk w1 w.heap.size (cs p s) := Blk.alloc _ _ _
  have hk1 : Kept No w w1 := Kept.alloc _ _ _
  clear_value w1
  have hb2 : Blk w2 w1.heap.size #[.bool false, .bool false, .int .i64 0, .int .i64 0, .slice none 0 0, .slice none 0 0, .slice none 0 0, .int .i64 0, .bool false, .bool false, .bool false] := Blk.alloc _ _ _
  have hk2 : Kept No w1 w2 := Kept.alloc _ _ _
  clear_value w2
  have hb12 := hb1.keep hk2 (fun e => e)
  have hk02 := hk1.no hk2
  have hlt1 : w.heap.size < w1.heap.size := hb1.lt
  refine ld11 hb12 (CallR.mono (own2_ok (h.no hk02) hbd) ?_)
  rintro v w3 ⟨s', rfl, ho, hk3⟩
  have hb23 := hb2.keep hk3 (fun e => e)
  refine ⟨_, _, _, _, _, _, _, _, _, _, _, _, _, _, _, _, _, rfl, ?_⟩
  refine st11 (p := p) (s := s') hb23 rfl fun w14 hb14 hk14 => ld11 hb14 ⟨s', rfl, Ow3.base (w1 := w2) (ho.keep hk14 (fun b hb e => ?_)) hk02.size, ?_⟩
  · have h2 := hb2.lt
    have : w2.heap.size ≤ b := by
      rcases hb with hb | hb | hb
      · exact ho.2.1.1 b hb
      · exact ho.2.1.2.1 b hb
      · exact ho.2.1.2.2 b hb
    omega
  · exact (hk02.no hk3).fresh hk14 (fun x e => by rw [e]; exact Nat.le_of_lt hlt1)

theorem beg_ok {w : World} {p : Pu} {s : Sl3} (h : Rd3 w s p) (hbd : Bd p) :
    CallR Try.prog 25 [.agg (cs p s)] w fun v w' => v = .int .i64 (begP p) ∧ Kept No w w' := by
  refine C25 ?_
  unfold L25
  intro w1
  have hb1 : Blk w1 w.heap.size (cs p s) := Blk.alloc _ _ _
  have hk1 : Kept No w w1 := Kept.alloc _ _ _
  clear_value w1
  refine ld11 hb1 (CallR.mono (check2_ok p s (h.no hk1) hbd) ?_)
  rintro v w3 ⟨rfl, hk3⟩
  have hb13 := hb1.keep hk3 (fun e => e)
  refine ⟨_, rfl, ?_⟩
  refine condN (fun he => ?_) (fun he => ⟨_, (hb13.cell 10).trans rfl, ?_⟩)
  · have hc : ¬ ckP p := fun hc => he (by rw [if_pos hc])
    exact ⟨by unfold begP; rw [if_neg hc], hk1.no hk3⟩
  · have hc : ckP p := by
      by_cases hc : ckP p
      · exact hc
      · rw [if_neg hc] at he; omega
    cases hpc : p.c
    · refine condFa ⟨?_, hk1.no hk3⟩
      unfold begP; rw [if_pos hc, hpc]; rfl
    · refine condTr ⟨?_, hk1.no hk3⟩
      unfold begP; rw [if_pos hc, hpc]; rfl

end Go.Proofs.Ythddogeenimjcaa
