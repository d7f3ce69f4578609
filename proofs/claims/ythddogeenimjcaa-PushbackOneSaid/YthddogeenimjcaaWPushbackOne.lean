/-
  Bytes pushed back together are the same as one by one: the walk. Conditions: none.
-/
import Derived.Test.YthddogeenimjcaaPbG
import Derived.Test.YthddogeenimjcaaOPushbackOne
set_option linter.unusedVariables false
namespace Go.Proofs.Ythddogeenimjcaa
open Go.Lw

set_option maxRecDepth 100000 in
set_option maxHeartbeats 4000000 in
theorem walk_pushbackOne {W : World} {args : List Value} (h : V4 W args) : CallR Try.prog 4 args W fun v w' => v = .bool true ∧ Kept No W w' := by
  obtain ⟨b1, b2, n3, _, n4, _, a5, l6, c7, ns8, h8, _, hl8, a9, l10, c11, ns12, h12, _, hl12, a13, l14, c15, ns16, h16, _, hl16, n17, _, b18, b19, b20, a21, l22, c23, bs, hbs, _, hlb, rfl⟩ := h
  obtain ⟨p, hp⟩ : ∃ p : Pu, p = ⟨b1, b2, n3, n4, ns8, ns12, ns16, n17, b18, b19, b20⟩ := ⟨_, rfl⟩
  obtain ⟨s, hs⟩ : ∃ s : Sl3, s = ⟨a5, l6, c7, a9, l10, c11, a13, l14, c15⟩ := ⟨_, rfl⟩
  have hbs : RdB W a21 l22 c23 bs := hbs
  have hr : Rd3 W s p := by rw [hp, hs]; exact ⟨h8, h12, h16⟩
  have hbd : Bd p := by
    have e1 : RdB W a5 l6 c7 ns8 := h8
    have e2 : RdB W a9 l10 c11 ns12 := h12
    have e3 : RdB W a13 l14 c15 ns16 := h16
    have e1 := e1.len
    have e2 := e2.len
    have e3 := e3.len
    rw [hp]; exact ⟨by dsimp only; omega, by dsimp only; omega, by dsimp only; omega⟩
  have hlen := hbs.len
  refine C4 ?_
  unfold L4
  intro w1
  have hb1 : Blk w1 W.heap.size (cs p s) := by rw [hp, hs]; exact Blk.alloc _ _ _
  have hk1 : Kept No W w1 := Kept.alloc _ _ _
  clear_value w1
  clear hp hs
  refine CallR.mono palive_ok ?_
  rintro v w2 ⟨rfl, hk2⟩
  refine ⟨_, rfl, condFa ?_⟩
  have k2 := hk1.no hk2
  have hb2 := hb1.no' hk2
  refine ld11 hb2 (CallR.mono (given_ok (hr.no k2) hbd) ?_)
  rintro v w3 ⟨sg, rfl, hg, hk3⟩
  have k3 := k2.no hk3
  refine ⟨_, _, _, _, _, _, _, _, _, _, _, _, _, _, _, _, _, rfl, CallR.mono (ungetall hg.rd hbd (hbs.keep k3 fun _ _ _ e => e) (by omega)) ?_⟩
  rintro v w4 ⟨sx, rfl, hx, hk4⟩
  have k4 := k3.no hk4
  refine ⟨_, _, _, _, _, _, _, _, _, _, _, _, _, _, _, _, _, _, rfl, newSt (p := (ungP p bs).1) (s := sx) fun w16 hb16 hk16 hz16 => ?_⟩
  have k16 := k4.no hk16
  have hb116 := ((hb2.no' hk3).no' hk4).no' hk16
  refine ld11 hb116 (CallR.mono (given_ok (hr.no k16) hbd) ?_)
  rintro v w17 ⟨sy0, rfl, hy0, hk17⟩
  have k17 := k16.no hk17
  refine ⟨_, _, _, _, _, _, _, _, _, _, _, _, _, _, _, _, _, rfl, newSt (p := p) (s := sy0) fun w29 hb29 hk29 hz29 => ?_⟩
  have k29 := k17.no hk29
  have hz1 : W.heap.size < w1.heap.size := hb1.lt
  have hz2 : w1.heap.size ≤ w2.heap.size := hk2.size
  have hz3 : w2.heap.size ≤ w3.heap.size := hk3.size
  have hz4 : w3.heap.size ≤ w4.heap.size := hk4.size
  have hz17 : w16.heap.size ≤ w17.heap.size := hk17.size
  have hin0 := inS hy0
  have hinx := inS hx
  have hB0 := (hb116.no' hk17).no' hk29
  have hB4 := (hb16.no' hk17).no' hk29
  have hx29 := ((hx.no hk16).no hk17).no hk29
  refine ⟨⟨by omega, by omega⟩, ?_⟩
  refine ⟨fun vs w' => ∃ (j : Nat) (y : Pu) (f : Int) (sy : Sl3), vs = [.int .i64 f, .int .i64 ((l22 : Int) - 1 - j)] ∧ j ≤ bs.length ∧ seqP p bs j = (y, f) ∧ Blk w' w17.heap.size (cs y sy) ∧ Rd3 w' sy y ∧ (∀ b, inA sy.oa b ∨ inA sy.ia b ∨ inA sy.ka b → b ≠ w17.heap.size) ∧ Kept (· = w17.heap.size) w29 w' ∧ Kept No W w',
    fun vs _ => match vs with | [_, .int _ n] => (n + 1).toNat | _ => 0, ⟨0, p, 0, sy0, by simp, by omega, rfl, hb29, (hy0.no hk29).rd, fun b hb => by have := hin0 b hb; omega, Kept.refl _ _, k29⟩, ?_⟩
  intro _ n76 n77 w30 hI
  obtain ⟨j, y, f, sy, hvs, hj, hseq, hb17, ry, hny, kz29, kz⟩ := hI
  simp only [List.cons.injEq, Value.int.injEq, true_and, and_true] at hvs
  obtain ⟨rfl, rfl⟩ := hvs
  have hb0 := hB0.keep kz29 (by omega)
  have hb4 := hB4.keep kz29 (by omega)
  have rp := hr.no kz
  have rx := hx29.rd.keep kz29 (fun b _ hb e => by have := hinx b hb; omega)
  refine condP (fun hlt => ?_) (fun hge => ?_)
  · refine pnum_to ⟨_, rfl, condE (fun hf => ?_) (fun hf => ?_)⟩
    · subst hf
      have hjb : l22 - 1 - j < bs.length := by omega
      intro w32
      have hk32 : Kept No w30 w32 := Kept.drew _ _
      clear_value w32
      obtain ⟨q, haq, hgq⟩ := (hbs.keep (kz.no hk32) (fun _ _ _ e => e)).get hjb
      have etn : Int.toNat ((l22 : Int) - 1 - j) = l22 - 1 - j := by omega
      refine ld11 (hb17.no' hk32) ⟨⟨by omega, by omega⟩, ?_⟩
      subst haq
      have hyb : Bd y := by have := seq_bd (bs := bs) hbd j; rw [hseq] at this; exact this
      refine nnI ⟨bs[l22 - 1 - j], by rw [etn]; exact hgq, CallR.mono (unget (ry.no hk32) hyb _) ?_⟩
      rintro v w33 ⟨sy', rfl, hy', hk33⟩
      refine ⟨_, _, _, _, _, _, _, _, _, _, _, _, _, _, _, _, _, _, rfl, ?_⟩
      have hz30 := hb17.lt
      have hz32 : w30.heap.size ≤ w32.heap.size := hk32.size
      have hin' := inS hy'
      refine st11 (p := (ungP y [bs[l22 - 1 - j]]).1) (s := sy') ((hb17.no' hk32).no' hk33) rfl fun w44 hb44 hk44 => ⟨⟨by omega, by omega⟩, ⟨j + 1, (ungP y [bs[l22 - 1 - j]]).1, (ungP y [bs[l22 - 1 - j]]).2, sy', by simp; omega, by omega, ?_, hb44, ?_, fun b hb => by have := hin' b hb; omega, ?_, ?_⟩, ?_⟩
      · show seqP p bs (j + 1) = ((ungP y [bs[l22 - 1 - j]]).1, (ungP y [bs[l22 - 1 - j]]).2)
        rw [seqP, hseq, if_pos rfl, List.getD_eq_getElem?_getD, List.getElem?_eq_getElem (by omega)]
        simp only [hlen, Option.getD_some]
      · exact hy'.rd.keep hk44 (fun b _ hb e => by have := hin' b hb; omega)
      · exact ((kz29.no hk32).no hk33).trans hk44 fun _ _ e => e
      · exact ((kz.no hk32).no hk33).fresh hk44 (fun x e => by omega)
      · show ((l22 : Int) - 1 - j - 1 + 1).toNat < ((l22 : Int) - 1 - j + 1).toNat
        omega
    have hex : j = bs.length ∨ (seqP p bs j).2 ≠ 0 := .inr (by rw [hseq]; exact hf)
    refine condE (fun hz => ?_) (fun hz => ?_)
    · have hu : (ungP p bs).1 = p := ung_len0 (by omega)
      rw [hu] at hb4 rx
      refine ld11 hb4 (ld11 hb0 (CallR.mono (same3_ok rx rp hbd) ?_))
      rintro v wq ⟨rfl, hkq⟩
      exact ⟨_, rfl, rfl, kz.no hkq⟩
    have hspec := seq_spec (p := p) (bs := bs) (by omega) hj hex
    rw [hseq] at hspec
    refine pnum_to ⟨_, rfl, condN (fun he => ?_) (fun he => ?_)⟩
    · have hf : n76 = (ungP p bs).2 := hspec.1 he
      have hu : (ungP p bs).1 = p := ung_no he
      rw [hu] at hb4 rx
      refine condT (by rw [hf]; exact beq_self_eq_true _) (ld11 hb4 (ld11 hb0 (CallR.mono (same3_ok rx rp hbd) ?_)))
      rintro v wq ⟨rfl, hkq⟩
      exact ⟨_, rfl, rfl, kz.no hkq⟩
    · have hf := hspec.2 he
      have hy : y = (ungP p bs).1 := congrArg Prod.fst hf
      have hf0 : n76 = 0 := (congrArg Prod.snd hf).trans he
      rw [← hy] at hb4 rx
      refine pnum_to ⟨_, rfl, condT (by rw [hf0]; rfl) (ld11 hb4 (ld11 hb17 (CallR.mono (same3_ok rx ry (by rw [hy]; exact ungP_bd hbd)) ?_)))⟩
      rintro v wq ⟨rfl, hkq⟩
      exact ⟨_, rfl, rfl, kz.no hkq⟩
  · have hex : j = bs.length ∨ (seqP p bs j).2 ≠ 0 := .inl (by omega)
    refine condE (fun hz => ?_) (fun hz => ?_)
    · have hu : (ungP p bs).1 = p := ung_len0 (by omega)
      rw [hu] at hb4 rx
      refine ld11 hb4 (ld11 hb0 (CallR.mono (same3_ok rx rp hbd) ?_))
      rintro v wq ⟨rfl, hkq⟩
      exact ⟨_, rfl, rfl, kz.no hkq⟩
    have hspec := seq_spec (p := p) (bs := bs) (by omega) hj hex
    rw [hseq] at hspec
    refine pnum_to ⟨_, rfl, condN (fun he => ?_) (fun he => ?_)⟩
    · have hf : n76 = (ungP p bs).2 := hspec.1 he
      have hu : (ungP p bs).1 = p := ung_no he
      rw [hu] at hb4 rx
      refine condT (by rw [hf]; exact beq_self_eq_true _) (ld11 hb4 (ld11 hb0 (CallR.mono (same3_ok rx rp hbd) ?_)))
      rintro v wq ⟨rfl, hkq⟩
      exact ⟨_, rfl, rfl, kz.no hkq⟩
    · have hf := hspec.2 he
      have hy : y = (ungP p bs).1 := congrArg Prod.fst hf
      have hf0 : n76 = 0 := (congrArg Prod.snd hf).trans he
      rw [← hy] at hb4 rx
      refine pnum_to ⟨_, rfl, condT (by rw [hf0]; rfl) (ld11 hb4 (ld11 hb17 (CallR.mono (same3_ok rx ry (by rw [hy]; exact ungP_bd hbd)) ?_)))⟩
      rintro v wq ⟨rfl, hkq⟩
      exact ⟨_, rfl, rfl, kz.no hkq⟩

end Go.Proofs.Ythddogeenimjcaa
