/-
  Answers are the caller's, the state that follows shares nothing: the walk. Conditions: none.
-/
import Derived.Test.YthddogeenimjcaaPbG
import Derived.Test.YthddogeenimjcaaOPushbackOwn
set_option linter.unusedVariables false
namespace Go.Proofs.Ythddogeenimjcaa
open Go.Lw

set_option maxRecDepth 100000 in
set_option maxHeartbeats 4000000 in
theorem walk_pushbackOwn {W : World} {args : List Value} (h : V5 W args) : CallR Try.prog 5 args W fun v w' => v = .bool true ∧ Kept No W w' := by
  obtain ⟨b1, b2, n3, _, n4, _, a5, l6, c7, ns8, h8, _, hl8, a9, l10, c11, ns12, h12, _, hl12, a13, l14, c15, ns16, h16, _, hl16, n17, _, b18, b19, b20, a21, l22, c23, bs, hbs, _, hlb, rfl⟩ := h
  obtain ⟨p, hp⟩ : ∃ p : Pu, p = ⟨b1, b2, n3, n4, ns8, ns12, ns16, n17, b18, b19, b20⟩ := ⟨_, rfl⟩
  obtain ⟨s, hs⟩ : ∃ s : Sl3, s = ⟨a5, l6, c7, a9, l10, c11, a13, l14, c15⟩ := ⟨_, rfl⟩
  have hbs : RdB W a21 l22 c23 bs := hbs
  have hr : Rd3 W s p := by rw [hp, hs]; exact ⟨h8, h12, h16⟩
  have hbd : Bd p := by
    have e1 : RdB W a5 l6 c7 ns8 := h8
    have e2 : RdB W a9 l10 c11 ns12 := h12
    have e3 : RdB W a13 l14 c15 ns16 := h16
    have e1 := e1.len
    have e2 := e2.len
    have e3 := e3.len
    rw [hp]; exact ⟨by dsimp only; omega, by dsimp only; omega, by dsimp only; omega⟩
  have hlen := hbs.len
  refine C5 ?_
  unfold L5
  intro w1
  have hb1 : Blk w1 W.heap.size (cs p s) := by rw [hp, hs]; exact Blk.alloc _ _ _
  have hk1 : Kept No W w1 := Kept.alloc _ _ _
  clear_value w1
  clear hp hs
  refine CallR.mono palive_ok ?_
  rintro v w2 ⟨rfl, hk2⟩
  refine ⟨_, rfl, condFa ?_⟩
  have k2 := hk1.no hk2
  have hb2 := hb1.no' hk2
  refine ld11 hb2 (CallR.mono (given_ok (hr.no k2) hbd) ?_)
  rintro v w3 ⟨sg, rfl, hg, hk3⟩
  have k3 := k2.no hk3
  refine ⟨_, _, _, _, _, _, _, _, _, _, _, _, _, _, _, _, _, rfl, newSt (p := p) (s := sg) fun w15 hb15 hk15 hz15 => ?_⟩
  have k15 := k3.no hk15
  refine CallR.mono (copyb_ok (hbs.keep k15 fun _ _ _ e => e) (by omega)) ?_
  rintro v w16 ⟨ao, co, rfl, ho, hk16, hfo⟩
  have k16 := k15.no hk16
  have hlo := ho.lt
  refine ⟨_, _, _, rfl, ld11 (hb15.no' hk16) (CallR.mono (ungetall ((hg.no hk15).no hk16).rd hbd ho.rd (by omega)) ?_)⟩
  rintro v w17 ⟨sy, rfl, hy, hk17⟩
  have k17 := k16.no hk17
  refine ⟨_, _, _, _, _, _, _, _, _, _, _, _, _, _, _, _, _, _, rfl, newSt (p := (ungP p bs).1) (s := sy) fun w29 hb29 hk29 hz29 => ?_⟩
  have k29 := k17.no hk29
  have hbu : Bd (ungP p bs).1 := ungP_bd hbd
  have hy29 := hy.no hk29
  refine ld11 hb29 (CallR.mono (given_ok hy29.rd hbu) ?_)
  rintro v w30 ⟨sk, rfl, hk, hk30⟩
  have k30 := k29.no hk30
  refine ⟨_, _, _, _, _, _, _, _, _, _, _, _, _, _, _, _, _, rfl, newSt (p := (ungP p bs).1) (s := sk) fun w42 hb42 hk42 hz42 => ?_⟩
  have k42 := k30.no hk42
  have hb2942 := (hb29.no' hk30).no' hk42
  have hy42 := (hy29.no hk30).no hk42
  refine ld11 hb2942 (CallR.mono (held_ok hy42.rd hbu) ?_)
  rintro v w43 ⟨ah, lh, ch, rfl, hh, hfh, hk43⟩
  have k43 := k42.no hk43
  have hbh : (heldP (ungP p bs).1).1.length ≤ 140737488355328 := by
    unfold heldP
    split
    · simp
    · rename_i hb
      have h8 := ck8 (begP_ck (p := (ungP p bs).1) (by omega))
      simp; omega
  have hlh := hh.len
  refine ⟨_, _, _, _, rfl, CallR.mono (spoil_ok hh (by omega)) ?_⟩
  rintro v w44 ⟨rfl, _, hk44⟩
  have hz1 : W.heap.size < w1.heap.size := hb1.lt
  have hz2 : w1.heap.size ≤ w2.heap.size := hk2.size
  have hz3 : w2.heap.size ≤ w3.heap.size := hk3.size
  have hz16 : w15.heap.size ≤ w16.heap.size := hk16.size
  have hz17 : w16.heap.size ≤ w17.heap.size := hk17.size
  have hz30 : w29.heap.size ≤ w30.heap.size := hk30.size
  have hz43 : w42.heap.size ≤ w43.heap.size := hk43.size
  have hing := inS hg
  have hiny := inS hy
  have hink := inS hk
  have h1643 : Kept No w16 w43 := ((((hk17.no hk29).no hk30).no hk42).no hk43)
  have h343 : Kept No w3 w43 := (hk15.no hk16).no h1643
  have ho44 := (ho.keep h1643 fun _ _ e => e).keep hk44 (fun b hb e => by have := hfh b e; have := hlo b hb; omega)
  refine ⟨rfl, CallR.mono (spoil_ok ho44 (by omega)) ?_⟩
  rintro v w45 ⟨rfl, _, hk45⟩
  have hS45 : Kept (fun z => (w15.heap.size ≤ z ∧ z < w16.heap.size) ∨ w42.heap.size ≤ z) w43 w45 :=
    (hk44.mono fun z _ e => .inr (hfh z e)).trans hk45 fun z _ e => .inl ⟨hfo z e, hlo z e⟩
  have hg43 := hg.no h343
  have hg45 := hg43.keep hS45 (fun b hb e => by have := hing b hb; omega)
  have hb3 : Blk w45 w3.heap.size (cs p sg) := ((hb15.no' hk16).no' h1643).keep hS45 (by omega)
  obtain ⟨hB1, hB2, hB3⟩ := hbd
  have hl1 := hg45.1.1.len
  have hl2 := hg45.1.2.1.len
  have hl3 := hg45.1.2.2.len
  refine ⟨rfl, _, _, _, (hb3.cell 5).trans rfl, CallR.mono (spoil_ok hg45.1.2.1 (by omega)) ?_⟩
  rintro v w46 ⟨rfl, _, hk46⟩
  have hb3' := hb3.keep hk46 (fun e => by have := hing _ (.inr (.inl e)); omega)
  have hka46 := hg45.1.2.2.keep hk46 (fun b hb e => (hg.2.2.1 b hb).1 e)
  have hoa46 := hg45.1.1.keep hk46 (fun b hb e => hg.2.2.2 b e hb)
  refine ⟨rfl, _, _, _, (hb3'.cell 6).trans rfl, CallR.mono (spoil_ok hka46 (by omega)) ?_⟩
  rintro v w47 ⟨rfl, _, hk47⟩
  have hb3'' := hb3'.keep hk47 (fun e => by have := hing _ (.inr (.inr e)); omega)
  have hoa47 := hoa46.keep hk47 (fun b hb e => (hg.2.2.1 b e).2 hb)
  refine ⟨rfl, _, _, _, (hb3''.cell 4).trans rfl, CallR.mono (spoil_ok hoa47 (by omega)) ?_⟩
  rintro v w48 ⟨rfl, _, hk48⟩
  have hS48 : Kept (fun z => (w2.heap.size ≤ z ∧ z < w3.heap.size) ∨ (w15.heap.size ≤ z ∧ z < w16.heap.size) ∨ w42.heap.size ≤ z) w43 w48 :=
    (((hS45.mono fun z _ e => .inr e).trans hk46 fun z _ e => .inl (hing z (.inr (.inl e)))).trans hk47 fun z _ e => .inl (hing z (.inr (.inr e)))).trans hk48 fun z _ e => .inl (hing z (.inl e))
  have hy48 := (hy42.no hk43).keep hS48 (fun b hb e => by have := hiny b hb; omega)
  have hk48' := ((hk.no hk42).no hk43).keep hS48 (fun b hb e => by have := hink b hb; omega)
  have c1 := (hb2942.no' hk43).keep hS48 (by omega)
  have c2 := (hb42.no' hk43).keep hS48 (by omega)
  refine ⟨rfl, ld11 c1 (ld11 c2 (CallR.mono (same3_ok hy48.rd hk48'.rd hbu) ?_))⟩
  rintro v w49 ⟨rfl, hk49⟩
  exact ⟨_, rfl, rfl, (k43.fresh hS48 (fun x e => by omega)).no hk49⟩

end Go.Proofs.Ythddogeenimjcaa
