/-
  What is pushed back and what is held are the page's: the walk. Conditions: none.
-/
import Derived.Test.YthddogeenimjcaaPbF
import Derived.Test.YthddogeenimjcaaOPushbackSteps
set_option linter.unusedVariables false
namespace Go.Proofs.Ythddogeenimjcaa
open Go.Lw

set_option maxRecDepth 100000 in
set_option maxHeartbeats 4000000 in
theorem walk_pushbackSteps {W : World} {args : List Value} (h : V3 W args) : CallR Try.prog 3 args W fun v w' => v = .bool true ∧ Kept No W w' := by
  obtain ⟨b1, b2, n3, _, n4, _, a5, l6, c7, ns8, h8, _, hl8, a9, l10, c11, ns12, h12, _, hl12, a13, l14, c15, ns16, h16, _, hl16, n17, _, b18, b19, b20, ch, _, a22, l23, c24, bs, hbs, _, hlb, rfl⟩ := h
  obtain ⟨p, hp⟩ : ∃ p : Pu, p = ⟨b1, b2, n3, n4, ns8, ns12, ns16, n17, b18, b19, b20⟩ := ⟨_, rfl⟩
  obtain ⟨s, hs⟩ : ∃ s : Sl3, s = ⟨a5, l6, c7, a9, l10, c11, a13, l14, c15⟩ := ⟨_, rfl⟩
  have hbs : RdB W a22 l23 c24 bs := hbs
  have hr : Rd3 W s p := by rw [hp, hs]; exact ⟨h8, h12, h16⟩
  have hbd : Bd p := by
    have e1 : RdB W a5 l6 c7 ns8 := h8
    have e2 : RdB W a9 l10 c11 ns12 := h12
    have e3 : RdB W a13 l14 c15 ns16 := h16
    have e1 := e1.len
    have e2 := e2.len
    have e3 := e3.len
    rw [hp]; exact ⟨by dsimp only; omega, by dsimp only; omega, by dsimp only; omega⟩
  refine C3 ?_
  unfold L3
  intro w1
  have hb1 : Blk w1 W.heap.size (cs p s) := by rw [hp, hs]; exact Blk.alloc _ _ _
  have hk1 : Kept No W w1 := Kept.alloc _ _ _
  clear_value w1
  clear hp hs
  refine ld11 hb1 (CallR.mono (given_ok (hr.no hk1) hbd) ?_)
  rintro v w2 ⟨sg, rfl, hg, hk2⟩
  refine ⟨_, _, _, _, _, _, _, _, _, _, _, _, _, _, _, _, _, rfl, newSt (p := p) (s := sg) fun w14 hb14 hk14 hz14 => ?_⟩
  have k14 := (hk1.no hk2).no hk14
  have hg14 := hg.no hk14
  refine ld11 hb14 (CallR.mono (unget hg14.rd hbd ch) ?_)
  rintro v w15 ⟨sx, rfl, hx, hk15⟩
  refine ⟨_, _, _, _, _, _, _, _, _, _, _, _, _, _, _, _, _, _, rfl, newSt (p := (ungP p [ch]).1) (s := sx) fun w27 hb27 hk27 hz27 => ?_⟩
  have k27 := (k14.no hk15).no hk27
  have hb127 := (((hb1.no' hk2).no' hk14).no' hk15).no' hk27
  refine ld11 hb127 (CallR.mono (runget (hr.no k27) hbd ch) ?_)
  rintro v w28 ⟨sy, rfl, hy, hk28⟩
  refine ⟨_, _, _, _, _, _, _, _, _, _, _, _, _, _, _, _, _, _, rfl, newSt (p := (ungP p [ch]).1) (s := sy) fun w40 hb40 hk40 hz40 => ?_⟩
  have k40 := (k27.no hk28).no hk40
  have hkg40 := ((hk15.no hk27).no hk28).no hk40
  refine ld11 (hb14.no' hkg40) (CallR.mono (ungetall (hg14.no hkg40).rd hbd (hbs.keep k40 fun _ _ _ e => e) (by omega)) ?_)
  rintro v w41 ⟨su, rfl, hu, hk41⟩
  refine ⟨_, _, _, _, _, _, _, _, _, _, _, _, _, _, _, _, _, _, rfl, newSt (p := (ungP p bs).1) (s := su) fun w53 hb53 hk53 hz53 => ?_⟩
  have k53 := (k40.no hk41).no hk53
  refine ld11 ((((hb127.no' hk28).no' hk40).no' hk41).no' hk53) (CallR.mono (rungetall (hr.no k53) hbd (hbs.keep k53 fun _ _ _ e => e) (by omega)) ?_)
  rintro v w54 ⟨sv, rfl, hv, hk54⟩
  refine ⟨_, _, _, _, _, _, _, _, _, _, _, _, _, _, _, _, _, _, rfl, newSt (p := (ungP p bs).1) (s := sv) fun w66 hb66 hk66 hz66 => ?_⟩
  have k66 := (k53.no hk54).no hk66
  have hkg66 := (((hkg40.no hk41).no hk53).no hk54).no hk66
  refine ld11 (hb14.no' hkg66) (CallR.mono (held_ok (hg14.no hkg66).rd hbd) ?_)
  rintro v w67 ⟨am, lm, cm, rfl, hm, hfm, hk67⟩
  have k67 := k66.no hk67
  have hb167 := ((((((hb127.no' hk28).no' hk40).no' hk41).no' hk53).no' hk54).no' hk66).no' hk67
  refine ⟨_, _, _, _, rfl, ld11 hb167 (CallR.mono (rheld (hr.no k67) hbd) ?_)⟩
  rintro v w68 ⟨an, ln, cn, rfl, hn, hfn, hk68⟩
  have k68 := k67.no hk68
  have kx68 := ((((((hk27.no hk28).no hk40).no hk41).no hk53).no hk54).no hk66).no hk67 |>.no hk68
  have ky68 := (((((hk40.no hk41).no hk53).no hk54).no hk66).no hk67).no hk68
  have ku68 := (((hk53.no hk54).no hk66).no hk67).no hk68
  have kv68 := (hk66.no hk67).no hk68
  have kg68 := (hkg66.no hk67).no hk68
  refine ⟨_, _, _, _, rfl, ld11 (hb27.no' (((((((hk28.no hk40).no hk41).no hk53).no hk54).no hk66).no hk67).no hk68)) (ld11 (hb40.no' ((((((hk41.no hk53).no hk54).no hk66).no hk67).no hk68))) (CallR.mono (same3_ok (hx.no kx68).rd (hy.no ky68).rd (ungP_bd hbd)) ?_))⟩
  rintro v w69 ⟨rfl, hk69⟩
  refine ⟨_, rfl, condTr (pnum_to ⟨_, rfl, beqT _ ?_⟩)⟩
  refine ld11 (hb53.no' ((((hk54.no hk66).no hk67).no hk68).no hk69)) (ld11 (hb66.no' ((hk67.no hk68).no hk69)) (CallR.mono (same3_ok (hu.no (ku68.no hk69)).rd (hv.no (kv68.no hk69)).rd (ungP_bd hbd)) ?_))
  rintro v w71 ⟨rfl, hk71⟩
  refine ⟨_, rfl, condTr (pnum_to ⟨_, rfl, beqT _ ?_⟩)⟩
  have k6871 := hk69.no hk71
  have hbm : (heldP p).1.length ≤ 140737488355328 := by
    unfold heldP
    split
    · simp
    · rename_i hb
      have h8 := ck8 (begP_ck (p := p) (by omega))
      simp; omega
  have hmr := (hm.keep (hk68.no k6871) fun _ _ e => e).rd
  refine CallR.mono (same_ok hmr (hn.keep k6871 fun _ _ e => e).rd (by rw [← hmr.len]; exact hbm)) ?_
  rintro v w73 ⟨rfl, hk73, _⟩
  refine ⟨_, rfl, condT (by simp) (pnum_to ⟨_, rfl, beqT _ ?_⟩)⟩
  have k6873 := k6871.no hk73
  refine ld11 (hb14.no' (kg68.no k6873)) (ld11 (hb167.no' (hk68.no k6873)) (CallR.mono (same3_ok (hg14.no (kg68.no k6873)).rd (hr.no (k68.no k6873)) hbd) ?_))
  rintro v w75 ⟨rfl, hk75⟩
  refine ⟨_, rfl, condTr (CallR.mono palive_ok ?_)⟩
  rintro v w76 ⟨rfl, hk76⟩
  exact ⟨_, rfl, rfl, ((k68.no k6873).no hk75).no hk76⟩

end Go.Proofs.Ythddogeenimjcaa
