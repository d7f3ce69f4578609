/-
  Any text read as a mode is as the page says: the walk. Conditions: none.
-/
import Derived.Test.YtapnpbfbebdjjaaModeD
import Derived.Test.YtapnpbfbebdjjaaOOpenmodeParses
set_option linter.unusedVariables false
namespace Go.Proofs.Ytapnpbfbebdjjaa
open Go.Lw

theorem walk_openmodeParses {W : World} {args : List Value} (h : V5 W args) : CallR Try.prog 5 args W fun v w' => v = .bool true ∧ Kept No W w' := by
  obtain ⟨s, hs, rfl⟩ := h
  refine C5 ?_
  unfold L5
  refine (oparse_ok s hs).mono fun v w1 ⟨hv1, hk1⟩ => ?_
  refine ⟨_, _, _, _, _, _, _, _, _, _, hv1, lay8 (m := (parseM s).1) fun w2 hx2 hk2 => ?_⟩
  refine (rparse_ok s hs).mono fun v w3 ⟨hv3, hk3⟩ => ?_
  refine ⟨_, _, _, _, _, _, _, _, _, _, hv3, lay8 (m := (parseM s).1) fun w4 hx4 hk4 => ?_⟩
  have hx24 := (hx2.keep hk3 (fun e => e)).keep hk4 (fun e => e)
  refine ld8 hx24 (ld8 hx4 ⟨_, w4, eqMd (parseM s).1 (parseM s).1, condT (by simp) (onum_to ⟨_, rfl, condT (by simp) (condT (by simp) ?_)⟩)⟩)
  exact oalive_ok.mono fun v w5 ⟨hv5, hk5⟩ => ⟨_, hv5, rfl, (((hk1.no hk2).no hk3).no hk4).no hk5⟩

end Go.Proofs.Ytapnpbfbebdjjaa
