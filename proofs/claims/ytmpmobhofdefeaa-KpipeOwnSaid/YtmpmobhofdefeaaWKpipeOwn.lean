/-
  Refused calls change nothing, answers are the caller's, pipes that no call made: the walk. Conditions: none.
-/
import Derived.Test.YtmpmobhofdefeaaKpC
import Derived.Test.YtmpmobhofdefeaaOKpipeOwn
set_option linter.unusedVariables false
namespace Go.Proofs.Ytmpmobhofdefeaa
open Go.Lw

theorem walk_kpipeOwn {W : World} {args : List Value} (h : V7 W args) : CallR Try.prog 7 args W fun v w' => v = .bool true ∧ Kept No W w' := by
  obtain ⟨a, l, c, ds, hx, _, hl, rfl⟩ := h
  have hx : RdB W a l c ds := hx
  have hlc : l ≤ c := hx.2.1
  have hlen := hx.len
  refine C7 ?_
  unfold L7
  refine kalive_ok.mono fun v w1 ⟨hv1, hk1⟩ => ⟨_, hv1, condF rfl ?_⟩
  refine (knothing_ok (.inl rfl)).mono fun v w2 ⟨hv, hk2⟩ => ⟨_, hv, condF rfl ?_⟩
  intro w3
  have hb3 : NoPipe w3 (some ⟨w2.heap.size, 0, none⟩) := .inr ⟨_, _, rfl, Blk.alloc _ _ _, by kernel_rfl⟩
  have hk3 : Kept No w2 w3 := Kept.alloc _ _ _
  clear_value w3
  refine (knothing_ok hb3).mono fun v w4 ⟨hv, hk4⟩ => ⟨_, hv, condF rfl ?_⟩
  have h04 : Kept No W w4 := ((hk1.no hk2).no hk3).no hk4
  refine (kboth_ok w4).mono fun v w5 ⟨b, hv5, hp5, hk5, hbn⟩ => ⟨_, hv5, condF rfl ?_⟩
  have h05 := h04.no hk5
  have hbW : W.heap.size ≤ b := Nat.le_trans h04.size hbn
  have fr : ∀ {x}, x = b → W.heap.size ≤ x := by intro x e; omega
  refine (kwrite_ok hp5 (hx.keep h05 (fun _ _ _ e => e)) (fun hne hin => by have := RdS.old hx (by cases ds <;> simp_all [By]) b hin; omega) hlc 1048576).mono fun v w6 ⟨hv6, hp6, hk6⟩ => ⟨_, _, hv6, ?_⟩
  obtain ⟨hn0, hnl, hbs, _⟩ := writeP_is (ds := ds) (most := 1048576) (bs := []) (e0 := 1) (e1 := 1) (by decide)
  generalize hgn : (writeP ds 1048576 [] 1 1).1 = n at *
  generalize hgb : (writeP ds 1048576 [] 1 1).2.2 = bs at *
  have hbl : (bs.length : Int) = n := by rw [hbs, List.nil_append, List.length_take]; omega
  have h06 := h05.fresh hk6 fun x e => fr e
  refine (kheld_ok hp6).mono fun v w7 ⟨a7, c7, hv7, ho7, hf7, hk7⟩ => ⟨_, _, _, hv7, ?_⟩
  have h07 := h06.no hk7
  refine (copyb_ok ho7.rd (by have := hp6.len; omega)).mono fun v w8 ⟨a8, c8, hv8, ho8, hk8, hf8⟩ => ⟨_, _, _, hv8, ?_⟩
  have h08 := h07.no hk8
  have hlt7 := SlO.lt ho7
  refine (spoil_ok (ho7.keep hk8 (fun _ _ e => e)) (by have := hp6.len; omega)).mono fun v w9 ⟨hv9, ho9, hk9⟩ => ⟨hv9, ?_⟩
  have h09 := h08.fresh hk9 (fun x hx => Nat.le_trans h06.size (hf7 x hx))
  have hb7 := hp6.lt
  have hp9 := ((hp6.keep hk7 (fun e => e)).keep hk8 (fun e => e)).keep hk9 (fun hin => by have := hf7 _ hin; omega)
  have ho8' := ho8.keep hk9 (fun x hx hin => by have h1 := hf8 x hx; have h2 := hlt7 x hin; omega)
  refine (kread_ok hp9 0).mono fun v w10 ⟨a10, l10, c10, hv10, _, _, hp10, hk10⟩ => ⟨_, _, _, _, hv10, ?_⟩
  have r10 : readP 0 bs 1 1 = ([], 4, bs) := by unfold readP; rw [if_pos (by decide)]
  rw [r10] at hp10
  rw [r10]
  have h010 := h09.fresh hk10 fun x e => fr e
  intro w11
  have hk11 : Kept No w10 w11 := Kept.alloc _ _ _
  have hr11 : RdB w11 (some ⟨w10.heap.size, 0, none⟩) 1 1 [1] := rd_alloc w10 [1] _
  clear_value w11
  have h8b : ∀ x, inA a8 x → ¬ x = b := fun x hx e => by have := hf8 x hx; have := (hk7).size; omega
  refine (kwrite_ok (hp10.keep hk11 (fun e => e)) hr11 (fun _ e => by rw [inA_some] at e; have := hp10.lt; omega) (Nat.le_refl _) 0).mono fun v w12 ⟨hv12, hp12, hk12⟩ => ⟨_, _, hv12, ?_⟩
  have r12 : writeP [1] 0 bs 1 1 = (0, 4, bs) := by unfold writeP; rw [if_neg (by decide), if_pos (by decide)]
  rw [r12] at hp12
  rw [r12]
  have h012 := (h010.no hk11).fresh hk12 fun x e => fr e
  have ho12 := ((ho8'.keep hk10 h8b).keep hk11 (fun _ _ e => e)).keep hk12 h8b
  refine knum_to ⟨_, rfl, condT rfl (knum_to ⟨_, rfl, condT rfl ?_⟩)⟩
  refine (kheld_ok hp12).mono fun v w13 ⟨a13, c13, hv13, ho13, hf13, hk13⟩ => ⟨_, _, _, hv13, ?_⟩
  refine (same_ok ho13.rd (ho12.keep hk13 (fun _ _ e => e)).rd (by have := hp6.len; show bs.length ≤ _; omega)).mono fun v w14 ⟨hv14, hk14, _⟩ => ⟨_, hv14, condT (by simp) ⟨?_, (h012.no hk13).no hk14⟩⟩
  rw [hbl]; simp

end Go.Proofs.Ytmpmobhofdefeaa
