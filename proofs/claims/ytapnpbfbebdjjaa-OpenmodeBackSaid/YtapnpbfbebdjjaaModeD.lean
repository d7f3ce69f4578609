/-
  The page's examples of modes live. Conditions: none.
-/
import Derived.Test.YtapnpbfbebdjjaaModeC
set_option linter.unusedVariables false
namespace Go.Proofs.Ytapnpbfbebdjjaa
open Go.Lw

def mA : Md := { Md.no with r := true, w := true, b := true }

theorem pA : parseM (ByteArray.mk #[114, 98, 43]) = (mA, 0, 3) := by decide +kernel
theorem pB : parseM (ByteArray.mk #[114, 120]) = (Md.no, 91, 1) := by decide +kernel
theorem prA : printM mA = (ByteArray.mk #[114, 43, 98], 0) := by kernel_rfl

/-- A mode that a call answers is laid into a variable. -/
theorem lay8 {w : World} {e : TypeId} {m : Md} {K : World → Prop} (hk : ∀ w', Blk w' w.heap.size m.cs → Kept No w w' → K w') :
    let w2 := World.alloc w (Obj.cells #[.bool false, .bool false, .bool false, .bool false, .bool false, .bool false, .bool false, .bool false] e)
    stC (Addr.mk w.heap.size 0 none) (.bool m.r) w2 fun w1 => stC (Addr.mk w.heap.size 1 none) (.bool m.w) w1 fun w2 => stC (Addr.mk w.heap.size 2 none) (.bool m.a) w2 fun w3 => stC (Addr.mk w.heap.size 3 none) (.bool m.c) w3 fun w4 =>
      stC (Addr.mk w.heap.size 4 none) (.bool m.t) w4 fun w5 => stC (Addr.mk w.heap.size 5 none) (.bool m.x) w5 fun w6 => stC (Addr.mk w.heap.size 6 none) (.bool m.b) w6 fun w7 => stC (Addr.mk w.heap.size 7 none) (.bool m.k) w7 K := by
  intro w2
  have hx : Blk w2 w.heap.size Md.no.cs := Blk.alloc _ _ _
  have hk2 : Kept No w w2 := Kept.alloc _ _ _
  clear_value w2
  exact st8 hx rfl fun w3 hx3 hk3 _ => hk w3 hx3 (hk2.fresh hk3 (fun x e => by rw [e]; exact Nat.le_refl _))

theorem oalive_ok {w : World} : CallR Try.prog 24 [] w fun v w' => v = .bool true ∧ Kept No w w' := by
  refine C24 ?_
  unfold L24
  refine (oparse_ok (ByteArray.mk #[114, 98, 43]) (by decide)).mono fun v w1 ⟨hv1, hk1⟩ => ?_
  unfold parsed at hv1
  rw [pA] at hv1
  refine ⟨_, _, _, _, _, _, _, _, _, _, hv1, lay8 (m := mA) fun w2 hx2 hk2 => ?_⟩
  refine ld8 hx2 ((oprint_ok mA).mono fun v w3 ⟨hv3, hk3⟩ => ?_)
  rw [prA] at hv3
  refine ⟨_, _, hv3, (oparse_ok (ByteArray.mk #[114, 120]) (by decide)).mono fun v w4 ⟨hv4, hk4⟩ => ?_⟩
  unfold parsed at hv4
  rw [pB] at hv4
  have hx4 := (hx2.keep hk3 (fun e => e)).keep hk4 (fun e => e)
  refine ⟨_, _, _, _, _, _, _, _, _, _, hv4, lay8 (m := Md.no) fun w5 hx5 hk5 => ?_⟩
  have hx25 := hx4.keep hk5 (fun e => e)
  have hk05 := (((hk1.no hk2).no hk3).no hk4).no hk5
  refine onum_to ⟨_, rfl, onum_to ⟨_, rfl, by unfold inI; decide, condT rfl (condT rfl ⟨_, (hx25.cell 0).trans rfl, condT rfl ⟨_, (hx25.cell 1).trans rfl, condT rfl ⟨_, (hx25.cell 6).trans rfl, condT rfl (condT ?_ (onum_to ⟨_, rfl, condT rfl ⟨rfl, hk05⟩⟩))⟩⟩⟩)⟩⟩
  exact beq_self_eq_true _

end Go.Proofs.Ytapnpbfbebdjjaa
