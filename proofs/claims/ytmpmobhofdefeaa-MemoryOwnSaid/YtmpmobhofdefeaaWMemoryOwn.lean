/-
  What was handed in is not kept, what is answered is its holder's; memories that no call made: the walk. Conditions: none.
-/
import Derived.Test.YtmpmobhofdefeaaMemH
import Derived.Test.YtmpmobhofdefeaaOMemoryOwn
set_option linter.unusedVariables false
namespace Go.Proofs.Ytmpmobhofdefeaa
open Go.Lw

theorem walk_memoryOwn {W : World} {args : List Value} (h : V15 W args) : CallR Try.prog 15 args W fun v w' => v = .bool true ∧ Kept No W w' := by
  obtain ⟨a, l, c, bs, hbs, _, hl, rfl⟩ := h
  have hbs : RdB W a l c bs := hbs
  have hlen := hbs.len
  refine C15 ?_
  unfold L15
  refine nalive_ok.mono fun v w1 ⟨hv1, hk1⟩ => ⟨_, hv1, condF rfl ?_⟩
  refine (nnothing_ok (.inl rfl) (.inl rfl) (.inl rfl) (.inl rfl)).mono fun v w2 ⟨hv2, hk2⟩ => ⟨_, hv2, condF rfl ?_⟩
  have h02 := hk1.no hk2
  intro w3
  have hk3 : Kept No w2 w3 := Kept.alloc _ w2 _
  have hb3 : Blk w3 w2.heap.size #[.bool false, .slice none 0 0, .int .i64 0, .int .i64 0] := Blk.alloc w2 _ _
  clear_value w3
  intro w4
  have hk4 : Kept No w3 w4 := Kept.alloc _ w3 _
  have hb4 : Blk w4 w3.heap.size #[.bool false, .slice none 0 0, .int .i64 0, .int .i64 0] := Blk.alloc w3 _ _
  clear_value w4
  intro w5
  have hk5 : Kept No w4 w5 := Kept.alloc _ w4 _
  have hb5 : Blk w5 w4.heap.size #[.bool false, .slice none 0 0, .int .i64 0, .int .i64 0] := Blk.alloc w4 _ _
  clear_value w5
  intro w6
  have hk6 : Kept No w5 w6 := Kept.alloc _ w5 _
  have hb6 : Blk w6 w5.heap.size #[.bool false, .slice none 0 0, .slice none 0 0, .slice none 0 0] := Blk.alloc w5 _ _
  clear_value w6
  refine (nnothing_ok (.inr ⟨_, rfl, ((hb3.keep hk4 (fun e => e)).keep hk5 (fun e => e)).keep hk6 (fun e => e)⟩) (.inr ⟨_, rfl, (hb4.keep hk5 (fun e => e)).keep hk6 (fun e => e)⟩) (.inr ⟨_, rfl, hb5.keep hk6 (fun e => e)⟩) (.inr ⟨_, rfl, hb6⟩)).mono fun v w7 ⟨hv7, hk7⟩ => ⟨_, hv7, condF rfl ?_⟩
  have h07 := ((((h02.no hk3).no hk4).no hk5).no hk6).no hk7
  have h07s := h07.size
  refine (copyb_ok (hbs.keep h07 (fun _ _ _ e => e)) (by omega)).mono fun v w8 ⟨a8, c8, hv8, ho8, hk8, hf8⟩ => ⟨_, _, _, hv8, ?_⟩
  have h08 := h07.no hk8
  have hlt8 : ∀ x, inA a8 x → x < w8.heap.size := fun x hx => SlO.lt ho8 x hx
  refine (mnewG_ok ho8.rd).mono fun v w9 hm => ?_
  rcases hm with ⟨he, hv9, hk9⟩ | ⟨he, g, F, hv9, hg9, hk9, hf9⟩
  · exact ⟨_, _, hv9, nnum_to ⟨_, rfl, condT (by simpa using he) ⟨rfl, h08.no hk9⟩⟩⟩
  have hsmall : ¬ bs.length > 1048576 := fun e => by rw [if_pos e] at he; cases he
  refine ⟨_, _, hv9, nnum_to ⟨_, rfl, condF rfl (condF rfl ?_)⟩⟩
  have ho9 := ho8.keep hk9 (fun _ _ e => e)
  refine (mnewR_ok ho9.rd).mono fun v w11 hm => ?_
  rcases hm with ⟨he2, _⟩ | ⟨_, r, F2, hv11, hr11, hk11, hf11⟩
  · rw [if_neg hsmall] at he2; exact absurd rfl he2
  refine ⟨_, _, hv11, ?_⟩
  have ho11 := ho9.keep hk11 (fun _ _ e => e)
  have hg11 := hg9.keep hk11 (fun _ _ e => e)
  have hs9 := hk9.size
  refine (spoil_ok ho11 (by omega)).mono fun v w12 ⟨hv12, ho12, hk12⟩ => ⟨hv12, ?_⟩
  have hg12 := hg11.keep hk12 (fun x hx e => by have := hf9 x hx; have := hlt8 x e; omega)
  have hr12 := hr11.keep hk12 (fun x hx e => by have := hf11 x hx; have := hlt8 x e; omega)
  have h012 := ((h08.no hk9).no hk11).fresh hk12 (fun x hx => by have := hf8 x hx; omega)
  refine (gbytes_ok hg12).mono fun v w13 ⟨a19, c19, hv13, ho13, hf13, hk13⟩ => ⟨_, _, _, hv13, ?_⟩
  refine (spoil_ok ho13 (by omega)).mono fun v w14 ⟨hv14, ho14, hk14⟩ => ⟨hv14, ?_⟩
  have hg14 := (hg12.keep hk13 (fun _ _ e => e)).keep hk14 (fun x hx e => by have := hg12.lt x hx; have := hf13 x e; omega)
  have hr14 := (hr12.keep hk13 (fun _ _ e => e)).keep hk14 (fun x hx e => by have := hr12.lt x hx; have := hf13 x e; omega)
  have h012s := h012.size
  have h014 := (h012.no hk13).fresh hk14 (fun x hx => by have := hf13 x hx; omega)
  refine nnum_to ⟨_, rfl, condF rfl (condF rfl ?_)⟩
  refine (rdread_ok hr14 (l : Int)).mono fun v w16 ⟨a24, l24, c24, hv16, ho16, hf16, hr16, hk16⟩ => ⟨_, _, _, _, hv16, ?_⟩
  have e : readM (l : Int) bs 0 = (bs, 0, bs.length) := by
    unfold readM
    rw [if_neg (by omega), Int.toNat_natCast, List.drop_zero, List.take_of_length_le (by omega)]; simp
  rw [e] at ho16 hr16 ⊢
  have h08s := h08.size
  have hF2 : ∀ x, F2 x → W.heap.size ≤ x := fun x hx => by have := hf11 x hx; omega
  have h016 := h014.fresh hk16 hF2
  have hg16 := hg14.keep hk16 (fun x hx e => by have := hg9.lt x hx; have := hf11 x e; omega)
  intro w17
  have hk17 : Kept No w16 w17 := Kept.alloc _ w16 _
  clear_value w17
  refine rdwrite_to (hr16.keep hk17 (fun _ _ e => e)) ⟨_, _, rfl, nnum_to ⟨_, rfl, condT rfl ?_⟩⟩
  have h017 := h016.no hk17
  have hl16 : bs.length = l24 := ho16.len
  refine (same_ok (ho16.keep hk17 (fun _ _ e => e)).rd (hbs.keep h017 (fun _ _ _ e => e)) (by omega)).mono fun v w20 ⟨hv20, hk20, _⟩ => ⟨_, hv20, condT (by simp) (nnum_to ⟨_, rfl, condT rfl ?_⟩)⟩
  have h020 := h017.no hk20
  refine (gbytes_ok ((hg16.keep hk17 (fun _ _ e => e)).keep hk20 (fun _ _ e => e))).mono fun v w22 ⟨a36, c36, hv22, ho22, hf22, hk22⟩ => ⟨_, _, _, hv22, ?_⟩
  have h022 := h020.no hk22
  exact (same_ok ho22.rd (hbs.keep h022 (fun _ _ _ e => e)) (by omega)).mono fun v w23 ⟨hv23, hk23, _⟩ => ⟨_, hv23, by simp, h022.no hk23⟩

end Go.Proofs.Ytmpmobhofdefeaa
