/-
  The page's example of memories lives. Conditions: none.
-/
import Derived.Test.YtmpmobhofdefeaaMemD
import Derived.Test.YtmpmobhofdefeaaLN
set_option linter.unusedVariables false
namespace Go.Proofs.Ytmpmobhofdefeaa
open Go.Lw

theorem nnum_to {w : World} {n : Int} {Q : Value → World → Prop} (h : Q (.int .i64 n) w) : CallR Try.prog 40 [.int .i64 n] w Q := C40 h

theorem str_is {s : ByteArray} {bs : List Int} (h : strOfNums bs = s) : (ByteArray.toList (strOfNums bs) == ByteArray.toList s) = true := by rw [h]; exact beq_self_eq_true _

theorem In_rd (w : World) (ns : List Int) (e : TypeId) : RdS 1 (w.alloc (.cells (In ns).toArray e)) (some ⟨w.heap.size, 0, none⟩) ns.length ns.length (In ns) := by
  have := (SlO.of_blk (sz := 1) (n := ns.length) (Blk.alloc w (In ns).toArray e) (by simp)).rd
  simpa using this

theorem MNew.one {w w' : World} {e : Int} {bs : List Int} {room : Nat} {v : Value} (h : MNew w e bs room v w') (he : e = 0) : ∃ b F', v = .tuple #[pt b, .int .i64 0] ∧ StO F' w' b bs room 0 ∧ Kept No w w' ∧ ∀ x, F' x → w.heap.size ≤ x := by
  rcases h with ⟨h, _⟩ | ⟨_, h⟩
  · exact absurd he h
  · exact h
theorem CNew.one {w w' : World} {e : Int} {rs : List (List Int × Int)} {ws : List Int} {v : Value} (h : CNew w e rs ws v w') (he : e = 0) : ∃ b F', v = .tuple #[pt b, .int .i64 0] ∧ CuO F' w' b rs ws [] ∧ Kept No w w' ∧ ∀ x, F' x → w.heap.size ≤ x := by
  rcases h with ⟨h, _⟩ | ⟨_, h⟩
  · exact absurd he h
  · exact h
theorem CuO.lt {F : Nat → Prop} {w : World} {b : Nat} {rs : List (List Int × Int)} {ws tk : List Int} (h : CuO F w b rs ws tk) : ∀ x, F x → x < w.heap.size := by
  obtain ⟨_, _, _, _, _, _, _, _, _, _, _, _, _, _, _, _, h6, _⟩ := h; exact h6

theorem nalive_ok {w : World} : CallR Try.prog 38 [] w fun v w' => v = .bool true ∧ Kept No w w' := by
  refine C38 ?_
  unfold L38
  refine (mnewF_ok 3 (RdB.nil w)).mono fun v w1 hm => ?_
  obtain ⟨b1, F1, hv1, hx1, hk1, hf1⟩ := hm.one (by decide)
  refine ⟨_, _, hv1, ?_⟩
  intro w2
  obtain ⟨w3, hr3, hrd3, hk3, hz3⟩ := run_const (P := Try.prog) w1 (t := 26) (e := 5) (by kernel_rfl) [97, 98]
  refine ⟨_, _, _, w3, hr3, ?_⟩
  intro w4
  have hk4 : Kept No w3 w4 := Kept.alloc _ w3 _
  have hb4 : Blk w4 w3.heap.size #[.slice (some ⟨w1.heap.size, 0, none⟩) 2 2, .int .i64 0] := Blk.alloc w3 _ _
  have hs4 : w4.heap.size = w3.heap.size + 1 := by simp [w4]
  clear_value w4
  intro w5
  have hk5 : Kept No w4 w5 := Kept.alloc _ w4 _
  have hi5 : RdS 1 w5 (some ⟨w4.heap.size, 0, none⟩) 2 2 (In [1, -1]) := In_rd w4 [1, -1] _
  clear_value w5
  have hA5 : RdA (fun _ => True) w5 (some ⟨w3.heap.size, 0, none⟩) 1 1 [([97, 98], 0)] := by
    refine ⟨[((some ⟨w1.heap.size, 0, none⟩, 2, 2), 0)], (SlO.of_blk (sz := 2) (n := 1) (hb4.keep hk5 (fun e => e)) rfl).rd, ?_, fun _ _ _ => trivial⟩
    exact AnsR.cons (AnsR.nil _ _) ((hrd3.keep hk4 (fun _ _ _ e => e)).keep hk5 (fun _ _ _ e => e)) rfl (fun _ _ _ => trivial)
  have h15 := (hk3.no hk4).no hk5
  have h05 := hk1.no h15
  refine (cnew_ok hA5 hi5).mono fun v w6 hm => ?_
  obtain ⟨b2, F2, hv6, hc6, hk6, hf6⟩ := hm.one (by decide)
  refine ⟨_, _, hv6, nnum_to ⟨_, rfl, nnum_to ⟨_, rfl, by unfold inI; omega, condF rfl (condF rfl (condF rfl ?_))⟩⟩⟩
  have hx6 := hx1.keep (h15.no hk6) (fun _ _ e => e)
  have h06 := h05.no hk6
  have hs15 := h15.size
  have hs05 := h05.size
  have hs06 := h06.size
  have hd6 : ∀ x, F1 x → ¬ F2 x := fun x hx hy => by have := hx1.lt x hx; have := hf6 x hy; omega
  have hw1 : ∀ x, F1 x → w.heap.size ≤ x := hf1
  have hw2 : ∀ x, F2 x → w.heap.size ≤ x := fun x hx => by have := hf6 x hx; omega
  clear hd6
  intro w9
  obtain ⟨w10, hr10, hrd10, hk10, hz10⟩ := run_const (P := Try.prog) w6 (t := 26) (e := 5) (by kernel_rfl) [97, 98, 99, 100]
  refine ⟨_, _, _, w10, hr10, ?_⟩
  have hl1 : ∀ x, F1 x → x < w6.heap.size := hx6.lt
  have hl2 : ∀ x, F2 x → x < w6.heap.size := hc6.lt
  refine (fwrite_ok (hx6.keep hk10 (fun _ _ e => e)) hrd10 (fun _ k hk hF => by rw [inA_some] at hk; have := hl1 k hF; omega)).mono fun v w11 ⟨hv11, F3, hx11, hg11, hk11⟩ => ⟨_, _, hv11, ?_⟩
  rw [show writeM [97, 98, 99, 100] [] (Int.toNat 3) 0 = (3, 0, [97, 98, 99], 3) by decide] at *
  have hd11 : ∀ x, F2 x → ¬ F1 x := fun x hx hy => by have := hx1.lt x hy; have := hf6 x hx; omega
  have hc11 := (hc6.keep hk10 (fun _ _ e => e)).keep hk11 hd11
  have hd3 : ∀ x, F2 x → ¬ F3 x := fun x hx hy => by
    rcases hg11 x hy with h | h
    · exact hd11 x hx h
    · have := hl2 x hx; omega
  have hw3 : ∀ x, F3 x → w.heap.size ≤ x := fun x hx => by
    rcases hg11 x hx with h | h
    · exact hw1 x h
    · have := hk10.size; omega
  have h011 := (h06.no hk10).fresh hk11 hw1
  intro w12
  obtain ⟨w13, hr13, hrd13, hk13, hz13⟩ := run_const (P := Try.prog) w11 (t := 26) (e := 5) (by kernel_rfl) [101]
  refine ⟨_, _, _, w13, hr13, ?_⟩
  refine (fwrite_ok (hx11.keep hk13 (fun _ _ e => e)) hrd13 (fun _ k hk hF => by rw [inA_some] at hk; have := hx11.lt k hF; omega)).mono fun v w14 ⟨hv14, F4, hx14, hg14, hk14⟩ => ⟨_, _, hv14, ?_⟩
  rw [show writeM [101] [97, 98, 99] (Int.toNat 3) 3 = (0, 31, [97, 98, 99], 3) by decide] at *
  have hc13 := hc11.keep hk13 (fun _ _ e => e)
  have hc14 := hc13.keep hk14 hd3
  have hd4 : ∀ x, F2 x → ¬ F4 x := fun x hx hy => by
    rcases hg14 x hy with h | h
    · exact hd3 x hx h
    · have := hc13.lt x hx; omega
  have hw4 : ∀ x, F4 x → w.heap.size ≤ x := fun x hx => by
    rcases hg14 x hx with h | h
    · exact hw3 x h
    · have := hk13.size; have := h011.size; omega
  have h014 := (h011.no hk13).fresh hk14 hw3
  refine (fseek_ok hx14 1 0).mono fun v w15 ⟨hv15, hx15, hk15⟩ => ⟨_, _, hv15, ?_⟩
  rw [show seekM 1 0 [97, 98, 99] (Int.toNat 3) 3 = (1, 0, 1) by decide] at *
  refine (fread_ok hx15 9).mono fun v w16 ⟨a16, l16, c16, hv16, ho16, hf16, hx16, hk16⟩ => ⟨_, _, _, _, hv16, ?_⟩
  rw [show readM 9 [97, 98, 99] 1 = ([98, 99], 0, 3) by decide] at *
  have hc16 := (hc14.keep hk15 hd4).keep hk16 hd4
  have h016 := (h014.fresh hk15 hw4).fresh hk16 hw4
  refine (cread_ok hc16 (by rintro r t h; cases h; rfl) 1).mono fun v w17 ⟨a17, l17, c17, hv17, ho17, hf17, hc17, hk17⟩ => ⟨_, _, _, _, hv17, ?_⟩
  rw [show readC 1 [([97, 98], 0)] = ([97], 0, [([98], 0)]) by decide] at *
  have hs15' := hk15.size
  have ho16' := ho16.keep hk17 (fun x hx hF => by have := hf16 x hx; have := hc14.lt x hF; omega)
  have h017 := h016.fresh hk17 hw2
  intro w18
  obtain ⟨w19, hr19, hrd19, hk19, hz19⟩ := run_const (P := Try.prog) w17 (t := 26) (e := 5) (by kernel_rfl) [120, 121, 122]
  refine ⟨_, _, _, w19, hr19, ?_⟩
  refine (cwrite_ok (hc17.keep hk19 (fun _ _ e => e)) hrd19 (fun _ k hk hF => by rw [inA_some] at hk; have := hc17.lt k hF; omega) (by decide) (by decide)).mono fun v w20 ⟨hv20, F5, hc20, hg20, hk20⟩ => ⟨_, _, hv20, ?_⟩
  rw [show writeC [120, 121, 122] [1, -1] [] = (1, 0, [-1], [120]) by decide] at *
  have hw5 : ∀ x, F5 x → w.heap.size ≤ x := fun x hx => by
    rcases hg20 x hx with h | h
    · exact hw2 x h
    · have := hk19.size; have := h017.size; omega
  have h020 := (h017.no hk19).fresh hk20 hw2
  have hF2lt : ∀ x, F2 x → x < w16.heap.size := hc16.lt
  have hF16 : ∀ x, F2 x → x < w14.heap.size := hc14.lt
  have ho16'' := (ho16'.keep hk19 (fun _ _ e => e)).keep hk20 (fun x hx hF => by have := hf16 x hx; have := hF16 x hF; omega)
  have ho17' := (ho17.keep hk19 (fun _ _ e => e)).keep hk20 (fun x hx hF => by have := hf17 x hx; have := hF2lt x hF; omega)
  intro w21
  obtain ⟨w22, hr22, hrd22, hk22, hz22⟩ := run_const (P := Try.prog) w20 (t := 26) (e := 5) (by kernel_rfl) [122]
  refine ⟨_, _, _, w22, hr22, ?_⟩
  refine (cwrite_ok (hc20.keep hk22 (fun _ _ e => e)) hrd22 (fun _ k hk hF => by rw [inA_some] at hk; have := hc20.lt k hF; omega) (by decide) (by decide)).mono fun v w23 ⟨hv23, F6, hc23, hg23, hk23⟩ => ⟨_, _, hv23, ?_⟩
  rw [show writeC [122] [-1] [120] = (0, 101, [], [120]) by decide] at *
  have h023 := (h020.no hk22).fresh hk23 hw5
  have hlt16 : ∀ x, inA a16 x → x < w16.heap.size := fun x hx => SlO.lt ho16 x hx
  have hlt17 : ∀ x, inA a17 x → x < w17.heap.size := fun x hx => SlO.lt ho17 x hx
  have hs17' := hk17.size
  have hs19' := hk19.size
  have hF5 : ∀ x, F5 x → F2 x ∨ w19.heap.size ≤ x := hg20
  have ho16f := (ho16''.keep hk22 (fun _ _ e => e)).keep hk23 (fun x hx hF => by
    rcases hF5 x hF with h | h
    · have := hf16 x hx; have := hF16 x h; omega
    · have := hlt16 x hx; omega)
  have ho17f := (ho17'.keep hk22 (fun _ _ e => e)).keep hk23 (fun x hx hF => by
    rcases hF5 x hF with h | h
    · have := hf17 x hx; have := hF2lt x h; omega
    · have := hlt17 x hx; omega)
  refine nnum_to ⟨_, rfl, nnum_to ⟨_, rfl, ⟨by decide, by decide⟩, nnum_to ⟨_, rfl, ⟨by decide, by decide⟩, nnum_to ⟨_, rfl, ⟨by decide, by decide⟩, nnum_to ⟨_, rfl, ⟨by decide, by decide⟩, condT rfl (condT rfl (nnum_to ⟨_, rfl, condT rfl (condT rfl ?_)⟩))⟩⟩⟩⟩⟩
  refine ⟨_, _, run_str (P := Try.prog) w23 (t := 26) (ts := 9) (by kernel_rfl) (by kernel_rfl) ho16f.rd, condT (str_is rfl) ?_⟩
  exact ⟨_, _, run_str (P := Try.prog) w23 (t := 26) (ts := 9) (by kernel_rfl) (by kernel_rfl) ho17f.rd, condT (str_is rfl) (condT rfl (nnum_to ⟨_, rfl, rfl, h023⟩))⟩

end Go.Proofs.Ytmpmobhofdefeaa
