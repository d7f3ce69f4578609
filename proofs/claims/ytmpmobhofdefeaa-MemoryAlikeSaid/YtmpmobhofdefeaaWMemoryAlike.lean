/-
  Memory of a fixed size and memory that grows are alike: the walk. Conditions: none.
-/
import Derived.Test.YtmpmobhofdefeaaMemF
import Derived.Test.YtmpmobhofdefeaaOMemoryAlike
set_option linter.unusedVariables false
namespace Go.Proofs.Ytmpmobhofdefeaa
open Go.Lw

theorem readM_len (n : Int) (bs : List Int) (pl : Nat) : (readM n bs pl).1.length ≤ bs.length := by
  unfold readM; split
  · simp
  · simp only [List.length_take, List.length_drop]; omega

theorem walk_memoryAlike {W : World} {args : List Value} (h : V14 W args) : CallR Try.prog 14 args W fun v w' => v = .bool true ∧ Kept No W w' := by
  obtain ⟨a1, l1, c1, bs, hbs, _, hl1, a, l, c, hlc, hz, hl, hst, rfl⟩ := h
  have hbs : RdB W a1 l1 c1 bs := hbs
  have hbl := hbs.len
  refine C14 ?_
  unfold L14
  refine nalive_ok.mono fun v w1 ⟨hv1, hk1⟩ => ⟨_, hv1, condF rfl ?_⟩
  have hb1 := hbs.keep hk1 (fun _ _ _ e => e)
  refine (mnewF_ok 1048576 hb1).mono fun v w2 hm => ?_
  have hk2 : Kept No w1 w2 := by obtain ⟨p, _, hk⟩ := hm.eq; exact hk
  have hb2 := hb1.keep hk2 (fun _ _ _ e => e)
  have hee : newFE 1048576 bs.length = if bs.length > 1048576 then 5 else 0 := by
    unfold newFE
    rw [if_neg (by omega)]
    by_cases g : bs.length > 1048576
    · rw [if_pos g, if_pos (by omega)]
    · rw [if_neg g, if_neg (by omega)]
  have h1s := hk1.size
  rcases hm with ⟨he, hv2, _⟩ | ⟨he, b, F, hv2, hx2, _, hf2⟩
  · refine ⟨_, _, hv2, (mnewG_ok hb2).mono fun v w3 hm3 => ?_⟩
    rw [hee] at he
    rcases hm3 with ⟨he3, hv3, hk3⟩ | ⟨he3, _⟩
    rotate_left 1
    · exact absurd he3 he
    have h03 := (hk1.no hk2).no hk3
    refine ⟨_, _, hv3, condF (by rw [hee]; simp) (condF rfl ?_)⟩
    refine ⟨fun vs w => Kept No W w, fun vs _ => 0, h03, ?_⟩
    intro _ n13 w4 h04
    exact condF rfl (condT rfl ⟨rfl, h04⟩)
  · refine ⟨_, _, hv2, (mnewG_ok hb2).mono fun v w3 hm3 => ?_⟩
    rw [hee] at he
    rcases hm3 with ⟨he3, _⟩ | ⟨he3, b', F', hv3, hy3, hk3, hf3⟩
    · exact absurd he he3
    have h03 := (hk1.no hk2).no hk3
    have h2s := hk2.size
    refine ⟨_, _, hv3, condF rfl (condF rfl ?_)⟩
    refine ⟨fun vs w => ∃ (i : Nat) (bs : List Int) (pl : Nat) (F F' : Nat → Prop), vs = [.int .i64 (i : Int)] ∧ i ≤ l ∧ Kept No W w ∧ StO F w b bs 1048576 pl ∧ StO F' w b' bs 1048576 pl ∧ (∀ x, F x → W.heap.size ≤ x ∧ ¬ F' x) ∧ (∀ x, F' x → W.heap.size ≤ x),
      fun vs _ => l - ix vs, ⟨0, bs, 0, F, F', rfl, Nat.zero_le _, h03, hx2.keep hk3 (fun _ _ e => e), hy3, fun x hx => ⟨by have := hf2 x hx; omega, fun e => by have := hf3 x e; have := hx2.lt x hx; omega⟩, fun x hx => by have := hf3 x hx; omega⟩, ?_⟩
    intro _ n13 w4 hI
    obtain ⟨i, bs, pl, F, F', hvs, hi, h04, hx4, hy4, hF, hF'⟩ := hI
    simp only [List.cons.injEq, Value.int.injEq, true_and, and_true] at hvs
    subst hvs
    have hend : ∀ {w' : World}, Kept No W w' → StO F w' b bs 1048576 pl → StO F' w' b' bs 1048576 pl → True := fun _ _ _ => trivial
    have h04s := h04.size
    refine condT rfl (condP (fun hlt => ?_) (fun hge => condF rfl ?_))
    · have hil : i < l := by omega
      obtain ⟨q, rfl⟩ : ∃ q, a = some q := by
        cases a with
        | none => have := hz rfl; omega
        | some q => exact ⟨q, rfl⟩
      obtain ⟨x1, _, x2, _, x3, _, a9, l9, c9, ds, hd, _, hl9, k1, k2, k3, k4, _⟩ := hst q rfl i hil
      have hd : RdB W a9 l9 c9 ds := hd
      have hr : (0 ≤ (i : Int) ∧ (i : Int) < ((l : Nat) : Int)) := by omega
      have hold : ds ≠ [] → ∀ x, inA a9 x → x < W.heap.size := fun hne x hx => RdB.old hd hne x hx
      have hnext : ∀ {w' : World} {bs' : List Int} {pl' : Nat} {F2 F2' : Nat → Prop}, Kept No W w' → StO F2 w' b bs' 1048576 pl' → StO F2' w' b' bs' 1048576 pl' → (∀ x, F2 x → W.heap.size ≤ x ∧ ¬ F2' x) → (∀ x, F2' x → W.heap.size ≤ x) →
          inI ((i : Int) + 1) ∧ (∃ (i' : Nat) (bs : List Int) (pl : Nat) (F F' : Nat → Prop), [Value.int .i64 ((i : Int) + 1)] = [.int .i64 (i' : Int)] ∧ i' ≤ l ∧ Kept No W w' ∧ StO F w' b bs 1048576 pl ∧ StO F' w' b' bs 1048576 pl ∧ (∀ x, F x → W.heap.size ≤ x ∧ ¬ F' x) ∧ (∀ x, F' x → W.heap.size ≤ x)) ∧
          l - ix [Value.int .i64 ((i : Int) + 1)] < l - ix [Value.int .i64 (i : Int)] :=
        fun k1 k2 k3 k4 k5 => ⟨by unfold inI; omega, ⟨i + 1, _, _, _, _, by simp, by omega, k1, k2, k3, k4, k5⟩, by simp only [ix]; omega⟩
      refine ⟨hr, nnI ⟨x1, by rw [Int.toNat_natCast]; exact h04.cell k1 (fun e => e), condI (fun _ => ⟨hr, nnI ⟨x2, by rw [Int.toNat_natCast]; exact h04.cell k2 (fun e => e), ?_⟩⟩) (fun _ => condI (fun _ => ⟨hr, nnI ⟨a9, l9, c9, by rw [Int.toNat_natCast]; exact h04.cell k4 (fun e => e), ?_⟩⟩) (fun _ => condI (fun _ => ?_) (fun _ => hnext h04 hx4 hy4 hF hF')))⟩⟩
      · refine (fread_ok hx4 x2).mono fun v w5 ⟨a5, l5, c5, hv5, ho5, hfr5, hx5, hk5⟩ => ⟨_, _, _, _, hv5, hr, ?_⟩
        have h05 := h04.fresh hk5 (fun x hx => (hF x hx).1)
        have hy5 := hy4.keep hk5 (fun x hx e => (hF x e).2 hx)
        refine nnI ⟨x2, by rw [Int.toNat_natCast]; exact h05.cell k2 (fun e => e), ?_⟩
        refine (gread_ok hy5 x2).mono fun v w6 ⟨a6, l6, c6, hv6, ho6, hfr6, hy6, hk6⟩ => ⟨_, _, _, _, hv6, ?_⟩
        have h06 := h05.fresh hk6 hF'
        have ho56 := ho5.keep hk6 (fun x hx e => by have := hfr5 x hx; have := hy4.lt x e; omega)
        have hl5 := ho5.len
        have hl5' := readM_len x2 bs pl
        have hlb := hx4.is.1
        refine (same_ok ho56.rd ho6.rd (by omega)).mono fun v w7 ⟨hv7, hk7, _⟩ => ⟨_, hv7, condF (by simp) (condF (by simp) ?_)⟩
        exact hnext (h06.no hk7) ((hx5.keep hk6 (fun x hx e => (hF x hx).2 e)).keep hk7 (fun _ _ e => e)) (hy6.keep hk7 (fun _ _ e => e)) hF hF'
      · refine (fwrite_ok hx4 (hd.keep h04 (fun _ _ _ e => e)) (fun hne k hk hf => by have := hold hne k hk; have := (hF k hf).1; omega)).mono fun v w8 ⟨hv8, F8, hx8, hg8, hk8⟩ => ⟨_, _, hv8, hr, ?_⟩
        have h08 := h04.fresh hk8 (fun x hx => (hF x hx).1)
        have hy8 := hy4.keep hk8 (fun x hx e => (hF x e).2 hx)
        refine nnI ⟨a9, l9, c9, by rw [Int.toNat_natCast]; exact h08.cell k4 (fun e => e), ?_⟩
        refine (gwrite_ok hy8 (hd.keep h08 (fun _ _ _ e => e)) (fun hne k hk hf => by have := hold hne k hk; have := hF' k hf; omega)).mono fun v w9 ⟨hv9, F9, hy9, hg9, hk9⟩ => ⟨_, _, hv9, condF (by simp) (condF (by simp) ?_)⟩
        have hF8 : ∀ x, F8 x → W.heap.size ≤ x ∧ ¬ F' x := fun x hx => by
          rcases hg8 x hx with h | h
          · exact hF x h
          · exact ⟨by omega, fun e => by have := hy4.lt x e; omega⟩
        have hs8 := hk8.size
        refine hnext (h08.fresh hk9 hF') (hx8.keep hk9 (fun x hx e => (hF8 x hx).2 e)) hy9 (fun x hx => ⟨(hF8 x hx).1, fun e => ?_⟩) (fun x hx => ?_)
        · rcases hg9 x e with h | h
          · exact (hF8 x hx).2 h
          · have := hx8.lt x hx; omega
        · rcases hg9 x hx with h | h
          · exact hF' x h
          · omega
      · intro w10
        have hk10 : Kept No w4 w10 := Kept.drew No w4
        clear_value w10
        have h010 := h04.no hk10
        refine ⟨hr, nnI ⟨x2, by rw [Int.toNat_natCast]; exact h010.cell k2 (fun e => e), hr, nnI ⟨x3, by rw [Int.toNat_natCast]; exact h010.cell k3 (fun e => e), ?_⟩⟩⟩
        refine (fseek_ok (hx4.keep hk10 (fun _ _ e => e)) x2 x3).mono fun v w11 ⟨hv11, hx11, hk11⟩ => ⟨_, _, hv11, ?_⟩
        intro w12
        have hk12 : Kept No w11 w12 := Kept.drew No w11
        clear_value w12
        have h012 := (h010.fresh hk11 (fun x hx => (hF x hx).1)).no hk12
        have hy12 := ((hy4.keep hk10 (fun _ _ e => e)).keep hk11 (fun x hx e => (hF x e).2 hx)).keep hk12 (fun _ _ e => e)
        refine ⟨hr, nnI ⟨x2, by rw [Int.toNat_natCast]; exact h012.cell k2 (fun e => e), hr, nnI ⟨x3, by rw [Int.toNat_natCast]; exact h012.cell k3 (fun e => e), ?_⟩⟩⟩
        refine (gseek_ok hy12 x2 x3).mono fun v w13 ⟨hv13, hy13, hk13⟩ => ⟨_, _, hv13, condF (by simp) (condF (by simp) ?_)⟩
        exact hnext (h012.fresh hk13 hF') ((hx11.keep hk12 (fun _ _ e => e)).keep hk13 (fun x hx e => (hF x hx).2 e)) hy13 hF hF'
    · refine (fbytes_ok hx4).mono fun v w14 ⟨a14, c14, hv14, ho14, hf14, hk14⟩ => ⟨_, _, _, hv14, ?_⟩
      refine (gbytes_ok (hy4.keep hk14 (fun _ _ e => e))).mono fun v w15 ⟨a15, c15, hv15, ho15, hf15, hk15⟩ => ⟨_, _, _, hv15, ?_⟩
      have hlb := hx4.is.1
      refine (same_ok (ho14.keep hk15 (fun _ _ e => e)).rd ho15.rd (by omega)).mono fun v w16 ⟨hv16, hk16, _⟩ => ⟨_, hv16, by simp, ((h04.no hk14).no hk15).no hk16⟩

end Go.Proofs.Ytmpmobhofdefeaa
