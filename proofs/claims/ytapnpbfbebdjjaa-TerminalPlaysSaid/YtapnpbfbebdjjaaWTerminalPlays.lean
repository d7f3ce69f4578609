/-
  A terminal of any lines answers any calls as the page's: the walk. Conditions: none.
-/
import Derived.Test.YtapnpbfbebdjjaaTermD
import Derived.Test.YtapnpbfbebdjjaaOTerminalPlays
set_option linter.unusedVariables false
namespace Go.Proofs.Ytapnpbfbebdjjaa
open Go.Lw

/-- The program's terminal and the page's. -/
structure TwoT (W : World) (rb : Nat) (w : World) (b : Nat) (F R G Z : Nat → Prop) (L1 : List (List Int)) (s1 : List Int) (L2 : List (List Int)) (s2 : List Int) : Prop where
  t : TermO F R w b L1 s1
  r : RefT G Z w rb L2 s2
  a1 : ∀ k, F k → ¬ G k
  a2 : ∀ k, F k → ¬ Z k
  a3 : ∀ k, R k → ¬ G k
  f : ∀ k, F k ∨ R k ∨ G k ∨ Z k → W.heap.size ≤ k
  kept : Kept No W w

theorem TwoT.no {W : World} {rb : Nat} {w w' : World} {b : Nat} {F R G Z : Nat → Prop} {L1 L2 : List (List Int)} {s1 s2 : List Int} (h : TwoT W rb w b F R G Z L1 s1 L2 s2) (k : Kept No w w') : TwoT W rb w' b F R G Z L1 s1 L2 s2 :=
  ⟨h.t.keep k (fun _ _ e => e) (fun _ _ e => e), h.r.keep k (fun _ _ e => e) (fun _ _ e => e), h.a1, h.a2, h.a3, h.f, h.kept.no k⟩

theorem TwoT.fst {W : World} {rb : Nat} {w w' : World} {b : Nat} {F F' R G Z : Nat → Prop} {L1 L1' L2 : List (List Int)} {s1 s1' s2 : List Int} (h : TwoT W rb w b F R G Z L1 s1 L2 s2)
    (ht : TermO F' R w' b L1' s1') (hg : ∀ k, F' k → F k ∨ w.heap.size ≤ k) (k : Kept F w w') : TwoT W rb w' b F' R G Z L1' s1' L2 s2 :=
  ⟨ht, h.r.keep k (fun x hx e => h.a1 x e hx) (fun x hx e => h.a2 x e hx), fun x hx hG => by
    rcases hg x hx with e | e
    · exact h.a1 x e hG
    · have := h.r.lt x (.inl hG); omega, fun x hx hZ => by
    rcases hg x hx with e | e
    · exact h.a2 x e hZ
    · have := h.r.lt x (.inr hZ); omega, h.a3, fun x hx => by
    rcases hx with hx | hx
    · rcases hg x hx with e | e
      · exact h.f x (.inl e)
      · have := h.kept.size; omega
    · exact h.f x (.inr hx), h.kept.fresh k (fun x hx => h.f x (.inl hx))⟩

theorem TwoT.snd {W : World} {rb : Nat} {w w' : World} {b : Nat} {F R G G' Z : Nat → Prop} {L1 L2 L2' : List (List Int)} {s1 s2 s2' : List Int} (h : TwoT W rb w b F R G Z L1 s1 L2 s2)
    (hr : RefT G' Z w' rb L2' s2') (hg : ∀ k, G' k → G k ∨ w.heap.size ≤ k) (k : Kept G w w') : TwoT W rb w' b F R G' Z L1 s1 L2' s2' :=
  ⟨h.t.keep k (fun x hx e => h.a1 x hx e) (fun x hx e => h.a3 x hx e), hr, fun x hx hG => by
    rcases hg x hG with e | e
    · exact h.a1 x hx e
    · have := h.t.lt x (.inl hx); omega, h.a2, fun x hx hG => by
    rcases hg x hG with e | e
    · exact h.a3 x hx e
    · have := h.t.lt x (.inr hx); omega, fun x hx => by
    rcases hx with hx | hx | hx | hx
    · exact h.f x (.inl hx)
    · exact h.f x (.inr (.inl hx))
    · rcases hg x hx with e | e
      · exact h.f x (.inr (.inr (.inl e)))
      · have := h.kept.size; omega
    · exact h.f x (.inr (.inr (.inr hx))), h.kept.fresh k (fun x hx => h.f x (.inr (.inr (.inl hx))))⟩

theorem TermO.own {F R : Nat → Prop} {w : World} {b : Nat} {LL : List (List Int)} {scr : List Int} (h : TermO F R w b LL scr) : F b := by
  obtain ⟨la, ll, lc, i, sa, sl, sc, raw, hb, hl, hc, ho, hna, hs, hF, _⟩ := h; exact (hF b).2 (.inl rfl)

theorem walk_terminalPlays {W : World} {args : List Value} (h : V9 W args) : CallR Try.prog 9 args W fun v w' => v = .bool true ∧ Kept No W w' := by
  obtain ⟨a, l, c, hlc, hz, hl, hv, a2, l2, c2, hlc2, hnil2, hl2, hst, rfl⟩ := h
  obtain ⟨LL, hL, hLs, _⟩ := rdL_of_view hlc hz hv
  have hLl := hL.len
  refine C9 ?_
  unfold L9
  refine (copyl_ok hL (fun x hx => by have := hLs x hx; omega) (by omega)).mono fun v w1 ⟨a1, c1, es, hv1, hk1, hs1, hel, hf1, hes, hpw⟩ => ⟨_, _, _, hv1, ?_⟩
  have hL1 : RdL (fun _ => True) w1 a1 l c1 LL := by
    refine ⟨es, hs1.rd, by omega, fun _ _ _ => trivial, fun i e ys he hy => ?_⟩
    obtain ⟨ys', hy', hr, _⟩ := hes i e he
    rw [hy] at hy'; cases hy'
    exact ⟨hr.rd, fun _ _ _ => trivial⟩
  refine (tnew_ok hL1 (fun x hx => by have := hLs x hx; omega)).mono fun v w2 ⟨hk2, h2⟩ => ?_
  have h02 := hk1.no hk2
  have ref := rnewT_ok (hL.keep h02 (fun _ _ e => e)) (fun x hx => by have := hLs x hx; omega)
  rcases h2 with ⟨hne, rfl⟩ | ⟨hn0, b, F, R, rfl, ht, hnew⟩
  · refine ⟨_, _, rfl, ref.mono fun v w3 ⟨hk3, h3⟩ => ?_⟩
    rcases h3 with ⟨_, rfl⟩ | ⟨h3, _⟩
    · refine ⟨_, _, rfl, tnum_to ⟨_, rfl, condF (by simp) (condF rfl ?_)⟩⟩
      refine ⟨fun vs w => Kept No W w ∧ ∃ i : Int, vs = [.pointer none, .int .i64 i], fun _ _ => 0, ⟨h02.no hk3, 0, rfl⟩, ?_⟩
      intro _ p n w5 hI
      obtain ⟨hk5, i, hv⟩ := hI
      simp only [List.cons.injEq, Value.pointer.injEq, Value.int.injEq, true_and, and_true] at hv
      obtain ⟨rfl, rfl⟩ := hv
      exact condF rfl (talive_ok.mono fun v w7 ⟨hv, hk7⟩ => ⟨_, hv, rfl, hk5.no hk7⟩)
    · exact absurd h3 hne
  refine ⟨_, _, rfl, ref.mono fun v w3 ⟨hk3, h3⟩ => ?_⟩
  rcases h3 with ⟨hne, _⟩ | ⟨_, rb, G, Z, rfl, hr3, hnew3⟩
  · exact absurd hn0 hne
  refine ⟨_, _, rfl, tnum_to ⟨_, rfl, condF rfl (condF rfl ?_)⟩⟩
  have hlt2 := ht.lt
  have hT : TwoT W rb w3 b F R G Z LL [] LL [] := ⟨ht.keep hk3 (fun _ _ e => e) (fun _ _ e => e), hr3, fun k h1 h2 => by have := hlt2 k (.inl h1); have := hnew3 k (.inl h2); omega,
    fun k h1 h2 => by have := hlt2 k (.inl h1); have := hnew3 k (.inr h2); omega, fun k h1 h2 => by have := hlt2 k (.inr h1); have := hnew3 k (.inl h2); omega, fun k hk => by
      rcases hk with hk | hk | hk | hk
      · exact Nat.le_trans hk1.size (hnew k (.inl hk))
      · exact Nat.le_trans hk1.size (hnew k (.inr hk))
      · exact Nat.le_trans h02.size (hnew3 k (.inl hk))
      · exact Nat.le_trans h02.size (hnew3 k (.inr hk)), h02.no hk3⟩
  refine ⟨fun vs w => ∃ (b i : Nat) (L : List (List Int)) (s : List Int) (F R G Z : Nat → Prop), vs = [ptt b, .int .i64 (i : Int)] ∧ i ≤ l2 ∧ TwoT W rb w b F R G Z L s L s,
    fun vs _ => match vs with | [_, .int _ i] => (l2 - i).toNat | _ => 0, ⟨b, 0, LL, [], F, R, G, Z, rfl, Nat.zero_le _, hT⟩, ?_⟩
  clear hT hr3 hnew3 hlt2 hk3 ht hnew ref h02 hk2 hL1 hes hpw hf1 hs1 hk1
  intro _ p15 n16 w5 hI
  obtain ⟨b5, i, L5, s5, F5, R5, G5, Z5, hvs, hi, hT⟩ := hI
  simp only [ptt, List.cons.injEq, Value.pointer.injEq, Value.int.injEq, true_and, and_true] at hvs
  obtain ⟨rfl, rfl⟩ := hvs
  refine condT rfl (condP (fun hlt => ?_) (fun hge => ?_))
  · refine ⟨fun vs w => ∃ (b : Nat) (L : List (List Int)) (s : List Int) (F R G Z : Nat → Prop), vs = [ptt b] ∧ TwoT W rb w b F R G Z L s L s, ?_, ?_⟩
    · refine ⟨⟨by omega, by omega⟩, ?_⟩
      cases a2 with
      | none => have := hnil2 rfl; omega
      | some q =>
        obtain ⟨x0, _, x1, hx1, a6, l6, c6, ds, hds, _, hl6, hc0, hc1, hc2, _⟩ := hst q rfl i (by omega)
        have hds : RdB W a6 l6 c6 ds := hds
        have hdl := hds.len
        subst hdl
        refine nnI ⟨_, hT.kept.cell hc0 (fun e => e), condI (fun _ => ?_) (fun _ => condI (fun _ => ?_) (fun _ => condI (fun _ => ?_) (fun _ => ⟨b5, L5, s5, F5, R5, G5, Z5, rfl, hT⟩)))⟩
        · -- Read
          refine ⟨⟨by omega, by omega⟩, nnI ⟨_, hT.kept.cell hc1 (fun e => e), (tread_ok hT.t x1).mono fun v w6 ⟨a7, c7, hv7, ho7, hf7, hk7, ht7⟩ => ⟨_, _, _, _, hv7, ⟨by omega, by omega⟩, ?_⟩⟩⟩
          have hT6 := hT.fst ht7 (fun k hk => .inl hk) (hk7.mono fun k _ e => by rw [e]; exact hT.t.own)
          refine nnI ⟨_, hT6.kept.cell hc1 (fun e => e), (rreadT_ok hT6.r x1).mono fun v w7 ⟨a8, c8, hv8, ho8, G8, hg8, hk8, hr8⟩ => ⟨_, _, _, _, hv8, ?_⟩⟩
          have hT7 := hT6.snd hr8 (fun k hk => .inl (hg8 k hk)) hk8
          have ho7' : RdB w7 a7 _ c7 _ := ho7.rd.keep hk8 (fun k _ hk h => by have := hf7 k hk; have := hT.r.lt k (.inl h); omega)
          have hsz : (readT x1 L5).2.1.length ≤ 140737488355328 := by
            have hsh := hT.t.short.2
            unfold readT
            split
            · simp
            · cases L5 with
              | nil => simp
              | cons y r => have := hsh y (by simp); simp; omega
          refine (same_ok ho7' ho8 hsz).mono fun v w8 ⟨hv9, hk9, _⟩ => ⟨_, hv9, condF (by simp) (tnum_to ⟨_, rfl, condF (by simp) ⟨b5, _, s5, F5, R5, G8, Z5, rfl, hT7.no hk9⟩⟩)⟩
        · -- Write
          refine ⟨fun wS => Kept No W wS, (hT.no (Kept.drew _ _)).kept, ?_⟩
          intro w10
          have hT10 : TwoT W rb w10 b5 F5 R5 G5 Z5 L5 s5 L5 s5 := hT.no (Kept.drew _ _)
          clear_value w10
          refine ⟨⟨by omega, by omega⟩, nnI ⟨_, _, _, fun wS h => h.cell hc2 (fun e => e), ⟨by omega, by omega⟩, nnI ⟨_, _, _, fun wS h => h.cell hc2 (fun e => e), ?_⟩⟩⟩
          refine (copyb_ok (hds.keep hT10.kept (fun _ _ _ e => e)) (by omega)).mono fun v w16 ⟨a16, c16, hv16, ho16, hk16, hf16⟩ => ⟨_, _, _, hv16, hT10.kept.no hk16, ?_⟩
          have hT16 := hT10.no hk16
          refine (twrite_ok hT16.t ho16.rd (by omega)).mono fun v w17 ⟨hv17, F17, ht17, hg17, hk17⟩ => ⟨_, hv17, ?_⟩
          have hT17 := hT16.fst ht17 hg17 hk17
          refine ⟨hT17.kept, tnum_to ⟨_, rfl, hT17.kept, ?_⟩⟩
          refine (rwriteT_ok hT17.r (hds.keep hT17.kept (fun _ _ _ e => e)) (by omega)).mono fun v w19 ⟨hv19, G19, hr19, hg19, hk19⟩ => ⟨_, hv19, condF (by simp) ⟨b5, L5, _, F17, R5, G19, Z5, rfl, hT17.snd hr19 hg19 hk19⟩⟩
        · -- a copy goes on
          refine (tcopy_ok hT.t).mono fun v w17 ⟨b17, F17, R17, hv17, ht17, hk17, hF17, hR17⟩ => ⟨_, hv17, condF rfl ?_⟩
          have hT17 := hT.no hk17
          have hlt5 := hT.t.lt
          have hlr5 := hT.r.lt
          refine (tread_ok hT17.t 1).mono fun v w18 ⟨a18, c18, hv18, ho18, hf18, hk18, ht18⟩ => ⟨_, _, _, _, hv18, ?_⟩
          have hk18F : Kept F5 w17 w18 := hk18.mono fun k _ e => by rw [e]; exact hT.t.own
          intro w19
          obtain ⟨w20, hr20, hrd20, hk20, hz20⟩ := run_const (P := Try.prog) w18 (t := 22) (e := 5) (by kernel_rfl) [103, 111, 110, 101]
          refine ⟨_, _, _, w20, hr20, ?_⟩
          have ht20 := ht18.keep hk20 (fun _ _ e => e) (fun _ _ e => e)
          refine (twrite_ok ht20 hrd20 (by simp)).mono fun v w21 ⟨hv21, F21, ht21, hg21, hk21⟩ => ⟨_, hv21, ?_⟩
          have hkF : Kept F5 w17 w21 := (hk18F.no hk20).trans hk21 (fun _ _ e => e)
          have hd1 : ∀ k, F17 k → ¬ F5 k := fun k h1 h2 => by have := hF17 k h1; have := hlt5 k (.inl h2); omega
          have hd2 : ∀ k, R17 k → ¬ F5 k := fun k h1 h2 => by
            rcases hR17 k h1 with h | h
            · exact hT.t.apart k h h2
            · have := hlt5 k (.inl h2); omega
          refine ⟨b17, L5, s5, F17, R17, G5, Z5, rfl, ht17.keep hkF hd1 hd2, hT17.r.keep hkF (fun k h1 h2 => hT.a1 k h2 h1) (fun k h1 h2 => hT.a2 k h2 h1), fun k h1 h2 => by have := hF17 k h1; have := hlr5 k (.inl h2); omega,
            fun k h1 h2 => by have := hF17 k h1; have := hlr5 k (.inr h2); omega, fun k h1 h2 => ?_, fun k hk => ?_, hT17.kept.fresh hkF (fun k hk => hT.f k (.inl hk))⟩
          · rcases hR17 k h1 with h | h
            · exact hT.a3 k h h2
            · have := hlr5 k (.inl h2); omega
          · rcases hk with hk | hk | hk | hk
            · exact Nat.le_trans hT.kept.size (hF17 k hk)
            · rcases hR17 k hk with h | h
              · exact hT.f k (.inr (.inl h))
              · exact Nat.le_trans hT.kept.size h
            · exact hT.f k (.inr (.inr (.inl hk)))
            · exact hT.f k (.inr (.inr (.inr hk)))
    · intro _ p64 w26 hJ
      obtain ⟨b6, L6, s6, F6, R6, G6, Z6, hv, hT26⟩ := hJ
      simp only [ptt, List.cons.injEq, Value.pointer.injEq, and_true] at hv
      subst hv
      obtain ⟨la, ll, lc, sa, sl, sc, es, hbr, hlr, hir, hor, _, _, _, hsr, _⟩ := hT26.r
      have hll : ll = L6.length := by have h1 := hlr.1; have h2 := hir.1; simp at h1; omega
      refine ⟨fun wS => Blk wS rb #[.slice la ll lc, .slice sa sl sc], hbr, ?_⟩
      intro w27
      have hT27 : TwoT W rb w27 b6 F6 R6 G6 Z6 L6 s6 L6 s6 := hT26.no (Kept.drew _ _)
      have hbr27 : Blk w27 rb #[.slice la ll lc, .slice sa sl sc] := hbr
      have hor27 : OB w27 sa sl sc s6 := hor
      clear_value w27
      refine nnI ⟨la, ll, lc, fun wS h => h.at0 rfl, tleft_to hT27.t ⟨_, rfl, hbr27, condF (by rw [hll]; simp) (nnI ⟨sa, sl, sc, fun wS h => h.at rfl, ?_⟩)⟩⟩
      refine (tscreen_ok hT27.t).mono fun v w28 ⟨a28, c28, hv28, ho28, hf28, hk28⟩ => ⟨_, _, _, hv28, hbr27.keep hk28 (fun e => e), ?_⟩
      refine (same_ok ho28.rd (hor27.keep hk28 (fun _ _ e => e)).rd (by omega)).mono fun v w29 ⟨hv29, hk29, _⟩ => ⟨_, hv29, condF (by simp) ⟨by unfold inI; omega, ⟨b6, i + 1, L6, s6, F6, R6, G6, Z6, rfl, by omega, (hT27.no hk28).no hk29⟩, ?_⟩⟩
      show ((l2 : Int) - ((i : Int) + 1)).toNat < ((l2 : Int) - (i : Int)).toNat
      omega
  · exact talive_ok.mono fun v w7 ⟨hv, hk7⟩ => ⟨_, hv, rfl, hT.kept.no hk7⟩

end Go.Proofs.Ytapnpbfbebdjjaa
