/-
  A file of any bytes answers any calls as the page's: the walk. Conditions: none.
-/
import Derived.Test.YtapnpbfbebdjjaaFileD
import Derived.Test.YtapnpbfbebdjjaaOFilePlays
set_option linter.unusedVariables false
namespace Go.Proofs.Ytapnpbfbebdjjaa
open Go.Lw

/-- The program's file and the page's. -/
structure Two (W : World) (rb : Nat) (w : World) (b : Nat) (F G : Nat → Prop) (c1 c2 : List Int) : Prop where
  f : FileO F w b c1
  r : RefO G w rb c2
  ap : ∀ k, F k → ¬ G k
  fF : ∀ k, F k → W.heap.size ≤ k
  gG : ∀ k, G k → W.heap.size ≤ k
  kept : Kept No W w

theorem Two.no {W : World} {rb : Nat} {w w' : World} {b : Nat} {F G : Nat → Prop} {c1 c2 : List Int} (h : Two W rb w b F G c1 c2) (k : Kept No w w') : Two W rb w' b F G c1 c2 :=
  ⟨h.f.keep k (fun _ _ e => e), h.r.keep k (fun _ _ e => e), h.ap, h.fF, h.gG, h.kept.no k⟩

theorem Two.new {W : World} {rb : Nat} {w w' : World} {b : Nat} {F G S : Nat → Prop} {c1 c2 : List Int} (h : Two W rb w b F G c1 c2) (k : Kept S w w') (hs : ∀ x, S x → W.heap.size ≤ x ∧ ¬ F x ∧ ¬ G x) : Two W rb w' b F G c1 c2 :=
  ⟨h.f.keep k (fun x hx e => (hs x e).2.1 hx), h.r.keep k (fun x hx e => (hs x e).2.2 hx), h.ap, h.fF, h.gG, h.kept.fresh k (fun x e => (hs x e).1)⟩

theorem Two.fst {W : World} {rb : Nat} {w w' : World} {b : Nat} {F F' G : Nat → Prop} {c1 c1' c2 : List Int} (h : Two W rb w b F G c1 c2) (hf : FileO F' w' b c1') (hg : Grew F w F') (k : Kept F w w') : Two W rb w' b F' G c1' c2 :=
  ⟨hf, h.r.keep k (fun x hx e => h.ap x e hx), fun x hx hG => by
    rcases hg x hx with e | e
    · exact h.ap x e hG
    · have := h.r.lt x hG; omega, fun x hx => by
    rcases hg x hx with e | e
    · exact h.fF x e
    · have := h.kept.size; omega, h.gG, h.kept.fresh k h.fF⟩

theorem Two.snd {W : World} {rb : Nat} {w w' : World} {b : Nat} {F G' G : Nat → Prop} {c1 c2 c2' : List Int} (h : Two W rb w b F G c1 c2) (hr : RefO G' w' rb c2') (hg : Grew G w G') (k : Kept G w w') : Two W rb w' b F G' c1 c2' :=
  ⟨h.f.keep k (fun x hx e => h.ap x hx e), hr, fun x hx hG => by
    rcases hg x hG with e | e
    · exact h.ap x hx e
    · have := h.f.lt x hx; omega, h.fF, fun x hx => by
    rcases hg x hx with e | e
    · exact h.gG x e
    · have := h.kept.size; omega, h.kept.fresh k h.gG⟩

theorem walk_filePlays {W : World} {args : List Value} (h : V12 W args) : CallR Try.prog 12 args W fun v w' => v = .bool true ∧ Kept No W w' := by
  obtain ⟨a, l, c, bs, hrd, _, hl, a2, l2, c2, hlc2, hnil2, hl2, hst, rfl⟩ := h
  have hrd : RdB W a l c bs := hrd
  have hlen := hrd.len
  refine C12 ?_
  unfold L12
  refine (copyb_ok hrd (by omega)).mono fun v w1 ⟨a1, c1, hv, ho1, hk1, hfr1⟩ => ⟨_, _, _, hv, ?_⟩
  refine (new_ok ho1.rd (by omega)).mono fun v w2 h2 => ?_
  rcases h2 with ⟨hbig, rfl, hw2⟩ | ⟨hsm, b, F, rfl, hf2, hk2, hF2⟩
  · -- both refuse
    rw [hw2]
    refine ⟨_, _, rfl, (rnew_ok (hrd.keep hk1 (fun _ _ _ e => e)) (by omega)).mono fun v w3 h3 => ?_⟩
    rcases h3 with ⟨_, rfl, hw3⟩ | ⟨h3, _⟩
    · rw [hw3]
      refine ⟨_, _, rfl, num_to ⟨_, rfl, condF rfl (condF rfl ?_)⟩⟩
      refine ⟨fun vs w => Kept No W w ∧ ∃ i : Int, vs = [.pointer none, .int .i64 i], fun _ _ => 0, ⟨hk1, 0, rfl⟩, ?_⟩
      intro _ p n w5 hI
      obtain ⟨hk5, i, hv⟩ := hI
      simp only [List.cons.injEq, Value.pointer.injEq, Value.int.injEq, true_and, and_true] at hv
      obtain ⟨rfl, rfl⟩ := hv
      refine condF rfl ⟨fun _ => True, trivial, ?_⟩
      intro w6
      exact condT rfl (alive_ok.mono fun v w7 ⟨hv, hk7⟩ => ⟨_, hv, trivial, rfl, (hk5.trans (Kept.drew No w5) (fun _ _ e => e)).no hk7⟩)
    · omega
  refine ⟨_, _, rfl, (rnew_ok ((hrd.keep hk1 (fun _ _ _ e => e)).keep hk2 (fun _ _ _ e => e)) (by omega)).mono fun v w3 h3 => ?_⟩
  rcases h3 with ⟨h3, _⟩ | ⟨_, rb, G, rfl, hr3, hk3, hG3⟩
  · omega
  refine ⟨_, _, rfl, num_to ⟨_, rfl, condF rfl (condF rfl ?_)⟩⟩
  have hk02 := hk1.no hk2
  have hT : Two W rb w3 b F G bs bs := ⟨hf2.keep hk3 (fun _ _ e => e), hr3, fun k h1 h2 => by have := hf2.lt k h1; have := hG3 k h2; omega,
    fun k hk => Nat.le_trans hk1.size (hF2 k hk), fun k hk => Nat.le_trans hk02.size (hG3 k hk), hk02.no hk3⟩
  refine ⟨fun vs w => ∃ (b i : Nat) (cur : List Int) (F G : Nat → Prop), vs = [pt b, .int .i64 (i : Int)] ∧ i ≤ l2 ∧ Two W rb w b F G cur cur,
    fun vs _ => match vs with | [_, .int _ i] => (l2 - i).toNat | _ => 0, ⟨b, 0, bs, F, G, rfl, Nat.zero_le _, hT⟩, ?_⟩
  clear hT hr3 hk3 hG3 hf2 hk2 hF2 hk02 ho1 hk1 hfr1
  intro _ p15 n16 w5 hI
  obtain ⟨b5, i, cur, F5, G5, hvs, hi, hT⟩ := hI
  simp only [pt, List.cons.injEq, Value.pointer.injEq, Value.int.injEq, true_and, and_true] at hvs
  obtain ⟨rfl, rfl⟩ := hvs
  refine condT rfl (condP (fun hlt => ?_) (fun hge => ?_))
  · refine ⟨⟨by omega, by omega⟩, ?_⟩
    cases a2 with
    | none => have := hnil2 rfl; omega
    | some q =>
      obtain ⟨x0, _, x1, hx1, x2, hx2, a6, l6, c6, ds, hds, _, hl6, hc0, hc1, hc2, hc3, _⟩ := hst q rfl i (by omega)
      have hds : RdB W a6 l6 c6 ds := hds
      have hdl := hds.len
      subst hdl
      have hk5 := hT.kept
      refine nnI ⟨_, _, _, _, _, _, hk5.cell hc0 (fun e => e), hk5.cell hc1 (fun e => e), hk5.cell hc2 (fun e => e), hk5.cell hc3 (fun e => e), ?_⟩
      intro w6
      have hb6 : Blk w6 w5.heap.size _ := Blk.alloc w5 _ _
      have hT6 : Two W rb w6 b5 F5 G5 cur cur := hT.no (Kept.alloc _ _ _)
      have hgF : ¬ F5 w5.heap.size := fun e => by have := hT.f.lt _ e; omega
      have hgG : ¬ G5 w5.heap.size := fun e => by have := hT.r.lt _ e; omega
      refine stC_blk hb6 (by simp) fun w7 hb7 hk7 _ => stC_blk hb7 (by simp) fun w8 hb8 hk8 _ => stC_blk hb8 (by simp) fun w9 hb9 hk9 _ => stC_blk hb9 (by simp) fun w10 hb10 hk10 _ => ?_
      have hk10' : Kept (· = w5.heap.size) w6 w10 := ((hk7.trans hk8 fun _ _ e => e).trans hk9 fun _ _ e => e).trans hk10 fun _ _ e => e
      have hT10 : Two W rb w10 b5 F5 G5 cur cur := hT6.new hk10' (fun x e => by subst e; exact ⟨hk5.size, hgF, hgG⟩)
      have hg10 := hb10.lt
      have hB : Blk w10 w5.heap.size #[.int .i64 x0, .int .i64 x1, .int .i64 x2, .slice a6 ds.length c6] := hb10
      clear hb10 hk10 hk9 hb9 hk8 hb8 hk7 hb7 hb6 hk10' hT6
      clear_value w6
      refine ⟨fun vs w => ∃ (b : Nat) (cur : List Int) (F G : Nat → Prop), vs = [pt b] ∧ Two W rb w b F G cur cur, ?_, ?_⟩
      · refine ⟨x0, (hB.cell 0).trans rfl, condI (fun _ => ?_) (fun _ => condI (fun _ => ?_) (fun _ => condI (fun _ => ?_) (fun _ => condI (fun _ => ?_) (fun _ => ⟨b5, cur, F5, G5, rfl, hT10⟩))))⟩
        · -- ReadAt
          refine ⟨_, (hB.cell 1).trans rfl, _, (hB.cell 2).trans rfl, (readAt_ok hT10.f x1 x2).mono fun v w11 ⟨a11, c11, cs11, e11, hv11, ho11, hf11, hk11, hy11, hn11⟩ => ⟨_, _, _, _, hv11, ?_⟩⟩
          have hT11 := hT10.no hk11
          have hB11 := hB.keep hk11 (fun e => e)
          refine ⟨_, (hB11.cell 1).trans rfl, _, (hB11.cell 2).trans rfl, (rReadAt_ok hT11.r x1 x2).mono fun v w12 ⟨a12, c12, cs12, e12, hv12, ho12, hf12, hk12, hy12, hn12⟩ => ⟨_, _, _, _, hv12, ?_⟩⟩
          have hsame : e11 = e12 ∧ cs11 = cs12 := by
            cases h1 : okN x1 with
            | false =>
              obtain ⟨r1, r2⟩ := hn11 (by rw [h1]; rfl)
              obtain ⟨r3, r4⟩ := hn12 (by rw [h1]; rfl)
              exact ⟨r1.trans r3.symm, r2.trans r4.symm⟩
            | true =>
              cases h2 : okN x2 with
              | false =>
                obtain ⟨r1, r2⟩ := hn11 (by rw [h1, h2]; rfl)
                obtain ⟨r3, r4⟩ := hn12 (by rw [h1, h2]; rfl)
                exact ⟨r1.trans r3.symm, r2.trans r4.symm⟩
              | true =>
                obtain ⟨r1, r2⟩ := hy11 h1 h2
                obtain ⟨r3, r4⟩ := hy12 h1 h2
                exact ⟨r1.trans r3.symm, r2.trans r4.symm⟩
          obtain ⟨rfl, rfl⟩ := hsame
          have hcl : cs11.length ≤ 1048576 := by
            cases h1 : okN x1 && okN x2 with
            | false => rw [(hn11 h1).2]; simp
            | true =>
              simp only [Bool.and_eq_true] at h1
              rw [(hy11 h1.1 h1.2).2]
              have := hT.f.len
              simp [piece]; omega
          refine (same_ok (ho11.keep hk12 (fun _ _ e => e)).rd ho12.rd (by omega)).mono fun v w13 ⟨hv13, hk13, _⟩ => ⟨_, hv13, condF (by simp) (num_to ⟨_, rfl, condF (by simp) ⟨b5, cur, F5, G5, rfl, (hT11.no hk12).no hk13⟩⟩)⟩
        · -- WriteAt
          refine ⟨fun wS => Blk wS w5.heap.size #[.int .i64 x0, .int .i64 x1, .int .i64 x2, .slice a6 ds.length c6], hB, ?_⟩
          intro w15
          have hT15 : Two W rb w15 b5 F5 G5 cur cur := hT10.no (Kept.drew _ _)
          have hB15 : Blk w15 w5.heap.size _ := hB
          refine ⟨_, fun wS h => (h.cell 1).trans rfl, _, _, _, fun wS h => (h.cell 3).trans rfl, _, fun wS h => (h.cell 1).trans rfl, _, _, _, fun wS h => (h.cell 3).trans rfl, ?_⟩
          refine (copyb_ok (hds.keep hT15.kept (fun _ _ _ e => e)) (by omega)).mono fun v w16 ⟨a16, c16, hv16, ho16, hk16, hf16⟩ => ⟨_, _, _, hv16, hB15.keep hk16 (fun e => e), ?_⟩
          have hT16 := hT15.no hk16
          have hB16 := hB15.keep hk16 (fun e => e)
          refine (writeAt_ok hT16.f x1 ho16.rd (by omega) (fun _ k hk hF => by have h1 := hf16 k hk; have h2 := hT15.f.lt k hF; omega)).mono fun v w17 ⟨hv17, F17, hf17, hg17, hk17⟩ => ⟨_, hv17, hB16.keep hk17 hgF, num_to ⟨_, rfl, hB16.keep hk17 hgF, ?_⟩⟩
          have hB17 := hB16.keep hk17 hgF
          have hT17 := hT16.fst hf17 hg17 hk17
          refine (rWriteAt_ok hT17.r x1 (hds.keep hT17.kept (fun _ _ _ e => e)) (by omega) (fun hne k hk hG => by
            have h1 := RdS.old hds (fun e => hne (By_inj (b := []) e)) k hk
            have h2 := hT17.gG k hG
            omega)).mono fun v w19 ⟨hv19, G19, hr19, hg19, hk19⟩ => ⟨_, hv19, hB17.keep hk19 hgG, condF (by simp) ⟨b5, _, F17, G19, rfl, hT17.snd hr19 hg19 hk19⟩⟩
        · -- Truncate
          refine ⟨fun wS => Blk wS w5.heap.size #[.int .i64 x0, .int .i64 x1, .int .i64 x2, .slice a6 ds.length c6], hB, ?_⟩
          intro w15
          have hT15 : Two W rb w15 b5 F5 G5 cur cur := hT10.no (Kept.drew _ _)
          have hB15 : Blk w15 w5.heap.size _ := hB
          refine ⟨_, fun wS h => (h.cell 2).trans rfl, _, fun wS h => (h.cell 2).trans rfl, ?_⟩
          refine (trunc_ok hT15.f x2).mono fun v w17 ⟨hv17, F17, hf17, hg17, hk17⟩ => ⟨_, hv17, hB15.keep hk17 hgF, num_to ⟨_, rfl, hB15.keep hk17 hgF, ?_⟩⟩
          have hB17 := hB15.keep hk17 hgF
          have hT17 := hT15.fst hf17 hg17 hk17
          refine (rTrunc_ok hT17.r x2).mono fun v w19 ⟨hv19, G19, hr19, hg19, hk19⟩ => ⟨_, hv19, hB17.keep hk19 hgG, condF (by simp) ⟨b5, _, F17, G19, rfl, hT17.snd hr19 hg19 hk19⟩⟩
        · -- a copy goes on
          refine (copy_ok hT10.f).mono fun v w17 ⟨b17, F17, hv17, hf17, hk17, hF17⟩ => ⟨_, hv17, condF rfl ?_⟩
          have hT17 := hT10.no hk17
          refine (trunc_ok hT17.f 0).mono fun v w18 ⟨hv18, F18, hf18, hg18, hk18⟩ => ⟨_, hv18, b17, cur, F17, G5, rfl, ?_⟩
          have hap17 : ∀ k, F17 k → ¬ F5 k := fun k h1 h2 => by have := hF17 k h1; have := hT10.f.lt k h2; omega
          exact ⟨hf17.keep hk18 hap17, hT17.r.keep hk18 (fun k h1 h2 => hT17.ap k h2 h1), fun k h1 h2 => by have := hF17 k h1; have := hT10.r.lt k h2; omega,
            fun k hk => Nat.le_trans hT10.kept.size (hF17 k hk), hT17.gG, hT17.kept.fresh hk18 hT17.fF⟩
      · intro _ p64 w26 hJ
        obtain ⟨b6, cur6, F6, G6, hv, hT26⟩ := hJ
        simp only [pt, List.cons.injEq, Value.pointer.injEq, and_true] at hv
        subst hv
        obtain ⟨ar, lr, cr, hbr, hor, _, _, _⟩ := hT26.r
        refine ⟨fun wS => Blk wS rb #[.slice ar lr cr], hbr, ?_⟩
        intro w27
        have hT27 : Two W rb w27 b6 F6 G6 cur6 cur6 := hT26.no (Kept.drew _ _)
        have hbr27 : Blk w27 rb #[.slice ar lr cr] := hbr
        refine nnI ⟨ar, lr, cr, fun wS h => h.at0 rfl, (size_ok hT27.f).mono fun v w28 ⟨hv, hw⟩ => ⟨_, hv, ?_⟩⟩
        rw [hw]
        refine ⟨hbr27, condF (by rw [hor.len]; simp) ⟨by unfold inI; omega, ⟨b6, i + 1, cur6, F6, G6, rfl, by omega, hT27⟩, ?_⟩⟩
        show ((l2 : Int) - ((i : Int) + 1)).toNat < ((l2 : Int) - (i : Int)).toNat
        omega
  · obtain ⟨ar, lr, cr, hbr, hor, _, hcl, _⟩ := hT.r
    refine ⟨fun wS => Blk wS rb #[.slice ar lr cr], hbr, ?_⟩
    intro w29
    have hT29 : Two W rb w29 b5 F5 G5 cur cur := hT.no (Kept.drew _ _)
    have hbr29 : Blk w29 rb #[.slice ar lr cr] := hbr
    have hor29 : OB w29 ar lr cr cur := hor
    refine condF rfl (nnI ⟨ar, lr, cr, fun wS h => h.at0 rfl, (bytes_ok hT29.f).mono fun v w31 ⟨a31, c31, hv31, ho31, hf31, hk31⟩ => ⟨_, _, _, hv31, hbr29.keep hk31 (fun e => e), ?_⟩⟩)
    refine (same_ok ho31.rd (hor29.keep hk31 (fun _ _ e => e)).rd (by omega)).mono fun v w32 ⟨hv32, hk32, _⟩ => ⟨_, hv32, (hbr29.keep hk31 (fun e => e)).keep hk32 (fun e => e), condT (by simp) ?_⟩
    exact alive_ok.mono fun v w33 ⟨hv33, hk33⟩ => ⟨_, hv33, ((hbr29.keep hk31 (fun e => e)).keep hk32 (fun e => e)).keep hk33 (fun e => e), rfl, ((hT29.no hk31).no hk32).kept.no hk33⟩

end Go.Proofs.Ytapnpbfbebdjjaa
