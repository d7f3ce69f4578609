/-
  A pipe answers any calls as the page's does: the walk. Conditions: none.
-/
import Derived.Test.YtmpmobhofdefeaaKpD
import Derived.Test.YtmpmobhofdefeaaOKpipePlays
set_option linter.unusedVariables false
namespace Go.Proofs.Ytmpmobhofdefeaa
open Go.Lw

def PBoth (W w : World) (b rb : Nat) : Prop :=
  ∃ bs e0 e1 F, PipeO w b bs e0 e1 ∧ RefP w rb F bs e0 e1 ∧ ¬ F b ∧ W.heap.size ≤ b ∧ ∀ x, F x → W.heap.size ≤ x

theorem PBoth.keep {W w w' : World} {b rb : Nat} (h : PBoth W w b rb) {S : Nat → Prop} (k : Kept S w w') (hs : ∀ x, x < w.heap.size → ¬ S x) : PBoth W w' b rb := by
  obtain ⟨bs, e0, e1, F, hp, hr, h1, h2, h3⟩ := h
  exact ⟨bs, e0, e1, F, hp.keep k (hs _ hp.lt), hr.keep k (fun x hx => hs x (hr.2.1 x hx)), h1, h2, h3⟩

theorem walk_kpipePlays {W : World} {args : List Value} (h : V6 W args) : CallR Try.prog 6 args W fun v w' => v = .bool true ∧ Kept No W w' := by
  obtain ⟨a, l, c, hlc, hz, hl, hst, rfl⟩ := h
  refine C6 ?_
  unfold L6
  refine (knew_ok W).mono fun v w1 ⟨hv1, hp1, hk1⟩ => ⟨_, hv1, ?_⟩
  intro w2
  have hk2 : Kept No w1 w2 := Kept.alloc _ w1 _
  have hb2 : Blk w2 w1.heap.size #[.slice none 0 0, .int .i64 0, .int .i64 0] := Blk.alloc w1 _ _
  clear_value w2
  have h02 := hk1.no hk2
  refine condF rfl ?_
  generalize hrb : w1.heap.size = rb at *
  generalize hbb : W.heap.size = b at hp1
  have hI0 : PBoth W w2 b rb := by
    refine ⟨[], 0, 0, (· = rb), hp1.keep hk2 (fun e => e), ⟨rfl, fun x hx => by have := hb2.lt; omega, none, 0, 0, hb2, RdB.nil _, fun x hx => absurd hx (inA_none x), by simp, by omega, by omega⟩, ?_, by omega, ?_⟩
    · have := hp1.lt; omega
    · intro x hx; have := hk1.size; omega
  refine ⟨fun vs w => ∃ i : Nat, vs = [.int .i64 (i : Int)] ∧ i ≤ l ∧ Kept No W w ∧ PBoth W w b rb, fun vs _ => l - ix vs, ⟨0, rfl, Nat.zero_le _, h02, hI0⟩, ?_⟩
  intro _ n6 w3 hI
  obtain ⟨i, hvs, hi, h03, hB⟩ := hI
  simp only [List.cons.injEq, Value.int.injEq, true_and, and_true] at hvs
  subst hvs
  refine condP (fun hlt => ?_) (fun hge => ?_)
  · have hil : i < l := by omega
    obtain ⟨q, rfl⟩ : ∃ q, a = some q := by
      cases a with
      | none => have := hz rfl; omega
      | some q => exact ⟨q, rfl⟩
    obtain ⟨x1, _, x2, _, x3, a9, l9, c9, ds, hd, _, hl9, c1, c2, c3, c4, _⟩ := hst q rfl i hil
    have hd : RdB W a9 l9 c9 ds := hd
    have hr : (0 ≤ (i : Int) ∧ (i : Int) < ((l : Nat) : Int)) := by omega
    refine ⟨hr, nnI ⟨x1, x2, x3, a9, l9, c9, by rw [Int.toNat_natCast]; exact h03.cell c1 (fun e => e), by rw [Int.toNat_natCast]; exact h03.cell c2 (fun e => e), by rw [Int.toNat_natCast]; exact h03.cell c3 (fun e => e), by rw [Int.toNat_natCast]; exact h03.cell c4 (fun e => e), ?_⟩⟩
    -- the local x
    obtain ⟨bs, e0, e1, F, hp, hrf, n1, n2, n3⟩ := hB
    generalize hxb : w3.heap.size = xb
    intro w4
    have hb4 : Blk w4 w3.heap.size #[.int .i64 0, .int .i64 0, .bool false, .slice none 0 0] := Blk.alloc w3 _ _
    have hk4 : Kept No w3 w4 := Kept.alloc _ w3 _
    clear_value w4
    rw [hxb] at hb4
    refine stC_blk hb4 (by simp) fun w5 hb5 hk5 _ => stC_blk hb5 (by simp) fun w6 hb6 hk6 _ => stC_blk hb6 (by simp) fun w7 hb7 hk7 _ => stC_blk hb7 (by simp) fun w8 hb8 hk8 _ => ?_
    have hb8 : Blk w8 xb #[.int .i64 x1, .int .i64 x2, .bool x3, .slice a9 l9 c9] := by simpa using hb8
    have h38 : Kept No w3 w8 := (((hk4.fresh hk5 (by intro x e; omega)).fresh hk6 (by intro x e; omega)).fresh hk7 (by intro x e; omega)).fresh hk8 (by intro x e; omega)
    have h08 := h03.no h38
    have hxW : W.heap.size ≤ xb := by have := h03.size; omega
    have hxF : ¬ F xb := fun e => by have := hrf.2.1 _ e; omega
    have hxB : b ≠ xb := by have := hp.lt; omega
    have hrbx : rb ≠ xb := fun e => hxF (e ▸ hrf.1)
    have hrbb : rb ≠ b := fun e => n1 (e ▸ hrf.1)
    have hrbW : W.heap.size ≤ rb := n3 _ hrf.1
    have hp8 := hp.keep h38 (fun e => e)
    have hrf8 := hrf.keep h38 (fun _ _ e => e)
    have hx8 := hb8.lt
    clear hb4 hb5 hb6 hb7 hk4 hk5 hk6 hk7 hk8
    refine ⟨fun vs w => vs = [] ∧ Kept No W w ∧ Blk w xb #[.int .i64 x1, .int .i64 x2, .bool x3, .slice a9 l9 c9] ∧ ∃ bs e0 e1 F, PipeO w b bs e0 e1 ∧ RefP w rb F bs e0 e1 ∧ ¬ F b ∧ ¬ F xb ∧ ∀ x, F x → W.heap.size ≤ x,
      ⟨x1, hb8.cell 0, condI (fun _ => ⟨x2, hb8.cell 1, ?_⟩) (fun _ => condI (fun _ => ⟨a9, l9, c9, hb8.cell 3, ?_⟩) (fun _ => condI (fun _ => ?_) (fun _ => condI (fun _ => ?_) (fun _ => ⟨rfl, h08, hb8, bs, e0, e1, F, hp8, hrf8, n1, hxF, n3⟩))))⟩, ?_⟩
    · -- Read
      refine (kread_ok hp8 x2).mono fun v w9 ⟨a15, l15, c15, hv9, ho9, hf9, hp9, hk9⟩ => ⟨_, _, _, _, hv9, x2, (hb8.keep hk9 (by omega)).cell 1, ?_⟩
      have hrf9 := hrf8.keep hk9 (fun x hx e => n1 (e ▸ hx))
      refine (rread_ok hrf9 x2).mono fun v w10 ⟨a19, l19, c19, hv10, hr10, hi10, hrf10, hk10⟩ => ⟨_, _, _, _, hv10, ?_⟩
      have ho10 := ho9.keep hk10 (fun x hx e => by have := hf9 x hx; have := hrf8.2.1 _ hrf8.1; omega)
      have hlen : l15 ≤ 140737488355328 := by
        have h1 := ho9.len
        have h2 : (readP x2 bs e0 e1).1.length ≤ 4096 := by
          have := hp8.len
          unfold readP; split <;> try simp
          split <;> try simp
          split <;> try simp
          omega
        omega
      refine (same_ok ho10.rd hr10 hlen).mono fun v w11 ⟨hv11, hk11, _⟩ => ⟨_, hv11, ?_⟩
      refine condF (by simp) (knum_to ⟨_, rfl, condF (by simp) ⟨rfl, ?_, ?_, _, _, _, F, (hp9.keep hk10 (by omega)).keep hk11 (fun e => e), hrf10.keep hk11 (fun _ _ e => e), n1, hxF, n3⟩⟩)
      · exact ((h08.fresh hk9 (by intro x e; omega)).fresh hk10 (by intro x e; omega)).no hk11
      · exact ((hb8.keep hk9 (by omega)).keep hk10 (by omega)).keep hk11 (fun e => e)
    · -- Write
      have hd8 : RdB w8 a9 l9 c9 ds := hd.keep h08 (fun _ _ _ e => e)
      have hl9' : l9 ≤ 140737488355328 := by omega
      have hold : ds ≠ [] → ∀ x, inA a9 x → x < W.heap.size := fun hne x hx => RdS.old hd (by cases ds <;> simp_all [By]) x hx
      refine (copyb_ok hd8 hl9').mono fun v w13 ⟨a27, c27, hv13, ho13, hk13, hf13⟩ => ⟨_, _, _, hv13, x2, (hb8.keep hk13 (fun e => e)).cell 1, ?_⟩
      have hp13 := hp8.keep hk13 (fun e => e)
      have hpl := hp8.lt
      refine (kwrite_ok hp13 ho13.rd (fun _ e => by have := hf13 _ e; omega) ho13.rd.2.1 x2).mono fun v w14 ⟨hv14, hp14, hk14⟩ => ⟨_, _, hv14, ?_⟩
      have hb14 := (hb8.keep hk13 (fun e => e)).keep hk14 (by omega)
      have hrf14 := (hrf8.keep hk13 (fun _ _ e => e)).keep hk14 (fun x hx e => n1 (e ▸ hx))
      have h014 := (h08.no hk13).fresh hk14 (by intro x e; omega)
      have hs14 := hk13.size
      have hs14' := hk14.size
      refine ⟨a9, l9, c9, hb14.cell 3, x2, hb14.cell 1, ?_⟩
      refine (rwrite_ok hrf14 (hd.keep h014 (fun _ _ _ e => e)) (fun hne e => by have := hold hne _ e; omega) x2).mono fun v w15 ⟨hv15, hrf15, hk15⟩ => ⟨_, _, hv15, ?_⟩
      have hs15 := hk15.size
      have hb15 := hb14.keep hk15 (by omega)
      have h015 := h014.fresh hk15 (by intro x e; omega)
      have hlt27 : ∀ x, inA a27 x → x < w13.heap.size := fun x hx => SlO.lt ho13 x hx
      have ho15 := (ho13.keep hk14 (fun x hx e => by have := hf13 x hx; omega)).keep hk15 (fun x hx e => by have := hf13 x hx; have := hrf8.2.1 _ hrf8.1; omega)
      refine condF (by simp) (knum_to ⟨_, rfl, condF (by simp) ⟨a9, l9, c9, hb15.cell 3, ?_⟩⟩)
      refine (same_ok ho15.rd (hd.keep h015 (fun _ _ _ e => e)) hl9').mono fun v w17 ⟨hv17, hk17, _⟩ => ⟨_, hv17, condF (by simp) ?_⟩
      have ho17 := ho15.keep hk17 (fun _ _ e => e)
      have hs17 := hk17.size
      refine (spoil_ok ho17 hl9').mono fun v w18 ⟨hv18, ho18, hk18⟩ => ⟨hv18, rfl, ?_, ?_, _, _, _, _, ((hp14.keep hk15 (by omega)).keep hk17 (fun e => e)).keep hk18 (fun e => by have := hf13 _ e; omega), (hrf15.keep hk17 (fun _ _ e => e)).keep hk18 ?_, ?_, ?_, ?_⟩
      · exact (h015.no hk17).fresh hk18 (fun x hx => by have := hf13 x hx; omega)
      · exact (hb15.keep hk17 (fun e => e)).keep hk18 (fun e => by have := hf13 _ e; omega)
      · intro x hx e
        have h1 := hf13 x e
        have h2 := hlt27 x e
        rcases hx with hx | hx
        · have := hrf8.2.1 _ hx; omega
        · omega
      · rintro (e | e)
        · exact n1 e
        · omega
      · rintro (e | e)
        · exact hxF e
        · omega
      · rintro x (e | e)
        · exact n3 x e
        · omega
    · -- Join
      refine ⟨fun wS => wS.cell? ⟨xb, 2, none⟩ = some (.bool x3), hb8.cell 2, ?_⟩
      intro w19
      have hp19 : PipeO w19 b bs e0 e1 := hp8
      have hrf19 : RefP w19 rb F bs e0 e1 := hrf8
      have hb19 : Blk w19 xb #[.int .i64 x1, .int .i64 x2, .bool x3, .slice a9 l9 c9] := hb8
      have h019 : Kept No W w19 := h08.no (Kept.drew _ _)
      clear_value w19
      refine ⟨x3, fun _ h => h, x3, fun _ h => h, (kjoin_ok hp19 x3).mono fun v w20 ⟨hv20, hp20, hk20⟩ => ⟨_, hv20, (hb19.keep hk20 (by omega)).cell 2, knum_to ⟨_, rfl, (hb19.keep hk20 (by omega)).cell 2, ?_⟩⟩⟩
      refine (rjoin_ok (hrf19.keep hk20 (fun x hx e => n1 (e ▸ hx))) x3).mono fun v w22 ⟨hv22, hrf22, hk22⟩ => ⟨_, hv22, condF (by simp) ⟨rfl, (h019.fresh hk20 (by intro x e; omega)).fresh hk22 (by intro x e; omega), (hb19.keep hk20 (by omega)).keep hk22 (by omega), _, _, _, F, hp20.keep hk22 (by omega), hrf22, n1, hxF, n3⟩⟩
    · -- Leave
      refine ⟨fun wS => wS.cell? ⟨xb, 2, none⟩ = some (.bool x3), hb8.cell 2, ?_⟩
      intro w19
      have hp19 : PipeO w19 b bs e0 e1 := hp8
      have hrf19 : RefP w19 rb F bs e0 e1 := hrf8
      have hb19 : Blk w19 xb #[.int .i64 x1, .int .i64 x2, .bool x3, .slice a9 l9 c9] := hb8
      have h019 : Kept No W w19 := h08.no (Kept.drew _ _)
      clear_value w19
      refine ⟨x3, fun _ h => h, x3, fun _ h => h, (kleave_ok hp19 x3).mono fun v w20 ⟨hv20, hp20, hk20⟩ => ⟨_, hv20, (hb19.keep hk20 (by omega)).cell 2, knum_to ⟨_, rfl, (hb19.keep hk20 (by omega)).cell 2, ?_⟩⟩⟩
      refine (rleave_ok (hrf19.keep hk20 (fun x hx e => n1 (e ▸ hx))) x3).mono fun v w22 ⟨hv22, hrf22, hk22⟩ => ⟨_, hv22, condF (by simp) ⟨rfl, (h019.fresh hk20 (by intro x e; omega)).fresh hk22 (by intro x e; omega), (hb19.keep hk20 (by omega)).keep hk22 (by omega), _, _, _, F, hp20.keep hk22 (by omega), hrf22, n1, hxF, n3⟩⟩
    · rintro _ w27 ⟨_, h027, hb27, bs', e0', e1', F', hp27, hrf27, m1, m2, m3⟩
      refine kends_to hp27 fun nd => ⟨_, _, rfl, ?_⟩
      obtain ⟨hF', hlt', a', l', c', hbr, hrr, hai, hb4096, he0, he1⟩ := hrf27
      have hrx : rb < w27.heap.size := hbr.lt
      refine ⟨fun wS => Blk wS rb #[.slice a' l' c', .int .i64 (e0' : Int), .int .i64 (e1' : Int)] ∧ Blk wS xb #[.int .i64 x1, .int .i64 x2, .bool x3, .slice a9 l9 c9], ⟨hbr, hb27⟩, ?_⟩
      intro w29
      have hp29 : PipeO w29 b bs' e0' e1' := hp27
      have hbr29 : Blk w29 rb #[.slice a' l' c', .int .i64 (e0' : Int), .int .i64 (e1' : Int)] := hbr
      have hrr29 : RdB w29 a' l' c' bs' := hrr
      have hb29 : Blk w29 xb #[.int .i64 x1, .int .i64 x2, .bool x3, .slice a9 l9 c9] := hb27
      have h029 : Kept No W w29 := (h027.no (Kept.drewN _ _ _)).no (Kept.drew _ _)
      have hs29 : w29.heap.size = w27.heap.size := rfl
      clear_value w29
      refine ⟨a', l', c', fun wS h => h.1.cell 0, (kheld_ok hp29).mono fun v w30 ⟨a67, c67, hv30, ho30, hf30, hk30⟩ => ⟨_, _, _, hv30, ⟨hbr29.keep hk30 (fun e => e), hb29.keep hk30 (fun e => e)⟩, ?_⟩⟩
      have hpl := hp29.len
      refine (same_ok ho30.rd (hrr29.keep hk30 (fun _ _ _ e => e)) (by omega)).mono fun v w31 ⟨hv31, hk31, _⟩ => ⟨_, hv31, ⟨(hbr29.keep hk30 (fun e => e)).keep hk31 (fun e => e), (hb29.keep hk30 (fun e => e)).keep hk31 (fun e => e)⟩, condF (by simp) ⟨_, fun wS h => h.1.cell 1, condF (by simp) ⟨_, fun wS h => h.1.cell 2, condF (by simp) ?_⟩⟩⟩
      have hk931 := hk30.no hk31
      have hp31 := hp29.keep hk931 (fun e => e)
      have hS31 : Blk w31 rb #[.slice a' l' c', .int .i64 (e0' : Int), .int .i64 (e1' : Int)] ∧ Blk w31 xb #[.int .i64 x1, .int .i64 x2, .bool x3, .slice a9 l9 c9] := ⟨hbr29.keep hk931 (fun e => e), hb29.keep hk931 (fun e => e)⟩
      have hs31 := hk931.size
      have hrf31 : RefP w31 rb F' bs' e0' e1' := ⟨hF', fun x hx => by have := hlt' x hx; omega, a', l', c', hS31.1, hrr29.keep hk931 (fun _ _ _ e => e), hai, hb4096, he0, he1⟩
      refine kcanr_to hp31 ⟨_, rfl, hS31, rcanr_to hrf31 ⟨_, rfl, hS31, condF (by simp) ⟨x2, fun wS h => h.2.cell 1, x2, fun wS h => h.2.cell 1, kcanw_to hp31 _ ⟨_, rfl, hS31, rcanw_to hrf31 _ ⟨_, rfl, condF (by simp) ⟨by unfold inI; omega, ⟨i + 1, by simp, by omega, h029.no hk931, bs', e0', e1', F', hp31, hrf31, m1, by omega, m3⟩, by simp only [ix]; omega⟩⟩⟩⟩⟩⟩
  · refine kalive_ok.mono fun v w4 ⟨hv4, hk4⟩ => ⟨_, hv4, rfl, h03.no hk4⟩

end Go.Proofs.Ytmpmobhofdefeaa
