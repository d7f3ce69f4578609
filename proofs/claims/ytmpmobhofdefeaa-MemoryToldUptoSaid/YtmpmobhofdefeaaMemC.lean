/-
  A stream of one's own: what its methods do. Conditions: as each says.
-/
import Derived.Test.YtmpmobhofdefeaaMemB
import Derived.Test.YtmpmobhofdefeaaAns
set_option linter.unusedVariables false
namespace Go.Proofs.Ytmpmobhofdefeaa
open Go.Lw

/-- A stream of one's own with these answers, numbers and bytes; F is the memory it has. -/
def CuO (F : Nat → Prop) (w : World) (b : Nat) (rs : List (List Int × Int)) (ws tk : List Int) : Prop :=
  ∃ ar lr cr aw lw cw ak lk ck es, Blk w b #[.bool true, .slice ar lr cr, .slice aw lw cw, .slice ak lk ck] ∧ SlO 2 w ar lr cr (ansC es) ∧ AnsR (fun x => F x ∧ x ≠ b ∧ ¬ inA ar x ∧ ¬ inA ak x) w es rs ∧ RdS 1 w aw lw cw (In ws) ∧ OB w ak lk ck tk ∧
    F b ∧ (∀ x, F x → x < w.heap.size) ∧ (∀ x, inA ar x → F x ∧ x ≠ b) ∧ (∀ x, inA aw x → F x ∧ x ≠ b ∧ ¬ inA ar x ∧ ¬ inA ak x) ∧ (∀ x, inA ak x → F x ∧ x ≠ b ∧ ¬ inA ar x) ∧ ∀ r ∈ rs, r.1.length ≤ 1048576

theorem CuO.keep {F S : Nat → Prop} {w w' : World} {b : Nat} {rs : List (List Int × Int)} {ws tk : List Int} (h : CuO F w b rs ws tk) (k : Kept S w w') (hn : ∀ x, F x → ¬ S x) : CuO F w' b rs ws tk := by
  obtain ⟨ar, lr, cr, aw, lw, cw, ak, lk, ck, es, hb, h1, h2, h3, h4, h5, h6, h7, h8, h9, h10⟩ := h
  exact ⟨ar, lr, cr, aw, lw, cw, ak, lk, ck, es, hb.keep k (hn _ h5), h1.keep k (fun x hx => hn _ (h7 x hx).1), h2.keep k (fun x hx => hn _ hx.1), h3.keep k (fun x _ hx => hn _ (h8 x hx).1), h4.keep k (fun x hx => hn _ (h9 x hx).1), h5,
    fun x hx => Nat.lt_of_lt_of_le (h6 x hx) k.size, h7, h8, h9, h10⟩

def newCE (rs : List (List Int × Int)) (ws : List Int) : Int := if rs.length > 4096 ∨ ws.length > 4096 then 3 else if rs.all (fun r => decide (r.1.length ≤ 1048576)) then 0 else 5

/-- A new stream of one's own, or none. -/
def CNew (w : World) (e : Int) (rs : List (List Int × Int)) (ws : List Int) (v : Value) (w' : World) : Prop :=
  (e ≠ 0 ∧ v = .tuple #[.pointer none, .int .i64 e] ∧ Kept No w w') ∨ (e = 0 ∧ ∃ b F', v = .tuple #[pt b, .int .i64 0] ∧ CuO F' w' b rs ws [] ∧ Kept No w w' ∧ ∀ x, F' x → w.heap.size ≤ x)

theorem cnew_ok {R : Nat → Prop} {w : World} {a : Option Addr} {l c : Nat} {rs : List (List Int × Int)} (h : RdA R w a l c rs) {a2 : Option Addr} {l2 c2 : Nat} {ws : List Int} (h2 : RdS 1 w a2 l2 c2 (In ws)) :
    CallR Try.prog 39 [.slice a l c, .slice a2 l2 c2] w fun v w' => CNew w (newCE rs ws) rs ws v w' := by
  refine C39 ?_
  unfold L39
  have hlen := h.len
  have hlen2 : ws.length = l2 := by have := h2.1; simpa using this
  refine condP (fun g => .inl ⟨?_, ?_, Kept.refl _ _⟩) fun g => condP (fun g2 => .inl ⟨?_, ?_, Kept.refl _ _⟩) fun g2 => ?_
  · unfold newCE; rw [if_pos (by omega)]; decide
  · unfold newCE; rw [if_pos (by omega)]
  · unfold newCE; rw [if_pos (by omega)]; decide
  · unfold newCE; rw [if_pos (by omega)]
  intro w1
  have hk1 : Kept No w w1 := Kept.alloc _ w _
  have hs1 : w1.heap.size = w.heap.size + 1 := by simp [w1]
  have hz : SlO 1 w1 (some ⟨w.heap.size, 0, none⟩) 0 0 (In []) := SlO.of_blk (Blk.alloc w #[] _) (by simp)
  clear_value w1
  obtain ⟨aw, cw, w2, hrun2, hsw, hk2, hat2, hnn2⟩ := run_app_sl (P := Try.prog) (t := 75) (t2 := 75) (ty := 75) (by kernel_rfl : slTyB Try.prog 75 1 8 = true) (by kernel_rfl) hz (h2.keep hk1 (fun _ _ _ e => e)) (In_one ws) (by omega) (by omega)
  simp only [Nat.zero_add] at hrun2 hsw
  rw [← In_append, List.nil_append] at hsw
  have hk02 : Kept No w w2 := hk1.fresh hk2 (fun x hx => by rw [inA_some] at hx; omega)
  have hs2 := hk2.size
  have hfw : ∀ x, inA aw x → w.heap.size ≤ x ∧ x < w2.heap.size := fun x hx => by
    refine ⟨?_, SlO.lt hsw x hx⟩
    rcases hat2.in hx with e | e
    · rw [inA_some] at e; omega
    · omega
  refine ⟨aw, l2, cw, w2, hrun2, ?_⟩
  intro w3
  have hb3 : Blk w3 w2.heap.size #[.bool true, .slice none 0 0, .slice aw l2 cw, .slice none 0 0] := Blk.alloc w2 _ _
  have hk3 : Kept No w2 w3 := Kept.alloc _ w2 _
  have hs3 : w3.heap.size = w2.heap.size + 1 := by simp [w3]
  clear_value w3
  generalize hxb : w2.heap.size = xb at *
  have hk03 := hk02.no hk3
  have hsw3 := SlO.rd (hsw.keep hk3 (fun _ _ e => e))
  have hbad : ∀ {w' : World} {r}, r ∈ rs → r.1.length > 1048576 → Kept No w w' → CNew w (newCE rs ws) rs ws (.tuple #[.pointer none, .int .i64 5]) w' := by
    intro w' r hr hgt hk
    have e : newCE rs ws = 5 := by
      unfold newCE
      rw [if_neg (by omega), if_neg]
      intro hall
      rw [List.all_eq_true] at hall
      have := hall r hr
      simp at this; omega
    exact .inl ⟨by rw [e]; decide, by rw [e], hk⟩
  refine ⟨fun vs w' => ∃ i : Nat, vs = [.int .i64 (i : Int)] ∧ i ≤ l ∧ Kept No w w' ∧ ∃ ar cr es, Blk w' xb #[.bool true, .slice ar i cr, .slice aw l2 cw, .slice none 0 0] ∧ SlO 2 w' ar i cr (ansC es) ∧
      AnsR (fun x => w.heap.size ≤ x ∧ x ≠ xb ∧ ¬ inA ar x ∧ x < w'.heap.size) w' es (rs.take i) ∧ RdS 1 w' aw l2 cw (In ws) ∧ (∀ x, inA ar x → w.heap.size ≤ x ∧ x ≠ xb ∧ ¬ inA aw x) ∧ ∀ r ∈ rs.take i, r.1.length ≤ 1048576,
    fun vs _ => l - ix vs, ⟨0, rfl, Nat.zero_le _, hk03, none, 0, [], hb3, SlO.nil 2 w3, AnsR.nil _ _, hsw3, fun x hx => absurd hx (inA_none x), by simp⟩, ?_⟩
  intro _ n6 w4 hI
  obtain ⟨i, hvs, hi, h04, ar, cr, es, hb4, hs4, ha4, hw4, hr4, hl4⟩ := hI
  simp only [List.cons.injEq, Value.int.injEq, true_and, and_true] at hvs
  subst hvs
  have h04s := h04.size
  have hx4 := hb4.lt
  refine condP (fun hlt => ?_) (fun hge => ?_)
  · have hil : i < rs.length := by omega
    obtain ⟨q, e, rfl, he1, he2, hrd, hrin⟩ := (h.keep h04 (fun _ _ e => e)).get hil
    refine ⟨by omega, nnI ⟨e.1, e.2.1, e.2.2, rs[i].2, by rw [Int.toNat_natCast]; exact he1, by rw [Int.toNat_natCast]; exact he2, ?_⟩⟩
    intro w5
    have hk5 : Kept No w4 w5 := Kept.alloc _ w4 _
    have hb5 : Blk w5 w4.heap.size #[.slice none 0 0, .int .i64 0] := Blk.alloc w4 _ _
    have hs5 : w5.heap.size = w4.heap.size + 1 := by simp [w5]
    clear_value w5
    generalize hg : w4.heap.size = g at *
    refine stC_blk hb5 (by simp) fun w6 hb6 hk6 hs6 => stC_blk hb6 (by simp) fun w7 hb7 hk7 hs7 => ?_
    have hb7 : Blk w7 g #[.slice e.1 e.2.1 e.2.2, .int .i64 rs[i].2] := by simpa using hb7
    have h47 : Kept No w4 w7 := (hk5.fresh hk6 (by intro x e; omega)).fresh hk7 (by intro x e; omega)
    have h07 := h04.no h47
    have hrl := hrd.len
    refine ⟨e.1, e.2.1, e.2.2, hb7.cell 0, condP (fun g3 => hbad (r := rs[i]) (by simp) (by omega) h07) (fun g3 => ?_)⟩
    have hx7 := hb4.keep h47 (fun e => e)
    refine ⟨fun wS => Blk wS xb #[.bool true, .slice ar i cr, .slice aw l2 cw, .slice none 0 0] ∧ Blk wS g #[.slice e.1 e.2.1 e.2.2, .int .i64 rs[i].2], ⟨hx7, hb7⟩, ?_⟩
    intro w8
    have h48 : Kept No w4 w8 := h47.no (Kept.drew No w7)
    have hb8 : Blk w8 g #[.slice e.1 e.2.1 e.2.2, .int .i64 rs[i].2] := hb7
    have hx8 : Blk w8 xb #[.bool true, .slice ar i cr, .slice aw l2 cw, .slice none 0 0] := hb4.keep h48 (fun e => e)
    have hs8 : w8.heap.size = g + 1 := by show w7.heap.size = _; omega
    clear_value w8
    refine ⟨ar, i, cr, fun wS h => h.1.cell 1, e.1, e.2.1, e.2.2, fun wS h => h.2.cell 0, rs[i].2, fun wS h => h.2.cell 1, (clone_ok (hrd.keep h48 (fun _ _ _ e => e)) (by omega)).mono fun v w9 ⟨a15, c15, hv9, ho9, hk9, hf9, _⟩ => ⟨a15, _, c15, hv9, ⟨hx8.keep hk9 (fun e => e), hb8.keep hk9 (fun e => e)⟩, ?_⟩⟩
    intro w10
    have hk10 : Kept No w9 w10 := Kept.alloc _ w9 _
    have hb10 : Blk w10 w9.heap.size #[.slice a15 e.2.1 c15, .int .i64 rs[i].2] := Blk.alloc w9 _ _
    have hs10 : w10.heap.size = w9.heap.size + 1 := by simp [w10]
    clear_value w10
    have hs9 := hk9.size
    have h410 := (h48.no hk9).no hk10
    have hx10 := hb4.keep h410 (fun e => e)
    refine ⟨⟨hx10, (hb8.keep hk9 (fun e => e)).keep hk10 (fun e => e)⟩, ?_⟩
    rw [hrl] at ho9
    have ho10 := ho9.keep hk10 (fun _ _ e => e)
    have hy : RdS 2 w10 (some ⟨w9.heap.size, 0, none⟩) 1 1 (ansC [((a15, e.2.1, c15), rs[i].2)]) := (SlO.of_blk (sz := 2) (n := 1) hb10 (by simp)).rd
    obtain ⟨a17, c17, w11, hrun, hs11, hk11, hat, hnn⟩ := run_app_sl (P := Try.prog) (t := 62) (t2 := 62) (ty := 62) (by kernel_rfl : slTyB Try.prog 62 2 32 = true) (by kernel_rfl) (hs4.keep h410 (fun _ _ e => e)) hy (ansC_one _) (by omega) (by omega)
    rw [← ansC_app] at hs11
    have arlt : ∀ x, inA ar x → x < g := fun x hx => by have := SlO.lt hs4 x hx; omega
    have hx11 := hx10.keep hk11 (fun e => (hr4 _ e).2.1 rfl)
    have hs11' := hk11.size
    refine ⟨a17, i + 1, c17, w11, hrun, stC_blk hx11 (by simp) fun w12 hb12 hk12 hs12 => ⟨by unfold inI; omega, ⟨i + 1, by simp, by omega, ?_, a17, c17, es ++ [((a15, e.2.1, c15), rs[i].2)], by simpa using hb12, ?_, ?_, ?_, ?_, ?_⟩, by simp only [ix]; omega⟩⟩
    · exact ((h04.no h410).fresh hk11 (fun x hx => (hr4 x hx).1)).fresh hk12 (by intro x e; omega)
    · refine hs11.keep hk12 (fun x hx e => ?_)
      rcases hat.in hx with e' | e'
      · exact (hr4 x e').2.1 e
      · omega
    · have hT : rs.take (i + 1) = rs.take i ++ [rs[i]] := by rw [List.take_add_one, List.getElem?_eq_getElem hil]; rfl
      rw [hT]
      have hnew : ∀ x, (w.heap.size ≤ x ∧ x ≠ xb ∧ ¬ inA ar x ∧ x < g) ∨ (g < x ∧ x < w9.heap.size) → w.heap.size ≤ x ∧ x ≠ xb ∧ ¬ inA a17 x ∧ x < w12.heap.size := by
        rintro x (⟨k1, k2, k3, k4⟩ | ⟨k1, k2⟩)
        · refine ⟨k1, k2, fun e' => ?_, by omega⟩
          rcases hat.in e' with e' | e'
          · exact k3 e'
          · omega
        · refine ⟨by omega, by omega, fun e' => ?_, by omega⟩
          rcases hat.in e' with e' | e'
          · have := arlt x e'; omega
          · omega
      have hkeep : ∀ x, (w.heap.size ≤ x ∧ x ≠ xb ∧ ¬ inA ar x ∧ x < g) ∨ (g < x ∧ x < w9.heap.size) → ¬ inA ar x ∧ x ≠ xb := by
        rintro x (⟨k1, k2, k3, k4⟩ | ⟨k1, k2⟩)
        · exact ⟨k3, k2⟩
        · exact ⟨fun e' => by have := arlt x e'; omega, by omega⟩
      have hA := (((ha4.mono (R' := fun x => (w.heap.size ≤ x ∧ x ≠ xb ∧ ¬ inA ar x ∧ x < g) ∨ (g < x ∧ x < w9.heap.size)) (fun x hx => .inl hx)).keep h410 (fun _ _ e => e)).keep hk11 (fun x hx => (hkeep x hx).1)).keep hk12 (fun x hx => (hkeep x hx).2)
      have hin15 : ∀ x, inA a15 x → g < x ∧ x < w9.heap.size := fun x hx => ⟨by have := hf9 x hx; omega, SlO.lt ho9 x hx⟩
      refine AnsR.mono (AnsR.snoc hA ?_ rfl (fun _ x hx => .inr (hin15 x hx))) hnew
      exact (OB.rd ((ho10.keep hk11 (fun x hx => (hkeep x (.inr (hin15 x hx))).1)).keep hk12 (fun x hx e' => (hkeep x (.inr (hin15 x hx))).2 e')))
    · exact ((hw4.keep h410 (fun _ _ _ e => e)).keep hk11 (fun x _ hx e' => (hr4 x e').2.2 hx)).keep hk12 (fun x _ hx e' => by have := hfw x hx; omega)
    · intro x hx
      rcases hat.in hx with e' | e'
      · exact hr4 x e'
      · refine ⟨by omega, by omega, fun e'' => by have := hfw x e''; omega⟩
    · intro r hr
      rw [List.take_add_one, List.getElem?_eq_getElem hil, List.mem_append] at hr
      rcases hr with hr | hr
      · exact hl4 r hr
      · have : r = rs[i] := by simpa using hr
        subst this; omega
  · have hil : i = l := by omega
    subst hil
    rw [List.take_of_length_le (by omega)] at ha4 hl4
    have e : newCE rs ws = 0 := by
      unfold newCE
      rw [if_neg (by omega), if_pos]
      rw [List.all_eq_true]
      intro r hr
      simpa using hl4 r hr
    refine .inr ⟨e, xb, fun x => w.heap.size ≤ x ∧ x < w4.heap.size, rfl, ⟨ar, i, cr, aw, l2, cw, none, 0, 0, es, hb4, hs4, ha4.mono fun x hx => ⟨⟨hx.1, hx.2.2.2⟩, hx.2.1, hx.2.2.1, inA_none x⟩, hw4, OB.nil w4, ⟨by omega, hx4⟩, fun x hx => hx.2, fun x hx => ⟨⟨(hr4 x hx).1, SlO.lt hs4 x hx⟩, (hr4 x hx).2.1⟩,
      fun x hx => ⟨⟨(hfw x hx).1, by have := hfw x hx; omega⟩, by have := hfw x hx; omega, fun e' => (hr4 x e').2.2 hx, inA_none x⟩, fun x hx => absurd hx (inA_none x), hl4⟩, h04, fun x hx => hx.1⟩

end Go.Proofs.Ytmpmobhofdefeaa
