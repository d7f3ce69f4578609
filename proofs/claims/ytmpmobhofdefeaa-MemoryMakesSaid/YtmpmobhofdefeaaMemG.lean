/-
  The page's memories and streams of one's own: what makes them. Conditions: as each says.
-/
import Derived.Test.YtmpmobhofdefeaaMemF
set_option linter.unusedVariables false
namespace Go.Proofs.Ytmpmobhofdefeaa
open Go.Lw

/-- The page's memory of a kind. -/
def RawO (F : Nat → Prop) (w : World) (b : Nat) (kind : Int) (bs : List Int) (room pl calls : Nat) : Prop :=
  ∃ a l c, Blk w b #[.int .i64 kind, .slice a l c, .int .i64 (room : Int), .int .i64 (pl : Int), .slice none 0 0, .slice none 0 0, .pointer none, .int .i64 0, .int .i64 (calls : Int)] ∧ OB w a l c bs ∧ ¬ inA a b ∧ bs.length ≤ room ∧ pl ≤ room ∧ room ≤ 1048576 ∧ ∀ k, F k ↔ k = b ∨ inA a k

theorem RawO.keep {F S : Nat → Prop} {w w' : World} {b : Nat} {kind : Int} {bs : List Int} {room pl calls : Nat} (h : RawO F w b kind bs room pl calls) (k : Kept S w w') (hn : ∀ k, F k → ¬ S k) : RawO F w' b kind bs room pl calls := by
  obtain ⟨a, l, c, hb, ho, hna, h1, h2, h3, hF⟩ := h
  exact ⟨a, l, c, hb.keep k (hn b ((hF b).2 (.inl rfl))), ho.keep k fun x hx => hn x ((hF x).2 (.inr hx)), hna, h1, h2, h3, hF⟩

/-- The page's stream of one's own. -/
def RawC (F : Nat → Prop) (w : World) (b : Nat) (rs : List (List Int × Int)) (ws tk : List Int) (calls : Nat) : Prop :=
  ∃ ar lr cr aw lw cw ak lk ck es, Blk w b #[.int .i64 4, .slice ak lk ck, .int .i64 0, .int .i64 0, .slice ar lr cr, .slice aw lw cw, .pointer none, .int .i64 0, .int .i64 (calls : Int)] ∧ SlO 2 w ar lr cr (ansC es) ∧ AnsR (fun x => F x ∧ x ≠ b ∧ ¬ inA ar x ∧ ¬ inA ak x) w es rs ∧ RdS 1 w aw lw cw (In ws) ∧ OB w ak lk ck tk ∧
    F b ∧ (∀ x, F x → x < w.heap.size) ∧ (∀ x, inA ar x → F x ∧ x ≠ b) ∧ (∀ x, inA aw x → F x ∧ x ≠ b ∧ ¬ inA ar x ∧ ¬ inA ak x) ∧ (∀ x, inA ak x → F x ∧ x ≠ b ∧ ¬ inA ar x) ∧ ∀ r ∈ rs, r.1.length ≤ 1048576

theorem RawC.keep {F S : Nat → Prop} {w w' : World} {b : Nat} {rs : List (List Int × Int)} {ws tk : List Int} {calls : Nat} (h : RawC F w b rs ws tk calls) (k : Kept S w w') (hn : ∀ x, F x → ¬ S x) : RawC F w' b rs ws tk calls := by
  obtain ⟨ar, lr, cr, aw, lw, cw, ak, lk, ck, es, hb, h1, h2, h3, h4, h5, h6, h7, h8, h9, h10⟩ := h
  exact ⟨ar, lr, cr, aw, lw, cw, ak, lk, ck, es, hb.keep k (hn _ h5), h1.keep k (fun x hx => hn _ (h7 x hx).1), h2.keep k (fun x hx => hn _ hx.1), h3.keep k (fun x _ hx => hn _ (h8 x hx).1), h4.keep k (fun x hx => hn _ (h9 x hx).1), h5,
    fun x hx => Nat.lt_of_lt_of_le (h6 x hx) k.size, h7, h8, h9, h10⟩

theorem rcopied_ok {w : World} {a : Option Addr} {l c : Nat} {bs : List Int} (h : RdB w a l c bs) (hl : l ≤ 140737488355328) :
    CallR Try.prog 82 [.slice a l c] w fun v w' => ∃ a' c', v = .slice a' l c' ∧ OB w' a' l c' bs ∧ Kept No w w' ∧ Fresh w a' := by
  refine C82 ?_
  unfold L82
  obtain ⟨a', c', w2, hrun, hs, hk, hat, hnn⟩ := run_app_sl (P := Try.prog) (t := 26) (t2 := 26) (ty := 26) (by kernel_rfl : slTyB Try.prog 26 1 1 = true) (by kernel_rfl) (SlO.nil 1 w) h (By_one bs) (by omega) (by omega)
  simp only [Nat.zero_add, List.nil_append] at hrun hs
  exact ⟨a', l, c', w2, hrun, a', c', rfl, hs, hk.mono (fun b _ hb => inA_none b hb), hat.fresh (Fresh.none w) (Nat.le_refl _)⟩

def RNew (w : World) (e : Int) (kind : Int) (bs : List Int) (room : Nat) (v : Value) (w' : World) : Prop :=
  (e ≠ 0 ∧ v = .tuple #[.pointer none, .int .i64 e] ∧ Kept No w w') ∨ (e = 0 ∧ ∃ b F', v = .tuple #[pt b, .int .i64 0] ∧ RawO F' w' b kind bs room 0 0 ∧ Kept No w w' ∧ ∀ x, F' x → w.heap.size ≤ x)

theorem RNew.eq {w w' : World} {e kind : Int} {bs : List Int} {room : Nat} {v : Value} (h : RNew w e kind bs room v w') : ∃ p, v = .tuple #[.pointer p, .int .i64 e] ∧ Kept No w w' := by
  rcases h with ⟨_, h, hk⟩ | ⟨he, b, F, h, _, hk, _⟩
  · exact ⟨_, h, hk⟩
  · subst he; exact ⟨_, h, hk⟩

theorem rnew_of {w w1 : World} {a' : Option Addr} {l c' : Nat} {bs : List Int} {room : Nat} (kind : Int) (ho : OB w1 a' l c' bs) (hk : Kept No w w1) (hf : Fresh w a') (h1 : bs.length ≤ room) (h2 : room ≤ 1048576) (t : TypeId) :
    ∃ F', RawO F' (w1.alloc (.cells #[.int .i64 kind, .slice a' l c', .int .i64 (room : Int), .int .i64 0, .slice none 0 0, .slice none 0 0, .pointer none, .int .i64 0, .int .i64 0] t)) w1.heap.size kind bs room 0 0 ∧
      Kept No w (w1.alloc (.cells #[.int .i64 kind, .slice a' l c', .int .i64 (room : Int), .int .i64 0, .slice none 0 0, .slice none 0 0, .pointer none, .int .i64 0, .int .i64 0] t)) ∧ (∀ x, F' x → w.heap.size ≤ x) := by
  have hs := hk.size
  refine ⟨fun x => x = w1.heap.size ∨ inA a' x, ⟨a', l, c', Blk.alloc w1 _ _, ho.keep (Kept.alloc No w1 _) (fun _ _ e => e), fun e => by have := SlO.lt ho _ e; omega, h1, by omega, h2, fun k => Iff.rfl⟩, hk.no (Kept.alloc No w1 _), ?_⟩
  rintro x (rfl | hx)
  · exact hs
  · exact hf x hx

theorem rnewF_ok {w : World} (size : Int) {a : Option Addr} {l c : Nat} {bs : List Int} (h : RdB w a l c bs) :
    CallR Try.prog 45 [.int .i64 size, .slice a l c] w fun v w' => RNew w (newFE size bs.length) 1 bs size.toNat v w' := by
  refine C45 ?_
  unfold L45
  have hlen := h.len
  refine condP (fun g => .inl ⟨?_, ?_, Kept.refl _ _⟩) fun g => condP (fun g2 => .inl ⟨?_, ?_, Kept.refl _ _⟩) fun g2 => condP (fun g3 => .inl ⟨?_, ?_, Kept.refl _ _⟩) fun g3 => ?_
  · unfold newFE; rw [if_pos (by omega)]; decide
  · unfold newFE; rw [if_pos (by omega)]
  · unfold newFE; rw [if_pos (by omega)]; decide
  · unfold newFE; rw [if_pos (by omega)]
  · unfold newFE; rw [if_neg (by omega), if_pos (by omega)]; decide
  · unfold newFE; rw [if_neg (by omega), if_pos (by omega)]
  · refine (rcopied_ok h (by omega)).mono fun v w1 ⟨a', c', hv, ho, hk, hf⟩ => ⟨_, _, _, hv, ?_⟩
    have he : newFE size bs.length = 0 := by unfold newFE; rw [if_neg (by omega), if_neg (by omega)]
    have hsz : size = ((size.toNat : Nat) : Int) := by omega
    intro w2
    refine .inr ⟨he, ?_⟩
    have := rnew_of (w := w) (room := size.toNat) 1 ho hk hf (by omega) (by omega)
    rw [← hsz] at this
    obtain ⟨F', h1, h2, h3⟩ := this _
    exact ⟨_, F', rfl, h1, h2, h3⟩

theorem rnewG_ok {w : World} {a : Option Addr} {l c : Nat} {bs : List Int} (h : RdB w a l c bs) :
    CallR Try.prog 47 [.slice a l c] w fun v w' => RNew w (if bs.length > 1048576 then 5 else 0) 2 bs 1048576 v w' := by
  refine C47 ?_
  unfold L47
  have hlen := h.len
  refine condP (fun g => .inl ⟨?_, ?_, Kept.refl _ _⟩) fun g => ?_
  · rw [if_pos (by omega)]; decide
  · rw [if_pos (by omega)]
  · refine (rcopied_ok h (by omega)).mono fun v w1 ⟨a', c', hv, ho, hk, hf⟩ => ⟨_, _, _, hv, ?_⟩
    intro w2
    refine .inr ⟨if_neg (by omega), ?_⟩
    obtain ⟨F', h1, h2, h3⟩ := rnew_of (w := w) (room := 1048576) 2 ho hk hf (by omega) (by omega) _
    exact ⟨_, F', rfl, h1, h2, h3⟩

theorem rnewR_ok {w : World} {a : Option Addr} {l c : Nat} {bs : List Int} (h : RdB w a l c bs) :
    CallR Try.prog 49 [.slice a l c] w fun v w' => RNew w (if bs.length > 1048576 then 5 else 0) 3 bs bs.length v w' := by
  refine C49 ?_
  unfold L49
  have hlen := h.len
  refine condP (fun g => .inl ⟨?_, ?_, Kept.refl _ _⟩) fun g => ?_
  · rw [if_pos (by omega)]; decide
  · rw [if_pos (by omega)]
  · refine (rcopied_ok h (by omega)).mono fun v w1 ⟨a', c', hv, ho, hk, hf⟩ => ⟨_, _, _, hv, ?_⟩
    intro w2
    refine .inr ⟨if_neg (by omega), ?_⟩
    rw [hlen]
    obtain ⟨F', h1, h2, h3⟩ := rnew_of (w := w) (room := l) 3 ho hk hf (by omega) (by omega) _
    exact ⟨_, F', rfl, h1, h2, h3⟩

def RCNew (w : World) (e : Int) (rs : List (List Int × Int)) (ws : List Int) (v : Value) (w' : World) : Prop :=
  (e ≠ 0 ∧ v = .tuple #[.pointer none, .int .i64 e] ∧ Kept No w w') ∨ (e = 0 ∧ ∃ b F', v = .tuple #[pt b, .int .i64 0] ∧ RawC F' w' b rs ws [] 0 ∧ Kept No w w' ∧ ∀ x, F' x → w.heap.size ≤ x)
theorem RCNew.eq {w w' : World} {e : Int} {rs : List (List Int × Int)} {ws : List Int} {v : Value} (h : RCNew w e rs ws v w') : ∃ p, v = .tuple #[.pointer p, .int .i64 e] ∧ Kept No w w' := by
  rcases h with ⟨_, h, hk⟩ | ⟨he, b, F, h, _, hk, _⟩
  · exact ⟨_, h, hk⟩
  · subst he; exact ⟨_, h, hk⟩

theorem rcnew_ok {R : Nat → Prop} {w : World} {a : Option Addr} {l c : Nat} {rs : List (List Int × Int)} (h : RdA R w a l c rs) {a2 : Option Addr} {l2 c2 : Nat} {ws : List Int} (h2 : RdS 1 w a2 l2 c2 (In ws)) :
    CallR Try.prog 51 [.slice a l c, .slice a2 l2 c2] w fun v w' => RCNew w (newCE rs ws) rs ws v w' := by
  refine C51 ?_
  unfold L51
  have hlen := h.len
  have hlen2 : ws.length = l2 := by have := h2.1; simpa using this
  refine condP (fun g => .inl ⟨?_, ?_, Kept.refl _ _⟩) fun g => condP (fun g2 => .inl ⟨?_, ?_, Kept.refl _ _⟩) fun g2 => ?_
  · unfold newCE; rw [if_pos (by omega)]; decide
  · unfold newCE; rw [if_pos (by omega)]
  · unfold newCE; rw [if_pos (by omega)]; decide
  · unfold newCE; rw [if_pos (by omega)]
  intro w1
  have hk1 : Kept No w w1 := Kept.alloc _ w _
  have hs1 : w1.heap.size = w.heap.size + 1 := by simp [w1]
  have hb1 : Blk w1 w.heap.size #[.int .i64 4, .slice none 0 0, .int .i64 0, .int .i64 0, .slice none 0 0, .slice none 0 0, .pointer none, .int .i64 0, .int .i64 0] := Blk.alloc w _ _
  clear_value w1
  generalize hxb : w.heap.size = xb at *
  have hbad : ∀ {w' : World} {r}, r ∈ rs → r.1.length > 1048576 → Kept No w w' → RCNew w (newCE rs ws) rs ws (.tuple #[.pointer none, .int .i64 5]) w' := by
    intro w' r hr hgt hk
    have e : newCE rs ws = 5 := by
      unfold newCE
      rw [if_neg (by omega), if_neg]
      intro hall
      rw [List.all_eq_true] at hall
      have := hall r hr
      simp at this; omega
    exact .inl ⟨by rw [e]; decide, by rw [e], hk⟩
  refine ⟨fun vs w' => ∃ i : Nat, vs = [.int .i64 (i : Int)] ∧ i ≤ l ∧ Kept No w w' ∧ ∃ ar cr es, Blk w' xb #[.int .i64 4, .slice none 0 0, .int .i64 0, .int .i64 0, .slice ar i cr, .slice none 0 0, .pointer none, .int .i64 0, .int .i64 0] ∧ SlO 2 w' ar i cr (ansC es) ∧
      AnsR (fun x => xb < x ∧ ¬ inA ar x ∧ x < w'.heap.size) w' es (rs.take i) ∧ (∀ x, inA ar x → xb < x) ∧ ∀ r ∈ rs.take i, r.1.length ≤ 1048576,
    fun vs _ => l - ix vs, ⟨0, rfl, Nat.zero_le _, hk1, none, 0, [], hb1, SlO.nil 2 w1, AnsR.nil _ _, fun x hx => absurd hx (inA_none x), by simp⟩, ?_⟩
  intro _ n6 w4 hI
  obtain ⟨i, hvs, hi, h04, ar, cr, es, hb4, hs4, ha4, hr4, hl4⟩ := hI
  simp only [List.cons.injEq, Value.int.injEq, true_and, and_true] at hvs
  subst hvs
  have h04s := h04.size
  have hx4 := hb4.lt
  have arlt : ∀ x, inA ar x → x < w4.heap.size := fun x hx => SlO.lt hs4 x hx
  refine condP (fun hlt => ?_) (fun hge => ?_)
  · have hil : i < rs.length := by omega
    obtain ⟨q, e, rfl, he1, he2, hrd, hrin⟩ := (h.keep h04 (fun _ _ e => e)).get hil
    have hr : (0 ≤ (i : Int) ∧ (i : Int) < ((l : Nat) : Int)) := by omega
    have hrl := hrd.len
    refine ⟨hr, nnI ⟨e.1, e.2.1, e.2.2, by rw [Int.toNat_natCast]; exact he1, condP (fun g3 => hbad (r := rs[i]) (by simp) (by omega) h04) (fun g3 => ?_)⟩⟩
    refine ⟨fun wS => Kept (fun x => False) w4 wS, Kept.drew _ w4, ?_⟩
    intro w8
    have h48 : Kept No w4 w8 := Kept.drew No w4
    have hx8 := hb4.keep h48 (fun e => e)
    have hs8 : w8.heap.size = w4.heap.size := rfl
    clear_value w8
    refine ⟨ar, i, cr, fun wS hS => (hb4.keep hS (fun e => e)).cell 4, hr, nnI ⟨e.1, e.2.1, e.2.2, fun wS hS => by rw [Int.toNat_natCast]; exact hS.cell he1 (fun e => e), hr, nnI ⟨rs[i].2, fun wS hS => by rw [Int.toNat_natCast]; exact hS.cell he2 (fun e => e), ?_⟩⟩⟩
    refine (rcopied_ok (hrd.keep h48 (fun _ _ _ e => e)) (by omega)).mono fun v w9 ⟨a15, c15, hv9, ho9, hk9, hf9⟩ => ⟨a15, _, c15, hv9, h48.no hk9, ?_⟩
    intro w10
    have hk10 : Kept No w9 w10 := Kept.alloc _ w9 _
    have hb10 : Blk w10 w9.heap.size #[.slice a15 e.2.1 c15, .int .i64 rs[i].2] := Blk.alloc w9 _ _
    have hs10 : w10.heap.size = w9.heap.size + 1 := by simp [w10]
    clear_value w10
    have hs9 := hk9.size
    have h410 := (h48.no hk9).no hk10
    have hx10 := hb4.keep h410 (fun e => e)
    refine ⟨h410, ?_⟩
    have ho10 := ho9.keep hk10 (fun _ _ e => e)
    have hy : RdS 2 w10 (some ⟨w9.heap.size, 0, none⟩) 1 1 (ansC [((a15, e.2.1, c15), rs[i].2)]) := (SlO.of_blk (sz := 2) (n := 1) hb10 (by simp)).rd
    obtain ⟨a17, c17, w11, hrun, hs11, hk11, hat, hnn⟩ := run_app_sl (P := Try.prog) (t := 74) (t2 := 74) (ty := 74) (by kernel_rfl : slTyB Try.prog 74 2 32 = true) (by kernel_rfl) (hs4.keep h410 (fun _ _ e => e)) hy (ansC_one _) (by omega) (by omega)
    rw [← ansC_app] at hs11
    have hx11 := hx10.keep hk11 (fun e => by have := hr4 _ e; omega)
    have hs11' := hk11.size
    refine ⟨a17, i + 1, c17, w11, hrun, stC_blk hx11 (by simp) fun w12 hb12 hk12 hs12 => ⟨by unfold inI; omega, ⟨i + 1, by simp, by omega, ?_, a17, c17, es ++ [((a15, e.2.1, c15), rs[i].2)], by simpa using hb12, ?_, ?_, ?_, ?_⟩, by simp only [ix]; omega⟩⟩
    · exact ((h04.no h410).fresh hk11 (fun x hx => by have := hr4 x hx; omega)).fresh hk12 (by intro x e; omega)
    · refine hs11.keep hk12 (fun x hx e => ?_)
      rcases hat.in hx with e' | e'
      · have := hr4 x e'; omega
      · omega
    · have hT : rs.take (i + 1) = rs.take i ++ [rs[i]] := by rw [List.take_add_one, List.getElem?_eq_getElem hil]; rfl
      rw [hT]
      have hnew : ∀ x, (xb < x ∧ ¬ inA ar x ∧ x < w4.heap.size) ∨ (w4.heap.size ≤ x ∧ x < w9.heap.size) → xb < x ∧ ¬ inA a17 x ∧ x < w12.heap.size := by
        rintro x (⟨k1, k3, k4⟩ | ⟨k1, k2⟩)
        · refine ⟨k1, fun e' => ?_, by omega⟩
          rcases hat.in e' with e' | e'
          · exact k3 e'
          · omega
        · refine ⟨by omega, fun e' => ?_, by omega⟩
          rcases hat.in e' with e' | e'
          · have := arlt x e'; omega
          · omega
      have hkeep : ∀ x, (xb < x ∧ ¬ inA ar x ∧ x < w4.heap.size) ∨ (w4.heap.size ≤ x ∧ x < w9.heap.size) → ¬ inA ar x ∧ x ≠ xb := by
        rintro x (⟨k1, k3, k4⟩ | ⟨k1, k2⟩)
        · exact ⟨k3, by omega⟩
        · exact ⟨fun e' => by have := arlt x e'; omega, by omega⟩
      have hA := (((ha4.mono (R' := fun x => (xb < x ∧ ¬ inA ar x ∧ x < w4.heap.size) ∨ (w4.heap.size ≤ x ∧ x < w9.heap.size)) (fun x hx => .inl hx)).keep h410 (fun _ _ e => e)).keep hk11 (fun x hx => (hkeep x hx).1)).keep hk12 (fun x hx => (hkeep x hx).2)
      have hin15 : ∀ x, inA a15 x → w4.heap.size ≤ x ∧ x < w9.heap.size := fun x hx => ⟨by have := hf9 x hx; omega, SlO.lt ho9 x hx⟩
      refine AnsR.mono (AnsR.snoc hA ?_ rfl (fun _ x hx => .inr (hin15 x hx))) hnew
      exact (OB.rd ((ho10.keep hk11 (fun x hx => (hkeep x (.inr (hin15 x hx))).1)).keep hk12 (fun x hx e' => (hkeep x (.inr (hin15 x hx))).2 e')))
    · intro x hx
      rcases hat.in hx with e' | e'
      · exact hr4 x e'
      · omega
    · intro r hr
      rw [List.take_add_one, List.getElem?_eq_getElem hil, List.mem_append] at hr
      rcases hr with hr | hr
      · exact hl4 r hr
      · have : r = rs[i] := by simpa using hr
        subst this; omega
  · have hil : i = l := by omega
    subst hil
    rw [List.take_of_length_le (by omega)] at ha4 hl4
    have e : newCE rs ws = 0 := by
      unfold newCE
      rw [if_neg (by omega), if_pos]
      rw [List.all_eq_true]
      intro r hr
      simpa using hl4 r hr
    obtain ⟨aw, cw, w8, hrun8, hsw, hk8, hat8, hnn8⟩ := run_app_sl (P := Try.prog) (t := 75) (t2 := 75) (ty := 75) (by kernel_rfl : slTyB Try.prog 75 1 8 = true) (by kernel_rfl) (SlO.nil 1 w4) (h2.keep h04 (fun _ _ _ e => e)) (In_one ws) (by omega) (by omega)
    simp only [Nat.zero_add, List.nil_append] at hrun8 hsw
    have hk8 : Kept No w4 w8 := hk8.mono fun b _ hb => inA_none b hb
    have hf8 : Fresh w4 aw := hat8.fresh (Fresh.none w4) (Nat.le_refl _)
    have hb8 := hb4.keep hk8 (fun e => e)
    have hs8 := hk8.size
    refine ⟨none, 0, 0, hb4.cell 5, aw, l2, cw, w8, hrun8, stC_blk hb8 (by simp) fun w9 hb9 hk9 hs9 => .inr ⟨e, xb, fun x => xb ≤ x ∧ x < w9.heap.size, rfl, ⟨ar, i, cr, aw, l2, cw, none, 0, 0, es, by simpa using hb9, (hs4.keep hk8 (fun _ _ e => e)).keep hk9 (fun x hx e => by have := hr4 x hx; omega), ?_, (SlO.rd hsw).keep hk9 (fun x _ hx e => by have := hf8 x hx; omega), OB.nil _, ⟨by omega, by omega⟩, fun x hx => hx.2, fun x hx => ⟨⟨by have := hr4 x hx; omega, by have := arlt x hx; omega⟩, by have := hr4 x hx; omega⟩, fun x hx => ⟨⟨by have := hf8 x hx; omega, by have := SlO.lt hsw x hx; omega⟩, by have := hf8 x hx; omega, fun e' => by have := arlt x e'; have := hf8 x hx; omega, inA_none x⟩, fun x hx => absurd hx (inA_none x), hl4⟩, ?_, fun x hx => by omega⟩⟩
    · exact ((ha4.keep hk8 (fun _ _ e => e)).keep hk9 (fun x hx e => by have := hx.1; omega)).mono fun x hx => ⟨⟨by have := hx.1; omega, by have := hx.2.2; omega⟩, by have := hx.1; omega, hx.2.1, inA_none x⟩
    · exact (h04.no hk8).fresh hk9 (fun x e => by omega)

/-- A row's answers. -/
theorem rdA_of_view {W : World} {a : Option Addr} {l c : Nat} (hlc : l ≤ c) (hz : a = none → c = 0)
    (h : ∀ q : Addr, a = some q → ∀ i : Nat, i < l → ∃ (a' : Option Addr) (l' c' : Nat) (ns : List Int) (n : Int), RdB W a' l' c' ns ∧ W.cell? (q.add (i * 2)) = some (.slice a' l' c') ∧ W.cell? ((q.add (i * 2)).add 1) = some (.int .i64 n)) :
    ∃ rs, RdA (· < W.heap.size) W a l c rs := by
  cases a with
  | none =>
    have := hz rfl
    obtain rfl : l = 0 := by omega
    subst this
    exact ⟨[], [], RdS.nil 2 W, AnsR.nil _ _, fun h => absurd rfl h⟩
  | some q =>
    obtain ⟨f, hf⟩ := Deep.choose_lt (α := (Slc × Int) × List Int) (n := l) (p := fun i x => RdB W x.1.1.1 x.1.1.2.1 x.1.1.2.2 x.2 ∧ W.cell? (q.add (i * 2)) = some (slv x.1.1) ∧ W.cell? ((q.add (i * 2)).add 1) = some (.int .i64 x.1.2)) (fun i hi => by
      obtain ⟨a', l', c', ns, n, h1, h2, h3⟩ := h q rfl i hi
      exact ⟨(((a', l', c'), n), ns), h1, h2, h3⟩)
    refine ⟨(List.range l).map fun i => ((f i).2, (f i).1.2), (List.range l).map fun i => (f i).1, ⟨by rw [ansC_len]; simp, hlc, (fun h => by cases h), fun ad had i v hi => ?_⟩, ⟨by simp, fun i e r he hr => ?_⟩, fun hl k hk => ?_⟩
    · cases had
      have hlt : i < l * 2 := by
        have := (List.getElem?_eq_some_iff.1 hi).1
        rw [ansC_len] at this; simpa using this
      have hil : i / 2 < l := by omega
      obtain ⟨g1, g2⟩ := ansC_get ((List.range l).map fun i => (f i).1) (i / 2) (f (i / 2)).1 (by simp [hil])
      rcases Nat.mod_two_eq_zero_or_one i with hm | hm
      · have e : i = i / 2 * 2 := by omega
        rw [e] at hi ⊢
        rw [g1] at hi; cases hi
        exact (hf _ hil).2.1
      · have e : i = i / 2 * 2 + 1 := by omega
        rw [e] at hi ⊢
        rw [g2] at hi; cases hi
        rw [← Lw.add_add]
        exact (hf _ hil).2.2
    · by_cases hil : i < l
      · simp [hil] at he hr; subst he hr
        exact ⟨(hf i hil).1, rfl, fun hne k hk => (hf i hil).1.old hne k hk⟩
      · simp [hil] at he
    · obtain ⟨ad, had, rfl⟩ := hk
      cases had
      have := World.block_lt_of_cell? W _ (hf 0 (by omega)).2.1
      have hbe : (q.add (0 * 2)).block = q.block := by unfold Addr.add; split <;> rfl
      omega

end Go.Proofs.Ytmpmobhofdefeaa
