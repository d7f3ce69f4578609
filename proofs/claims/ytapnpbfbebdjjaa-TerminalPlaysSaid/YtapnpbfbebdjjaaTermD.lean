/-
  The page's terminal: what its functions do. Conditions: as each says.
-/
import Derived.Test.YtapnpbfbebdjjaaTermC
import Derived.Test.YtapnpbfbebdjjaaLV
set_option linter.unusedVariables false
namespace Go.Proofs.Ytapnpbfbebdjjaa
open Go.Lw

/-- Slices that lie at these places read as these bytes, in memory R. -/
def Inner (R : Nat → Prop) (w : World) (es : List Slc) (LL : List (List Int)) : Prop :=
  es.length = LL.length ∧ ∀ (i : Nat) (e : Slc) (xs : List Int), es[i]? = some e → LL[i]? = some xs → RdB w e.1 e.2.1 e.2.2 xs ∧ (xs ≠ [] → ∀ k, inA e.1 k → R k)

theorem Inner.keep {R S : Nat → Prop} {w w' : World} {es : List Slc} {LL : List (List Int)} (h : Inner R w es LL) (k : Kept S w w') (hn : ∀ x, R x → ¬ S x) : Inner R w' es LL :=
  ⟨h.1, fun i e xs he hx => ⟨(h.2 i e xs he hx).1.keep0 k fun hne b hb => hn b ((h.2 i e xs he hx).2 hne b hb), (h.2 i e xs he hx).2⟩⟩

/-- The page's terminal. -/
def RefT (F R : Nat → Prop) (w : World) (b : Nat) (LL : List (List Int)) (scr : List Int) : Prop :=
  ∃ (la : Option Addr) (ll lc : Nat) (sa : Option Addr) (sl sc : Nat) (es : List Slc), Blk w b #[.slice la ll lc, .slice sa sl sc] ∧ SlO 1 w la ll lc (es.map slv) ∧ Inner R w es LL ∧
    OB w sa sl sc scr ∧ ¬ inA la b ∧ ¬ inA sa b ∧ (∀ k, inA la k → ¬ inA sa k) ∧ scr.length ≤ 1048576 ∧ (∀ k, F k ↔ k = b ∨ inA la k ∨ inA sa k) ∧ (∀ k, R k → ¬ F k) ∧ (∀ k, R k → k < w.heap.size) ∧ LL.length ≤ 256 ∧ ∀ x ∈ LL, x.length ≤ 4096

theorem RefT.keep {F R S : Nat → Prop} {w w' : World} {b : Nat} {LL : List (List Int)} {scr : List Int} (h : RefT F R w b LL scr) (k : Kept S w w') (hf : ∀ x, F x → ¬ S x) (hr : ∀ x, R x → ¬ S x) : RefT F R w' b LL scr := by
  obtain ⟨la, ll, lc, sa, sl, sc, es, hb, hl, hi, ho, hna, hna2, hls, hs, hF, hR, hlt, h1, h2⟩ := h
  exact ⟨la, ll, lc, sa, sl, sc, es, hb.keep k (hf b ((hF b).2 (.inl rfl))), hl.keep k (fun x hx => hf x ((hF x).2 (.inr (.inl hx)))), hi.keep k hr, ho.keep k (fun x hx => hf x ((hF x).2 (.inr (.inr hx)))), hna, hna2, hls, hs, hF, hR, fun k' hk => Nat.lt_of_lt_of_le (hlt k' hk) k.size, h1, h2⟩

theorem RefT.lt {F R : Nat → Prop} {w : World} {b : Nat} {LL : List (List Int)} {scr : List Int} (h : RefT F R w b LL scr) : ∀ k, F k ∨ R k → k < w.heap.size := by
  obtain ⟨la, ll, lc, sa, sl, sc, es, hb, hl, hi, ho, hna, hna2, hls, hs, hF, hR, hlt, h1, h2⟩ := h
  intro k hk
  rcases hk with hk | hk
  · rcases (hF k).1 hk with rfl | hk | hk
    · exact hb.lt
    · exact SlO.lt hl k hk
    · exact SlO.lt ho k hk
  · exact hlt k hk

theorem RefT.scr {F R : Nat → Prop} {w : World} {b : Nat} {LL : List (List Int)} {scr : List Int} (h : RefT F R w b LL scr) : scr.length ≤ 1048576 := by
  obtain ⟨la, ll, lc, sa, sl, sc, es, hb, hl, hi, ho, hna, hna2, hls, hs, _⟩ := h; exact hs

theorem rcheck_ok {R0 : Nat → Prop} {w : World} {a : Option Addr} {l c : Nat} {LL : List (List Int)} (h : RdL R0 w a l c LL) :
    CallR Try.prog 60 [.slice a l c] w fun v w' => v = .int .i64 (newT LL) ∧ w' = w := by
  have hlen := h.len
  refine C60 ?_
  unfold L60
  refine condP (fun hgt => ⟨?_, rfl⟩) (fun hle => ?_)
  · have : newT LL = 3 := by unfold newT; rw [if_pos (by omega)]
    rw [this]
  refine ⟨fun vs w' => w' = w ∧ ∃ i : Nat, vs = [.int .i64 (i : Int)] ∧ i ≤ l ∧ (LL.take i).all (fun x => decide (x.length ≤ 4096)) = true, fun vs _ => match vs with | [.int _ i] => (l - i).toNat | _ => 0, ⟨rfl, 0, rfl, Nat.zero_le _, by simp⟩, ?_⟩
  intro _ n4 w1 hI
  obtain ⟨hw, i, hv, hi, hall⟩ := hI
  subst hw
  simp only [List.cons.injEq, Value.int.injEq, true_and, and_true] at hv
  subst hv
  refine condP (fun hlt => ?_) (fun hge => ?_)
  · have hil : i < LL.length := by omega
    obtain ⟨q, ⟨ea, el, ec⟩, hq, hc, hrd, _⟩ := h.get hil
    subst hq
    simp only at hc hrd
    obtain rfl : LL[i].length = el := hrd.len
    refine ⟨⟨by omega, by omega⟩, nnI ⟨_, _, _, hc, condP (fun hbig => ⟨?_, rfl⟩) (fun hsmall => ⟨by unfold inI; omega, ⟨rfl, i + 1, rfl, by omega, ?_⟩, ?_⟩)⟩⟩
    · have h1 : ¬ 256 < LL.length := by omega
      have h2 : LL.all (fun x => decide (x.length ≤ 4096)) = false := by
        cases hx : LL.all (fun x => decide (x.length ≤ 4096)) with
        | false => rfl
        | true =>
          have := List.all_eq_true.1 hx LL[i] (List.getElem_mem hil)
          have := of_decide_eq_true this
          omega
      have : newT LL = 5 := by unfold newT; rw [if_neg h1, h2]; rfl
      rw [this]
    · rw [List.take_add_one, List.getElem?_eq_getElem hil]
      simp only [Option.toList_some, List.all_append, hall, Bool.true_and]
      have : LL[i].length ≤ 4096 := by omega
      simp [this]
    · show ((l : Int) - ((i : Int) + 1)).toNat < ((l : Int) - (i : Int)).toNat
      omega
  · have hil : i = l := by omega
    subst hil
    rw [List.take_of_length_le (by omega)] at hall
    have hn0 : newT LL = 0 := by unfold newT; rw [if_neg (by omega), hall]; rfl
    rw [hn0]; exact ⟨rfl, rfl⟩

theorem rnewT_ok {R0 : Nat → Prop} {w : World} {a : Option Addr} {l c : Nat} {LL : List (List Int)} (h : RdL R0 w a l c LL) (hl : ∀ x ∈ LL, x.length ≤ 140737488355328) :
    CallR Try.prog 34 [.slice a l c] w fun v w' => Kept No w w' ∧ ((newT LL ≠ 0 ∧ v = .tuple #[.pointer none, .int .i64 (newT LL)]) ∨
      (newT LL = 0 ∧ ∃ b F R, v = .tuple #[ptt b, .int .i64 0] ∧ RefT F R w' b LL [] ∧ ∀ k, F k ∨ R k → w.heap.size ≤ k)) := by
  have hlen := h.len
  refine C34 ?_
  unfold L34
  refine (rcheck_ok h).mono fun v w1 ⟨hv, hw⟩ => ⟨_, hv, ?_⟩
  rw [hw]
  refine condI (fun hne => ⟨Kept.refl _ _, .inl ⟨by simpa using hne, rfl⟩⟩) (fun hz => ?_)
  have hn0 : newT LL = 0 := by simpa using hz
  have h12 : LL.length ≤ 256 ∧ ∀ x ∈ LL, x.length ≤ 4096 := by
    unfold newT at hn0
    split at hn0
    · simp at hn0
    · split at hn0
      · rename_i h1 h2
        exact ⟨by omega, fun x hx => of_decide_eq_true (List.all_eq_true.1 h2 x hx)⟩
      · simp at hn0
  intro w2
  have hb2 : Blk w2 w.heap.size #[.slice none 0 0, .slice none 0 0] := Blk.alloc w _ _
  have hk2 : Kept No w w2 := Kept.alloc _ _ _
  clear_value w2
  refine ⟨fun vs w2 => ∃ (i : Nat) (la : Option Addr) (lc : Nat) (es : List Slc), vs = [.int .i64 (i : Int)] ∧ i ≤ l ∧ Blk w2 w.heap.size #[.slice la i lc, .slice none 0 0] ∧
      SlO 1 w2 la i lc (es.map slv) ∧ (∀ k, inA la k → w.heap.size < k) ∧ (∀ (j : Nat) (e : Slc), es[j]? = some e → ∃ xs, LL[j]? = some xs ∧ RdB w2 e.1 e.2.1 e.2.2 xs ∧ (∀ k, inA e.1 k → w.heap.size < k ∧ k < w2.heap.size ∧ ¬ inA la k)) ∧
      Kept No w w2, fun vs _ => match vs with | [.int _ i] => (l - i).toNat | _ => 0,
    ⟨0, none, 0, [], rfl, Nat.zero_le _, hb2, SlO.nil 1 w2, fun k hk => absurd hk (inA_none k), fun j e he => by simp at he, hk2⟩, ?_⟩
  intro _ n4 w3 hI
  obtain ⟨i, la, lc, es, hv, hi, hb3, hs3, hla, hes, hk3⟩ := hI
  simp only [List.cons.injEq, Value.int.injEq, true_and, and_true] at hv
  subst hv
  have hesl : es.length = i := by have := hs3.1; simpa using this
  refine condP (fun hlt => ?_) (fun hge => ?_)
  · have hil : i < LL.length := by omega
    obtain ⟨q, ⟨ea, el, ec⟩, hq, hc, hrd, _⟩ := (h.keep hk3 (fun _ _ e => e)).get hil
    subst hq
    simp only at hc hrd
    obtain rfl : LL[i].length = el := hrd.len
    have hLi := hl LL[i] (List.getElem_mem hil)
    refine ⟨fun wS => Blk wS w.heap.size #[.slice la i lc, .slice none 0 0] ∧ wS.cell? (q.add i) = some (.slice ea LL[i].length ec), ⟨hb3, hc⟩, ?_⟩
    intro w4
    have hk4 : Kept No w3 w4 := Kept.drew _ _
    have hb4 : Blk w4 w.heap.size #[.slice la i lc, .slice none 0 0] := hb3
    have hc4 : w4.cell? (q.add i) = some (.slice ea LL[i].length ec) := hc
    have hrd4 := hrd.keep hk4 (fun _ _ _ e => e)
    have hsz4 : w4.heap.size = w3.heap.size := rfl
    clear_value w4
    obtain ⟨a5, c5, w5, hrun5, hs5, hk5, hat5, _⟩ := run_app_sl (P := Try.prog) (t := 22) (t2 := 22) (ty := 22) (by kernel_rfl : slTyB Try.prog 22 1 1 = true) (by kernel_rfl) (SlO.nil 1 w4) hrd4 (By_one _) (by omega) (by omega)
    simp only [Nat.zero_add, List.nil_append] at hrun5 hs5
    have hk5' : Kept No w4 w5 := hk5.mono (fun _ _ e => inA_none _ e)
    have hf5 : Fresh w4 a5 := hat5.fresh (Fresh.none w4) (Nat.le_refl _)
    refine ⟨la, i, lc, fun wS hS => (hS.1.cell 0).trans rfl, ⟨by omega, by omega⟩, nnI ⟨_, _, _, fun wS hS => hS.2, _, _, _, w5, hrun5, ⟨hb4.keep hk5' (fun e => e), hk5'.cell hc4 (fun e => e)⟩, ?_⟩⟩
    have hb5 := hb4.keep hk5' (fun e => e)
    intro w6
    have hk6 : Kept No w5 w6 := Kept.alloc _ _ _
    have hnew6 : SlO 1 w6 (some ⟨w5.heap.size, 0, none⟩) 1 1 ([(a5, LL[i].length, c5)].map slv) :=
      SlO.of_blk (sz := 1) (n := 1) (Blk.alloc w5 #[slv (a5, LL[i].length, c5)] 22) rfl
    clear_value w6
    have hk36 := hk4.no (hk5'.no hk6)
    have hs6 := hs3.keep hk36 (fun _ _ e => e)
    obtain ⟨a7, c7, w7, hrun, hs7, hk7, hat, _⟩ := run_app_sl (P := Try.prog) (t := 49) (t2 := 49) (ty := 49) (by kernel_rfl : slTyB Try.prog 49 1 24 = true) (by kernel_rfl) hs6 hnew6.rd (slv_one _) (by omega) (by omega)
    refine ⟨⟨hb5.keep hk6 (fun e => e), (hk5'.no hk6).cell hc4 (fun e => e)⟩, a7, _, c7, w7, hrun, ?_⟩
    have hlt6 : ∀ k, inA a5 k → k < w6.heap.size := fun k hk => Nat.lt_of_lt_of_le (SlO.lt hs5 k hk) hk6.size
    have hb7 : Blk w7 w.heap.size _ := (hb5.keep hk6 (fun e => e)).keep hk7 (fun hx => by have := hla _ hx; omega)
    have hla7 : ∀ k, inA a7 k → w.heap.size < k := fun k hk => by
      rcases hat.in hk with h | rfl
      · exact hla k h
      · have := hb5.lt; have := hk6.size; omega
    refine stC_blk hb7 (by simp) fun w8 hb8 hk8 hsz8 => ⟨by unfold inI; omega, ⟨i + 1, a7, c7, es ++ [(a5, LL[i].length, c5)], rfl, by omega, hb8, ?_, hla7, ?_, ?_⟩, ?_⟩
    · rw [List.map_append]
      exact SlO.keep hs7 hk8 (fun k hk e => by have := hla7 k hk; omega)
    · intro j e he
      by_cases hj : j < i
      · rw [List.getElem?_append_left (by omega)] at he
        obtain ⟨xs, hx, hr, hin⟩ := hes j e he
        refine ⟨xs, hx, ?_, fun k hk => ?_⟩
        · refine RdB.keep0 (RdB.keep0 (hr.keep0 hk36 (fun _ _ _ e => e)) hk7 (fun _ k hk h => (hin k hk).2.2 h)) hk8 (fun _ k hk e => by have := (hin k hk).1; omega)
        · obtain ⟨h1, h2, h3⟩ := hin k hk
          refine ⟨h1, ?_, fun hx => ?_⟩
          · have := hk36.size; have := hk7.size; omega
          · rcases hat.in hx with h | rfl
            · exact h3 h
            · have := hk36.size; omega
      · have hje : j = i := by
          have := (List.getElem?_eq_some_iff.1 he).1
          simp at this; omega
        subst hje
        rw [List.getElem?_append_right (by omega), hesl, Nat.sub_self] at he
        simp at he
        subst he
        have hr5 : RdB w5 a5 LL[j].length c5 LL[j] := SlO.rd hs5
        refine ⟨LL[j], by simp [hil], ?_, fun k hk => ?_⟩
        · refine RdB.keep0 (RdB.keep0 (hr5.keep0 hk6 (fun _ _ _ e => e)) hk7 (fun _ k hk h => ?_)) hk8 (fun _ k hk e => ?_)
          · have h1 := hf5 k hk; have h2 := SlO.lt hs3 k h; omega
          · have h1 := hf5 k hk; have h3 := hb3.lt; omega
        · have h1 := hf5 k hk
          have h3 := hb3.lt
          refine ⟨by omega, ?_, fun hx => ?_⟩
          · have := hlt6 k hk; have := hk7.size; omega
          · rcases hat.in hx with h | rfl
            · have h2 := SlO.lt hs3 k h; omega
            · have := hlt6 _ hk; omega
    · exact ((hk3.no hk36).fresh hk7 (fun k hk => Nat.le_of_lt (hla k hk))).fresh hk8 (fun k e => by rw [e]; exact Nat.le_refl _)
    · show ((l : Int) - ((i : Int) + 1)).toNat < ((l : Int) - (i : Int)).toNat
      omega
  · have hil : i = l := by omega
    subst hil
    refine ⟨hk3, .inr ⟨hn0, w.heap.size, fun k => k = w.heap.size ∨ inA la k, fun k => ∃ e ∈ es, inA e.1 k, rfl, ⟨la, i, lc, none, 0, 0, es, hb3, hs3, ⟨by omega, fun j e xs he hx => ?_⟩, OB.nil w3, fun hk => by have := hla _ hk; omega, inA_none _, fun k _ => inA_none k, by simp, fun k => ?_, fun k hk e => ?_, fun k hk => ?_, h12.1, h12.2⟩, fun k hk => ?_⟩⟩
    · obtain ⟨xs', hx', hr, _⟩ := hes j e he
      rw [hx] at hx'; cases hx'
      exact ⟨hr, fun _ k hk => ⟨e, List.mem_of_getElem? he, hk⟩⟩
    · constructor
      · rintro (h | h)
        · exact .inl h
        · exact .inr (.inl h)
      · rintro (h | h | h)
        · exact .inl h
        · exact .inr h
        · exact absurd h (inA_none k)
    · obtain ⟨e', he', hk⟩ := hk
      obtain ⟨j, hj⟩ := List.mem_iff_getElem?.1 he'
      obtain ⟨_, _, _, h3⟩ := hes j e' hj
      rcases e with e | e
      · have := (h3 k hk).1; omega
      · exact (h3 k hk).2.2 e
    · obtain ⟨e', he', hk⟩ := hk
      obtain ⟨j, hj⟩ := List.mem_iff_getElem?.1 he'
      obtain ⟨_, _, _, h3⟩ := hes j e' hj
      exact (h3 k hk).2.1
    · rcases hk with (rfl | hk) | ⟨e', he', hk⟩
      · exact Nat.le_refl _
      · exact Nat.le_of_lt (hla k hk)
      · obtain ⟨j, hj⟩ := List.mem_iff_getElem?.1 he'
        obtain ⟨_, _, _, h3⟩ := hes j e' hj
        exact Nat.le_of_lt (h3 k hk).1

theorem rreadT_ok {F R : Nat → Prop} {w : World} {b : Nat} {LL : List (List Int)} {scr : List Int} (h : RefT F R w b LL scr) (n : Int) :
    CallR Try.prog 35 [ptt b, .int .i64 n] w fun v w' => ∃ a' c', v = .tuple #[.slice a' (readT n LL).2.1.length c', .int .i64 (readT n LL).1] ∧ RdB w' a' (readT n LL).2.1.length c' (readT n LL).2.1 ∧ ∃ F', (∀ k, F' k → F k) ∧ Kept F w w' ∧ RefT F' R w' b (readT n LL).2.2 scr := by
  have ht := h
  obtain ⟨la, ll, lc, sa, sl, sc, es, hb, hl, hin, ho, hna, hna2, hls, hs, hF, hR, hlt, h1, h2⟩ := h
  have hel : es.length = ll := by have := hl.1; simpa using this
  have hll := hin.1
  refine C35 ?_
  unfold L35
  refine condP (fun hsm => ?_) (fun hge => condP (fun hbig => ?_) (fun hle => ?_))
  · have e : readT n LL = (4, [], LL) := by unfold readT; rw [if_pos (.inl hsm)]
    rw [e]; exact ⟨none, 0, rfl, RdB.nil w, F, fun _ h => h, Kept.refl _ _, ht⟩
  · have e : readT n LL = (4, [], LL) := by unfold readT; rw [if_pos (.inr hbig)]
    rw [e]; exact ⟨none, 0, rfl, RdB.nil w, F, fun _ h => h, Kept.refl _ _, ht⟩
  · have hn : ¬ (n < 1 ∨ n > 1048576) := by omega
    refine nnI ⟨la, ll, lc, hb.at0 rfl, condI (fun h0 => ?_) (fun h0 => ?_)⟩
    · have hl0 : ll = 0 := by simpa using h0
      have hLL : LL = [] := List.eq_nil_of_length_eq_zero (by omega)
      have e : readT n LL = (0, [], LL) := by unfold readT; rw [if_neg hn, hLL]
      rw [e]; exact ⟨none, 0, rfl, RdB.nil w, F, fun _ h => h, Kept.refl _ _, ht⟩
    · have hl0 : ¬ ll = 0 := by simpa using h0
      cases LL with
      | nil =>
        have h3 : es.length = 0 := hll
        omega
      | cons x r =>
        cases es with
        | nil =>
          have h3 : 0 = ll := hel
          omega
        | cons e0 es =>
          obtain ⟨ea, el, ec⟩ := e0
          have hx4 := h2 x (by simp)
          obtain ⟨hrd, hRe⟩ := hin.2 0 (ea, el, ec) x rfl rfl
          simp only at hrd hRe
          obtain rfl : x.length = el := hrd.len
          have hlec : x.length ≤ ec := hrd.2.1
          cases la with
          | none => have := (RdS.isNone hl.rd rfl).1; omega
          | some q =>
            have hce := hl.rd.2.2.2 q rfl 0 (slv (ea, x.length, ec)) rfl
            refine nnI ⟨some q, ll, lc, hb.at0 rfl, ⟨by omega, by omega⟩, nnI ⟨ea, x.length, ec, hce, ?_⟩⟩
            rw [mn_eq]
            have hRb : ∀ k, R k → k ≠ b := fun k hk e => hR k hk ((hF k).2 (.inl e))
            refine condI (fun hall => ?_) (fun hsome => ?_)
            · have hmx : min n (x.length : Int) = x.length := by simpa using hall
              rw [hmx]
              refine nnI ⟨some q, ll, lc, hb.at0 rfl, ⟨by omega, by omega⟩, nnI (stC_blk hb (by simp) fun w3 hb3 hk3 hsz3 => ⟨⟨by omega, by omega⟩, ?_⟩)⟩
              have e : readT n (x :: r) = (0, x, r) := by
                unfold readT; rw [if_neg hn]; simp only; rw [if_pos (by omega), List.take_of_length_le (by omega)]
              rw [e]
              have hrd3 : RdB w3 ea x.length ec x := hrd.keep0 hk3 (fun hne k hk e => hRb k (hRe hne k hk) e)
              refine ⟨ea, ec, rfl, hrd3, F, fun _ h => h, hk3.mono (fun k _ e => (hF k).2 (.inl e)), ?_⟩
              refine ⟨adv (some q) 1 lc 1, ll - 1, lc - 1, sa, sl, sc, es, hb3, ?_, ⟨by simpa using hll, fun i e ys he hy => ?_⟩, ?_, fun h => hna (inA_adv.1 h), hna2, fun k hk => hls k (inA_adv.1 hk), hs, fun k => ?_, hR, fun k hk => Nat.lt_of_lt_of_le (hlt k hk) hk3.size, (by show r.length ≤ 256; simp at h1; omega), fun y hy => h2 y (by simp [hy])⟩
              · have := SlO.keep (hl.from 1 (by omega)) hk3 (fun k hk e => hna (e ▸ inA_adv.1 hk))
                simpa using this
              · have := hin.2 (i + 1) e ys (by simpa using he) (by simpa using hy)
                exact ⟨this.1.keep0 hk3 (fun hne k hk e => hRb k (this.2 hne k hk) e), this.2⟩
              · exact ho.keep hk3 (fun k hk e => hna2 (e ▸ hk))
              · rw [hF k, inA_adv]
            · have hmx : ¬ min n (x.length : Int) = x.length := by simpa using hsome
              have hmn : min n (x.length : Int) = n := by omega
              rw [hmn]
              intro w2
              have hk2 : Kept F w w2 := Kept.drew _ _
              have hb2 : Blk w2 b #[.slice (some q) ll lc, .slice sa sl sc] := hb
              have hl2 : SlO 1 w2 (some q) ll lc (((ea, x.length, ec) :: es).map slv) := hl
              have ht2 : RefT F R w2 b (x :: r) scr := ht.keep (Kept.drew No w) (fun _ _ e => e) (fun _ _ e => e)
              have hrd2 : RdB w2 ea x.length ec x := hrd
              have hin2 : Inner R w2 ((ea, x.length, ec) :: es) (x :: r) := hin.keep (Kept.drew No w) (fun _ _ e => e)
              have ho2 : OB w2 sa sl sc scr := ho
              have hlt2 : ∀ k, R k → k < w2.heap.size := hlt
              clear_value w2
              obtain ⟨m, rfl⟩ : ∃ m : Nat, n = (m : Int) := ⟨n.toNat, by omega⟩
              simp only [Int.toNat_natCast]
              refine nnI ⟨some q, ll, lc, hb2.at0 rfl, ⟨by omega, by omega⟩, ⟨by omega, by omega⟩, nnI (stC_slo (j := 0) hl2 rfl (by omega) fun w3 hl3 hk3 hsz3 => ⟨⟨by omega, by omega⟩, ?_⟩)⟩
              have e : readT (m : Int) (x :: r) = (0, x.take m, x.drop m :: r) := by
                unfold readT; rw [if_neg hn]; simp only; rw [if_neg (by omega)]; simp
              rw [e]
              have hRq : ∀ k, R k → ¬ inA (some q) k := fun k hk e => hR k hk ((hF k).2 (.inr (.inl e)))
              have hrd3 : RdB w3 ea x.length ec x := hrd2.keep0 hk3 (fun hne k hk e => hRq k (hRe hne k hk) e)
              have htl : (x.take m).length = m := by simp; omega
              refine ⟨ea, ec, by rw [htl], by rw [htl]; exact hrd3.to m (by omega), F, fun _ h => h, hk2.trans (hk3.mono (S' := F) fun k _ e => (hF k).2 (.inr (.inl e))) (fun _ _ e => e), ?_⟩
              refine ⟨some q, ll, lc, sa, sl, sc, (adv ea m ec 1, x.length - m, ec - m) :: es, hb2.keep hk3 hna, hl3, ⟨by simpa using hll, fun i e ys he hy => ?_⟩, ?_, hna, hna2, hls, hs, hF, hR, fun k hk => Nat.lt_of_lt_of_le (hlt2 k hk) hk3.size, by simpa using h1, fun y hy => ?_⟩
              · cases i with
                | zero =>
                  simp at he hy
                  subst he hy
                  exact ⟨hrd3.from m (by omega), fun hne k hk => hRe (fun e => hne (by rw [e]; simp)) k (inA_adv.1 hk)⟩
                | succ i =>
                  have := hin2.2 (i + 1) e ys (by simpa using he) (by simpa using hy)
                  exact ⟨this.1.keep0 hk3 (fun hne k hk e => hRq k (this.2 hne k hk) e), this.2⟩
              · exact ho2.keep hk3 (fun k hk e => hls k e hk)
              · rcases List.mem_cons.1 hy with rfl | hy
                · simp; omega
                · exact h2 y (by simp [hy])

theorem rwriteT_ok {F R : Nat → Prop} {w : World} {b : Nat} {LL : List (List Int)} {scr : List Int} (h : RefT F R w b LL scr) {a2 : Option Addr} {l2 c2 : Nat} {ds : List Int} (hd : RdB w a2 l2 c2 ds) (hl2 : l2 ≤ 140737488355328) :
    CallR Try.prog 37 [ptt b, .slice a2 l2 c2] w fun v w' => v = .int .i64 (writeT ds scr).1 ∧ ∃ F', RefT F' R w' b LL (writeT ds scr).2 ∧ (∀ k, F' k → F k ∨ w.heap.size ≤ k) ∧ Kept F w w' := by
  have ht := h
  obtain ⟨la, ll, lc, sa, sl, sc, es, hb, hl, hin, ho, hna, hna2, hls, hs, hF, hR, hlt, h1, h2⟩ := h
  have hsl := ho.len
  have hdl := hd.len
  refine C37 ?_
  unfold L37
  refine nnI ⟨sa, sl, sc, hb.at rfl, by unfold inI; omega, condP (fun hfull => ?_) (fun hfit => ?_)⟩
  · have e : writeT ds scr = (31, scr) := by unfold writeT; rw [if_pos (by omega)]
    rw [e]; exact ⟨rfl, F, ht, fun k hk => .inl hk, Kept.refl _ _⟩
  · have e : writeT ds scr = (0, scr ++ ds) := by unfold writeT; rw [if_neg (by omega)]
    rw [e]
    obtain ⟨a', c', w2, hrun, hs2, hk, hat, _⟩ := run_app_sl (P := Try.prog) (t := 22) (t2 := 22) (ty := 22) (by kernel_rfl : slTyB Try.prog 22 1 1 = true) (by kernel_rfl) ho hd (By_one ds) (by omega) (by omega)
    refine nnI ⟨sa, sl, sc, hb.at rfl, _, _, _, w2, hrun, nnI ?_⟩
    have hna' : ¬ inA a' b := fun hin => by
      rcases hat.in hin with hin | hin
      · exact hna2 hin
      · have := hb.lt; omega
    refine stC_at (hb.keep hk hna2) (by simp) fun w3 hb3 hk3 hsz3 => ?_
    have hkF : Kept F w w3 := (hk.mono fun x _ e => (hF x).2 (.inr (.inr e))).trans hk3 (fun x _ e => (hF x).2 (.inl e))
    refine ⟨rfl, fun k => k = b ∨ inA la k ∨ inA a' k, ⟨la, ll, lc, a', sl + l2, c', es, hb3, SlO.keep (SlO.keep hl hk (fun k hk e => hls k hk e)) hk3 (fun k hk e => hna (e ▸ hk)), hin.keep hkF hR, ?_, hna, hna', fun k hk e => ?_, by simp; omega, fun k => Iff.rfl, fun k hk' e => ?_, fun k hk' => Nat.lt_of_lt_of_le (hlt k hk') hkF.size, h1, h2⟩, fun k hk' => ?_, hkF⟩
    · rw [← By_append] at hs2; exact SlO.keep hs2 hk3 (fun k hk' e => hna' (e ▸ hk'))
    · rcases hat.in e with e | e
      · exact hls k hk e
      · have := SlO.lt hl k hk; omega
    · rcases e with e | e | e
      · exact hR k hk' ((hF k).2 (.inl e))
      · exact hR k hk' ((hF k).2 (.inr (.inl e)))
      · rcases hat.in e with e | e
        · exact hR k hk' ((hF k).2 (.inr (.inr e)))
        · have := hlt k hk'; omega
    · rcases hk' with rfl | hk' | hk'
      · exact .inl ((hF _).2 (.inl rfl))
      · exact .inl ((hF _).2 (.inr (.inl hk')))
      · rcases hat.in hk' with hin | rfl
        · exact .inl ((hF _).2 (.inr (.inr hin)))
        · exact .inr (Nat.le_refl _)

end Go.Proofs.Ytapnpbfbebdjjaa
