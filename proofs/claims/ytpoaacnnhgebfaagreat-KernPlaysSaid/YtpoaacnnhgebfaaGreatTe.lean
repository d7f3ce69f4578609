
/-
  A terminal: what its methods do. Conditions: as each says.
-/
import Derived.Test.YtpoaacnnhgebfaaGreatBas
import Derived.Test.YtpoaacnnhgebfaaGreatLay
import Derived.Test.YtpoaacnnhgebfaaGreatLr
import Derived.Test.YtpoaacnnhgebfaaGreatLFa
set_option linter.unusedVariables false
namespace Go.Proofs.YtpoaacnnhgebfaaGreat
open Go.Lw

abbrev ptt (b : Nat) : Value := .pointer (some ⟨b, 0, none⟩)

theorem tyB' : ∃ e i, SlTy Tryz.prog 40 e i (.int .u8 0) 1 1 := slTyZ (by kernel_rfl) (by kernel_rfl)

/-- What is left of lines of which the first is read up to a place. -/
def Cur (raw : List (List Int)) (i : Nat) (LL : List (List Int)) : Prop :=
  (raw = [] ∧ LL = []) ∨ ∃ x r, raw = x :: r ∧ i ≤ x.length ∧ LL = x.drop i :: r

/-- A terminal: F is the memory that it writes, R what it only reads. -/
def TermO (F R : Nat → Prop) (w : World) (b : Nat) (LL : List (List Int)) (scr : List Int) : Prop :=
  ∃ (la : Option Addr) (ll lc i : Nat) (sa : Option Addr) (sl sc : Nat) (raw : List (List Int)), Blk w b #[.bool true, .slice la ll lc, .int .i64 (i : Int), .slice sa sl sc] ∧ RdL R w la ll lc raw ∧ Cur raw i LL ∧
    OB w sa sl sc scr ∧ ¬ inA sa b ∧ scr.length ≤ 1048576 ∧ (∀ k, F k ↔ k = b ∨ inA sa k) ∧ (∀ k, R k → ¬ F k) ∧ (∀ k, R k → k < w.heap.size) ∧ raw.length ≤ 256 ∧ ∀ x ∈ raw, x.length ≤ 4096

theorem TermO.keep {F R S : Nat → Prop} {w w' : World} {b : Nat} {LL : List (List Int)} {scr : List Int} (h : TermO F R w b LL scr) (k : Kept S w w') (hf : ∀ x, F x → ¬ S x) (hr : ∀ x, R x → ¬ S x) : TermO F R w' b LL scr := by
  obtain ⟨la, ll, lc, i, sa, sl, sc, raw, hb, hl, hc, ho, hna, hs, hF, hR, hlt, h1, h2⟩ := h
  exact ⟨la, ll, lc, i, sa, sl, sc, raw, hb.keep k (hf b ((hF b).2 (.inl rfl))), hl.keep k hr, hc, ho.keep k (fun x hx => hf x ((hF x).2 (.inr hx))), hna, hs, hF, hR, fun k' hk => Nat.lt_of_lt_of_le (hlt k' hk) k.size, h1, h2⟩

theorem TermO.lt {F R : Nat → Prop} {w : World} {b : Nat} {LL : List (List Int)} {scr : List Int} (h : TermO F R w b LL scr) : ∀ k, F k ∨ R k → k < w.heap.size := by
  obtain ⟨la, ll, lc, i, sa, sl, sc, raw, hb, hl, hc, ho, hna, hs, hF, hR, hlt, h1, h2⟩ := h
  intro k hk
  rcases hk with hk | hk
  · rcases (hF k).1 hk with rfl | hk
    · exact hb.lt
    · exact SlO.lt ho k hk
  · exact hlt k hk

theorem TermO.scr {F R : Nat → Prop} {w : World} {b : Nat} {LL : List (List Int)} {scr : List Int} (h : TermO F R w b LL scr) : scr.length ≤ 1048576 := by
  obtain ⟨la, ll, lc, i, sa, sl, sc, raw, hb, hl, hc, ho, hna, hs, _⟩ := h; exact hs

theorem TermO.apart {F R : Nat → Prop} {w : World} {b : Nat} {LL : List (List Int)} {scr : List Int} (h : TermO F R w b LL scr) : ∀ k, R k → ¬ F k := by
  obtain ⟨la, ll, lc, i, sa, sl, sc, raw, hb, hl, hc, ho, hna, hs, hF, hR, _⟩ := h; exact hR

theorem Cur.len {raw LL : List (List Int)} {i : Nat} (h : Cur raw i LL) : LL.length = raw.length := by
  rcases h with ⟨rfl, rfl⟩ | ⟨x, r, rfl, _, rfl⟩ <;> rfl

theorem TermO.short {F R : Nat → Prop} {w : World} {b : Nat} {LL : List (List Int)} {scr : List Int} (h : TermO F R w b LL scr) : LL.length ≤ 256 ∧ ∀ x ∈ LL, x.length ≤ 4096 := by
  obtain ⟨la, ll, lc, i, sa, sl, sc, raw, hb, hl, hc, ho, hna, hs, hF, hR, _, h1, h2⟩ := h
  refine ⟨by rw [hc.len]; exact h1, fun x hx => ?_⟩
  rcases hc with ⟨rfl, rfl⟩ | ⟨y, r, rfl, _, rfl⟩
  · cases hx
  · rcases List.mem_cons.1 hx with rfl | hx
    · have := h2 y (by simp); simp; omega
    · exact h2 x (by simp [hx])

def newT (LL : List (List Int)) : Int := if 256 < LL.length then 3 else if LL.all (fun x => decide (x.length ≤ 4096)) then 0 else 5

theorem tnew_ok {R0 : Nat → Prop} {w : World} {a : Option Addr} {l c : Nat} {LL : List (List Int)} (h : RdL R0 w a l c LL) (hl : ∀ x ∈ LL, x.length ≤ 140737488355328) :
    CallR Tryz.prog 55 [.slice a l c] w fun v w' => Kept No w w' ∧ ((newT LL ≠ 0 ∧ v = .tuple #[.pointer none, .int .i64 (newT LL)]) ∨
      (newT LL = 0 ∧ ∃ b F R, v = .tuple #[ptt b, .int .i64 0] ∧ TermO F R w' b LL [] ∧ ∀ k, F k ∨ R k → w.heap.size ≤ k)) := by
  have hlen := h.len
  refine C55 ?_
  unfold L55
  refine condP (fun hgt => ⟨Kept.refl _ _, .inl ?_⟩) (fun hle => ?_)
  · have : newT LL = 3 := by unfold newT; rw [if_pos (by omega)]
    rw [this]; exact ⟨by decide, rfl⟩
  intro w1
  have hb1 : Blk w1 w.heap.size #[.bool true, .slice none 0 0, .int .i64 0, .slice none 0 0] := Blk.alloc w _ _
  have hk1 : Kept No w w1 := Kept.alloc _ _ _
  clear_value w1
  refine ⟨fun vs w2 => ∃ (i : Nat) (la : Option Addr) (lc : Nat) (es : List Slc), vs = [.int .i64 (i : Int)] ∧ i ≤ l ∧ Blk w2 w.heap.size #[.bool true, .slice la i lc, .int .i64 0, .slice none 0 0] ∧
      SlO 1 w2 la i lc (es.map slv) ∧ (∀ k, inA la k → w.heap.size < k) ∧ (∀ (j : Nat) (e : Slc), es[j]? = some e → ∃ xs, LL[j]? = some xs ∧ RdB w2 e.1 e.2.1 e.2.2 xs ∧ (∀ k, inA e.1 k → w.heap.size < k ∧ k < w2.heap.size ∧ ¬ inA la k)) ∧
      (LL.take i).all (fun x => decide (x.length ≤ 4096)) = true ∧ Kept No w w2, fun vs _ => match vs with | [.int _ i] => (l - i).toNat | _ => 0,
    ⟨0, none, 0, [], rfl, Nat.zero_le _, hb1, SlO.nil 1 w1, fun k hk => absurd hk (inA_none k), fun j e he => by simp at he, by simp, hk1⟩, ?_⟩
  intro _ n4 w2 hI
  obtain ⟨i, la, lc, es, hv, hi, hb2, hs2, hla, hes, hall, hk2⟩ := hI
  simp only [List.cons.injEq, Value.int.injEq, true_and, and_true] at hv
  subst hv
  have hesl : es.length = i := by have := hs2.1; simpa using this
  refine condP (fun hlt => ?_) (fun hge => ?_)
  · have hil : i < LL.length := by omega
    obtain ⟨q, ⟨ea, el, ec⟩, hq, hc, hrd, _⟩ := (h.keep hk2 (fun _ _ e => e)).get hil
    subst hq
    simp only at hc hrd
    obtain rfl : LL[i].length = el := hrd.len
    have hLi := hl LL[i] (List.getElem_mem hil)
    refine ⟨⟨by omega, by omega⟩, nnI ⟨_, _, _, hc, condP (fun hbig => ⟨hk2, .inl ?_⟩) (fun hsmall => ?_)⟩⟩
    · have h1 : ¬ 256 < LL.length := by omega
      have h2 : LL.all (fun x => decide (x.length ≤ 4096)) = false := by
        cases hx : LL.all (fun x => decide (x.length ≤ 4096)) with
        | false => rfl
        | true =>
          have := List.all_eq_true.1 hx LL[i] (List.getElem_mem hil)
          have := of_decide_eq_true this
          omega
      have : newT LL = 5 := by unfold newT; rw [if_neg h1, h2]; rfl
      rw [this]; exact ⟨by decide, rfl⟩
    · refine ⟨fun wS => Blk wS w.heap.size #[.bool true, .slice la i lc, .int .i64 0, .slice none 0 0], hb2, ?_⟩
      intro w3
      have hk3 : Kept No w2 w3 := Kept.drew _ _
      have hb3 : Blk w3 w.heap.size #[.bool true, .slice la i lc, .int .i64 0, .slice none 0 0] := hb2
      have hrd3 := hrd.keep hk3 (fun _ _ _ e => e)
      have hsz3 : w3.heap.size = w2.heap.size := rfl
      clear_value w3
      refine ⟨la, i, lc, fun wS hS => (hS.cell 1).trans rfl, (clone_ok hrd3 (by omega)).mono fun v w4 ⟨a4, c4, hv4, ho4, hk4, hf4, _⟩ => ⟨_, _, _, hv4, hb3.keep hk4 (fun e => e), ?_⟩⟩
      have hb4 := hb3.keep hk4 (fun e => e)
      intro w5
      have hk5 : Kept No w4 w5 := Kept.alloc _ _ _
      have hnew5 : SlO 1 w5 (some ⟨w4.heap.size, 0, none⟩) 1 1 ([(a4, LL[i].length, c4)].map slv) := by
        exact SlO.of_blk (sz := 1) (n := 1) (Blk.alloc w4 #[slv (a4, LL[i].length, c4)] 40) rfl
      clear_value w5
      have hk35 := hk4.no hk5
      have hk25 := hk3.no hk35
      have hs5 := hs2.keep hk25 (fun _ _ e => e)
      obtain ⟨a6, c6, w6, hrun, hs6, hk6, hat, _⟩ := run_app_sl (P := Tryz.prog) (t := 84) (t2 := 84) (ty := 84) (by kernel_rfl : slTyB Tryz.prog 84 1 24 = true) (by kernel_rfl) hs5 hnew5.rd (slv_one _) (by omega) (by omega)
      refine ⟨hb4.keep hk5 (fun e => e), a6, _, c6, w6, hrun, ?_⟩
      have hlt5 : ∀ k, inA a4 k → k < w5.heap.size := fun k hk => Nat.lt_of_lt_of_le (SlO.lt ho4 k hk) hk5.size
      have hb6 : Blk w6 w.heap.size _ := (hb4.keep hk5 (fun e => e)).keep hk6 (fun hx => by have := hla _ hx; omega)
      have hla6 : ∀ k, inA a6 k → w.heap.size < k := fun k hk => by
        rcases hat.in hk with h | rfl
        · exact hla k h
        · have := hb4.lt; have := hk5.size; omega
      refine stC_blk hb6 (by simp) fun w7 hb7 hk7 hsz7 => ⟨by unfold inI; omega, ⟨i + 1, a6, c6, es ++ [(a4, LL[i].length, c4)], rfl, by omega, hb7, ?_, hla6, ?_, ?_, ?_⟩, ?_⟩
      · rw [List.map_append]
        exact SlO.keep hs6 hk7 (fun k hk e => by have := hla6 k hk; omega)
      · intro j e he
        have hg : ∀ k, k = w.heap.size → ¬ (w.heap.size < k) := fun k e => by omega
        by_cases hj : j < i
        · rw [List.getElem?_append_left (by omega)] at he
          obtain ⟨xs, hx, hr, hin⟩ := hes j e he
          refine ⟨xs, hx, ?_, fun k hk => ?_⟩
          · refine RdB.keep0 (RdB.keep0 (hr.keep0 hk25 (fun _ _ _ e => e)) hk6 (fun _ k hk h => (hin k hk).2.2 h)) hk7 (fun _ k hk e => by have := (hin k hk).1; omega)
          · obtain ⟨h1, h2, h3⟩ := hin k hk
            refine ⟨h1, ?_, fun hx => ?_⟩
            · have := hk25.size; have := hk6.size; omega
            · rcases hat.in hx with h | rfl
              · exact h3 h
              · have := hk25.size; omega
        · have hje : j = i := by
            have := (List.getElem?_eq_some_iff.1 he).1
            simp at this; omega
          subst hje
          rw [List.getElem?_append_right (by omega), hesl, Nat.sub_self] at he
          simp at he
          subst he
          refine ⟨LL[j], by simp [hil], ?_, fun k hk => ?_⟩
          · refine RdB.keep0 (RdB.keep0 (OB.rd (ho4.keep hk5 (fun _ _ e => e))) hk6 (fun _ k hk h => ?_)) hk7 (fun _ k hk e => ?_)
            · have h1 := hf4 k hk; have h2 := SlO.lt hs2 k h; omega
            · have h1 := hf4 k hk; have := hk2.size; have h3 := hb2.lt; omega
          · have h1 := hf4 k hk
            have h3 := hb2.lt
            refine ⟨by omega, ?_, fun hx => ?_⟩
            · have := hlt5 k hk; have := hk6.size; omega
            · rcases hat.in hx with h | rfl
              · have h2 := SlO.lt hs2 k h; omega
              · have := hlt5 _ hk; omega
      · rw [List.take_add_one, List.getElem?_eq_getElem hil]
        simp only [Option.toList_some, List.all_append, hall, Bool.true_and]
        have : LL[i].length ≤ 4096 := by omega
        simp [this]
      · exact ((hk2.no hk25).fresh hk6 (fun k hk => Nat.le_of_lt (hla k hk))).fresh hk7 (fun k e => by rw [e]; exact Nat.le_refl _)
      · show ((l : Int) - ((i : Int) + 1)).toNat < ((l : Int) - (i : Int)).toNat
        omega
  · have hil : i = l := by omega
    subst hil
    rw [List.take_of_length_le (by omega)] at hall
    have hn0 : newT LL = 0 := by unfold newT; rw [if_neg (by omega), hall]; rfl
    refine ⟨hk2, .inr ⟨hn0, w.heap.size, fun k => k = w.heap.size, fun k => inA la k ∨ ∃ e ∈ es, inA e.1 k, rfl, ⟨la, i, lc, 0, none, 0, 0, LL, hb2, ⟨es, hs2.rd, by omega, fun _ k hk => .inl hk, fun j e xs he hx => ?_⟩, ?_, OB.nil w2, inA_none _, by simp, fun k => ⟨fun h => .inl h, fun h => ?_⟩, fun k hk e => ?_, fun k hk => ?_, by omega, fun x hx => ?_⟩, fun k hk => ?_⟩⟩
    · obtain ⟨xs', hx', hr, _⟩ := hes j e he
      rw [hx] at hx'; cases hx'
      exact ⟨hr, fun _ k hk => .inr ⟨e, List.mem_of_getElem? he, hk⟩⟩
    · cases LL with
      | nil => exact .inl ⟨rfl, rfl⟩
      | cons x r => exact .inr ⟨x, r, rfl, Nat.zero_le _, rfl⟩
    · rcases h with h | h
      · exact h
      · exact absurd h (inA_none k)
    · rcases hk with hk | ⟨e', he', hk⟩
      · have := hla k hk; omega
      · obtain ⟨j, hj⟩ := List.mem_iff_getElem?.1 he'
        obtain ⟨_, _, _, h3⟩ := hes j e' hj
        have := (h3 k hk).1; omega
    · rcases hk with hk | ⟨e', he', hk⟩
      · exact SlO.lt hs2 k hk
      · obtain ⟨j, hj⟩ := List.mem_iff_getElem?.1 he'
        obtain ⟨_, _, _, h3⟩ := hes j e' hj
        exact (h3 k hk).2.1
    · have := List.all_eq_true.1 hall x hx
      exact of_decide_eq_true this
    · rcases hk with rfl | hk | ⟨e', he', hk⟩
      · exact Nat.le_refl _
      · exact Nat.le_of_lt (hla k hk)
      · obtain ⟨j, hj⟩ := List.mem_iff_getElem?.1 he'
        obtain ⟨_, _, _, h3⟩ := hes j e' hj
        exact Nat.le_of_lt (h3 k hk).1

def readT (n : Int) (LL : List (List Int)) : Int × List Int × List (List Int) :=
  if n < 1 ∨ n > 1048576 then (4, [], LL) else
  match LL with
  | [] => (0, [], [])
  | x :: r => (0, x.take n.toNat, if x.length ≤ n.toNat then r else x.drop n.toNat :: r)

theorem tread_ok {F R : Nat → Prop} {w : World} {b : Nat} {LL : List (List Int)} {scr : List Int} (h : TermO F R w b LL scr) (n : Int) :
    CallR Tryz.prog 251 [ptt b, .int .i64 n] w fun v w' => ∃ a' c', v = .tuple #[.slice a' (readT n LL).2.1.length c', .int .i64 (readT n LL).1] ∧ OB w' a' (readT n LL).2.1.length c' (readT n LL).2.1 ∧ Fresh w a' ∧ Kept (· = b) w w' ∧ TermO F R w' b (readT n LL).2.2 scr := by
  have ht := h
  obtain ⟨la, ll, lc, i, sa, sl, sc, raw, hb, hl, hc, ho, hna, hs, hF, hR, hlt, h1, h2⟩ := h
  have hrl := hl.len
  refine C251 ?_
  unfold L251
  refine condF rfl (nnI ⟨true, hb.at0 rfl, condF rfl (condP (fun hsm => ?_) (fun hge => condP (fun hbig => ?_) (fun hle => ?_)))⟩)
  · have e : readT n LL = (4, [], LL) := by unfold readT; rw [if_pos (.inl hsm)]
    rw [e]; exact ⟨none, 0, rfl, OB.nil w, Fresh.none w, Kept.refl _ _, ht⟩
  · have e : readT n LL = (4, [], LL) := by unfold readT; rw [if_pos (.inr hbig)]
    rw [e]; exact ⟨none, 0, rfl, OB.nil w, Fresh.none w, Kept.refl _ _, ht⟩
  · have hn : ¬ (n < 1 ∨ n > 1048576) := by omega
    refine nnI ⟨la, ll, lc, hb.at rfl, condI (fun h0 => ?_) (fun h0 => ?_)⟩
    · have hll : ll = 0 := by simpa using h0
      have hLL : LL = [] := List.eq_nil_of_length_eq_zero (by rw [hc.len]; omega)
      have e : readT n LL = (0, [], LL) := by unfold readT; rw [if_neg hn, hLL]
      rw [e]; exact ⟨none, 0, rfl, OB.nil w, Fresh.none w, Kept.refl _ _, ht⟩
    · have hll : ¬ ll = 0 := by simpa using h0
      rcases hc with ⟨rfl, rfl⟩ | ⟨x, r, rfl, hix, rfl⟩
      · simp at hrl; omega
      · have hx4 := h2 x (by simp)
        obtain ⟨q, ⟨ea, el, ec⟩, hq, hce, hrd, hRe⟩ := hl.get (i := 0) (by simp)
        subst hq
        simp only [List.getElem_cons_zero] at hce hrd hRe
        obtain rfl : x.length = el := hrd.len
        have hlec : x.length ≤ ec := hrd.2.1
        refine nnI ⟨_, ll, lc, hb.at rfl, ⟨by omega, by omega⟩, nnI ⟨ea, x.length, ec, hce, nnI ⟨i, hb.at rfl, ⟨by omega, by omega⟩, fun nd => ?_⟩⟩⟩
        simp only [mn_eq, Int.toNat_natCast]
        generalize hm : (min n ((x.length - i : Nat) : Int)).toNat = m
        have hmm : min n ((x.length - i : Nat) : Int) = (m : Int) := by omega
        rw [hmm]
        have hml : m ≤ x.length - i := by omega
        have hb1 : Blk (w.drewN nd) b _ := hb.drewN nd
        refine ⟨by omega, nnI ⟨i, hb1.at rfl, by unfold inI; omega, nnI (stC_at hb1 (by simp) fun w2 hb2 hk2 hsz2 => ?_)⟩⟩
        have hk02 : Kept (· = b) w w2 := (Kept.drewN _ w nd).trans hk2 (fun _ _ e => e)
        have hRb : ∀ k, R k → k ≠ b := fun k hk e => hR k hk ((hF k).2 (.inl e))
        have hrd2 : RdB w2 ea x.length ec x := hrd.keep0 hk02 (fun hne k hk e => hRb k (hRe hne k hk) e)
        have hcut : RdB w2 (adv ea i ec 1) m (ec - i) ((x.drop i).take m) := by
          have := RdS.cut hrd2 i (i + m) (by omega) (by omega)
          have e1 : i + m - i = m := by omega
          rw [e1] at this
          unfold RdB; rw [By_take, By_drop]
          have e2 : ((By x).take ((i + m) * 1)).drop (i * 1) = ((By x).drop i).take m := by
            rw [Nat.mul_one, Nat.mul_one, List.drop_take, e1]
          rw [e2] at this; exact this
        have hd : ((x.drop i).take m) = (x.drop i).take n.toNat := by
          by_cases hnx : n ≤ ((x.length - i : Nat) : Int)
          · have : m = n.toNat := by omega
            rw [this]
          · rw [List.take_of_length_le (by simp; omega), List.take_of_length_le (by simp; omega)]
        have hml2 : ((x.drop i).take n.toNat).length = m := by rw [← hd, List.length_take, List.length_drop]; omega
        rw [hd] at hcut
        refine condI (fun hall => ?_) (fun hsome => ?_)
        · -- the line's end
          have hmx : m = x.length - i := by
            have h3 : (m : Int) = ((x.length - i : Nat) : Int) := by simpa using hall
            omega
          refine nnI ⟨_, ll, lc, hb2.at rfl, ⟨by omega, by omega⟩, nnI (stC_at hb2 (by simp) fun w3 hb3 hk3 hsz3 => nnI (stC_at hb3 (by simp) fun w4 hb4 hk4 hsz4 => ?_))⟩
          have hk24 : Kept (· = b) w2 w4 := hk3.trans hk4 (fun _ _ e => e)
          have hk04 : Kept (· = b) w w4 := hk02.trans hk24 (fun _ _ e => e)
          refine (clone_ok (hcut.keep0 hk24 (fun hne k hk e => hRb k (hRe (fun e => hne (by rw [e]; simp)) k (inA_adv.1 hk)) e)) (by omega)).mono fun v w5 ⟨a5, c5, hv5, ho5, hk5, hf5, _⟩ => ⟨a5, m, c5, hv5, ?_⟩
          have e : readT n (x.drop i :: r) = (0, (x.drop i).take n.toNat, r) := by
            unfold readT; rw [if_neg hn]; simp only; rw [if_pos (by simp; omega)]
          rw [e]
          have hk05 := hk04.no hk5
          refine ⟨a5, c5, by rw [hml2], ho5, fun k hk => by have := hf5 k hk; have := hk04.size; omega, hk05, ?_⟩
          refine ⟨adv (some q) 1 lc 1, ll - 1, lc - 1, 0, sa, sl, sc, r, (by exact hb4.keep hk5 (fun e => e)), ?_, ?_, ?_, hna, hs, hF, hR, fun k hk => Nat.lt_of_lt_of_le (hlt k hk) hk05.size, by simp at h1; omega, fun y hy => h2 y (by simp [hy])⟩
          · have := (hl.from 1 (by omega)).keep hk05 (fun k hk e => hRb k hk e)
            simpa using this
          · cases r with
            | nil => exact .inl ⟨rfl, rfl⟩
            | cons y r => exact .inr ⟨y, r, rfl, Nat.zero_le _, rfl⟩
          · exact ho.keep hk05 (fun k hk e => hna (e ▸ hk))
        · have hmx : ¬ m = x.length - i := by
            have h3 : ¬ (m : Int) = ((x.length - i : Nat) : Int) := by simpa using hsome
            omega
          refine (clone_ok hcut (by omega)).mono fun v w5 ⟨a5, c5, hv5, ho5, hk5, hf5, _⟩ => ⟨a5, m, c5, hv5, ?_⟩
          have e : readT n (x.drop i :: r) = (0, (x.drop i).take n.toNat, (x.drop i).drop n.toNat :: r) := by
            unfold readT; rw [if_neg hn]; simp only; rw [if_neg (by simp; omega)]
          rw [e]
          have hk05 := hk02.no hk5
          refine ⟨a5, c5, by rw [hml2], ho5, fun k hk => by have := hf5 k hk; have := hk02.size; omega, hk05, ?_⟩
          refine ⟨some q, ll, lc, i + m, sa, sl, sc, x :: r, (by exact hb2.keep hk5 (fun e => e)), hl.keep hk05 (fun k hk e => hRb k hk e), .inr ⟨x, r, rfl, by omega, ?_⟩, ho.keep hk05 (fun k hk e => hna (e ▸ hk)), hna, hs, hF, hR, fun k hk => Nat.lt_of_lt_of_le (hlt k hk) hk05.size, h1, h2⟩
          have : m = n.toNat := by omega
          rw [List.drop_drop, this]

def writeT (ds scr : List Int) : Int × List Int := if 1048576 < scr.length + ds.length then (31, scr) else (0, scr ++ ds)

theorem twrite_ok {F R : Nat → Prop} {w : World} {b : Nat} {LL : List (List Int)} {scr : List Int} (h : TermO F R w b LL scr) {a2 : Option Addr} {l2 c2 : Nat} {ds : List Int} (hd : RdB w a2 l2 c2 ds) (hl2 : l2 ≤ 140737488355328) :
    CallR Tryz.prog 252 [ptt b, .slice a2 l2 c2] w fun v w' => v = .int .i64 (writeT ds scr).1 ∧ ∃ F', TermO F' R w' b LL (writeT ds scr).2 ∧ (∀ k, F' k → F k ∨ w.heap.size ≤ k) ∧ Kept F w w' := by
  have ht := h
  obtain ⟨la, ll, lc, i, sa, sl, sc, raw, hb, hl, hc, ho, hna, hs, hF, hR, hlt, h1, h2⟩ := h
  have hsl := ho.len
  have hdl := hd.len
  refine C252 ?_
  unfold L252
  refine condF rfl (nnI ⟨true, hb.at0 rfl, condF rfl (nnI ⟨sa, sl, sc, hb.at rfl, by unfold inI; omega, condP (fun hfull => ?_) (fun hfit => ?_)⟩)⟩)
  · have e : writeT ds scr = (31, scr) := by unfold writeT; rw [if_pos (by omega)]
    rw [e]; exact ⟨rfl, F, ht, fun k hk => .inl hk, Kept.refl _ _⟩
  · have e : writeT ds scr = (0, scr ++ ds) := by unfold writeT; rw [if_neg (by omega)]
    rw [e]
    obtain ⟨a', c', w2, hrun, hs2, hk, hat, _⟩ := run_app_sl (P := Tryz.prog) (t := 40) (t2 := 40) (ty := 40) (by kernel_rfl : slTyB Tryz.prog 40 1 1 = true) (by kernel_rfl) ho hd (By_one ds) (by omega) (by omega)
    refine nnI ⟨sa, sl, sc, hb.at rfl, _, _, _, w2, hrun, nnI ?_⟩
    have hna' : ¬ inA a' b := fun hin => by
      rcases hat.in hin with hin | hin
      · exact hna hin
      · have := hb.lt; omega
    refine stC_at (hb.keep hk hna) (by simp) fun w3 hb3 hk3 hsz3 => ⟨rfl, fun k => k = b ∨ inA a' k, ?_, fun k hk' => ?_, (hk.mono fun x _ e => (hF x).2 (.inr e)).trans hk3 (fun x _ e => (hF x).2 (.inl e))⟩
    · have hkF : Kept F w w3 := (hk.mono fun x _ e => (hF x).2 (.inr e)).trans hk3 (fun x _ e => (hF x).2 (.inl e))
      refine ⟨la, ll, lc, i, a', sl + l2, c', raw, hb3, hl.keep hkF hR, hc, ?_, hna', by simp; omega, fun k => Iff.rfl, fun k hk' e => ?_, fun k hk' => Nat.lt_of_lt_of_le (hlt k hk') hkF.size, h1, h2⟩
      · rw [← By_append] at hs2; exact SlO.keep hs2 hk3 (fun k hk' e => hna' (e ▸ hk'))
      · rcases e with e | e
        · exact hR k hk' ((hF k).2 (.inl e))
        · rcases hat.in e with e | e
          · exact hR k hk' ((hF k).2 (.inr e))
          · have := hlt k hk'; omega
    · rcases hk' with rfl | hk'
      · exact .inl ((hF _).2 (.inl rfl))
      · rcases hat.in hk' with hin | rfl
        · exact .inl ((hF _).2 (.inr hin))
        · exact .inr (Nat.le_refl _)

theorem tscreen_ok {F R : Nat → Prop} {w : World} {b : Nat} {LL : List (List Int)} {scr : List Int} (h : TermO F R w b LL scr) :
    CallR Tryz.prog 183 [ptt b] w fun v w' => ∃ a' c', v = .slice a' scr.length c' ∧ OB w' a' scr.length c' scr ∧ Fresh w a' ∧ Kept No w w' := by
  obtain ⟨la, ll, lc, i, sa, sl, sc, raw, hb, hl, hc, ho, hna, hs, hF, hR, hlt, h1, h2⟩ := h
  have hsl := ho.len
  subst hsl
  refine C183 ?_
  unfold L183
  obtain ⟨w1, hrun1, hs1, hk1, hsz1⟩ := run_mk (P := Tryz.prog) (t := 40) tyB' (w := w) (k := .i64) (k' := .i64) (n := scr.length) (m := scr.length) (Nat.le_refl _) (by omega) (by omega)
  refine condF rfl (nnI ⟨sa, _, sc, hb.at rfl, _, _, _, w1, hrun1, nnI ⟨sa, _, sc, (hb.keep hk1 (fun e => e)).at rfl, ?_⟩⟩)
  obtain ⟨w2, hrun2, hs2, hk2, hsz2, _⟩ := run_copy_own (P := Tryz.prog) (t := 40) (t2 := 40) (ty := 3) (by kernel_rfl : slTyB Tryz.prog 40 1 1 = true) hs1 (ho.keep hk1 (fun _ _ e => e)).rd (By_one scr)
  refine ⟨_, w2, hrun2, _, _, rfl, ?_, fun k hk => by rw [inA_some] at hk; omega, hk1.fresh hk2 (fun k hk => by rw [inA_some] at hk; omega)⟩
  have e : over (Builtin.zeroCells (Value.int .u8 0).cells scr.length).toList ((By scr).take (min scr.length scr.length * 1)) 0 = By scr := by
    have hz : (Builtin.zeroCells (Value.int .u8 0).cells scr.length).toList = By (List.replicate scr.length 0) := By_zeros _
    rw [Nat.min_self, Nat.mul_one, hz]
    have hf : (By scr).take scr.length = By scr := List.take_of_length_le (by simp)
    rw [hf]
    unfold over
    rw [List.drop_of_length_le (by simp)]
    simp
  rw [e] at hs2
  exact hs2

end Go.Proofs.YtpoaacnnhgebfaaGreat
