/-
  Refused calls change nothing, nothing is kept, terminals that no call made: the walk. Conditions: none.
-/
import Derived.Test.YtapnpbfbebdjjaaTermC
import Derived.Test.YtapnpbfbebdjjaaOTerminalOwn
set_option linter.unusedVariables false
namespace Go.Proofs.Ytapnpbfbebdjjaa
open Go.Lw

theorem walk_terminalOwn {W : World} {args : List Value} (h : V10 W args) : CallR Try.prog 10 args W fun v w' => v = .bool true ∧ Kept No W w' := by
  obtain ⟨a, l, c, hlc, hz, hl, hv, a2, l2, c2, xs, hx, _, hl2, rfl⟩ := h
  obtain ⟨LL, hL, hLs, _⟩ := rdL_of_view hlc hz hv
  have hLl := hL.len
  have hx : RdB W a2 l2 c2 xs := hx
  have hxl := hx.len
  refine C10 ?_
  unfold L10
  refine talive_ok.mono fun v w1 ⟨hv1, hk1⟩ => ⟨_, hv1, condF rfl ?_⟩
  refine (tnothing_ok (.inl rfl)).mono fun v w2 ⟨hv, hk2⟩ => ⟨_, hv, condF rfl ?_⟩
  intro w3
  have hb3 : Blk w3 w2.heap.size #[.bool false, .slice none 0 0, .int .i64 0, .slice none 0 0] := Blk.alloc _ _ _
  have hk3 : Kept No w2 w3 := Kept.alloc _ _ _
  clear_value w3
  refine (tnothing_ok (.inr ⟨_, rfl, hb3⟩)).mono fun v w4 ⟨hv, hk4⟩ => ⟨_, hv, condF rfl ?_⟩
  have h04 : Kept No W w4 := ((hk1.no hk2).no hk3).no hk4
  refine (copyl_ok (hL.keep h04 (fun _ _ e => e)) (fun x hx => by have := hLs x hx; omega) (by omega)).mono fun v w5 ⟨a5, c5, es, hv5, hk5, hs5, hel, hf5, hes, hpw⟩ => ⟨_, _, _, hv5, ?_⟩
  have h05 := h04.no hk5
  have hL5 : RdL (fun _ => True) w5 a5 l c5 LL := by
    refine ⟨es, hs5.rd, by omega, fun _ _ _ => trivial, fun i e ys he hy => ?_⟩
    obtain ⟨ys', hy', hr, _⟩ := hes i e he
    rw [hy] at hy'; cases hy'
    exact ⟨hr.rd, fun _ _ _ => trivial⟩
  refine (tnew_ok hL5 (fun x hx => by have := hLs x hx; omega)).mono fun v w6 ⟨hk6, h6⟩ => ?_
  have h06 := h05.no hk6
  rcases h6 with ⟨hne, rfl⟩ | ⟨_, b, F, R, rfl, ht, hnew⟩
  · exact ⟨_, _, rfl, tnum_to ⟨_, rfl, condT (by simpa using hne) ⟨rfl, h06⟩⟩⟩
  have hsh := ht.short
  have hltO := SlO.lt hs5
  refine ⟨_, _, rfl, tnum_to ⟨_, rfl, condF rfl (condF rfl ?_)⟩⟩
  -- each of the own lists is spoilt
  have hF0 : ∀ k, F k ∨ R k → W.heap.size ≤ k := fun k hk => Nat.le_trans h05.size (hnew k hk)
  refine ⟨fun vs w => ∃ i : Nat, vs = [.int .i64 (i : Int)] ∧ i ≤ l ∧ Kept No W w ∧ TermO F R w b LL [] ∧ SlO 1 w a5 l c5 (es.map slv) ∧ w6.heap.size ≤ w.heap.size ∧
      ∀ (j : Nat) (e : Slc), i ≤ j → es[j]? = some e → ∃ ys, LL[j]? = some ys ∧ OB w e.1 e.2.1 e.2.2 ys,
    fun vs _ => match vs with | [.int _ i] => (l - i).toNat | _ => 0, ⟨0, rfl, Nat.zero_le _, h06, ht, hs5.keep hk6 (fun _ _ e => e), Nat.le_refl _, fun j e _ he => ?_⟩, ?_⟩
  · obtain ⟨ys, hy, hr, _⟩ := hes j e he
    exact ⟨ys, hy, hr.keep hk6 (fun _ _ e => e)⟩
  intro _ n18 w8 hI
  obtain ⟨i, hvs, hi, hk8, ht8, hs8, hsz8, hes8⟩ := hI
  simp only [List.cons.injEq, Value.int.injEq, true_and, and_true] at hvs
  subst hvs
  have hFb : F b := by obtain ⟨la, ll, lc, i, sa, sl, sc, raw, hb, hl, hc, ho, hna, hs, hF, _⟩ := ht; exact (hF b).2 (.inl rfl)
  refine condP (fun hlt => ?_) (fun hge => ?_)
  · have hie : i < es.length := by omega
    obtain ⟨ys, hy, hr⟩ := hes8 i es[i] (Nat.le_refl _) (by simp)
    obtain ⟨ys', hy', _, hin⟩ := hes i es[i] (by simp)
    cases a5 with
    | none => have := (RdS.isNone hs8.rd rfl).1; omega
    | some q =>
      have hc := hs8.rd.2.2.2 q rfl i (slv es[i]) (by simp [hie])
      have hyl : ys.length ≤ 140737488351232 := hLs ys (List.mem_of_getElem? hy)
      have hyll := hr.len
      refine ⟨⟨by omega, by omega⟩, nnI ⟨_, _, _, hc, (spoil_ok hr (by omega)).mono fun v w9 ⟨hv9, ho9, hk9⟩ => ⟨hv9, by unfold inI; omega, ⟨i + 1, rfl, by omega, ?_, ?_, ?_, ?_, ?_⟩, ?_⟩⟩⟩
      · exact hk8.fresh hk9 (fun k hk => Nat.le_trans h04.size (hin k hk).1)
      · refine ht8.keep hk9 (fun k hk h => ?_) (fun k hk h => ?_)
        · have h1 := hnew k (.inl hk); obtain ⟨_, _, hr5, _⟩ := hes i es[i] (by simp); have := SlO.lt hr5 k h; omega
        · have h1 := hnew k (.inr hk); obtain ⟨_, _, hr5, _⟩ := hes i es[i] (by simp); have := SlO.lt hr5 k h; omega
      · exact SlO.keep hs8 hk9 (fun k hk h => (hin k h).2 hk)
      · exact Nat.le_trans hsz8 hk9.size
      · intro j e hj he
        obtain ⟨zs, hz, hro⟩ := hes8 j e (by omega) he
        exact ⟨zs, hz, hro.keep hk9 (fun k hk h => hpw i j es[i] e (by omega) (by simp) he k h hk)⟩
      · show ((l : Int) - ((i : Int) + 1)).toNat < ((l : Int) - (i : Int)).toNat
        omega
  · refine (copyb_ok (hx.keep hk8 (fun _ _ _ e => e)) (by omega)).mono fun v w10 ⟨a10, c10, hv10, ho10, hk10, hf10⟩ => ⟨_, _, _, hv10, ?_⟩
    have ht10 := ht8.keep hk10 (fun _ _ e => e) (fun _ _ e => e)
    refine (twrite_ok ht10 ho10.rd (by omega)).mono fun v w11 ⟨hv11, F11, ht11, hg11, hk11⟩ => ⟨_, hv11, ?_⟩
    have hF11 : ∀ k, F11 k → W.heap.size ≤ k := fun k hk => by
      rcases hg11 k hk with h | h
      · exact hF0 k (.inl h)
      · have := (hk8.no hk10).size; omega
    have hlt8 := ht8.lt
    have hlt10 := SlO.lt ho10
    have h011 : Kept No W w11 := (hk8.no hk10).fresh hk11 (fun k hk => hF0 k (.inl hk))
    have ho11 := ho10.keep hk11 (fun k hk h => by have := hf10 k hk; have := hlt8 k (.inl h); omega)
    have hxl2 : l2 = xs.length := hxl.symm
    subst hxl2
    refine (spoil_ok ho11 (by omega)).mono fun v w12 ⟨hv12, ho12, hk12⟩ => ⟨hv12, ?_⟩
    have ht12 := ht11.keep hk12 (fun k hk h => by
      rcases hg11 k hk with h1 | h1
      · have := hf10 k h; have := hlt8 k (.inl h1); omega
      · have := hlt10 k h; omega) (fun k hk h => by have := hf10 k h; have := hlt8 k (.inr hk); omega)
    have h012 : Kept No W w12 := h011.fresh hk12 (fun k hk => Nat.le_trans hk8.size (hf10 k hk))
    refine (tscreen_ok ht12).mono fun v w13 ⟨a13, c13, hv13, ho13, hf13, hk13⟩ => ⟨_, _, _, hv13, ?_⟩
    have ht13 := ht12.keep hk13 (fun _ _ e => e) (fun _ _ e => e)
    have hscr := ht12.scr
    refine (spoil_ok ho13 (by omega)).mono fun v w14 ⟨hv14, ho14, hk14⟩ => ⟨hv14, ?_⟩
    have hlt12 := ht12.lt
    have ht14 := ht13.keep hk14 (fun k hk h => by have := hf13 k h; have := hlt12 k (.inl hk); omega) (fun k hk h => by have := hf13 k h; have := hlt12 k (.inr hk); omega)
    have h014 : Kept No W w14 := (h012.no hk13).fresh hk14 (fun k hk => Nat.le_trans h012.size (hf13 k hk))
    refine (tread_ok ht14 0).mono fun v w15 ⟨a15, c15, hv15, ho15, hf15, hk15, ht15⟩ => ⟨_, _, _, _, hv15, ?_⟩
    have e15 : readT 0 LL = (4, [], LL) := by unfold readT; rw [if_pos (.inl (by omega))]
    rw [e15] at ht15 ⊢
    have hFb11 : F11 b := by obtain ⟨la, ll, lc, i, sa, sl, sc, raw, hb, hl, hc, ho, hna, hs, hF, _⟩ := ht11; exact (hF b).2 (.inl rfl)
    have hbW : ∀ k, k = b → W.heap.size ≤ k := fun k e => by rw [e]; exact hF11 b hFb11
    have h015 : Kept No W w15 := h014.fresh hk15 hbW
    refine tnum_to ⟨_, rfl, condF rfl (tleft_to ht15 ⟨_, rfl, condF (by simp [hLl]) (tnum_to ⟨_, rfl, ?_⟩)⟩)⟩
    -- the last: the first line is read whole
    have last : ∀ (w18 : World) (scr : List Int), TermO F11 R w18 b LL scr → Kept No W w18 →
        cond ((l : Int) == 0) ((Value.bool true) = .bool true ∧ Kept No W w18)
          (CallR Try.prog 30 [ptt b, .int .i64 1048576] w18 fun r w24 => ∃ (a52 : Option Addr) (l52 : Nat) (c52 : Nat) (n53 : Int), r = .tuple #[.slice a52 l52 c52, .int .i64 n53] ∧
            CallR Try.prog 28 [.int .i64 n53] w24 fun r w25 => ∃ n55 : Int, r = .int .i64 n55 ∧ cond (n55 == 0)
              ((0 ≤ (0 : Int) ∧ (0 : Int) < (l : Int)) ∧ nn a fun q57 => ∃ (a58 : Option Addr) (l58 : Nat) (c58 : Nat), w25.cell? (Addr.add q57 (Int.toNat 0)) = some (.slice a58 l58 c58) ∧
                CallR Try.prog 20 [.slice a52 l52 c52, .slice a58 l58 c58] w25 fun r w26 => ∃ b59 : Bool, r = .bool b59 ∧ (Value.bool b59) = .bool true ∧ Kept No W w26)
              ((Value.bool false) = .bool true ∧ Kept No W w25)) := by
      intro w18 scr ht18 h018
      refine condI (fun _ => ⟨rfl, h018⟩) (fun hne => ?_)
      have hl0 : ¬ l = 0 := by simpa using hne
      have h0L : 0 < LL.length := by omega
      refine (tread_ok ht18 1048576).mono fun v w24 ⟨a24, c24, hv24, ho24, hf24, hk24, ht24⟩ => ⟨_, _, _, _, hv24, ?_⟩
      have h024 : Kept No W w24 := h018.fresh hk24 hbW
      have hd : LL = LL[0] :: LL.drop 1 := by
        have := List.drop_eq_getElem_cons h0L
        simpa using this
      have hx0 := hsh.2 LL[0] (List.getElem_mem h0L)
      have e24' : ∀ (x : List Int) (r : List (List Int)), x.length ≤ 4096 → (readT 1048576 (x :: r)).1 = 0 ∧ (readT 1048576 (x :: r)).2.1 = x := fun x r hx => by
        unfold readT
        rw [if_neg (by decide)]
        exact ⟨rfl, List.take_of_length_le (by simp; omega)⟩
      have e24 := e24' LL[0] (LL.drop 1) hx0
      rw [← hd] at e24
      rw [e24.2] at ho24 ⊢
      rw [e24.1]
      obtain ⟨q, ⟨ea, el, ec⟩, hq, hc, hrd, _⟩ := (hL.keep h024 (fun _ _ e => e)).get h0L
      subst hq
      simp only at hc hrd
      refine tnum_to ⟨_, rfl, condT rfl ⟨⟨by omega, by omega⟩, nnI ⟨_, _, _, hc, (same_ok ho24.rd hrd (by omega)).mono fun v w26 ⟨hv26, hk26, _⟩ => ⟨_, hv26, by simp, h024.no hk26⟩⟩⟩⟩
    refine condI (fun hok => ?_) (fun _ => last w15 _ ht15 h015)
    refine (tscreen_ok ht15).mono fun v w19 ⟨a19, c19, hv19, ho19, hf19, hk19⟩ => ⟨_, _, _, hv19, ?_⟩
    have h019 := h015.no hk19
    have hsc : (writeT xs []).2 = xs := by
      unfold writeT at hok ⊢
      split
      · rename_i h; rw [if_pos h] at hok; simp at hok
      · simp
    rw [hsc] at ho19 ht15 ⊢
    have hxs : xs.length ≤ 1048576 := by rw [← hsc]; exact hscr
    refine (same_ok ho19.rd (hx.keep h019 (fun _ _ _ e => e)) (by omega)).mono fun v w20 ⟨hv20, hk20, _⟩ => ⟨_, hv20, condF (by simp) ?_⟩
    exact last w20 _ ((ht15.keep hk19 (fun _ _ e => e) (fun _ _ e => e)).keep hk20 (fun _ _ e => e) (fun _ _ e => e)) (h019.no hk20)

end Go.Proofs.Ytapnpbfbebdjjaa
