/-
  The page's file: what its functions do. Conditions: as each says.
  The page's terminal: what its functions do. Conditions: as each says.
  The page's pipe: what its methods do, against the same plain pipe. Conditions: as each says.
-/
import Derived.Test.YtpoaacnnhgebfaaGreatFi
import Derived.Test.YtpoaacnnhgebfaaGreatLGa
import Derived.Test.YtpoaacnnhgebfaaGreatTe
import Derived.Test.YtpoaacnnhgebfaaGreatKp
set_option linter.unusedVariables false
namespace Go.Proofs.YtpoaacnnhgebfaaGreat
open Go.Lw

/-- The page's file of these bytes; F is the memory it has. -/
def RefO (F : Nat → Prop) (w : World) (b : Nat) (bs : List Int) : Prop :=
  ∃ a l c, Blk w b #[.slice a l c] ∧ OB w a l c bs ∧ ¬ inA a b ∧ bs.length ≤ 1048576 ∧ ∀ k, F k ↔ k = b ∨ inA a k

theorem RefO.keep {F S : Nat → Prop} {w w' : World} {b : Nat} {bs : List Int} (h : RefO F w b bs) (k : Kept S w w') (hn : ∀ k, F k → ¬ S k) : RefO F w' b bs := by
  obtain ⟨a, l, c, hb, ho, hna, hl, hF⟩ := h
  exact ⟨a, l, c, hb.keep k (hn b ((hF b).2 (.inl rfl))), ho.keep k fun x hx => hn x ((hF x).2 (.inr hx)), hna, hl, hF⟩

theorem RefO.lt {F : Nat → Prop} {w : World} {b : Nat} {bs : List Int} (h : RefO F w b bs) : ∀ k, F k → k < w.heap.size := by
  obtain ⟨a, l, c, hb, ho, hna, hl, hF⟩ := h
  intro k hk
  rcases (hF k).1 hk with rfl | hk
  · exact hb.lt
  · exact SlO.lt ho k hk

theorem rwithin_to {w : World} {n : Int} {Q : Value → World → Prop} (h : Q (.bool (okN n)) w) : CallR Tryz.prog 205 [.int .i64 n] w Q := by
  refine C205 ?_
  unfold L205
  refine condP (fun h0 => ?_) (fun h0 => ?_)
  · have : okN n = decide (n ≤ 1048576) := by unfold okN; simp; omega
    rw [← this]; exact h
  · have : okN n = false := by unfold okN; simp; omega
    rw [← this]; exact h

theorem rnew_ok {w : World} {a : Option Addr} {l c : Nat} {bs : List Int} (h : RdB w a l c bs) (hl : l ≤ 140737488355328) :
    CallR Tryz.prog 127 [.slice a l c] w fun v w' => (1048576 < bs.length ∧ v = .tuple #[.pointer none, .int .i64 5] ∧ w' = w) ∨
      (bs.length ≤ 1048576 ∧ ∃ b F, v = .tuple #[pt b, .int .i64 0] ∧ RefO F w' b bs ∧ Kept No w w' ∧ ∀ k, F k → w.heap.size ≤ k) := by
  have hlen := h.len
  refine C127 ?_
  unfold L127
  refine condP (fun hgt => .inl ⟨by omega, rfl, rfl⟩) (fun hle => ?_)
  intro w1
  have hb1 : Blk w1 w.heap.size #[.slice none 0 0] := Blk.alloc w _ _
  have hk1 : Kept No w w1 := Kept.alloc _ _ _
  obtain ⟨a', c', w2, hrun, hs, hk, hat, hnn⟩ := run_app_sl (P := Tryz.prog) (t := 40) (t2 := 40) (ty := 40) (by kernel_rfl : slTyB Tryz.prog 40 1 1 = true) (by kernel_rfl) (SlO.nil 1 w1) (RdB.keep h hk1 (fun _ _ _ e => e)) (By_one bs) (by omega) (by omega)
  simp only [Nat.zero_add, List.nil_append] at hrun hs
  refine ⟨_, _, _, hb1.at0 rfl, a', l, c', w2, hrun, ?_⟩
  have hlen' : bs.length ≤ 1048576 := by omega
  have hna : ¬ inA a' w.heap.size := fun hin => by
    rcases hat.in hin with h | h
    · exact inA_none _ h
    · have : w1.heap.size = w.heap.size + 1 := by show (w.heap.push _).size = _; simp
      omega
  refine stC_blk (hb1.keep hk (fun e => inA_none _ e)) (by simp) fun w3 hb3 hk3 _ => .inr ⟨hlen', w.heap.size, fun k => k = w.heap.size ∨ inA a' k, rfl, ⟨a', l, c', hb3, SlO.keep hs hk3 (fun x hx e => hna (e ▸ hx)), hna, hlen', fun k => Iff.rfl⟩, ?_, fun k hk' => ?_⟩
  · exact (hk1.trans hk (fun _ _ e => inA_none _ e)).fresh hk3 (fun x e => by rw [e]; exact Nat.le_refl _)
  · rcases hk' with rfl | hk'
    · exact Nat.le_refl _
    · rcases hat.in hk' with h | rfl
      · exact absurd h (inA_none k)
      · exact hk1.size

theorem rpiece_ok {w : World} {a : Option Addr} {l c : Nat} {bs : List Int} (h : RdB w a l c bs) (hl : l ≤ 1048576) {off n : Int} (ho1 : 0 ≤ off) (ho2 : 0 ≤ n) :
    CallR Tryz.prog 148 [.slice a l c, .int .i64 off, .int .i64 n] w fun v w' => ∃ a' c', v = .slice a' (piece bs off n).length c' ∧ OB w' a' (piece bs off n).length c' (piece bs off n) ∧ Kept No w w' ∧ Fresh w a' := by
  have hlen := h.len
  have hlc : l ≤ c := h.2.1
  refine C148 ?_
  unfold L148
  refine condP (fun hge => ?_) (fun hlt => ?_)
  · have : piece bs off n = [] := by unfold piece; rw [List.drop_of_length_le (by omega)]; simp
    rw [this]
    exact ⟨none, 0, rfl, OB.nil w, Kept.refl _ _, Fresh.none w⟩
  · simp only [mn_eq]
    refine ⟨by unfold inI; omega, by unfold inI; omega, by omega, by omega, ?_⟩
    generalize hj : (off + min n ((l : Int) - off)).toNat = j
    have hij : off.toNat ≤ j := by omega
    have hjl : j ≤ l := by omega
    have hcut : RdB w (adv a off.toNat c 1) (j - off.toNat) (c - off.toNat) ((bs.take j).drop off.toNat) := by
      have := RdS.cut h off.toNat j hij hjl
      unfold RdB; rw [By_drop, By_take]; simpa using this
    have hpc : (bs.take j).drop off.toNat = piece bs off n := by
      unfold piece
      rw [List.drop_take]
      by_cases hol : off + n ≤ l
      · have : j - off.toNat = n.toNat := by omega
        rw [this]
      · rw [List.take_of_length_le (by simp; omega), List.take_of_length_le (by simp; omega)]
    rw [hpc] at hcut
    have hpl := hcut.len
    obtain ⟨a', c', w2, hrun, hs, hk, hat, _⟩ := run_app_sl (P := Tryz.prog) (t := 40) (t2 := 40) (ty := 40) (by kernel_rfl : slTyB Tryz.prog 40 1 1 = true) (by kernel_rfl) (SlO.nil 1 w) hcut (By_one _) (by omega) (by omega)
    simp only [Nat.zero_add, List.nil_append] at hrun hs
    exact ⟨_, _, _, _, hrun, a', c', by rw [hpl], by rw [hpl]; exact hs, hk.mono (fun _ _ e => inA_none _ e), hat.fresh (Fresh.none w) (Nat.le_refl _)⟩

theorem rlay_ok {w : World} {a : Option Addr} {l c : Nat} {bs : List Int} (h : OB w a l c bs) (hl : l ≤ 1048576) {off : Int} (ho1 : 0 ≤ off) {a2 : Option Addr} {l2 c2 : Nat} {ds : List Int} (hd : RdB w a2 l2 c2 ds) (hsum : off + ds.length ≤ 1048576) (hap : ds ≠ [] → ∀ k, inA a2 k → ¬ inA a k) :
    CallR Tryz.prog 150 [.slice a l c, .int .i64 off, .slice a2 l2 c2] w fun v w' => ∃ a' c', v = .slice a' (lay bs off.toNat ds).length c' ∧ OB w' a' (lay bs off.toNat ds).length c' (lay bs off.toNat ds) ∧ Kept (inA a) w w' ∧ ∀ k, inA a' k → inA a k ∨ w.heap.size ≤ k := by
  have hlen := h.len
  have hlen2 := hd.len
  obtain ⟨o, rfl⟩ : ∃ o : Nat, off = (o : Int) := ⟨off.toNat, by omega⟩
  simp only [Int.toNat_natCast]
  refine C150 ?_
  unfold L150
  refine ⟨fun vs w1 => ∃ (a' : Option Addr) (c' m : Nat), vs = [.slice a' (l + m) c'] ∧ m ≤ o - l ∧ OB w1 a' (l + m) c' (bs ++ List.replicate m 0) ∧ Kept (inA a) w w1 ∧ (∀ k, inA a' k → inA a k ∨ w.heap.size ≤ k),
    fun vs _ => match vs with | [.slice _ n _] => o - n | _ => 0, ⟨a, c, 0, rfl, by omega, by simpa using h, Kept.refl _ _, fun k hk => .inl hk⟩, ?_⟩
  intro _ a6 l6 c6 w1 hI
  obtain ⟨a', c', m, hv, hm, ho, hk, hin⟩ := hI
  simp only [List.cons.injEq, Value.slice.injEq, and_true] at hv
  obtain ⟨rfl, rfl, rfl⟩ := hv
  refine condP (fun hlt => ?_) (fun hge => ?_)
  · intro w2
    have hk2 : Kept No w1 w2 := Kept.alloc _ _ _
    obtain ⟨a7, c7, w3, hrun, hs, hk3, hat, _⟩ := run_app_sl (P := Tryz.prog) (t := 40) (t2 := 40) (ty := 40) (by kernel_rfl : slTyB Tryz.prog 40 1 1 = true) (by kernel_rfl) (OB.keep ho hk2 (fun _ _ e => e)) (rd_alloc w1 [0] _) (By_one [0]) (by simp; omega) (by simp; omega)
    simp only [List.length_cons, List.length_nil, Nat.zero_add] at hrun hs
    refine ⟨_, _, _, w3, hrun, ⟨a7, c7, m + 1, rfl, by omega, ?_, ?_, fun k hk' => ?_⟩, ?_⟩
    · rw [← By_append, List.append_assoc, ← List.replicate_succ'] at hs; exact hs
    · refine (hk.no hk2).trans (hk3.mono (S' := fun k => inA a k ∨ w.heap.size ≤ k) fun x _ e => hin x e) (fun x hx e => ?_)
      rcases e with e | e
      · exact e
      · omega
    · rcases hat.in hk' with h | rfl
      · exact hin k h
      · exact .inr (hk.no hk2).size
    · show o - (l + (m + 1)) < o - (l + m)
      omega
  · have hgr : bs ++ List.replicate m 0 = grown bs o := by
      unfold grown; congr 2; omega
    have hgl := grown_len bs o
    rw [hgr] at ho
    have hol := ho.len
    refine ⟨fun vs w1 => ∃ (a' : Option Addr) (c' i : Nat), vs = [.slice a' (lay bs o (ds.take i)).length c', .int .i64 (i : Int)] ∧ i ≤ ds.length ∧ OB w1 a' (lay bs o (ds.take i)).length c' (lay bs o (ds.take i)) ∧ Kept (inA a) w w1 ∧ (∀ k, inA a' k → inA a k ∨ w.heap.size ≤ k),
      fun vs _ => match vs with | [_, .int _ i] => (ds.length - i).toNat | _ => 0, ?_, ?_⟩
    · have h0 : lay bs o (ds.take 0) = grown bs o := by
        refine ext_getD (by rw [lay_len, hgl]; simp) fun k hk => ?_
        rw [lay_getD, grown_getD, if_neg (by simp <;> omega)]
      refine ⟨a6, c6, 0, ?_, by omega, ?_, hk, hin⟩
      · rw [h0, hol]; rfl
      · rw [h0, hol]; exact ho
    · intro _ a10 l10 c10 n11 w4 hI
      obtain ⟨a'', c'', i, hv, hi, ho4, hk4, hin4⟩ := hI
      simp only [List.cons.injEq, Value.slice.injEq, Value.int.injEq, true_and, and_true] at hv
      obtain ⟨⟨rfl, rfl, rfl⟩, rfl⟩ := hv
      have hlay := lay_len bs o (ds.take i)
      have hti : (ds.take i).length = i := by rw [List.length_take]; omega
      rw [hti] at hlay
      refine condP (fun hlt => ?_) (fun hge => ?_)
      · have hid : i < ds.length := by omega
        have hne : ds ≠ [] := fun e => by rw [e] at hid; simp at hid
        have hti1 : (ds.take (i + 1)).length = i + 1 := by rw [List.length_take]; omega
        have hlay1 := lay_len bs o (ds.take (i + 1))
        rw [hti1] at hlay1
        have hd4 : RdB w4 a2 l2 c2 ds := hd.keep hk4 (fun x hx h1 h2 => hap hne x h1 h2)
        obtain ⟨q, hq, hg⟩ := hd4.get hid
        have hgetD : ∀ k, (ds.take (i + 1)).getD k 0 = if k = i then ds[i] else (ds.take i).getD k 0 := by
          intro k
          simp only [List.getD_eq_getElem?_getD, List.getElem?_take]
          by_cases hki : k = i
          · subst hki; simp [hid]
          · rw [if_neg hki]
            by_cases hk : k < i
            · rw [if_pos (by omega), if_pos hk]
            · rw [if_neg (by omega), if_neg hk]
        refine ⟨by unfold inI; omega, condP (fun hin2 => ⟨by unfold inI; omega, ⟨by omega, by omega⟩, ?_⟩) (fun hout => ⟨⟨by omega, by omega⟩, ?_⟩)⟩
        · subst hq
          refine nnI ⟨_, hg, ⟨by omega, by omega⟩, ?_⟩
          cases a10 with
          | none => have := (RdS.isNone ho4.rd rfl).1; omega
          | some q10 =>
            have hidx : Int.toNat ((o : Int) + (i : Int)) = o + i := by omega
            rw [hidx]
            refine nnI (stC_slo ho4 rfl (j := o + i) (by omega) fun w5 ho5 hk5 _ => ⟨by unfold inI; omega, ⟨some q10, c10, i + 1, ?_, by omega, ?_, ?_, hin4⟩, ?_⟩)
            · congr 2; omega
            · rw [By_set] at ho5
              have he : (lay bs o (ds.take i)).set (o + i) ds[i] = lay bs o (ds.take (i + 1)) := by
                refine ext_getD (by simp; omega) fun k hk => ?_
                simp only [List.length_set] at hk
                rw [lay_getD, hti1, hgetD]
                by_cases hko : k = o + i
                · subst hko
                  rw [if_pos (by omega), if_pos (by omega)]
                  simp [List.getD, hk]
                · have : ((lay bs o (ds.take i)).set (o + i) ds[i]).getD k 0 = (lay bs o (ds.take i)).getD k 0 := by
                    simp only [List.getD_eq_getElem?_getD]; rw [List.getElem?_set_ne (by omega)]
                  rw [this, lay_getD, hti]
                  by_cases h1 : o ≤ k ∧ k < o + i
                  · rw [if_pos h1, if_pos (by omega), if_neg (by omega)]
                  · rw [if_neg h1, if_neg (by omega)]
              rw [he] at ho5
              have : (lay bs o (ds.take (i + 1))).length = (lay bs o (ds.take i)).length := by omega
              rw [this]; exact ho5
            · refine hk4.trans (hk5.mono (S' := fun k => inA a k ∨ w.heap.size ≤ k) fun x _ e => hin4 x e) (fun x hx e => ?_)
              rcases e with e | e
              · exact e
              · omega
            · show ((ds.length : Int) - ((i : Int) + 1)).toNat < ((ds.length : Int) - (i : Int)).toNat
              omega
        · subst hq
          refine nnI ⟨_, hg, ?_⟩
          intro w6
          have hk6 : Kept No w4 w6 := Kept.alloc _ _ _
          obtain ⟨a7, c7, w7, hrun, hs, hk7, hat, _⟩ := run_app_sl (P := Tryz.prog) (t := 40) (t2 := 40) (ty := 40) (by kernel_rfl : slTyB Tryz.prog 40 1 1 = true) (by kernel_rfl) (OB.keep ho4 hk6 (fun _ _ e => e)) (rd_alloc w4 [ds[i]] _) (By_one [ds[i]]) (by simp; omega) (by simp; omega)
          simp only [List.length_cons, List.length_nil, Nat.zero_add] at hrun hs
          refine ⟨_, _, _, w7, hrun, by unfold inI; omega, ⟨a7, c7, i + 1, ?_, by omega, ?_, ?_, fun k hk' => ?_⟩, ?_⟩
          · have e1 : (lay bs o (ds.take (i + 1))).length = (lay bs o (ds.take i)).length + 1 := by omega
            rw [e1]; rfl
          · rw [← By_append] at hs
            have he : lay bs o (ds.take i) ++ [ds[i]] = lay bs o (ds.take (i + 1)) := by
              refine ext_getD (by simp; omega) fun k hk => ?_
              simp only [List.length_append, List.length_cons, List.length_nil, Nat.zero_add] at hk
              rw [lay_getD, hti1, hgetD]
              by_cases hko : k = o + i
              · subst hko
                rw [if_pos (by omega), if_pos (by omega), List.getD_eq_getElem?_getD, List.getElem?_append_right (by omega)]
                have : o + i - (lay bs o (ds.take i)).length = 0 := by omega
                rw [this]; rfl
              · have : (lay bs o (ds.take i) ++ [ds[i]]).getD k 0 = (lay bs o (ds.take i)).getD k 0 := by
                  simp only [List.getD_eq_getElem?_getD]; rw [List.getElem?_append_left (by omega)]
                rw [this, lay_getD, hti]
                by_cases h1 : o ≤ k ∧ k < o + i
                · rw [if_pos h1, if_pos (by omega), if_neg (by omega)]
                · rw [if_neg h1, if_neg (by omega)]
            rw [he] at hs
            have : (lay bs o (ds.take (i + 1))).length = (lay bs o (ds.take i)).length + 1 := by omega
            rw [this]; exact hs
          · refine (hk4.no hk6).trans (hk7.mono (S' := fun k => inA a k ∨ w.heap.size ≤ k) fun x _ e => hin4 x e) (fun x hx e => ?_)
            rcases e with e | e
            · exact e
            · omega
          · rcases hat.in hk' with h | rfl
            · exact hin4 k h
            · exact .inr (hk4.no hk6).size
          · show ((ds.length : Int) - ((i : Int) + 1)).toNat < ((ds.length : Int) - (i : Int)).toNat
            omega
      · have hi' : i = ds.length := by omega
        subst hi'
        rw [List.take_length] at *
        exact ⟨a10, c10, rfl, ho4, hk4, hin4⟩

theorem rWriteAt_ok {F : Nat → Prop} {w : World} {b : Nat} {bs : List Int} (h : RefO F w b bs) (off : Int) {a2 : Option Addr} {l2 c2 : Nat} {ds : List Int} (hd : RdB w a2 l2 c2 ds) (hl2 : l2 ≤ 140737488355328) (hap : ds ≠ [] → ∀ k, inA a2 k → ¬ F k) :
    CallR Tryz.prog 177 [pt b, .int .i64 off, .slice a2 l2 c2] w fun v w' => v = .int .i64 (writeF bs off ds).1 ∧ ∃ F', RefO F' w' b (writeF bs off ds).2 ∧ Grew F w F' ∧ Kept F w w' := by
  have hfo := h
  obtain ⟨a, l, c, hb, ho, hna, hbl, hF⟩ := h
  have hlen := ho.len
  have hlen2 := hd.len
  refine C177 ?_
  unfold L177
  have done : ∀ e : Int, writeF bs off ds = (e, bs) → (.int .i64 e : Value) = .int .i64 (writeF bs off ds).1 ∧ ∃ F', RefO F' w b (writeF bs off ds).2 ∧ Grew F w F' ∧ Kept F w w := fun e he => by
    rw [he]; exact ⟨rfl, F, hfo, .same, Kept.refl _ _⟩
  refine rwithin_to ⟨_, rfl, condI (fun hno => done 4 ?_) (fun hyes => ?_)⟩
  · simp [writeF, notT hno]
  · have hyes' := notF hyes
    have ho1 : 0 ≤ off ∧ off ≤ 1048576 := by simpa [okN] using hyes'
    refine ⟨by unfold inI; omega, condP (fun hfull => done 31 ?_) (fun hfit => condP (fun hpos => ?_) (fun hz => done 0 ?_))⟩
    · have h1 : 1048576 - off < (ds.length : Int) := by rw [hlen2]; omega
      simp [writeF, hyes', h1]
    · have h1 : ¬ (1048576 - off < (ds.length : Int)) := by rw [hlen2]; omega
      have hw : writeF bs off ds = (0, lay bs off.toNat ds) := by
        unfold writeF
        rw [if_neg (by rw [hyes']; simp), if_neg h1, if_neg (by omega)]
      rw [hw]
      refine nnI ⟨a, l, c, hb.at0 rfl, (rlay_ok ho (by omega) ho1.1 hd (by omega) (fun hne k h1 h2 => hap hne k h1 ((hF k).2 (.inr h2)))).mono fun v w2 ⟨a', c', hv, ho2, hk2, hin⟩ => ⟨a', _, c', hv, nnI ?_⟩⟩
      have hna' : ¬ inA a' b := fun h => by
        rcases hin b h with h | h
        · exact hna h
        · have := hb.lt; omega
      have hll := lay_len bs off.toNat ds
      refine stC_blk (hb.keep hk2 hna) (by simp) fun w3 hb3 hk3 _ => ⟨rfl, fun k => k = b ∨ inA a' k, ⟨a', _, c', hb3, ho2.keep hk3 (fun x hx e => hna' (e ▸ hx)), hna', (by show (lay bs off.toNat ds).length ≤ 1048576; omega), fun _ => Iff.rfl⟩, fun k hk' => ?_, ?_⟩
      · rcases hk' with rfl | hk'
        · exact .inl ((hF _).2 (.inl rfl))
        · rcases hin k hk' with h | h
          · exact .inl ((hF _).2 (.inr h))
          · exact .inr h
      · exact (hk2.mono fun x _ e => (hF x).2 (.inr e)).trans hk3 (fun x _ e => (hF x).2 (.inl e))
    · have h2 : ds = [] := List.eq_nil_of_length_eq_zero (by omega)
      have h3 : ¬ (1048576 - off < 0) := by omega
      subst h2
      simp [writeF, hyes', h3]

end Go.Proofs.YtpoaacnnhgebfaaGreat

namespace Go.Proofs.YtpoaacnnhgebfaaGreat
open Go.Lw

/-- Slices that lie at these places read as these bytes, in memory R. -/
def Inner (R : Nat → Prop) (w : World) (es : List Slc) (LL : List (List Int)) : Prop :=
  es.length = LL.length ∧ ∀ (i : Nat) (e : Slc) (xs : List Int), es[i]? = some e → LL[i]? = some xs → RdB w e.1 e.2.1 e.2.2 xs ∧ (xs ≠ [] → ∀ k, inA e.1 k → R k)

theorem Inner.keep {R S : Nat → Prop} {w w' : World} {es : List Slc} {LL : List (List Int)} (h : Inner R w es LL) (k : Kept S w w') (hn : ∀ x, R x → ¬ S x) : Inner R w' es LL :=
  ⟨h.1, fun i e xs he hx => ⟨(h.2 i e xs he hx).1.keep0 k fun hne b hb => hn b ((h.2 i e xs he hx).2 hne b hb), (h.2 i e xs he hx).2⟩⟩

/-- The page's terminal. -/
def RefT (F R : Nat → Prop) (w : World) (b : Nat) (LL : List (List Int)) (scr : List Int) : Prop :=
  ∃ (la : Option Addr) (ll lc : Nat) (sa : Option Addr) (sl sc : Nat) (es : List Slc), Blk w b #[.slice la ll lc, .slice sa sl sc] ∧ SlO 1 w la ll lc (es.map slv) ∧ Inner R w es LL ∧
    OB w sa sl sc scr ∧ ¬ inA la b ∧ ¬ inA sa b ∧ (∀ k, inA la k → ¬ inA sa k) ∧ scr.length ≤ 1048576 ∧ (∀ k, F k ↔ k = b ∨ inA la k ∨ inA sa k) ∧ (∀ k, R k → ¬ F k) ∧ (∀ k, R k → k < w.heap.size) ∧ LL.length ≤ 256 ∧ ∀ x ∈ LL, x.length ≤ 4096

theorem RefT.keep {F R S : Nat → Prop} {w w' : World} {b : Nat} {LL : List (List Int)} {scr : List Int} (h : RefT F R w b LL scr) (k : Kept S w w') (hf : ∀ x, F x → ¬ S x) (hr : ∀ x, R x → ¬ S x) : RefT F R w' b LL scr := by
  obtain ⟨la, ll, lc, sa, sl, sc, es, hb, hl, hi, ho, hna, hna2, hls, hs, hF, hR, hlt, h1, h2⟩ := h
  exact ⟨la, ll, lc, sa, sl, sc, es, hb.keep k (hf b ((hF b).2 (.inl rfl))), hl.keep k (fun x hx => hf x ((hF x).2 (.inr (.inl hx)))), hi.keep k hr, ho.keep k (fun x hx => hf x ((hF x).2 (.inr (.inr hx)))), hna, hna2, hls, hs, hF, hR, fun k' hk => Nat.lt_of_lt_of_le (hlt k' hk) k.size, h1, h2⟩

theorem RefT.lt {F R : Nat → Prop} {w : World} {b : Nat} {LL : List (List Int)} {scr : List Int} (h : RefT F R w b LL scr) : ∀ k, F k ∨ R k → k < w.heap.size := by
  obtain ⟨la, ll, lc, sa, sl, sc, es, hb, hl, hi, ho, hna, hna2, hls, hs, hF, hR, hlt, h1, h2⟩ := h
  intro k hk
  rcases hk with hk | hk
  · rcases (hF k).1 hk with rfl | hk | hk
    · exact hb.lt
    · exact SlO.lt hl k hk
    · exact SlO.lt ho k hk
  · exact hlt k hk

theorem RefT.scr {F R : Nat → Prop} {w : World} {b : Nat} {LL : List (List Int)} {scr : List Int} (h : RefT F R w b LL scr) : scr.length ≤ 1048576 := by
  obtain ⟨la, ll, lc, sa, sl, sc, es, hb, hl, hi, ho, hna, hna2, hls, hs, _⟩ := h; exact hs

theorem rcheck_ok {R0 : Nat → Prop} {w : World} {a : Option Addr} {l c : Nat} {LL : List (List Int)} (h : RdL R0 w a l c LL) :
    CallR Tryz.prog 58 [.slice a l c] w fun v w' => v = .int .i64 (newT LL) ∧ w' = w := by
  have hlen := h.len
  refine C58 ?_
  unfold L58
  refine condP (fun hgt => ⟨?_, rfl⟩) (fun hle => ?_)
  · have : newT LL = 3 := by unfold newT; rw [if_pos (by omega)]
    rw [this]
  refine ⟨fun vs w' => w' = w ∧ ∃ i : Nat, vs = [.int .i64 (i : Int)] ∧ i ≤ l ∧ (LL.take i).all (fun x => decide (x.length ≤ 4096)) = true, fun vs _ => match vs with | [.int _ i] => (l - i).toNat | _ => 0, ⟨rfl, 0, rfl, Nat.zero_le _, by simp⟩, ?_⟩
  intro _ n4 w1 hI
  obtain ⟨hw, i, hv, hi, hall⟩ := hI
  subst hw
  simp only [List.cons.injEq, Value.int.injEq, true_and, and_true] at hv
  subst hv
  refine condP (fun hlt => ?_) (fun hge => ?_)
  · have hil : i < LL.length := by omega
    obtain ⟨q, ⟨ea, el, ec⟩, hq, hc, hrd, _⟩ := h.get hil
    subst hq
    simp only at hc hrd
    obtain rfl : LL[i].length = el := hrd.len
    refine ⟨⟨by omega, by omega⟩, nnI ⟨_, _, _, hc, condP (fun hbig => ⟨?_, rfl⟩) (fun hsmall => ⟨by unfold inI; omega, ⟨rfl, i + 1, rfl, by omega, ?_⟩, ?_⟩)⟩⟩
    · have h1 : ¬ 256 < LL.length := by omega
      have h2 : LL.all (fun x => decide (x.length ≤ 4096)) = false := by
        cases hx : LL.all (fun x => decide (x.length ≤ 4096)) with
        | false => rfl
        | true =>
          have := List.all_eq_true.1 hx LL[i] (List.getElem_mem hil)
          have := of_decide_eq_true this
          omega
      have : newT LL = 5 := by unfold newT; rw [if_neg h1, h2]; rfl
      rw [this]
    · rw [List.take_add_one, List.getElem?_eq_getElem hil]
      simp only [Option.toList_some, List.all_append, hall, Bool.true_and]
      have : LL[i].length ≤ 4096 := by omega
      simp [this]
    · show ((l : Int) - ((i : Int) + 1)).toNat < ((l : Int) - (i : Int)).toNat
      omega
  · have hil : i = l := by omega
    subst hil
    rw [List.take_of_length_le (by omega)] at hall
    have hn0 : newT LL = 0 := by unfold newT; rw [if_neg (by omega), hall]; rfl
    rw [hn0]; exact ⟨rfl, rfl⟩

theorem rnewT_ok {R0 : Nat → Prop} {w : World} {a : Option Addr} {l c : Nat} {LL : List (List Int)} (h : RdL R0 w a l c LL) (hl : ∀ x ∈ LL, x.length ≤ 140737488355328) :
    CallR Tryz.prog 159 [.slice a l c] w fun v w' => Kept No w w' ∧ ((newT LL ≠ 0 ∧ v = .tuple #[.pointer none, .int .i64 (newT LL)]) ∨
      (newT LL = 0 ∧ ∃ b F R, v = .tuple #[ptt b, .int .i64 0] ∧ RefT F R w' b LL [] ∧ ∀ k, F k ∨ R k → w.heap.size ≤ k)) := by
  have hlen := h.len
  refine C159 ?_
  unfold L159
  refine (rcheck_ok h).mono fun v w1 ⟨hv, hw⟩ => ⟨_, hv, ?_⟩
  rw [hw]
  refine condI (fun hne => ⟨Kept.refl _ _, .inl ⟨by simpa using hne, rfl⟩⟩) (fun hz => ?_)
  have hn0 : newT LL = 0 := by simpa using hz
  have h12 : LL.length ≤ 256 ∧ ∀ x ∈ LL, x.length ≤ 4096 := by
    unfold newT at hn0
    split at hn0
    · simp at hn0
    · split at hn0
      · rename_i h1 h2
        exact ⟨by omega, fun x hx => of_decide_eq_true (List.all_eq_true.1 h2 x hx)⟩
      · simp at hn0
  intro w2
  have hb2 : Blk w2 w.heap.size #[.slice none 0 0, .slice none 0 0] := Blk.alloc w _ _
  have hk2 : Kept No w w2 := Kept.alloc _ _ _
  clear_value w2
  refine ⟨fun vs w2 => ∃ (i : Nat) (la : Option Addr) (lc : Nat) (es : List Slc), vs = [.int .i64 (i : Int)] ∧ i ≤ l ∧ Blk w2 w.heap.size #[.slice la i lc, .slice none 0 0] ∧
      SlO 1 w2 la i lc (es.map slv) ∧ (∀ k, inA la k → w.heap.size < k) ∧ (∀ (j : Nat) (e : Slc), es[j]? = some e → ∃ xs, LL[j]? = some xs ∧ RdB w2 e.1 e.2.1 e.2.2 xs ∧ (∀ k, inA e.1 k → w.heap.size < k ∧ k < w2.heap.size ∧ ¬ inA la k)) ∧
      Kept No w w2, fun vs _ => match vs with | [.int _ i] => (l - i).toNat | _ => 0,
    ⟨0, none, 0, [], rfl, Nat.zero_le _, hb2, SlO.nil 1 w2, fun k hk => absurd hk (inA_none k), fun j e he => by simp at he, hk2⟩, ?_⟩
  intro _ n4 w3 hI
  obtain ⟨i, la, lc, es, hv, hi, hb3, hs3, hla, hes, hk3⟩ := hI
  simp only [List.cons.injEq, Value.int.injEq, true_and, and_true] at hv
  subst hv
  have hesl : es.length = i := by have := hs3.1; simpa using this
  refine condP (fun hlt => ?_) (fun hge => ?_)
  · have hil : i < LL.length := by omega
    obtain ⟨q, ⟨ea, el, ec⟩, hq, hc, hrd, _⟩ := (h.keep hk3 (fun _ _ e => e)).get hil
    subst hq
    simp only at hc hrd
    obtain rfl : LL[i].length = el := hrd.len
    have hLi := hl LL[i] (List.getElem_mem hil)
    refine ⟨fun wS => Blk wS w.heap.size #[.slice la i lc, .slice none 0 0] ∧ wS.cell? (q.add i) = some (.slice ea LL[i].length ec), ⟨hb3, hc⟩, ?_⟩
    intro w4
    have hk4 : Kept No w3 w4 := Kept.drew _ _
    have hb4 : Blk w4 w.heap.size #[.slice la i lc, .slice none 0 0] := hb3
    have hc4 : w4.cell? (q.add i) = some (.slice ea LL[i].length ec) := hc
    have hrd4 := hrd.keep hk4 (fun _ _ _ e => e)
    have hsz4 : w4.heap.size = w3.heap.size := rfl
    clear_value w4
    obtain ⟨a5, c5, w5, hrun5, hs5, hk5, hat5, _⟩ := run_app_sl (P := Tryz.prog) (t := 40) (t2 := 40) (ty := 40) (by kernel_rfl : slTyB Tryz.prog 40 1 1 = true) (by kernel_rfl) (SlO.nil 1 w4) hrd4 (By_one _) (by omega) (by omega)
    simp only [Nat.zero_add, List.nil_append] at hrun5 hs5
    have hk5' : Kept No w4 w5 := hk5.mono (fun _ _ e => inA_none _ e)
    have hf5 : Fresh w4 a5 := hat5.fresh (Fresh.none w4) (Nat.le_refl _)
    refine ⟨la, i, lc, fun wS hS => (hS.1.cell 0).trans rfl, ⟨by omega, by omega⟩, nnI ⟨_, _, _, fun wS hS => hS.2, _, _, _, w5, hrun5, ⟨hb4.keep hk5' (fun e => e), hk5'.cell hc4 (fun e => e)⟩, ?_⟩⟩
    have hb5 := hb4.keep hk5' (fun e => e)
    intro w6
    have hk6 : Kept No w5 w6 := Kept.alloc _ _ _
    have hnew6 : SlO 1 w6 (some ⟨w5.heap.size, 0, none⟩) 1 1 ([(a5, LL[i].length, c5)].map slv) :=
      SlO.of_blk (sz := 1) (n := 1) (Blk.alloc w5 #[slv (a5, LL[i].length, c5)] 40) rfl
    clear_value w6
    have hk36 := hk4.no (hk5'.no hk6)
    have hs6 := hs3.keep hk36 (fun _ _ e => e)
    obtain ⟨a7, c7, w7, hrun, hs7, hk7, hat, _⟩ := run_app_sl (P := Tryz.prog) (t := 84) (t2 := 84) (ty := 84) (by kernel_rfl : slTyB Tryz.prog 84 1 24 = true) (by kernel_rfl) hs6 hnew6.rd (slv_one _) (by omega) (by omega)
    refine ⟨⟨hb5.keep hk6 (fun e => e), (hk5'.no hk6).cell hc4 (fun e => e)⟩, a7, _, c7, w7, hrun, ?_⟩
    have hlt6 : ∀ k, inA a5 k → k < w6.heap.size := fun k hk => Nat.lt_of_lt_of_le (SlO.lt hs5 k hk) hk6.size
    have hb7 : Blk w7 w.heap.size _ := (hb5.keep hk6 (fun e => e)).keep hk7 (fun hx => by have := hla _ hx; omega)
    have hla7 : ∀ k, inA a7 k → w.heap.size < k := fun k hk => by
      rcases hat.in hk with h | rfl
      · exact hla k h
      · have := hb5.lt; have := hk6.size; omega
    refine stC_blk hb7 (by simp) fun w8 hb8 hk8 hsz8 => ⟨by unfold inI; omega, ⟨i + 1, a7, c7, es ++ [(a5, LL[i].length, c5)], rfl, by omega, hb8, ?_, hla7, ?_, ?_⟩, ?_⟩
    · rw [List.map_append]
      exact SlO.keep hs7 hk8 (fun k hk e => by have := hla7 k hk; omega)
    · intro j e he
      by_cases hj : j < i
      · rw [List.getElem?_append_left (by omega)] at he
        obtain ⟨xs, hx, hr, hin⟩ := hes j e he
        refine ⟨xs, hx, ?_, fun k hk => ?_⟩
        · refine RdB.keep0 (RdB.keep0 (hr.keep0 hk36 (fun _ _ _ e => e)) hk7 (fun _ k hk h => (hin k hk).2.2 h)) hk8 (fun _ k hk e => by have := (hin k hk).1; omega)
        · obtain ⟨h1, h2, h3⟩ := hin k hk
          refine ⟨h1, ?_, fun hx => ?_⟩
          · have := hk36.size; have := hk7.size; omega
          · rcases hat.in hx with h | rfl
            · exact h3 h
            · have := hk36.size; omega
      · have hje : j = i := by
          have := (List.getElem?_eq_some_iff.1 he).1
          simp at this; omega
        subst hje
        rw [List.getElem?_append_right (by omega), hesl, Nat.sub_self] at he
        simp at he
        subst he
        have hr5 : RdB w5 a5 LL[j].length c5 LL[j] := SlO.rd hs5
        refine ⟨LL[j], by simp [hil], ?_, fun k hk => ?_⟩
        · refine RdB.keep0 (RdB.keep0 (hr5.keep0 hk6 (fun _ _ _ e => e)) hk7 (fun _ k hk h => ?_)) hk8 (fun _ k hk e => ?_)
          · have h1 := hf5 k hk; have h2 := SlO.lt hs3 k h; omega
          · have h1 := hf5 k hk; have h3 := hb3.lt; omega
        · have h1 := hf5 k hk
          have h3 := hb3.lt
          refine ⟨by omega, ?_, fun hx => ?_⟩
          · have := hlt6 k hk; have := hk7.size; omega
          · rcases hat.in hx with h | rfl
            · have h2 := SlO.lt hs3 k h; omega
            · have := hlt6 _ hk; omega
    · exact ((hk3.no hk36).fresh hk7 (fun k hk => Nat.le_of_lt (hla k hk))).fresh hk8 (fun k e => by rw [e]; exact Nat.le_refl _)
    · show ((l : Int) - ((i : Int) + 1)).toNat < ((l : Int) - (i : Int)).toNat
      omega
  · have hil : i = l := by omega
    subst hil
    refine ⟨hk3, .inr ⟨hn0, w.heap.size, fun k => k = w.heap.size ∨ inA la k, fun k => ∃ e ∈ es, inA e.1 k, rfl, ⟨la, i, lc, none, 0, 0, es, hb3, hs3, ⟨by omega, fun j e xs he hx => ?_⟩, OB.nil w3, fun hk => by have := hla _ hk; omega, inA_none _, fun k _ => inA_none k, by simp, fun k => ?_, fun k hk e => ?_, fun k hk => ?_, h12.1, h12.2⟩, fun k hk => ?_⟩⟩
    · obtain ⟨xs', hx', hr, _⟩ := hes j e he
      rw [hx] at hx'; cases hx'
      exact ⟨hr, fun _ k hk => ⟨e, List.mem_of_getElem? he, hk⟩⟩
    · constructor
      · rintro (h | h)
        · exact .inl h
        · exact .inr (.inl h)
      · rintro (h | h | h)
        · exact .inl h
        · exact .inr h
        · exact absurd h (inA_none k)
    · obtain ⟨e', he', hk⟩ := hk
      obtain ⟨j, hj⟩ := List.mem_iff_getElem?.1 he'
      obtain ⟨_, _, _, h3⟩ := hes j e' hj
      rcases e with e | e
      · have := (h3 k hk).1; omega
      · exact (h3 k hk).2.2 e
    · obtain ⟨e', he', hk⟩ := hk
      obtain ⟨j, hj⟩ := List.mem_iff_getElem?.1 he'
      obtain ⟨_, _, _, h3⟩ := hes j e' hj
      exact (h3 k hk).2.1
    · rcases hk with (rfl | hk) | ⟨e', he', hk⟩
      · exact Nat.le_refl _
      · exact Nat.le_of_lt (hla k hk)
      · obtain ⟨j, hj⟩ := List.mem_iff_getElem?.1 he'
        obtain ⟨_, _, _, h3⟩ := hes j e' hj
        exact Nat.le_of_lt (h3 k hk).1

theorem rreadT_ok {F R : Nat → Prop} {w : World} {b : Nat} {LL : List (List Int)} {scr : List Int} (h : RefT F R w b LL scr) (n : Int) :
    CallR Tryz.prog 171 [ptt b, .int .i64 n] w fun v w' => ∃ a' c', v = .tuple #[.slice a' (readT n LL).2.1.length c', .int .i64 (readT n LL).1] ∧ RdB w' a' (readT n LL).2.1.length c' (readT n LL).2.1 ∧ ∃ F', (∀ k, F' k → F k) ∧ Kept F w w' ∧ RefT F' R w' b (readT n LL).2.2 scr := by
  have ht := h
  obtain ⟨la, ll, lc, sa, sl, sc, es, hb, hl, hin, ho, hna, hna2, hls, hs, hF, hR, hlt, h1, h2⟩ := h
  have hel : es.length = ll := by have := hl.1; simpa using this
  have hll := hin.1
  refine C171 ?_
  unfold L171
  refine condP (fun hsm => ?_) (fun hge => condP (fun hbig => ?_) (fun hle => ?_))
  · have e : readT n LL = (4, [], LL) := by unfold readT; rw [if_pos (.inl hsm)]
    rw [e]; exact ⟨none, 0, rfl, RdB.nil w, F, fun _ h => h, Kept.refl _ _, ht⟩
  · have e : readT n LL = (4, [], LL) := by unfold readT; rw [if_pos (.inr hbig)]
    rw [e]; exact ⟨none, 0, rfl, RdB.nil w, F, fun _ h => h, Kept.refl _ _, ht⟩
  · have hn : ¬ (n < 1 ∨ n > 1048576) := by omega
    refine nnI ⟨la, ll, lc, hb.at0 rfl, condI (fun h0 => ?_) (fun h0 => ?_)⟩
    · have hl0 : ll = 0 := by simpa using h0
      have hLL : LL = [] := List.eq_nil_of_length_eq_zero (by omega)
      have e : readT n LL = (0, [], LL) := by unfold readT; rw [if_neg hn, hLL]
      rw [e]; exact ⟨none, 0, rfl, RdB.nil w, F, fun _ h => h, Kept.refl _ _, ht⟩
    · have hl0 : ¬ ll = 0 := by simpa using h0
      cases LL with
      | nil =>
        have h3 : es.length = 0 := hll
        omega
      | cons x r =>
        cases es with
        | nil =>
          have h3 : 0 = ll := hel
          omega
        | cons e0 es =>
          obtain ⟨ea, el, ec⟩ := e0
          have hx4 := h2 x (by simp)
          obtain ⟨hrd, hRe⟩ := hin.2 0 (ea, el, ec) x rfl rfl
          simp only at hrd hRe
          obtain rfl : x.length = el := hrd.len
          have hlec : x.length ≤ ec := hrd.2.1
          cases la with
          | none => have := (RdS.isNone hl.rd rfl).1; omega
          | some q =>
            have hce := hl.rd.2.2.2 q rfl 0 (slv (ea, x.length, ec)) rfl
            refine nnI ⟨some q, ll, lc, hb.at0 rfl, ⟨by omega, by omega⟩, nnI ⟨ea, x.length, ec, hce, ?_⟩⟩
            rw [mn_eq]
            have hRb : ∀ k, R k → k ≠ b := fun k hk e => hR k hk ((hF k).2 (.inl e))
            refine condI (fun hall => ?_) (fun hsome => ?_)
            · have hmx : min n (x.length : Int) = x.length := by simpa using hall
              rw [hmx]
              refine nnI ⟨some q, ll, lc, hb.at0 rfl, ⟨by omega, by omega⟩, nnI (stC_blk hb (by simp) fun w3 hb3 hk3 hsz3 => ⟨⟨by omega, by omega⟩, ?_⟩)⟩
              have e : readT n (x :: r) = (0, x, r) := by
                unfold readT; rw [if_neg hn]; simp only; rw [if_pos (by omega), List.take_of_length_le (by omega)]
              rw [e]
              have hrd3 : RdB w3 ea x.length ec x := hrd.keep0 hk3 (fun hne k hk e => hRb k (hRe hne k hk) e)
              refine ⟨ea, ec, rfl, hrd3, F, fun _ h => h, hk3.mono (fun k _ e => (hF k).2 (.inl e)), ?_⟩
              refine ⟨adv (some q) 1 lc 1, ll - 1, lc - 1, sa, sl, sc, es, hb3, ?_, ⟨by simpa using hll, fun i e ys he hy => ?_⟩, ?_, fun h => hna (inA_adv.1 h), hna2, fun k hk => hls k (inA_adv.1 hk), hs, fun k => ?_, hR, fun k hk => Nat.lt_of_lt_of_le (hlt k hk) hk3.size, (by show r.length ≤ 256; simp at h1; omega), fun y hy => h2 y (by simp [hy])⟩
              · have := SlO.keep (hl.from 1 (by omega)) hk3 (fun k hk e => hna (e ▸ inA_adv.1 hk))
                simpa using this
              · have := hin.2 (i + 1) e ys (by simpa using he) (by simpa using hy)
                exact ⟨this.1.keep0 hk3 (fun hne k hk e => hRb k (this.2 hne k hk) e), this.2⟩
              · exact ho.keep hk3 (fun k hk e => hna2 (e ▸ hk))
              · rw [hF k, inA_adv]
            · have hmx : ¬ min n (x.length : Int) = x.length := by simpa using hsome
              have hmn : min n (x.length : Int) = n := by omega
              rw [hmn]
              intro w2
              have hk2 : Kept F w w2 := Kept.drew _ _
              have hb2 : Blk w2 b #[.slice (some q) ll lc, .slice sa sl sc] := hb
              have hl2 : SlO 1 w2 (some q) ll lc (((ea, x.length, ec) :: es).map slv) := hl
              have ht2 : RefT F R w2 b (x :: r) scr := ht.keep (Kept.drew No w) (fun _ _ e => e) (fun _ _ e => e)
              have hrd2 : RdB w2 ea x.length ec x := hrd
              have hin2 : Inner R w2 ((ea, x.length, ec) :: es) (x :: r) := hin.keep (Kept.drew No w) (fun _ _ e => e)
              have ho2 : OB w2 sa sl sc scr := ho
              have hlt2 : ∀ k, R k → k < w2.heap.size := hlt
              clear_value w2
              obtain ⟨m, rfl⟩ : ∃ m : Nat, n = (m : Int) := ⟨n.toNat, by omega⟩
              simp only [Int.toNat_natCast]
              refine nnI ⟨some q, ll, lc, hb2.at0 rfl, ⟨by omega, by omega⟩, ⟨by omega, by omega⟩, nnI (stC_slo (j := 0) hl2 rfl (by omega) fun w3 hl3 hk3 hsz3 => ⟨⟨by omega, by omega⟩, ?_⟩)⟩
              have e : readT (m : Int) (x :: r) = (0, x.take m, x.drop m :: r) := by
                unfold readT; rw [if_neg hn]; simp only; rw [if_neg (by omega)]; simp
              rw [e]
              have hRq : ∀ k, R k → ¬ inA (some q) k := fun k hk e => hR k hk ((hF k).2 (.inr (.inl e)))
              have hrd3 : RdB w3 ea x.length ec x := hrd2.keep0 hk3 (fun hne k hk e => hRq k (hRe hne k hk) e)
              have htl : (x.take m).length = m := by simp; omega
              refine ⟨ea, ec, by rw [htl], by rw [htl]; exact hrd3.to m (by omega), F, fun _ h => h, hk2.trans (hk3.mono (S' := F) fun k _ e => (hF k).2 (.inr (.inl e))) (fun _ _ e => e), ?_⟩
              refine ⟨some q, ll, lc, sa, sl, sc, (adv ea m ec 1, x.length - m, ec - m) :: es, hb2.keep hk3 hna, hl3, ⟨by simpa using hll, fun i e ys he hy => ?_⟩, ?_, hna, hna2, hls, hs, hF, hR, fun k hk => Nat.lt_of_lt_of_le (hlt2 k hk) hk3.size, by simpa using h1, fun y hy => ?_⟩
              · cases i with
                | zero =>
                  simp at he hy
                  subst he hy
                  exact ⟨hrd3.from m (by omega), fun hne k hk => hRe (fun e => hne (by rw [e]; simp)) k (inA_adv.1 hk)⟩
                | succ i =>
                  have := hin2.2 (i + 1) e ys (by simpa using he) (by simpa using hy)
                  exact ⟨this.1.keep0 hk3 (fun hne k hk e => hRq k (this.2 hne k hk) e), this.2⟩
              · exact ho2.keep hk3 (fun k hk e => hls k e hk)
              · rcases List.mem_cons.1 hy with rfl | hy
                · simp; omega
                · exact h2 y (by simp [hy])

theorem rwriteT_ok {F R : Nat → Prop} {w : World} {b : Nat} {LL : List (List Int)} {scr : List Int} (h : RefT F R w b LL scr) {a2 : Option Addr} {l2 c2 : Nat} {ds : List Int} (hd : RdB w a2 l2 c2 ds) (hl2 : l2 ≤ 140737488355328) :
    CallR Tryz.prog 176 [ptt b, .slice a2 l2 c2] w fun v w' => v = .int .i64 (writeT ds scr).1 ∧ ∃ F', RefT F' R w' b LL (writeT ds scr).2 ∧ (∀ k, F' k → F k ∨ w.heap.size ≤ k) ∧ Kept F w w' := by
  have ht := h
  obtain ⟨la, ll, lc, sa, sl, sc, es, hb, hl, hin, ho, hna, hna2, hls, hs, hF, hR, hlt, h1, h2⟩ := h
  have hsl := ho.len
  have hdl := hd.len
  refine C176 ?_
  unfold L176
  refine nnI ⟨sa, sl, sc, hb.at rfl, by unfold inI; omega, condP (fun hfull => ?_) (fun hfit => ?_)⟩
  · have e : writeT ds scr = (31, scr) := by unfold writeT; rw [if_pos (by omega)]
    rw [e]; exact ⟨rfl, F, ht, fun k hk => .inl hk, Kept.refl _ _⟩
  · have e : writeT ds scr = (0, scr ++ ds) := by unfold writeT; rw [if_neg (by omega)]
    rw [e]
    obtain ⟨a', c', w2, hrun, hs2, hk, hat, _⟩ := run_app_sl (P := Tryz.prog) (t := 40) (t2 := 40) (ty := 40) (by kernel_rfl : slTyB Tryz.prog 40 1 1 = true) (by kernel_rfl) ho hd (By_one ds) (by omega) (by omega)
    refine nnI ⟨sa, sl, sc, hb.at rfl, _, _, _, w2, hrun, nnI ?_⟩
    have hna' : ¬ inA a' b := fun hin => by
      rcases hat.in hin with hin | hin
      · exact hna2 hin
      · have := hb.lt; omega
    refine stC_at (hb.keep hk hna2) (by simp) fun w3 hb3 hk3 hsz3 => ?_
    have hkF : Kept F w w3 := (hk.mono fun x _ e => (hF x).2 (.inr (.inr e))).trans hk3 (fun x _ e => (hF x).2 (.inl e))
    refine ⟨rfl, fun k => k = b ∨ inA la k ∨ inA a' k, ⟨la, ll, lc, a', sl + l2, c', es, hb3, SlO.keep (SlO.keep hl hk (fun k hk e => hls k hk e)) hk3 (fun k hk e => hna (e ▸ hk)), hin.keep hkF hR, ?_, hna, hna', fun k hk e => ?_, by simp; omega, fun k => Iff.rfl, fun k hk' e => ?_, fun k hk' => Nat.lt_of_lt_of_le (hlt k hk') hkF.size, h1, h2⟩, fun k hk' => ?_, hkF⟩
    · rw [← By_append] at hs2; exact SlO.keep hs2 hk3 (fun k hk' e => hna' (e ▸ hk'))
    · rcases hat.in e with e | e
      · exact hls k hk e
      · have := SlO.lt hl k hk; omega
    · rcases e with e | e | e
      · exact hR k hk' ((hF k).2 (.inl e))
      · exact hR k hk' ((hF k).2 (.inr (.inl e)))
      · rcases hat.in e with e | e
        · exact hR k hk' ((hF k).2 (.inr (.inr e)))
        · have := hlt k hk'; omega
    · rcases hk' with rfl | hk' | hk'
      · exact .inl ((hF _).2 (.inl rfl))
      · exact .inl ((hF _).2 (.inr (.inl hk')))
      · rcases hat.in hk' with hin | rfl
        · exact .inl ((hF _).2 (.inr (.inr hin)))
        · exact .inr (Nat.le_refl _)

end Go.Proofs.YtpoaacnnhgebfaaGreat

namespace Go.Proofs.YtpoaacnnhgebfaaGreat
open Go.Lw

/-- The page's pipe in the block rb; all that it has lies in F. -/
def RefP (w : World) (rb : Nat) (F : Nat → Prop) (bs : List Int) (e0 e1 : Nat) : Prop :=
  F rb ∧ (∀ x, F x → x < w.heap.size) ∧ ∃ a l c, Blk w rb #[.slice a l c, .int .i64 (e0 : Int), .int .i64 (e1 : Int)] ∧ RdB w a l c bs ∧ (∀ x, inA a x → F x ∧ x ≠ rb) ∧ bs.length ≤ 4096 ∧ e0 ≤ 1024 ∧ e1 ≤ 1024

theorem RefP.keep {S F : Nat → Prop} {w w' : World} {rb : Nat} {bs : List Int} {e0 e1 : Nat} (h : RefP w rb F bs e0 e1) (k : Kept S w w') (hn : ∀ x, F x → ¬ S x) : RefP w' rb F bs e0 e1 := by
  obtain ⟨hF, hlt, a, l, c, hb, hr, ha, h1, h2, h3⟩ := h
  exact ⟨hF, fun x hx => Nat.lt_of_lt_of_le (hlt x hx) k.size, a, l, c, hb.keep k (hn _ hF), hr.keep k (fun x _ hx => hn x (ha x hx).1), ha, h1, h2, h3⟩

theorem rleave_ok {w : World} {rb : Nat} {F : Nat → Prop} {bs : List Int} {e0 e1 : Nat} (h : RefP w rb F bs e0 e1) (wr : Bool) :
    CallR Tryz.prog 179 [pt rb, .bool wr] w fun v w' => v = .int .i64 (leaveP wr e0 e1).1 ∧ RefP w' rb F bs (leaveP wr e0 e1).2.1 (leaveP wr e0 e1).2.2 ∧ Kept (· = rb) w w' := by
  have h' := h
  obtain ⟨hF, hlt, a, l, c, hb, hr, ha, h1, h2, h3⟩ := h'
  refine C179 ?_
  unfold L179
  cases wr
  · refine condF rfl (condT rfl (nnI ⟨(e0 : Int), hb.at (i := 1) rfl, condI (fun g => ?_) (fun g => condF rfl (nnI ⟨(e0 : Int), hb.at (i := 1) rfl, by unfold inI; omega, nnI (stC_at hb (by simp) fun w1 hb1 hk1 _ => ?_)⟩))⟩))
    · simp only [beq_iff_eq] at g
      have e : leaveP false e0 e1 = (51, e0, e1) := by unfold leaveP; rw [if_neg (by decide), if_pos (by omega)]
      rw [e]; exact ⟨rfl, h, Kept.refl _ _⟩
    · simp only [beq_eq_false_iff_ne] at g
      have e : leaveP false e0 e1 = (0, e0 - 1, e1) := by unfold leaveP; rw [if_neg (by decide), if_neg (by omega)]
      have e2 : ((e0 : Int) - 1) = ((e0 - 1 : Nat) : Int) := by omega
      rw [e2] at hb1
      rw [e]; exact ⟨rfl, ⟨hF, fun x hx => Nat.lt_of_lt_of_le (hlt x hx) hk1.size, a, l, c, hb1, hr.keep hk1 (fun x _ hx e => (ha x hx).2 e), ha, h1, by show e0 - 1 ≤ 1024; omega, h3⟩, hk1⟩
  · refine condT rfl (nnI ⟨(e1 : Int), hb.at (i := 2) rfl, condI (fun g => ?_) (fun g => condF rfl (condT rfl (nnI ⟨(e1 : Int), hb.at (i := 2) rfl, by unfold inI; omega, nnI (stC_at hb (by simp) fun w1 hb1 hk1 _ => ?_)⟩)))⟩)
    · simp only [beq_iff_eq] at g
      have e : leaveP true e0 e1 = (51, e0, e1) := by unfold leaveP; rw [if_pos rfl, if_pos (by omega)]
      rw [e]; exact ⟨rfl, h, Kept.refl _ _⟩
    · simp only [beq_eq_false_iff_ne] at g
      have e : leaveP true e0 e1 = (0, e0, e1 - 1) := by unfold leaveP; rw [if_pos rfl, if_neg (by omega)]
      have e2 : ((e1 : Int) - 1) = ((e1 - 1 : Nat) : Int) := by omega
      rw [e2] at hb1
      rw [e]; exact ⟨rfl, ⟨hF, fun x hx => Nat.lt_of_lt_of_le (hlt x hx) hk1.size, a, l, c, hb1, hr.keep hk1 (fun x _ hx e => (ha x hx).2 e), ha, h1, h2, by show e1 - 1 ≤ 1024; omega⟩, hk1⟩

theorem rcanr_to {w : World} {rb : Nat} {F : Nat → Prop} {bs : List Int} {e0 e1 : Nat} (h : RefP w rb F bs e0 e1) {Q : Value → World → Prop} (hq : Q (.bool (canRP bs e0 e1)) w) : CallR Tryz.prog 169 [pt rb] w Q := by
  obtain ⟨hF, hlt, a, l, c, hb, hr, ha, h1, h2, h3⟩ := h
  have hlen := hr.len
  refine C169 ?_
  unfold L169
  refine nnI ⟨(e0 : Int), hb.at (i := 1) rfl, condP (fun g => nnI ⟨a, l, c, hb.at0 rfl, condP (fun g2 => ?_) (fun g2 => nnI ⟨(e1 : Int), hb.at (i := 2) rfl, ?_⟩)⟩) (fun g => ?_)⟩
  · have e : canRP bs e0 e1 = true := by unfold canRP; simp only [decide_eq_true_eq]; omega
    rw [e] at hq; exact hq
  · have e : canRP bs e0 e1 = ((e1 : Int) == 0) := by
      unfold canRP; rw [Bool.eq_iff_iff]; simp only [decide_eq_true_eq, beq_iff_eq]; omega
    rw [e] at hq; exact hq
  · have e : canRP bs e0 e1 = false := by unfold canRP; simp only [decide_eq_false_iff_not]; omega
    rw [e] at hq; exact hq

theorem rcanw_to {w : World} {rb : Nat} {F : Nat → Prop} {bs : List Int} {e0 e1 : Nat} (h : RefP w rb F bs e0 e1) (n : Int) {Q : Value → World → Prop} (hq : Q (.bool (canWP n bs e0 e1)) w) : CallR Tryz.prog 173 [pt rb, .int .i64 n] w Q := by
  obtain ⟨hF, hlt, a, l, c, hb, hr, ha, h1, h2, h3⟩ := h
  have hlen := hr.len
  refine C173 ?_
  unfold L173
  have hT : canWP n bs e0 e1 = true → Q (.bool true) w := fun e => e ▸ hq
  have hF : canWP n bs e0 e1 = false → Q (.bool false) w := fun e => e ▸ hq
  refine nnI ⟨a, l, c, hb.at0 rfl, by unfold inI; omega, nnI ⟨(e1 : Int), hb.at (i := 2) rfl, condP (fun g => condP (fun g2 => condP (fun g3 => nnI ⟨(e0 : Int), hb.at (i := 1) rfl, condI (fun g4 => hT ?_) (fun g4 => condP (fun g5 => condP (fun g6 => hT ?_) (fun g6 => condP (fun g7 => ?_) (fun g7 => hF ?_))) (fun g5 => condP (fun g7 => ?_) (fun g7 => hF ?_)))⟩) (fun g3 => hF ?_)) (fun g2 => hF ?_)) (fun g => hF ?_)⟩⟩
  · simp only [beq_iff_eq] at g4
    unfold canWP; simp only [decide_eq_true_eq]; omega
  · unfold canWP takesP; simp only [decide_eq_true_eq]; rw [if_neg (by omega)]; omega
  · omega
  · simp only [beq_eq_false_iff_ne] at g4
    unfold canWP takesP; simp only [decide_eq_false_iff_not]; rw [if_pos (by omega)]; omega
  · simp only [beq_eq_false_iff_ne] at g4
    have e : canWP n bs e0 e1 = decide ((4096 : Int) - (l : Int) > 0) := by
      unfold canWP takesP; rw [Bool.eq_iff_iff]; simp only [decide_eq_true_eq]; rw [if_neg (by omega)]; omega
    rw [e] at hq; exact hq
  · omega
  all_goals (unfold canWP; simp only [decide_eq_false_iff_not]; omega)

theorem rread_ok {w : World} {rb : Nat} {F : Nat → Prop} {bs : List Int} {e0 e1 : Nat} (h : RefP w rb F bs e0 e1) (n : Int) :
    CallR Tryz.prog 172 [pt rb, .int .i64 n] w fun v w' => ∃ a l c, v = .tuple #[.slice a l c, .int .i64 (readP n bs e0 e1).2.1] ∧ RdB w' a l c (readP n bs e0 e1).1 ∧ (∀ x, inA a x → F x ∧ x ≠ rb) ∧
      RefP w' rb F (readP n bs e0 e1).2.2 e0 e1 ∧ Kept (· = rb) w w' := by
  have hbad : ∀ {k : Int}, readP n bs e0 e1 = ([], k, bs) → ∃ a l c, Value.tuple #[.slice none 0 0, .int .i64 k] = .tuple #[.slice a l c, .int .i64 (readP n bs e0 e1).2.1] ∧ RdB w a l c (readP n bs e0 e1).1 ∧ (∀ x, inA a x → F x ∧ x ≠ rb) ∧
      RefP w rb F (readP n bs e0 e1).2.2 e0 e1 ∧ Kept (· = rb) w w := by
    intro k e; rw [e]; exact ⟨none, 0, 0, rfl, RdB.nil w, fun x hx => absurd hx (inA_none x), h, Kept.refl _ _⟩
  have h' := h
  obtain ⟨hF, hlt, a, l, c, hb, hr, ha, h1, h2, h3⟩ := h'
  have hlen := hr.len
  have hlc : l ≤ c := hr.2.1
  refine C172 ?_
  unfold L172
  have hfin : n ≥ 1 → n ≤ 1048576 → e0 ≠ 0 → ¬ (bs = [] ∧ e1 > 0) → (0 ≤ mn n (l : Int) ∧ mn n (l : Int) ≤ (c : Int)) ∧ (0 ≤ mn n (l : Int) ∧ mn n (l : Int) ≤ (l : Int)) ∧
      ∀ w1, Blk w1 rb #[.slice (adv a (mn n (l : Int)).toNat c 1) (l - (mn n (l : Int)).toNat) (c - (mn n (l : Int)).toNat), .int .i64 (e0 : Int), .int .i64 (e1 : Int)] → Kept (· = rb) w w1 →
        ∃ a' l' c', Value.tuple #[.slice a (mn n (l : Int)).toNat c, .int .i64 0] = .tuple #[.slice a' l' c', .int .i64 (readP n bs e0 e1).2.1] ∧ RdB w1 a' l' c' (readP n bs e0 e1).1 ∧ (∀ x, inA a' x → F x ∧ x ≠ rb) ∧
          RefP w1 rb F (readP n bs e0 e1).2.2 e0 e1 ∧ Kept (· = rb) w w1 := by
    intro g1 g2 g3 g4
    have e : readP n bs e0 e1 = (bs.take n.toNat, 0, bs.drop n.toNat) := by
      unfold readP; rw [if_neg (by omega), if_neg (by omega), if_neg g4]
    have hmn : mn n (l : Int) = ((min n.toNat l : Nat) : Int) := by rw [mn_eq]; omega
    rw [hmn, e, Int.toNat_natCast]
    have e1' : bs.take n.toNat = bs.take (min n.toNat l) := by rw [List.take_eq_take_iff]; omega
    have e2' : bs.drop n.toNat = bs.drop (min n.toNat l) := by
      rcases Nat.le_total n.toNat l with hle | hle
      · rw [Nat.min_eq_left hle]
      · rw [Nat.min_eq_right hle, List.drop_of_length_le (by omega), List.drop_of_length_le (by omega)]
    rw [e1', e2']
    refine ⟨⟨by omega, by omega⟩, ⟨by omega, by omega⟩, fun w1 hb1 hk1 => ⟨a, _, c, rfl, ?_, ha, ?_, hk1⟩⟩
    · exact (hr.to (min n.toNat l) (by omega)).keep hk1 (fun x _ hx e => (ha x hx).2 e)
    · exact ⟨hF, fun x hx => Nat.lt_of_lt_of_le (hlt x hx) hk1.size, _, _, _, hb1, (hr.from (min n.toNat l) (by omega)).keep hk1 (fun x _ hx e => (ha x (inA_adv.1 hx)).2 e), fun x hx => ha x (inA_adv.1 hx), by rw [List.length_drop]; omega, h2, h3⟩
  refine condP (fun g => hbad ?_) fun g => condP (fun g2 => hbad ?_) fun g2 => nnI ⟨(e0 : Int), hb.at (i := 1) rfl, condI (fun g3 => hbad ?_) (fun g3 => nnI ⟨a, l, c, hb.at0 rfl, condI (fun g4 => nnI ⟨(e1 : Int), hb.at (i := 2) rfl, condP (fun g5 => hbad ?_) (fun g5 => ?_)⟩) (fun g4 => ?_)⟩)⟩
  · unfold readP; rw [if_pos (by omega)]
  · unfold readP; rw [if_pos (by omega)]
  · simp only [beq_iff_eq] at g3
    unfold readP; rw [if_neg (by omega), if_pos (by omega)]
  all_goals simp only [beq_eq_false_iff_ne, beq_iff_eq] at g3 g4
  · have : bs = [] := List.eq_nil_of_length_eq_zero (by omega)
    unfold readP; rw [if_neg (by omega), if_neg (by omega), if_pos ⟨this, by omega⟩]
  all_goals obtain ⟨f1, f2, f3⟩ := hfin (by omega) (by omega) (by omega) (by first | (rintro ⟨_, _⟩; omega) | (rintro ⟨rfl, _⟩; simp at hlen; omega))
  all_goals exact nnI ⟨a, l, c, hb.at0 rfl, nnI ⟨a, l, c, hb.at0 rfl, f1, nnI ⟨a, l, c, hb.at0 rfl, f2, nnI (stC_blk hb (by simp) fun w1 hb1 hk1 _ => f3 w1 hb1 hk1)⟩⟩⟩

theorem rwrite_ok {w : World} {rb : Nat} {F : Nat → Prop} {bs : List Int} {e0 e1 : Nat} (h : RefP w rb F bs e0 e1) {a2 : Option Addr} {l2 c2 : Nat} {ds : List Int} (hd : RdB w a2 l2 c2 ds) (hdr : ds ≠ [] → ¬ inA a2 rb) (most : Int) :
    CallR Tryz.prog 175 [pt rb, .slice a2 l2 c2, .int .i64 most] w fun v w' => v = .tuple #[.int .i64 (writeP ds most bs e0 e1).1, .int .i64 (writeP ds most bs e0 e1).2.1] ∧
      RefP w' rb (fun x => F x ∨ (w.heap.size ≤ x ∧ x < w'.heap.size)) (writeP ds most bs e0 e1).2.2 e0 e1 ∧ Kept (· = rb) w w' := by
  have hwide : ∀ w', Kept (· = rb) w w' → ∀ bs', RefP w' rb F bs' e0 e1 → RefP w' rb (fun x => F x ∨ (w.heap.size ≤ x ∧ x < w'.heap.size)) bs' e0 e1 := by
    rintro w' k bs' ⟨hF, hlt, a, l, c, hb, hr, ha, h1⟩
    exact ⟨.inl hF, fun x hx => hx.elim (hlt x) (·.2), a, l, c, hb, hr, fun x hx => ⟨.inl (ha x hx).1, (ha x hx).2⟩, h1⟩
  have hbad : ∀ {k : Int}, writeP ds most bs e0 e1 = (0, k, bs) → Value.tuple #[.int .i64 0, .int .i64 k] = .tuple #[.int .i64 (writeP ds most bs e0 e1).1, .int .i64 (writeP ds most bs e0 e1).2.1] ∧
      RefP w rb (fun x => F x ∨ (w.heap.size ≤ x ∧ x < w.heap.size)) (writeP ds most bs e0 e1).2.2 e0 e1 ∧ Kept (· = rb) w w := by
    intro k e; rw [e]; exact ⟨rfl, hwide w (Kept.refl _ _) _ h, Kept.refl _ _⟩
  have h' := h
  obtain ⟨hF, hlt, a, l, c, hb, hr, ha, h1, h2, h3⟩ := h'
  have hlen := hr.len
  have hdl := hd.len
  have hlc : l2 ≤ c2 := hd.2.1
  refine C175 ?_
  unfold L175
  refine nnI ⟨a, l, c, hb.at0 rfl, by unfold inI; omega, fun vs w' => w' = w ∧ ∃ k : Nat, vs = [.int .i64 (k : Int)] ∧ (k : Int) = wtk l2 most l ∧ k ≤ l2 ∧ l + k ≤ 4096 ∧ writeP ds most bs e0 e1 = ((k : Int), 0, bs ++ ds.take k), ?_, ?_⟩
  · have hgood : l2 ≤ 1048576 → 1 ≤ most → most ≤ 1048576 → e1 ≠ 0 → e0 ≠ 0 → l2 ≠ 0 → takesP l l2 ≠ 0 → ∀ m : Int, m = wtk l2 most l → w = w ∧ ∃ k : Nat, [Value.int .i64 m] = [.int .i64 (k : Int)] ∧ (k : Int) = wtk l2 most l ∧ k ≤ l2 ∧ l + k ≤ 4096 ∧ writeP ds most bs e0 e1 = ((k : Int), 0, bs ++ ds.take k) := by
      intro f1 f2 f3 f4 f5 f6 f7 m hm
      have ht0 : 0 ≤ takesP l l2 ∧ takesP l l2 ≤ l2 ∧ (l : Int) + takesP l l2 ≤ 4096 := by unfold takesP; split <;> omega
      have hw0 : 0 ≤ wtk l2 most l ∧ wtk l2 most l ≤ l2 ∧ (l : Int) + wtk l2 most l ≤ 4096 := by unfold wtk; split <;> omega
      have hne : ds ≠ [] := by rintro rfl; simp at hdl; omega
      have e : writeP ds most bs e0 e1 = (wtk l2 most l, 0, bs ++ ds.take (wtk l2 most l).toNat) := by
        unfold writeP; rw [if_neg (by omega), if_neg (by omega), if_neg (by omega), if_neg (by omega), if_neg hne, if_neg (by rw [hlen, hdl]; exact f7), hlen, hdl]
      refine ⟨rfl, (wtk l2 most l).toNat, by rw [hm]; congr 2; omega, by omega, by omega, by omega, ?_⟩
      rw [e]; congr 1; omega
    refine condP (fun g => hbad ?_) fun g => condP (fun g2 => hbad ?_) fun g2 => condP (fun g3 => hbad ?_) fun g3 => nnI ⟨(e1 : Int), hb.at (i := 2) rfl, condI (fun g4 => hbad ?_) (fun g4 => nnI ⟨(e0 : Int), hb.at (i := 1) rfl, condI (fun g5 => hbad ?_) (fun g5 => condI (fun g6 => hbad ?_) (fun g6 => ?_))⟩)⟩
    · unfold writeP; rw [if_pos (by omega)]
    · unfold writeP; rw [if_neg (by omega), if_pos (by omega)]
    · unfold writeP; rw [if_neg (by omega), if_pos (by omega)]
    all_goals simp only [beq_eq_false_iff_ne, beq_iff_eq] at g4
    · unfold writeP; rw [if_neg (by omega), if_neg (by omega), if_pos (by omega)]
    all_goals simp only [beq_eq_false_iff_ne, beq_iff_eq] at g5
    · unfold writeP; rw [if_neg (by omega), if_neg (by omega), if_neg (by omega), if_pos (by omega)]
    all_goals simp only [beq_eq_false_iff_ne, beq_iff_eq] at g6
    · have : ds = [] := List.eq_nil_of_length_eq_zero (by omega)
      unfold writeP; rw [if_neg (by omega), if_neg (by omega), if_neg (by omega), if_neg (by omega), if_pos this]
    have hne : ds ≠ [] := by rintro rfl; simp at hdl; omega
    have hblk : takesP l l2 = 0 → writeP ds most bs e0 e1 = (0, 52, bs) := by
      intro e
      unfold writeP; rw [if_neg (by omega), if_neg (by omega), if_neg (by omega), if_neg (by omega), if_neg hne, if_pos (by rw [hlen, hdl]; exact e)]
    refine condP (fun g7 => condP (fun g8 => hbad (hblk ?_)) (fun g8 => condI (fun g9 => hbad (hblk ?_)) (fun g9 => condP (fun g10 => hgood ?_ ?_ ?_ ?_ ?_ ?_ ?_ _ ?_) (fun g10 => ?_)))) (fun g7 => condI (fun g9 => hbad (hblk ?_)) (fun g9 => condP (fun g10 => ?_) (fun g10 => hgood ?_ ?_ ?_ ?_ ?_ ?_ ?_ _ ?_)))
    all_goals (try simp only [beq_eq_false_iff_ne, beq_iff_eq] at g9)
    all_goals first | omega | (unfold takesP; split <;> omega) | (unfold wtk takesP; rw [if_neg (by omega), if_neg (by omega)]; omega) | (unfold wtk takesP; rw [if_pos (by omega), if_neg (by omega), mn_eq, mn_eq] <;> omega)
  · rintro _ n11 w1 ⟨rfl, k, hvs, hk, hkl, hk4, e⟩
    simp only [List.cons.injEq, Value.int.injEq, true_and, and_true] at hvs
    subst hvs
    rw [e]
    intro w2
    have hk2 : Kept No w1 w2 := Kept.drew _ _
    have hb2 : Blk w2 rb #[.slice a l c, .int .i64 (e0 : Int), .int .i64 (e1 : Int)] := hb
    have hr2 : RdB w2 a l c bs := hr
    have hd2 : RdB w2 a2 l2 c2 ds := hd
    have hsz2 : w2.heap.size = w1.heap.size := rfl
    clear_value w2
    have hrb : rb < w1.heap.size := hb.lt
    obtain ⟨a', c', w3, hrun, hs, hk3, hat, hnn⟩ := run_app_sl (P := Tryz.prog) (t := 40) (t2 := 40) (ty := 40) (by kernel_rfl : slTyB Tryz.prog 40 1 1 = true) (by kernel_rfl) (SlO.nil 1 w2) hr2 (By_one bs) (by omega) (by omega)
    simp only [Nat.zero_add, List.nil_append] at hrun hs
    have hk3 : Kept No w2 w3 := hk3.mono fun b _ hb => inA_none b hb
    have hd3 : RdB w3 a2 k c2 (ds.take k) := (hd2.keep hk3 (fun _ _ _ e => e)).to k (by omega)
    obtain ⟨a5, c5, w4, hrun4, hs4, hk4', hat4, hnn4⟩ := run_app_sl (P := Tryz.prog) (t := 40) (t2 := 40) (ty := 40) (by kernel_rfl : slTyB Tryz.prog 40 1 1 = true) (by kernel_rfl) hs hd3 (By_one _) (by omega) (by omega)
    have hfr : Fresh w2 a' := hat.fresh (Fresh.none w2) (Nat.le_refl _)
    have hk4 : Kept No w2 w4 := hk3.fresh hk4' hfr
    have hfr5 : Fresh w2 a5 := hat4.fresh hfr hk3.size
    refine nnI ⟨a, l, c, hb2.at0 rfl, ⟨by omega, by omega⟩, a', l, c', w3, hrun, a5, l + k, c5, w4, by rw [Int.toNat_natCast]; exact hrun4, nnI ?_⟩
    refine stC_blk (hb2.keep hk4 (fun e => e)) (by simp) fun w5 hb5 hk5 hsz5 => ⟨rfl, ?_, ((hk2.trans hk4 fun _ _ e => e).mono fun _ _ e => e.elim).trans hk5 fun _ _ e => e⟩
    have hsz4 := hk4.size
    refine ⟨.inl hF, fun x hx => hx.elim (fun hx => by have := hlt x hx; omega) (·.2), a5, l + k, c5, hb5, ?_, fun x hx => ⟨.inr ⟨by have := hfr5 x hx; omega, ?_⟩, by have := hfr5 x hx; omega⟩, by rw [List.length_append, List.length_take]; omega, h2, h3⟩
    · rw [← By_append] at hs4
      exact RdB.keep (OB.rd (bs := bs ++ ds.take k) hs4) hk5 (fun x _ hx e => by have := hfr5 x hx; omega)
    · have := SlO.lt hs4 x hx
      omega
end Go.Proofs.YtpoaacnnhgebfaaGreat
