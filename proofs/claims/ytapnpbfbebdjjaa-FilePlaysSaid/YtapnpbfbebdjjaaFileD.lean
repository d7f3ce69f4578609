/-
  The page's file: what its functions do. Conditions: as each says.
-/
import Derived.Test.YtapnpbfbebdjjaaFileC
import Derived.Test.YtapnpbfbebdjjaaLC
set_option linter.unusedVariables false
namespace Go.Proofs.Ytapnpbfbebdjjaa
open Go.Lw

/-- The page's file of these bytes; F is the memory it has. -/
def RefO (F : Nat → Prop) (w : World) (b : Nat) (bs : List Int) : Prop :=
  ∃ a l c, Blk w b #[.slice a l c] ∧ OB w a l c bs ∧ ¬ inA a b ∧ bs.length ≤ 1048576 ∧ ∀ k, F k ↔ k = b ∨ inA a k

theorem RefO.keep {F S : Nat → Prop} {w w' : World} {b : Nat} {bs : List Int} (h : RefO F w b bs) (k : Kept S w w') (hn : ∀ k, F k → ¬ S k) : RefO F w' b bs := by
  obtain ⟨a, l, c, hb, ho, hna, hl, hF⟩ := h
  exact ⟨a, l, c, hb.keep k (hn b ((hF b).2 (.inl rfl))), ho.keep k fun x hx => hn x ((hF x).2 (.inr hx)), hna, hl, hF⟩

theorem RefO.lt {F : Nat → Prop} {w : World} {b : Nat} {bs : List Int} (h : RefO F w b bs) : ∀ k, F k → k < w.heap.size := by
  obtain ⟨a, l, c, hb, ho, hna, hl, hF⟩ := h
  intro k hk
  rcases (hF k).1 hk with rfl | hk
  · exact hb.lt
  · exact SlO.lt ho k hk

theorem rwithin_to {w : World} {n : Int} {Q : Value → World → Prop} (h : Q (.bool (okN n)) w) : CallR Try.prog 62 [.int .i64 n] w Q := by
  refine C62 ?_
  unfold L62
  refine condP (fun h0 => ?_) (fun h0 => ?_)
  · have : okN n = decide (n ≤ 1048576) := by unfold okN; simp; omega
    rw [← this]; exact h
  · have : okN n = false := by unfold okN; simp; omega
    rw [← this]; exact h

theorem rnew_ok {w : World} {a : Option Addr} {l c : Nat} {bs : List Int} (h : RdB w a l c bs) (hl : l ≤ 140737488355328) :
    CallR Try.prog 46 [.slice a l c] w fun v w' => (1048576 < bs.length ∧ v = .tuple #[.pointer none, .int .i64 5] ∧ w' = w) ∨
      (bs.length ≤ 1048576 ∧ ∃ b F, v = .tuple #[pt b, .int .i64 0] ∧ RefO F w' b bs ∧ Kept No w w' ∧ ∀ k, F k → w.heap.size ≤ k) := by
  have hlen := h.len
  refine C46 ?_
  unfold L46
  refine condP (fun hgt => .inl ⟨by omega, rfl, rfl⟩) (fun hle => ?_)
  intro w1
  have hb1 : Blk w1 w.heap.size #[.slice none 0 0] := Blk.alloc w _ _
  have hk1 : Kept No w w1 := Kept.alloc _ _ _
  obtain ⟨a', c', w2, hrun, hs, hk, hat, hnn⟩ := run_app_sl (P := Try.prog) (t := 22) (t2 := 22) (ty := 22) (by kernel_rfl : slTyB Try.prog 22 1 1 = true) (by kernel_rfl) (SlO.nil 1 w1) (RdB.keep h hk1 (fun _ _ _ e => e)) (By_one bs) (by omega) (by omega)
  simp only [Nat.zero_add, List.nil_append] at hrun hs
  refine ⟨_, _, _, hb1.at0 rfl, a', l, c', w2, hrun, ?_⟩
  have hlen' : bs.length ≤ 1048576 := by omega
  have hna : ¬ inA a' w.heap.size := fun hin => by
    rcases hat.in hin with h | h
    · exact inA_none _ h
    · have : w1.heap.size = w.heap.size + 1 := by show (w.heap.push _).size = _; simp
      omega
  refine stC_blk (hb1.keep hk (fun e => inA_none _ e)) (by simp) fun w3 hb3 hk3 _ => .inr ⟨hlen', w.heap.size, fun k => k = w.heap.size ∨ inA a' k, rfl, ⟨a', l, c', hb3, SlO.keep hs hk3 (fun x hx e => hna (e ▸ hx)), hna, hlen', fun k => Iff.rfl⟩, ?_, fun k hk' => ?_⟩
  · exact (hk1.trans hk (fun _ _ e => inA_none _ e)).fresh hk3 (fun x e => by rw [e]; exact Nat.le_refl _)
  · rcases hk' with rfl | hk'
    · exact Nat.le_refl _
    · rcases hat.in hk' with h | rfl
      · exact absurd h (inA_none k)
      · exact hk1.size

theorem rpiece_ok {w : World} {a : Option Addr} {l c : Nat} {bs : List Int} (h : RdB w a l c bs) (hl : l ≤ 1048576) {off n : Int} (ho1 : 0 ≤ off) (ho2 : 0 ≤ n) :
    CallR Try.prog 63 [.slice a l c, .int .i64 off, .int .i64 n] w fun v w' => ∃ a' c', v = .slice a' (piece bs off n).length c' ∧ OB w' a' (piece bs off n).length c' (piece bs off n) ∧ Kept No w w' ∧ Fresh w a' := by
  have hlen := h.len
  have hlc : l ≤ c := h.2.1
  refine C63 ?_
  unfold L63
  refine condP (fun hge => ?_) (fun hlt => ?_)
  · have : piece bs off n = [] := by unfold piece; rw [List.drop_of_length_le (by omega)]; simp
    rw [this]
    exact ⟨none, 0, rfl, OB.nil w, Kept.refl _ _, Fresh.none w⟩
  · simp only [mn_eq]
    refine ⟨by unfold inI; omega, by unfold inI; omega, by omega, by omega, ?_⟩
    generalize hj : (off + min n ((l : Int) - off)).toNat = j
    have hij : off.toNat ≤ j := by omega
    have hjl : j ≤ l := by omega
    have hcut : RdB w (adv a off.toNat c 1) (j - off.toNat) (c - off.toNat) ((bs.take j).drop off.toNat) := by
      have := RdS.cut h off.toNat j hij hjl
      unfold RdB; rw [By_drop, By_take]; simpa using this
    have hpc : (bs.take j).drop off.toNat = piece bs off n := by
      unfold piece
      rw [List.drop_take]
      by_cases hol : off + n ≤ l
      · have : j - off.toNat = n.toNat := by omega
        rw [this]
      · rw [List.take_of_length_le (by simp; omega), List.take_of_length_le (by simp; omega)]
    rw [hpc] at hcut
    have hpl := hcut.len
    obtain ⟨a', c', w2, hrun, hs, hk, hat, _⟩ := run_app_sl (P := Try.prog) (t := 22) (t2 := 22) (ty := 22) (by kernel_rfl : slTyB Try.prog 22 1 1 = true) (by kernel_rfl) (SlO.nil 1 w) hcut (By_one _) (by omega) (by omega)
    simp only [Nat.zero_add, List.nil_append] at hrun hs
    exact ⟨_, _, _, _, hrun, a', c', by rw [hpl], by rw [hpl]; exact hs, hk.mono (fun _ _ e => inA_none _ e), hat.fresh (Fresh.none w) (Nat.le_refl _)⟩

theorem ext_getD {a b : List Int} (hl : a.length = b.length) (h : ∀ k, k < a.length → a.getD k 0 = b.getD k 0) : a = b := by
  apply List.ext_getElem hl
  intro i h1 h2
  have := h i h1
  simpa [List.getD, h1, h2] using this

theorem rlay_ok {w : World} {a : Option Addr} {l c : Nat} {bs : List Int} (h : OB w a l c bs) (hl : l ≤ 1048576) {off : Int} (ho1 : 0 ≤ off) {a2 : Option Addr} {l2 c2 : Nat} {ds : List Int} (hd : RdB w a2 l2 c2 ds) (hsum : off + ds.length ≤ 1048576) (hap : ds ≠ [] → ∀ k, inA a2 k → ¬ inA a k) :
    CallR Try.prog 64 [.slice a l c, .int .i64 off, .slice a2 l2 c2] w fun v w' => ∃ a' c', v = .slice a' (lay bs off.toNat ds).length c' ∧ OB w' a' (lay bs off.toNat ds).length c' (lay bs off.toNat ds) ∧ Kept (inA a) w w' ∧ ∀ k, inA a' k → inA a k ∨ w.heap.size ≤ k := by
  have hlen := h.len
  have hlen2 := hd.len
  obtain ⟨o, rfl⟩ : ∃ o : Nat, off = (o : Int) := ⟨off.toNat, by omega⟩
  simp only [Int.toNat_natCast]
  refine C64 ?_
  unfold L64
  refine ⟨fun vs w1 => ∃ (a' : Option Addr) (c' m : Nat), vs = [.slice a' (l + m) c'] ∧ m ≤ o - l ∧ OB w1 a' (l + m) c' (bs ++ List.replicate m 0) ∧ Kept (inA a) w w1 ∧ (∀ k, inA a' k → inA a k ∨ w.heap.size ≤ k),
    fun vs _ => match vs with | [.slice _ n _] => o - n | _ => 0, ⟨a, c, 0, rfl, by omega, by simpa using h, Kept.refl _ _, fun k hk => .inl hk⟩, ?_⟩
  intro _ a6 l6 c6 w1 hI
  obtain ⟨a', c', m, hv, hm, ho, hk, hin⟩ := hI
  simp only [List.cons.injEq, Value.slice.injEq, and_true] at hv
  obtain ⟨rfl, rfl, rfl⟩ := hv
  refine condP (fun hlt => ?_) (fun hge => ?_)
  · intro w2
    have hk2 : Kept No w1 w2 := Kept.alloc _ _ _
    obtain ⟨a7, c7, w3, hrun, hs, hk3, hat, _⟩ := run_app_sl (P := Try.prog) (t := 22) (t2 := 22) (ty := 22) (by kernel_rfl : slTyB Try.prog 22 1 1 = true) (by kernel_rfl) (OB.keep ho hk2 (fun _ _ e => e)) (rd_alloc w1 [0] _) (By_one [0]) (by simp; omega) (by simp; omega)
    simp only [List.length_cons, List.length_nil, Nat.zero_add] at hrun hs
    refine ⟨_, _, _, w3, hrun, ⟨a7, c7, m + 1, rfl, by omega, ?_, ?_, fun k hk' => ?_⟩, ?_⟩
    · rw [← By_append, List.append_assoc, ← List.replicate_succ'] at hs; exact hs
    · refine (hk.no hk2).trans (hk3.mono (S' := fun k => inA a k ∨ w.heap.size ≤ k) fun x _ e => hin x e) (fun x hx e => ?_)
      rcases e with e | e
      · exact e
      · omega
    · rcases hat.in hk' with h | rfl
      · exact hin k h
      · exact .inr (hk.no hk2).size
    · show o - (l + (m + 1)) < o - (l + m)
      omega
  · have hgr : bs ++ List.replicate m 0 = grown bs o := by
      unfold grown; congr 2; omega
    have hgl := grown_len bs o
    rw [hgr] at ho
    have hol := ho.len
    refine ⟨fun vs w1 => ∃ (a' : Option Addr) (c' i : Nat), vs = [.slice a' (lay bs o (ds.take i)).length c', .int .i64 (i : Int)] ∧ i ≤ ds.length ∧ OB w1 a' (lay bs o (ds.take i)).length c' (lay bs o (ds.take i)) ∧ Kept (inA a) w w1 ∧ (∀ k, inA a' k → inA a k ∨ w.heap.size ≤ k),
      fun vs _ => match vs with | [_, .int _ i] => (ds.length - i).toNat | _ => 0, ?_, ?_⟩
    · have h0 : lay bs o (ds.take 0) = grown bs o := by
        refine ext_getD (by rw [lay_len, hgl]; simp) fun k hk => ?_
        rw [lay_getD, grown_getD, if_neg (by simp <;> omega)]
      refine ⟨a6, c6, 0, ?_, by omega, ?_, hk, hin⟩
      · rw [h0, hol]; rfl
      · rw [h0, hol]; exact ho
    · intro _ a10 l10 c10 n11 w4 hI
      obtain ⟨a'', c'', i, hv, hi, ho4, hk4, hin4⟩ := hI
      simp only [List.cons.injEq, Value.slice.injEq, Value.int.injEq, true_and, and_true] at hv
      obtain ⟨⟨rfl, rfl, rfl⟩, rfl⟩ := hv
      have hlay := lay_len bs o (ds.take i)
      have hti : (ds.take i).length = i := by rw [List.length_take]; omega
      rw [hti] at hlay
      refine condP (fun hlt => ?_) (fun hge => ?_)
      · have hid : i < ds.length := by omega
        have hne : ds ≠ [] := fun e => by rw [e] at hid; simp at hid
        have hti1 : (ds.take (i + 1)).length = i + 1 := by rw [List.length_take]; omega
        have hlay1 := lay_len bs o (ds.take (i + 1))
        rw [hti1] at hlay1
        have hd4 : RdB w4 a2 l2 c2 ds := hd.keep hk4 (fun x hx h1 h2 => hap hne x h1 h2)
        obtain ⟨q, hq, hg⟩ := hd4.get hid
        have hgetD : ∀ k, (ds.take (i + 1)).getD k 0 = if k = i then ds[i] else (ds.take i).getD k 0 := by
          intro k
          simp only [List.getD_eq_getElem?_getD, List.getElem?_take]
          by_cases hki : k = i
          · subst hki; simp [hid]
          · rw [if_neg hki]
            by_cases hk : k < i
            · rw [if_pos (by omega), if_pos hk]
            · rw [if_neg (by omega), if_neg hk]
        refine ⟨by unfold inI; omega, condP (fun hin2 => ⟨by unfold inI; omega, ⟨by omega, by omega⟩, ?_⟩) (fun hout => ⟨⟨by omega, by omega⟩, ?_⟩)⟩
        · subst hq
          refine nnI ⟨_, hg, ⟨by omega, by omega⟩, ?_⟩
          cases a10 with
          | none => have := (RdS.isNone ho4.rd rfl).1; omega
          | some q10 =>
            have hidx : Int.toNat ((o : Int) + (i : Int)) = o + i := by omega
            rw [hidx]
            refine nnI (stC_slo ho4 rfl (j := o + i) (by omega) fun w5 ho5 hk5 _ => ⟨by unfold inI; omega, ⟨some q10, c10, i + 1, ?_, by omega, ?_, ?_, hin4⟩, ?_⟩)
            · congr 2; omega
            · rw [By_set] at ho5
              have he : (lay bs o (ds.take i)).set (o + i) ds[i] = lay bs o (ds.take (i + 1)) := by
                refine ext_getD (by simp; omega) fun k hk => ?_
                simp only [List.length_set] at hk
                rw [lay_getD, hti1, hgetD]
                by_cases hko : k = o + i
                · subst hko
                  rw [if_pos (by omega), if_pos (by omega)]
                  simp [List.getD, hk]
                · have : ((lay bs o (ds.take i)).set (o + i) ds[i]).getD k 0 = (lay bs o (ds.take i)).getD k 0 := by
                    simp only [List.getD_eq_getElem?_getD]; rw [List.getElem?_set_ne (by omega)]
                  rw [this, lay_getD, hti]
                  by_cases h1 : o ≤ k ∧ k < o + i
                  · rw [if_pos h1, if_pos (by omega), if_neg (by omega)]
                  · rw [if_neg h1, if_neg (by omega)]
              rw [he] at ho5
              have : (lay bs o (ds.take (i + 1))).length = (lay bs o (ds.take i)).length := by omega
              rw [this]; exact ho5
            · refine hk4.trans (hk5.mono (S' := fun k => inA a k ∨ w.heap.size ≤ k) fun x _ e => hin4 x e) (fun x hx e => ?_)
              rcases e with e | e
              · exact e
              · omega
            · show ((ds.length : Int) - ((i : Int) + 1)).toNat < ((ds.length : Int) - (i : Int)).toNat
              omega
        · subst hq
          refine nnI ⟨_, hg, ?_⟩
          intro w6
          have hk6 : Kept No w4 w6 := Kept.alloc _ _ _
          obtain ⟨a7, c7, w7, hrun, hs, hk7, hat, _⟩ := run_app_sl (P := Try.prog) (t := 22) (t2 := 22) (ty := 22) (by kernel_rfl : slTyB Try.prog 22 1 1 = true) (by kernel_rfl) (OB.keep ho4 hk6 (fun _ _ e => e)) (rd_alloc w4 [ds[i]] _) (By_one [ds[i]]) (by simp; omega) (by simp; omega)
          simp only [List.length_cons, List.length_nil, Nat.zero_add] at hrun hs
          refine ⟨_, _, _, w7, hrun, by unfold inI; omega, ⟨a7, c7, i + 1, ?_, by omega, ?_, ?_, fun k hk' => ?_⟩, ?_⟩
          · have e1 : (lay bs o (ds.take (i + 1))).length = (lay bs o (ds.take i)).length + 1 := by omega
            rw [e1]; rfl
          · rw [← By_append] at hs
            have he : lay bs o (ds.take i) ++ [ds[i]] = lay bs o (ds.take (i + 1)) := by
              refine ext_getD (by simp; omega) fun k hk => ?_
              simp only [List.length_append, List.length_cons, List.length_nil, Nat.zero_add] at hk
              rw [lay_getD, hti1, hgetD]
              by_cases hko : k = o + i
              · subst hko
                rw [if_pos (by omega), if_pos (by omega), List.getD_eq_getElem?_getD, List.getElem?_append_right (by omega)]
                have : o + i - (lay bs o (ds.take i)).length = 0 := by omega
                rw [this]; rfl
              · have : (lay bs o (ds.take i) ++ [ds[i]]).getD k 0 = (lay bs o (ds.take i)).getD k 0 := by
                  simp only [List.getD_eq_getElem?_getD]; rw [List.getElem?_append_left (by omega)]
                rw [this, lay_getD, hti]
                by_cases h1 : o ≤ k ∧ k < o + i
                · rw [if_pos h1, if_pos (by omega), if_neg (by omega)]
                · rw [if_neg h1, if_neg (by omega)]
            rw [he] at hs
            have : (lay bs o (ds.take (i + 1))).length = (lay bs o (ds.take i)).length + 1 := by omega
            rw [this]; exact hs
          · refine (hk4.no hk6).trans (hk7.mono (S' := fun k => inA a k ∨ w.heap.size ≤ k) fun x _ e => hin4 x e) (fun x hx e => ?_)
            rcases e with e | e
            · exact e
            · omega
          · rcases hat.in hk' with h | rfl
            · exact hin4 k h
            · exact .inr (hk4.no hk6).size
          · show ((ds.length : Int) - ((i : Int) + 1)).toNat < ((ds.length : Int) - (i : Int)).toNat
            omega
      · have hi' : i = ds.length := by omega
        subst hi'
        rw [List.take_length] at *
        exact ⟨a10, c10, rfl, ho4, hk4, hin4⟩

theorem rReadAt_ok {F : Nat → Prop} {w : World} {b : Nat} {bs : List Int} (h : RefO F w b bs) (off n : Int) :
    CallR Try.prog 47 [pt b, .int .i64 off, .int .i64 n] w fun v w' => ∃ a' c' cs e, v = .tuple #[.slice a' cs.length c', .int .i64 e] ∧ OB w' a' cs.length c' cs ∧ Fresh w a' ∧ Kept No w w' ∧
      (okN off = true → okN n = true → e = 0 ∧ cs = piece bs off n) ∧ ((okN off && okN n) = false → e = 4 ∧ cs = []) := by
  obtain ⟨a, l, c, hb, ho, hna, hbl, hF⟩ := h
  have hlen := ho.len
  refine C47 ?_
  unfold L47
  refine rwithin_to ⟨_, rfl, condI (fun hno => ?_) (fun h1 => rwithin_to ⟨_, rfl, condI (fun hno => ?_) (fun h2 => ?_)⟩)⟩
  · have := notT hno
    exact ⟨none, 0, [], 4, rfl, OB.nil w, Fresh.none w, Kept.refl _ _, fun h => (by rw [this] at h; cases h), fun _ => ⟨rfl, rfl⟩⟩
  · have := notT hno
    exact ⟨none, 0, [], 4, rfl, OB.nil w, Fresh.none w, Kept.refl _ _, fun _ h => (by rw [this] at h; cases h), fun _ => ⟨rfl, rfl⟩⟩
  · have h1 := notF h1
    have h2 := notF h2
    have ho1 : 0 ≤ off ∧ off ≤ 1048576 := by simpa [okN] using h1
    have ho2 : 0 ≤ n ∧ n ≤ 1048576 := by simpa [okN] using h2
    refine nnI ⟨a, l, c, hb.at0 rfl, (rpiece_ok ho.rd (by omega) ho1.1 ho2.1).mono fun v w3 ⟨a', c', hv, ho3, hk, hf⟩ => ⟨a', _, c', hv, a', c', _, 0, rfl, ho3, hf, hk, fun _ _ => ⟨rfl, rfl⟩, fun h => by rw [h1, h2] at h; cases h⟩⟩

theorem rWriteAt_ok {F : Nat → Prop} {w : World} {b : Nat} {bs : List Int} (h : RefO F w b bs) (off : Int) {a2 : Option Addr} {l2 c2 : Nat} {ds : List Int} (hd : RdB w a2 l2 c2 ds) (hl2 : l2 ≤ 140737488355328) (hap : ds ≠ [] → ∀ k, inA a2 k → ¬ F k) :
    CallR Try.prog 48 [pt b, .int .i64 off, .slice a2 l2 c2] w fun v w' => v = .int .i64 (writeF bs off ds).1 ∧ ∃ F', RefO F' w' b (writeF bs off ds).2 ∧ Grew F w F' ∧ Kept F w w' := by
  have hfo := h
  obtain ⟨a, l, c, hb, ho, hna, hbl, hF⟩ := h
  have hlen := ho.len
  have hlen2 := hd.len
  refine C48 ?_
  unfold L48
  have done : ∀ e : Int, writeF bs off ds = (e, bs) → (.int .i64 e : Value) = .int .i64 (writeF bs off ds).1 ∧ ∃ F', RefO F' w b (writeF bs off ds).2 ∧ Grew F w F' ∧ Kept F w w := fun e he => by
    rw [he]; exact ⟨rfl, F, hfo, .same, Kept.refl _ _⟩
  refine rwithin_to ⟨_, rfl, condI (fun hno => done 4 ?_) (fun hyes => ?_)⟩
  · simp [writeF, notT hno]
  · have hyes' := notF hyes
    have ho1 : 0 ≤ off ∧ off ≤ 1048576 := by simpa [okN] using hyes'
    refine ⟨by unfold inI; omega, condP (fun hfull => done 31 ?_) (fun hfit => condP (fun hpos => ?_) (fun hz => done 0 ?_))⟩
    · have h1 : 1048576 - off < (ds.length : Int) := by rw [hlen2]; omega
      simp [writeF, hyes', h1]
    · have h1 : ¬ (1048576 - off < (ds.length : Int)) := by rw [hlen2]; omega
      have hw : writeF bs off ds = (0, lay bs off.toNat ds) := by
        unfold writeF
        rw [if_neg (by rw [hyes']; simp), if_neg h1, if_neg (by omega)]
      rw [hw]
      refine nnI ⟨a, l, c, hb.at0 rfl, (rlay_ok ho (by omega) ho1.1 hd (by omega) (fun hne k h1 h2 => hap hne k h1 ((hF k).2 (.inr h2)))).mono fun v w2 ⟨a', c', hv, ho2, hk2, hin⟩ => ⟨a', _, c', hv, nnI ?_⟩⟩
      have hna' : ¬ inA a' b := fun h => by
        rcases hin b h with h | h
        · exact hna h
        · have := hb.lt; omega
      have hll := lay_len bs off.toNat ds
      refine stC_blk (hb.keep hk2 hna) (by simp) fun w3 hb3 hk3 _ => ⟨rfl, fun k => k = b ∨ inA a' k, ⟨a', _, c', hb3, ho2.keep hk3 (fun x hx e => hna' (e ▸ hx)), hna', (by show (lay bs off.toNat ds).length ≤ 1048576; omega), fun _ => Iff.rfl⟩, fun k hk' => ?_, ?_⟩
      · rcases hk' with rfl | hk'
        · exact .inl ((hF _).2 (.inl rfl))
        · rcases hin k hk' with h | h
          · exact .inl ((hF _).2 (.inr h))
          · exact .inr h
      · exact (hk2.mono fun x _ e => (hF x).2 (.inr e)).trans hk3 (fun x _ e => (hF x).2 (.inl e))
    · have h2 : ds = [] := List.eq_nil_of_length_eq_zero (by omega)
      have h3 : ¬ (1048576 - off < 0) := by omega
      subst h2
      simp [writeF, hyes', h3]

theorem lay_nil (bs : List Int) (o : Nat) : lay bs o [] = grown bs o := by
  refine ext_getD (by rw [lay_len, grown_len]; simp) fun k _ => ?_
  rw [lay_getD, grown_getD, if_neg (by simp <;> omega)]

theorem rTrunc_ok {F : Nat → Prop} {w : World} {b : Nat} {bs : List Int} (h : RefO F w b bs) (n : Int) :
    CallR Try.prog 50 [pt b, .int .i64 n] w fun v w' => v = .int .i64 (truncF bs n).1 ∧ ∃ F', RefO F' w' b (truncF bs n).2 ∧ Grew F w F' ∧ Kept F w w' := by
  have hfo := h
  obtain ⟨a, l, c, hb, ho, hna, hbl, hF⟩ := h
  have hlen := ho.len
  have hlc : l ≤ c := ho.rd.2.1
  refine C50 ?_
  unfold L50
  refine rwithin_to ⟨_, rfl, condI (fun hno => ?_) (fun hyes => ?_)⟩
  · have ht : truncF bs n = (4, bs) := by simp [truncF, notT hno]
    rw [ht]; exact ⟨rfl, F, hfo, .same, Kept.refl _ _⟩
  · have hyes' := notF hyes
    have ho1 : 0 ≤ n ∧ n ≤ 1048576 := by simpa [okN] using hyes'
    have ht : truncF bs n = (0, (grown bs n.toNat).take n.toNat) := by simp [truncF, hyes']
    rw [ht]
    -- the end: what Lay answers is stored
    have fin : ∀ (w1 : World) (l1 : Nat) (bs1 : List Int), Blk w1 b #[.slice a l1 c] → OB w1 a l1 c bs1 → l1 ≤ 1048576 → Kept F w w1 → grown bs1 n.toNat = (grown bs n.toNat).take n.toNat →
        CallR Try.prog 64 [.slice a l1 c, .int .i64 n, .slice none 0 0] w1 fun r w3 => ∃ a12 l12 c12, r = .slice a12 l12 c12 ∧ nn (some ⟨b, 0, none⟩) fun q => stC q (.slice a12 l12 c12) w3 fun w4 =>
          (.int .i64 0 : Value) = .int .i64 0 ∧ ∃ F', RefO F' w4 b ((grown bs n.toNat).take n.toNat) ∧ Grew F w F' ∧ Kept F w w4 := by
      intro w1 l1 bs1 hb1 ho1' hl1 hk1 hg
      refine (rlay_ok ho1' hl1 ho1.1 (RdB.nil w1) (by simpa using ho1.2) (fun h => absurd rfl h)).mono fun v w2 ⟨a', c', hv, ho2, hk2, hin⟩ => ⟨a', _, c', hv, nnI ?_⟩
      rw [lay_nil, hg] at ho2
      have hna' : ¬ inA a' b := fun h => by
        rcases hin b h with h | h
        · exact hna h
        · have := hb1.lt; omega
      have hll : ((grown bs n.toNat).take n.toNat).length ≤ 1048576 := by simp; omega
      rw [lay_nil, hg]
      refine stC_blk (hb1.keep hk2 hna) (by simp) fun w3 hb3 hk3 _ => ⟨rfl, fun k => k = b ∨ inA a' k, ⟨a', _, c', hb3, ho2.keep hk3 (fun x hx e => hna' (e ▸ hx)), hna', hll, fun _ => Iff.rfl⟩, fun k hk' => ?_, ?_⟩
      · rcases hk' with rfl | hk'
        · exact .inl ((hF _).2 (.inl rfl))
        · rcases hin k hk' with h | h
          · exact .inl ((hF _).2 (.inr h))
          · have := hk1.size; exact .inr (by omega)
      · exact (hk1.trans hk2 fun x _ e => (hF x).2 (.inr e)).trans hk3 (fun x _ e => (hF x).2 (.inl e))
    refine nnI ⟨a, l, c, hb.at0 rfl, condP (fun hlt => ?_) (fun hge => ?_)⟩
    · refine nnI ⟨a, l, c, hb.at0 rfl, ⟨by omega, by omega⟩, nnI (stC_blk hb (by simp) fun w2 hb2 hk2 _ => nnI ⟨a, n.toNat, c, hb2.at0 rfl, ?_⟩)⟩
      have hg : grown (bs.take n.toNat) n.toNat = (grown bs n.toNat).take n.toNat := by
        have e1 : grown bs n.toNat = bs := by unfold grown; rw [Nat.sub_eq_zero_of_le (by omega)]; simp
        have e2 : grown (bs.take n.toNat) n.toNat = bs.take n.toNat := by unfold grown; rw [Nat.sub_eq_zero_of_le (by simp; omega)]; simp
        rw [e1, e2]
      exact fin w2 n.toNat (bs.take n.toNat) hb2 ((ho.to n.toNat (by omega)).keep hk2 (fun x hx e => hna (e ▸ hx))) (by omega) (hk2.mono fun x _ e => (hF x).2 (.inl e)) hg
    · refine nnI ⟨a, l, c, hb.at0 rfl, ?_⟩
      have hg : grown bs n.toNat = (grown bs n.toNat).take n.toNat := by
        rw [List.take_of_length_le (by rw [grown_len]; omega)]
      exact fin w l bs hb ho (by omega) (Kept.refl _ _) hg

end Go.Proofs.Ytapnpbfbebdjjaa
