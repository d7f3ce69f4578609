/-
  Part 5 of 7 of the proof of MemoryPlays (the last part has its theorem): the program's functions as they are read, what each does, the law. Conditions: as each says; the theorem's: none.
-/
import Derived.Test.YtpoaacnnhgebfaaGreatRows
import Derived.JoinedOf
import Derived.WalkKit
import Derived.Deep.Quiet
import Derived.OrdersHeld
import Derived.ProofKit
import Derived.SizedLaws
import Derived.Carry
import Derived.OpenShut
import Derived.ChangeSame
import Derived.ChangeArms
import Derived.Deep.Slices
import Derived.Laws.BytesArg
import Derived.Lib.SlBytesConst
import Derived.Deep.CondSized
import Derived.Test.YtpoaacnnhgebfaaGreatProg
import Derived.Defers
import Derived.RangeFuncIn
import Derived.RangeFuncLeaves
import Derived.RangeFuncRecord
import Derived.TacticsIn
import Derived.MapKept
import Derived.Laws.RangeAny
import Derived.Lib.OthersKept
import Derived.FollowTie
import Derived.Test.YtpoaacnnhgebfaaGreatChecked
import Derived.Shelf.Sort.AssemblysIn
import Derived.Sort.EveryDepth
import Derived.Maps.RangeRun
import Derived.Sort.KeysCollected
import Derived.Sort.OwnSorted
import Derived.Laws.StructEq
import Derived.LaidEql
import Derived.Test.YtpoaacnnhgebfaaGreatKMemoryPlays4
set_option linter.unusedVariables false
set_option maxRecDepth 512
namespace Go.Proofs.YtpoaacnnhgebfaaGreat
open Go.Lw
def RefO (F : Nat → Prop) (w : World) (b : Nat) (bs : List Int) : Prop :=
  ∃ a l c, Blk w b #[.slice a l c] ∧ OB w a l c bs ∧ ¬ inA a b ∧ bs.length ≤ 1048576 ∧ ∀ k, F k ↔ k = b ∨ inA a k
theorem RefO.keep {F S : Nat → Prop} {w w' : World} {b : Nat} {bs : List Int} (h : RefO F w b bs) (k : Kept S w w') (hn : ∀ k, F k → ¬ S k) : RefO F w' b bs := by
  obtain ⟨a, l, c, hb, ho, hna, hl, hF⟩ := h
  exact ⟨a, l, c, hb.keep k (hn b ((hF b).2 (.inl rfl))), ho.keep k fun x hx => hn x ((hF x).2 (.inr hx)), hna, hl, hF⟩
theorem RefO.lt {F : Nat → Prop} {w : World} {b : Nat} {bs : List Int} (h : RefO F w b bs) : ∀ k, F k → k < w.heap.size := by
  obtain ⟨a, l, c, hb, ho, hna, hl, hF⟩ := h
  intro k hk
  rcases (hF k).1 hk with rfl | hk
  · exact hb.lt
  · exact SlO.lt ho k hk
theorem rwithin_to {w : World} {n : Int} {Q : Value → World → Prop} (h : Q (.bool (okN n)) w) : CallR Tryz.prog 205 [.int .i64 n] w Q := by
  refine C205 ?_
  unfold L205
  refine condP (fun h0 => ?_) (fun h0 => ?_)
  · have : okN n = decide (n ≤ 1048576) := by unfold okN; simp; omega
    rw [← this]; exact h
  · have : okN n = false := by unfold okN; simp; omega
    rw [← this]; exact h
theorem rnew_ok {w : World} {a : Option Addr} {l c : Nat} {bs : List Int} (h : RdB w a l c bs) (hl : l ≤ 140737488355328) :
    CallR Tryz.prog 127 [.slice a l c] w fun v w' => (1048576 < bs.length ∧ v = .tuple #[.pointer none, .int .i64 5] ∧ w' = w) ∨
      (bs.length ≤ 1048576 ∧ ∃ b F, v = .tuple #[pt b, .int .i64 0] ∧ RefO F w' b bs ∧ Kept No w w' ∧ ∀ k, F k → w.heap.size ≤ k) := by
  have hlen := h.len
  refine C127 ?_
  unfold L127
  refine condP (fun hgt => .inl ⟨by omega, rfl, rfl⟩) (fun hle => ?_)
  intro w1
  have hb1 : Blk w1 w.heap.size #[.slice none 0 0] := Blk.alloc w _ _
  have hk1 : Kept No w w1 := Kept.alloc _ _ _
  obtain ⟨a', c', w2, hrun, hs, hk, hat, hnn⟩ := run_app_sl (P := Tryz.prog) (t := 40) (t2 := 40) (ty := 40) (by kernel_rfl : slTyB Tryz.prog 40 1 1 = true) (by kernel_rfl) (SlO.nil 1 w1) (RdB.keep h hk1 (fun _ _ _ e => e)) (By_one bs) (by omega) (by omega)
  simp only [Nat.zero_add, List.nil_append] at hrun hs
  refine ⟨_, _, _, hb1.at0 rfl, a', l, c', w2, hrun, ?_⟩
  have hlen' : bs.length ≤ 1048576 := by omega
  have hna : ¬ inA a' w.heap.size := fun hin => by
    rcases hat.in hin with h | h
    · exact inA_none _ h
    · have : w1.heap.size = w.heap.size + 1 := by show (w.heap.push _).size = _; simp
      omega
  refine stC_blk (hb1.keep hk (fun e => inA_none _ e)) (by simp) fun w3 hb3 hk3 _ => .inr ⟨hlen', w.heap.size, fun k => k = w.heap.size ∨ inA a' k, rfl, ⟨a', l, c', hb3, SlO.keep hs hk3 (fun x hx e => hna (e ▸ hx)), hna, hlen', fun k => Iff.rfl⟩, ?_, fun k hk' => ?_⟩
  · exact (hk1.trans hk (fun _ _ e => inA_none _ e)).fresh hk3 (fun x e => by rw [e]; exact Nat.le_refl _)
  · rcases hk' with rfl | hk'
    · exact Nat.le_refl _
    · rcases hat.in hk' with h | rfl
      · exact absurd h (inA_none k)
      · exact hk1.size
theorem rpiece_ok {w : World} {a : Option Addr} {l c : Nat} {bs : List Int} (h : RdB w a l c bs) (hl : l ≤ 1048576) {off n : Int} (ho1 : 0 ≤ off) (ho2 : 0 ≤ n) :
    CallR Tryz.prog 148 [.slice a l c, .int .i64 off, .int .i64 n] w fun v w' => ∃ a' c', v = .slice a' (piece bs off n).length c' ∧ OB w' a' (piece bs off n).length c' (piece bs off n) ∧ Kept No w w' ∧ Fresh w a' := by
  have hlen := h.len
  have hlc : l ≤ c := h.2.1
  refine C148 ?_
  unfold L148
  refine condP (fun hge => ?_) (fun hlt => ?_)
  · have : piece bs off n = [] := by unfold piece; rw [List.drop_of_length_le (by omega)]; simp
    rw [this]
    exact ⟨none, 0, rfl, OB.nil w, Kept.refl _ _, Fresh.none w⟩
  · simp only [mn_eq]
    refine ⟨by unfold inI; omega, by unfold inI; omega, by omega, by omega, ?_⟩
    generalize hj : (off + min n ((l : Int) - off)).toNat = j
    have hij : off.toNat ≤ j := by omega
    have hjl : j ≤ l := by omega
    have hcut : RdB w (adv a off.toNat c 1) (j - off.toNat) (c - off.toNat) ((bs.take j).drop off.toNat) := by
      have := RdS.cut h off.toNat j hij hjl
      unfold RdB; rw [By_drop, By_take]; simpa using this
    have hpc : (bs.take j).drop off.toNat = piece bs off n := by
      unfold piece
      rw [List.drop_take]
      by_cases hol : off + n ≤ l
      · have : j - off.toNat = n.toNat := by omega
        rw [this]
      · rw [List.take_of_length_le (by simp; omega), List.take_of_length_le (by simp; omega)]
    rw [hpc] at hcut
    have hpl := hcut.len
    obtain ⟨a', c', w2, hrun, hs, hk, hat, _⟩ := run_app_sl (P := Tryz.prog) (t := 40) (t2 := 40) (ty := 40) (by kernel_rfl : slTyB Tryz.prog 40 1 1 = true) (by kernel_rfl) (SlO.nil 1 w) hcut (By_one _) (by omega) (by omega)
    simp only [Nat.zero_add, List.nil_append] at hrun hs
    exact ⟨_, _, _, _, hrun, a', c', by rw [hpl], by rw [hpl]; exact hs, hk.mono (fun _ _ e => inA_none _ e), hat.fresh (Fresh.none w) (Nat.le_refl _)⟩
theorem rlay_ok {w : World} {a : Option Addr} {l c : Nat} {bs : List Int} (h : OB w a l c bs) (hl : l ≤ 1048576) {off : Int} (ho1 : 0 ≤ off) {a2 : Option Addr} {l2 c2 : Nat} {ds : List Int} (hd : RdB w a2 l2 c2 ds) (hsum : off + ds.length ≤ 1048576) (hap : ds ≠ [] → ∀ k, inA a2 k → ¬ inA a k) :
    CallR Tryz.prog 150 [.slice a l c, .int .i64 off, .slice a2 l2 c2] w fun v w' => ∃ a' c', v = .slice a' (lay bs off.toNat ds).length c' ∧ OB w' a' (lay bs off.toNat ds).length c' (lay bs off.toNat ds) ∧ Kept (inA a) w w' ∧ ∀ k, inA a' k → inA a k ∨ w.heap.size ≤ k := by
  have hlen := h.len
  have hlen2 := hd.len
  obtain ⟨o, rfl⟩ : ∃ o : Nat, off = (o : Int) := ⟨off.toNat, by omega⟩
  simp only [Int.toNat_natCast]
  refine C150 ?_
  unfold L150
  refine ⟨fun vs w1 => ∃ (a' : Option Addr) (c' m : Nat), vs = [.slice a' (l + m) c'] ∧ m ≤ o - l ∧ OB w1 a' (l + m) c' (bs ++ List.replicate m 0) ∧ Kept (inA a) w w1 ∧ (∀ k, inA a' k → inA a k ∨ w.heap.size ≤ k),
    fun vs _ => match vs with | [.slice _ n _] => o - n | _ => 0, ⟨a, c, 0, rfl, by omega, by simpa using h, Kept.refl _ _, fun k hk => .inl hk⟩, ?_⟩
  intro _ a6 l6 c6 w1 hI
  obtain ⟨a', c', m, hv, hm, ho, hk, hin⟩ := hI
  simp only [List.cons.injEq, Value.slice.injEq, and_true] at hv
  obtain ⟨rfl, rfl, rfl⟩ := hv
  refine condP (fun hlt => ?_) (fun hge => ?_)
  · intro w2
    have hk2 : Kept No w1 w2 := Kept.alloc _ _ _
    obtain ⟨a7, c7, w3, hrun, hs, hk3, hat, _⟩ := run_app_sl (P := Tryz.prog) (t := 40) (t2 := 40) (ty := 40) (by kernel_rfl : slTyB Tryz.prog 40 1 1 = true) (by kernel_rfl) (OB.keep ho hk2 (fun _ _ e => e)) (rd_alloc w1 [0] _) (By_one [0]) (by simp; omega) (by simp; omega)
    simp only [List.length_cons, List.length_nil, Nat.zero_add] at hrun hs
    refine ⟨_, _, _, w3, hrun, ⟨a7, c7, m + 1, rfl, by omega, ?_, ?_, fun k hk' => ?_⟩, ?_⟩
    · rw [← By_append, List.append_assoc, ← List.replicate_succ'] at hs; exact hs
    · refine (hk.no hk2).trans (hk3.mono (S' := fun k => inA a k ∨ w.heap.size ≤ k) fun x _ e => hin x e) (fun x hx e => ?_)
      rcases e with e | e
      · exact e
      · omega
    · rcases hat.in hk' with h | rfl
      · exact hin k h
      · exact .inr (hk.no hk2).size
    · show o - (l + (m + 1)) < o - (l + m)
      omega
  · have hgr : bs ++ List.replicate m 0 = grown bs o := by
      unfold grown; congr 2; omega
    have hgl := grown_len bs o
    rw [hgr] at ho
    have hol := ho.len
    refine ⟨fun vs w1 => ∃ (a' : Option Addr) (c' i : Nat), vs = [.slice a' (lay bs o (ds.take i)).length c', .int .i64 (i : Int)] ∧ i ≤ ds.length ∧ OB w1 a' (lay bs o (ds.take i)).length c' (lay bs o (ds.take i)) ∧ Kept (inA a) w w1 ∧ (∀ k, inA a' k → inA a k ∨ w.heap.size ≤ k),
      fun vs _ => match vs with | [_, .int _ i] => (ds.length - i).toNat | _ => 0, ?_, ?_⟩
    · have h0 : lay bs o (ds.take 0) = grown bs o := by
        refine ext_getD (by rw [lay_len, hgl]; simp) fun k hk => ?_
        rw [lay_getD, grown_getD, if_neg (by simp <;> omega)]
      refine ⟨a6, c6, 0, ?_, by omega, ?_, hk, hin⟩
      · rw [h0, hol]; rfl
      · rw [h0, hol]; exact ho
    · intro _ a10 l10 c10 n11 w4 hI
      obtain ⟨a'', c'', i, hv, hi, ho4, hk4, hin4⟩ := hI
      simp only [List.cons.injEq, Value.slice.injEq, Value.int.injEq, true_and, and_true] at hv
      obtain ⟨⟨rfl, rfl, rfl⟩, rfl⟩ := hv
      have hlay := lay_len bs o (ds.take i)
      have hti : (ds.take i).length = i := by rw [List.length_take]; omega
      rw [hti] at hlay
      refine condP (fun hlt => ?_) (fun hge => ?_)
      · have hid : i < ds.length := by omega
        have hne : ds ≠ [] := fun e => by rw [e] at hid; simp at hid
        have hti1 : (ds.take (i + 1)).length = i + 1 := by rw [List.length_take]; omega
        have hlay1 := lay_len bs o (ds.take (i + 1))
        rw [hti1] at hlay1
        have hd4 : RdB w4 a2 l2 c2 ds := hd.keep hk4 (fun x hx h1 h2 => hap hne x h1 h2)
        obtain ⟨q, hq, hg⟩ := hd4.get hid
        have hgetD : ∀ k, (ds.take (i + 1)).getD k 0 = if k = i then ds[i] else (ds.take i).getD k 0 := by
          intro k
          simp only [List.getD_eq_getElem?_getD, List.getElem?_take]
          by_cases hki : k = i
          · subst hki; simp [hid]
          · rw [if_neg hki]
            by_cases hk : k < i
            · rw [if_pos (by omega), if_pos hk]
            · rw [if_neg (by omega), if_neg hk]
        refine ⟨by unfold inI; omega, condP (fun hin2 => ⟨by unfold inI; omega, ⟨by omega, by omega⟩, ?_⟩) (fun hout => ⟨⟨by omega, by omega⟩, ?_⟩)⟩
        · subst hq
          refine nnI ⟨_, hg, ⟨by omega, by omega⟩, ?_⟩
          cases a10 with
          | none => have := (RdS.isNone ho4.rd rfl).1; omega
          | some q10 =>
            have hidx : Int.toNat ((o : Int) + (i : Int)) = o + i := by omega
            rw [hidx]
            refine nnI (stC_slo ho4 rfl (j := o + i) (by omega) fun w5 ho5 hk5 _ => ⟨by unfold inI; omega, ⟨some q10, c10, i + 1, ?_, by omega, ?_, ?_, hin4⟩, ?_⟩)
            · congr 2; omega
            · rw [By_set] at ho5
              have he : (lay bs o (ds.take i)).set (o + i) ds[i] = lay bs o (ds.take (i + 1)) := by
                refine ext_getD (by simp; omega) fun k hk => ?_
                simp only [List.length_set] at hk
                rw [lay_getD, hti1, hgetD]
                by_cases hko : k = o + i
                · subst hko
                  rw [if_pos (by omega), if_pos (by omega)]
                  simp [List.getD, hk]
                · have : ((lay bs o (ds.take i)).set (o + i) ds[i]).getD k 0 = (lay bs o (ds.take i)).getD k 0 := by
                    simp only [List.getD_eq_getElem?_getD]; rw [List.getElem?_set_ne (by omega)]
                  rw [this, lay_getD, hti]
                  by_cases h1 : o ≤ k ∧ k < o + i
                  · rw [if_pos h1, if_pos (by omega), if_neg (by omega)]
                  · rw [if_neg h1, if_neg (by omega)]
              rw [he] at ho5
              have : (lay bs o (ds.take (i + 1))).length = (lay bs o (ds.take i)).length := by omega
              rw [this]; exact ho5
            · refine hk4.trans (hk5.mono (S' := fun k => inA a k ∨ w.heap.size ≤ k) fun x _ e => hin4 x e) (fun x hx e => ?_)
              rcases e with e | e
              · exact e
              · omega
            · show ((ds.length : Int) - ((i : Int) + 1)).toNat < ((ds.length : Int) - (i : Int)).toNat
              omega
        · subst hq
          refine nnI ⟨_, hg, ?_⟩
          intro w6
          have hk6 : Kept No w4 w6 := Kept.alloc _ _ _
          obtain ⟨a7, c7, w7, hrun, hs, hk7, hat, _⟩ := run_app_sl (P := Tryz.prog) (t := 40) (t2 := 40) (ty := 40) (by kernel_rfl : slTyB Tryz.prog 40 1 1 = true) (by kernel_rfl) (OB.keep ho4 hk6 (fun _ _ e => e)) (rd_alloc w4 [ds[i]] _) (By_one [ds[i]]) (by simp; omega) (by simp; omega)
          simp only [List.length_cons, List.length_nil, Nat.zero_add] at hrun hs
          refine ⟨_, _, _, w7, hrun, by unfold inI; omega, ⟨a7, c7, i + 1, ?_, by omega, ?_, ?_, fun k hk' => ?_⟩, ?_⟩
          · have e1 : (lay bs o (ds.take (i + 1))).length = (lay bs o (ds.take i)).length + 1 := by omega
            rw [e1]; rfl
          · rw [← By_append] at hs
            have he : lay bs o (ds.take i) ++ [ds[i]] = lay bs o (ds.take (i + 1)) := by
              refine ext_getD (by simp; omega) fun k hk => ?_
              simp only [List.length_append, List.length_cons, List.length_nil, Nat.zero_add] at hk
              rw [lay_getD, hti1, hgetD]
              by_cases hko : k = o + i
              · subst hko
                rw [if_pos (by omega), if_pos (by omega), List.getD_eq_getElem?_getD, List.getElem?_append_right (by omega)]
                have : o + i - (lay bs o (ds.take i)).length = 0 := by omega
                rw [this]; rfl
              · have : (lay bs o (ds.take i) ++ [ds[i]]).getD k 0 = (lay bs o (ds.take i)).getD k 0 := by
                  simp only [List.getD_eq_getElem?_getD]; rw [List.getElem?_append_left (by omega)]
                rw [this, lay_getD, hti]
                by_cases h1 : o ≤ k ∧ k < o + i
                · rw [if_pos h1, if_pos (by omega), if_neg (by omega)]
                · rw [if_neg h1, if_neg (by omega)]
            rw [he] at hs
            have : (lay bs o (ds.take (i + 1))).length = (lay bs o (ds.take i)).length + 1 := by omega
            rw [this]; exact hs
          · refine (hk4.no hk6).trans (hk7.mono (S' := fun k => inA a k ∨ w.heap.size ≤ k) fun x _ e => hin4 x e) (fun x hx e => ?_)
            rcases e with e | e
            · exact e
            · omega
          · rcases hat.in hk' with h | rfl
            · exact hin4 k h
            · exact .inr (hk4.no hk6).size
          · show ((ds.length : Int) - ((i : Int) + 1)).toNat < ((ds.length : Int) - (i : Int)).toNat
            omega
      · have hi' : i = ds.length := by omega
        subst hi'
        rw [List.take_length] at *
        exact ⟨a10, c10, rfl, ho4, hk4, hin4⟩
theorem rWriteAt_ok {F : Nat → Prop} {w : World} {b : Nat} {bs : List Int} (h : RefO F w b bs) (off : Int) {a2 : Option Addr} {l2 c2 : Nat} {ds : List Int} (hd : RdB w a2 l2 c2 ds) (hl2 : l2 ≤ 140737488355328) (hap : ds ≠ [] → ∀ k, inA a2 k → ¬ F k) :
    CallR Tryz.prog 177 [pt b, .int .i64 off, .slice a2 l2 c2] w fun v w' => v = .int .i64 (writeF bs off ds).1 ∧ ∃ F', RefO F' w' b (writeF bs off ds).2 ∧ Grew F w F' ∧ Kept F w w' := by
  have hfo := h
  obtain ⟨a, l, c, hb, ho, hna, hbl, hF⟩ := h
  have hlen := ho.len
  have hlen2 := hd.len
  refine C177 ?_
  unfold L177
  have done : ∀ e : Int, writeF bs off ds = (e, bs) → (.int .i64 e : Value) = .int .i64 (writeF bs off ds).1 ∧ ∃ F', RefO F' w b (writeF bs off ds).2 ∧ Grew F w F' ∧ Kept F w w := fun e he => by
    rw [he]; exact ⟨rfl, F, hfo, .same, Kept.refl _ _⟩
  refine rwithin_to ⟨_, rfl, condI (fun hno => done 4 ?_) (fun hyes => ?_)⟩
  · simp [writeF, notT hno]
  · have hyes' := notF hyes
    have ho1 : 0 ≤ off ∧ off ≤ 1048576 := by simpa [okN] using hyes'
    refine ⟨by unfold inI; omega, condP (fun hfull => done 31 ?_) (fun hfit => condP (fun hpos => ?_) (fun hz => done 0 ?_))⟩
    · have h1 : 1048576 - off < (ds.length : Int) := by rw [hlen2]; omega
      simp [writeF, hyes', h1]
    · have h1 : ¬ (1048576 - off < (ds.length : Int)) := by rw [hlen2]; omega
      have hw : writeF bs off ds = (0, lay bs off.toNat ds) := by
        unfold writeF
        rw [if_neg (by rw [hyes']; simp), if_neg h1, if_neg (by omega)]
      rw [hw]
      refine nnI ⟨a, l, c, hb.at0 rfl, (rlay_ok ho (by omega) ho1.1 hd (by omega) (fun hne k h1 h2 => hap hne k h1 ((hF k).2 (.inr h2)))).mono fun v w2 ⟨a', c', hv, ho2, hk2, hin⟩ => ⟨a', _, c', hv, nnI ?_⟩⟩
      have hna' : ¬ inA a' b := fun h => by
        rcases hin b h with h | h
        · exact hna h
        · have := hb.lt; omega
      have hll := lay_len bs off.toNat ds
      refine stC_blk (hb.keep hk2 hna) (by simp) fun w3 hb3 hk3 _ => ⟨rfl, fun k => k = b ∨ inA a' k, ⟨a', _, c', hb3, ho2.keep hk3 (fun x hx e => hna' (e ▸ hx)), hna', (by show (lay bs off.toNat ds).length ≤ 1048576; omega), fun _ => Iff.rfl⟩, fun k hk' => ?_, ?_⟩
      · rcases hk' with rfl | hk'
        · exact .inl ((hF _).2 (.inl rfl))
        · rcases hin k hk' with h | h
          · exact .inl ((hF _).2 (.inr h))
          · exact .inr h
      · exact (hk2.mono fun x _ e => (hF x).2 (.inr e)).trans hk3 (fun x _ e => (hF x).2 (.inl e))
    · have h2 : ds = [] := List.eq_nil_of_length_eq_zero (by omega)
      have h3 : ¬ (1048576 - off < 0) := by omega
      subst h2
      simp [writeF, hyes', h3]
end Go.Proofs.YtpoaacnnhgebfaaGreat
namespace Go.Proofs.YtpoaacnnhgebfaaGreat
open Go.Lw
def Inner (R : Nat → Prop) (w : World) (es : List Slc) (LL : List (List Int)) : Prop :=
  es.length = LL.length ∧ ∀ (i : Nat) (e : Slc) (xs : List Int), es[i]? = some e → LL[i]? = some xs → RdB w e.1 e.2.1 e.2.2 xs ∧ (xs ≠ [] → ∀ k, inA e.1 k → R k)
theorem Inner.keep {R S : Nat → Prop} {w w' : World} {es : List Slc} {LL : List (List Int)} (h : Inner R w es LL) (k : Kept S w w') (hn : ∀ x, R x → ¬ S x) : Inner R w' es LL :=
  ⟨h.1, fun i e xs he hx => ⟨(h.2 i e xs he hx).1.keep0 k fun hne b hb => hn b ((h.2 i e xs he hx).2 hne b hb), (h.2 i e xs he hx).2⟩⟩
def RefT (F R : Nat → Prop) (w : World) (b : Nat) (LL : List (List Int)) (scr : List Int) : Prop :=
  ∃ (la : Option Addr) (ll lc : Nat) (sa : Option Addr) (sl sc : Nat) (es : List Slc), Blk w b #[.slice la ll lc, .slice sa sl sc] ∧ SlO 1 w la ll lc (es.map slv) ∧ Inner R w es LL ∧
    OB w sa sl sc scr ∧ ¬ inA la b ∧ ¬ inA sa b ∧ (∀ k, inA la k → ¬ inA sa k) ∧ scr.length ≤ 1048576 ∧ (∀ k, F k ↔ k = b ∨ inA la k ∨ inA sa k) ∧ (∀ k, R k → ¬ F k) ∧ (∀ k, R k → k < w.heap.size) ∧ LL.length ≤ 256 ∧ ∀ x ∈ LL, x.length ≤ 4096
theorem RefT.keep {F R S : Nat → Prop} {w w' : World} {b : Nat} {LL : List (List Int)} {scr : List Int} (h : RefT F R w b LL scr) (k : Kept S w w') (hf : ∀ x, F x → ¬ S x) (hr : ∀ x, R x → ¬ S x) : RefT F R w' b LL scr := by
  obtain ⟨la, ll, lc, sa, sl, sc, es, hb, hl, hi, ho, hna, hna2, hls, hs, hF, hR, hlt, h1, h2⟩ := h
  exact ⟨la, ll, lc, sa, sl, sc, es, hb.keep k (hf b ((hF b).2 (.inl rfl))), hl.keep k (fun x hx => hf x ((hF x).2 (.inr (.inl hx)))), hi.keep k hr, ho.keep k (fun x hx => hf x ((hF x).2 (.inr (.inr hx)))), hna, hna2, hls, hs, hF, hR, fun k' hk => Nat.lt_of_lt_of_le (hlt k' hk) k.size, h1, h2⟩
theorem RefT.lt {F R : Nat → Prop} {w : World} {b : Nat} {LL : List (List Int)} {scr : List Int} (h : RefT F R w b LL scr) : ∀ k, F k ∨ R k → k < w.heap.size := by
  obtain ⟨la, ll, lc, sa, sl, sc, es, hb, hl, hi, ho, hna, hna2, hls, hs, hF, hR, hlt, h1, h2⟩ := h
  intro k hk
  rcases hk with hk | hk
  · rcases (hF k).1 hk with rfl | hk | hk
    · exact hb.lt
    · exact SlO.lt hl k hk
    · exact SlO.lt ho k hk
  · exact hlt k hk
theorem RefT.scr {F R : Nat → Prop} {w : World} {b : Nat} {LL : List (List Int)} {scr : List Int} (h : RefT F R w b LL scr) : scr.length ≤ 1048576 := by
  obtain ⟨la, ll, lc, sa, sl, sc, es, hb, hl, hi, ho, hna, hna2, hls, hs, _⟩ := h; exact hs
theorem rcheck_ok {R0 : Nat → Prop} {w : World} {a : Option Addr} {l c : Nat} {LL : List (List Int)} (h : RdL R0 w a l c LL) :
    CallR Tryz.prog 58 [.slice a l c] w fun v w' => v = .int .i64 (newT LL) ∧ w' = w := by
  have hlen := h.len
  refine C58 ?_
  unfold L58
  refine condP (fun hgt => ⟨?_, rfl⟩) (fun hle => ?_)
  · have : newT LL = 3 := by unfold newT; rw [if_pos (by omega)]
    rw [this]
  refine ⟨fun vs w' => w' = w ∧ ∃ i : Nat, vs = [.int .i64 (i : Int)] ∧ i ≤ l ∧ (LL.take i).all (fun x => decide (x.length ≤ 4096)) = true, fun vs _ => match vs with | [.int _ i] => (l - i).toNat | _ => 0, ⟨rfl, 0, rfl, Nat.zero_le _, by simp⟩, ?_⟩
  intro _ n4 w1 hI
  obtain ⟨hw, i, hv, hi, hall⟩ := hI
  subst hw
  simp only [List.cons.injEq, Value.int.injEq, true_and, and_true] at hv
  subst hv
  refine condP (fun hlt => ?_) (fun hge => ?_)
  · have hil : i < LL.length := by omega
    obtain ⟨q, ⟨ea, el, ec⟩, hq, hc, hrd, _⟩ := h.get hil
    subst hq
    simp only at hc hrd
    obtain rfl : LL[i].length = el := hrd.len
    refine ⟨⟨by omega, by omega⟩, nnI ⟨_, _, _, hc, condP (fun hbig => ⟨?_, rfl⟩) (fun hsmall => ⟨by unfold inI; omega, ⟨rfl, i + 1, rfl, by omega, ?_⟩, ?_⟩)⟩⟩
    · have h1 : ¬ 256 < LL.length := by omega
      have h2 : LL.all (fun x => decide (x.length ≤ 4096)) = false := by
        cases hx : LL.all (fun x => decide (x.length ≤ 4096)) with
        | false => rfl
        | true =>
          have := List.all_eq_true.1 hx LL[i] (List.getElem_mem hil)
          have := of_decide_eq_true this
          omega
      have : newT LL = 5 := by unfold newT; rw [if_neg h1, h2]; rfl
      rw [this]
    · rw [List.take_add_one, List.getElem?_eq_getElem hil]
      simp only [Option.toList_some, List.all_append, hall, Bool.true_and]
      have : LL[i].length ≤ 4096 := by omega
      simp [this]
    · show ((l : Int) - ((i : Int) + 1)).toNat < ((l : Int) - (i : Int)).toNat
      omega
  · have hil : i = l := by omega
    subst hil
    rw [List.take_of_length_le (by omega)] at hall
    have hn0 : newT LL = 0 := by unfold newT; rw [if_neg (by omega), hall]; rfl
    rw [hn0]; exact ⟨rfl, rfl⟩
theorem rnewT_ok {R0 : Nat → Prop} {w : World} {a : Option Addr} {l c : Nat} {LL : List (List Int)} (h : RdL R0 w a l c LL) (hl : ∀ x ∈ LL, x.length ≤ 140737488355328) :
    CallR Tryz.prog 159 [.slice a l c] w fun v w' => Kept No w w' ∧ ((newT LL ≠ 0 ∧ v = .tuple #[.pointer none, .int .i64 (newT LL)]) ∨
      (newT LL = 0 ∧ ∃ b F R, v = .tuple #[ptt b, .int .i64 0] ∧ RefT F R w' b LL [] ∧ ∀ k, F k ∨ R k → w.heap.size ≤ k)) := by
  have hlen := h.len
  refine C159 ?_
  unfold L159
  refine (rcheck_ok h).mono fun v w1 ⟨hv, hw⟩ => ⟨_, hv, ?_⟩
  rw [hw]
  refine condI (fun hne => ⟨Kept.refl _ _, .inl ⟨by simpa using hne, rfl⟩⟩) (fun hz => ?_)
  have hn0 : newT LL = 0 := by simpa using hz
  have h12 : LL.length ≤ 256 ∧ ∀ x ∈ LL, x.length ≤ 4096 := by
    unfold newT at hn0
    split at hn0
    · simp at hn0
    · split at hn0
      · rename_i h1 h2
        exact ⟨by omega, fun x hx => of_decide_eq_true (List.all_eq_true.1 h2 x hx)⟩
      · simp at hn0
  intro w2
  have hb2 : Blk w2 w.heap.size #[.slice none 0 0, .slice none 0 0] := Blk.alloc w _ _
  have hk2 : Kept No w w2 := Kept.alloc _ _ _
  clear_value w2
  refine ⟨fun vs w2 => ∃ (i : Nat) (la : Option Addr) (lc : Nat) (es : List Slc), vs = [.int .i64 (i : Int)] ∧ i ≤ l ∧ Blk w2 w.heap.size #[.slice la i lc, .slice none 0 0] ∧
      SlO 1 w2 la i lc (es.map slv) ∧ (∀ k, inA la k → w.heap.size < k) ∧ (∀ (j : Nat) (e : Slc), es[j]? = some e → ∃ xs, LL[j]? = some xs ∧ RdB w2 e.1 e.2.1 e.2.2 xs ∧ (∀ k, inA e.1 k → w.heap.size < k ∧ k < w2.heap.size ∧ ¬ inA la k)) ∧
      Kept No w w2, fun vs _ => match vs with | [.int _ i] => (l - i).toNat | _ => 0,
    ⟨0, none, 0, [], rfl, Nat.zero_le _, hb2, SlO.nil 1 w2, fun k hk => absurd hk (inA_none k), fun j e he => by simp at he, hk2⟩, ?_⟩
  intro _ n4 w3 hI
  obtain ⟨i, la, lc, es, hv, hi, hb3, hs3, hla, hes, hk3⟩ := hI
  simp only [List.cons.injEq, Value.int.injEq, true_and, and_true] at hv
  subst hv
  have hesl : es.length = i := by have := hs3.1; simpa using this
  refine condP (fun hlt => ?_) (fun hge => ?_)
  · have hil : i < LL.length := by omega
    obtain ⟨q, ⟨ea, el, ec⟩, hq, hc, hrd, _⟩ := (h.keep hk3 (fun _ _ e => e)).get hil
    subst hq
    simp only at hc hrd
    obtain rfl : LL[i].length = el := hrd.len
    have hLi := hl LL[i] (List.getElem_mem hil)
    refine ⟨fun wS => Blk wS w.heap.size #[.slice la i lc, .slice none 0 0] ∧ wS.cell? (q.add i) = some (.slice ea LL[i].length ec), ⟨hb3, hc⟩, ?_⟩
    intro w4
    have hk4 : Kept No w3 w4 := Kept.drew _ _
    have hb4 : Blk w4 w.heap.size #[.slice la i lc, .slice none 0 0] := hb3
    have hc4 : w4.cell? (q.add i) = some (.slice ea LL[i].length ec) := hc
    have hrd4 := hrd.keep hk4 (fun _ _ _ e => e)
    have hsz4 : w4.heap.size = w3.heap.size := rfl
    clear_value w4
    obtain ⟨a5, c5, w5, hrun5, hs5, hk5, hat5, _⟩ := run_app_sl (P := Tryz.prog) (t := 40) (t2 := 40) (ty := 40) (by kernel_rfl : slTyB Tryz.prog 40 1 1 = true) (by kernel_rfl) (SlO.nil 1 w4) hrd4 (By_one _) (by omega) (by omega)
    simp only [Nat.zero_add, List.nil_append] at hrun5 hs5
    have hk5' : Kept No w4 w5 := hk5.mono (fun _ _ e => inA_none _ e)
    have hf5 : Fresh w4 a5 := hat5.fresh (Fresh.none w4) (Nat.le_refl _)
    refine ⟨la, i, lc, fun wS hS => (hS.1.cell 0).trans rfl, ⟨by omega, by omega⟩, nnI ⟨_, _, _, fun wS hS => hS.2, _, _, _, w5, hrun5, ⟨hb4.keep hk5' (fun e => e), hk5'.cell hc4 (fun e => e)⟩, ?_⟩⟩
    have hb5 := hb4.keep hk5' (fun e => e)
    intro w6
    have hk6 : Kept No w5 w6 := Kept.alloc _ _ _
    have hnew6 : SlO 1 w6 (some ⟨w5.heap.size, 0, none⟩) 1 1 ([(a5, LL[i].length, c5)].map slv) :=
      SlO.of_blk (sz := 1) (n := 1) (Blk.alloc w5 #[slv (a5, LL[i].length, c5)] 40) rfl
    clear_value w6
    have hk36 := hk4.no (hk5'.no hk6)
    have hs6 := hs3.keep hk36 (fun _ _ e => e)
    obtain ⟨a7, c7, w7, hrun, hs7, hk7, hat, _⟩ := run_app_sl (P := Tryz.prog) (t := 84) (t2 := 84) (ty := 84) (by kernel_rfl : slTyB Tryz.prog 84 1 24 = true) (by kernel_rfl) hs6 hnew6.rd (slv_one _) (by omega) (by omega)
    refine ⟨⟨hb5.keep hk6 (fun e => e), (hk5'.no hk6).cell hc4 (fun e => e)⟩, a7, _, c7, w7, hrun, ?_⟩
    have hlt6 : ∀ k, inA a5 k → k < w6.heap.size := fun k hk => Nat.lt_of_lt_of_le (SlO.lt hs5 k hk) hk6.size
    have hb7 : Blk w7 w.heap.size _ := (hb5.keep hk6 (fun e => e)).keep hk7 (fun hx => by have := hla _ hx; omega)
    have hla7 : ∀ k, inA a7 k → w.heap.size < k := fun k hk => by
      rcases hat.in hk with h | rfl
      · exact hla k h
      · have := hb5.lt; have := hk6.size; omega
    refine stC_blk hb7 (by simp) fun w8 hb8 hk8 hsz8 => ⟨by unfold inI; omega, ⟨i + 1, a7, c7, es ++ [(a5, LL[i].length, c5)], rfl, by omega, hb8, ?_, hla7, ?_, ?_⟩, ?_⟩
    · rw [List.map_append]
      exact SlO.keep hs7 hk8 (fun k hk e => by have := hla7 k hk; omega)
    · intro j e he
      by_cases hj : j < i
      · rw [List.getElem?_append_left (by omega)] at he
        obtain ⟨xs, hx, hr, hin⟩ := hes j e he
        refine ⟨xs, hx, ?_, fun k hk => ?_⟩
        · refine RdB.keep0 (RdB.keep0 (hr.keep0 hk36 (fun _ _ _ e => e)) hk7 (fun _ k hk h => (hin k hk).2.2 h)) hk8 (fun _ k hk e => by have := (hin k hk).1; omega)
        · obtain ⟨h1, h2, h3⟩ := hin k hk
          refine ⟨h1, ?_, fun hx => ?_⟩
          · have := hk36.size; have := hk7.size; omega
          · rcases hat.in hx with h | rfl
            · exact h3 h
            · have := hk36.size; omega
      · have hje : j = i := by
          have := (List.getElem?_eq_some_iff.1 he).1
          simp at this; omega
        subst hje
        rw [List.getElem?_append_right (by omega), hesl, Nat.sub_self] at he
        simp at he
        subst he
        have hr5 : RdB w5 a5 LL[j].length c5 LL[j] := SlO.rd hs5
        refine ⟨LL[j], by simp [hil], ?_, fun k hk => ?_⟩
        · refine RdB.keep0 (RdB.keep0 (hr5.keep0 hk6 (fun _ _ _ e => e)) hk7 (fun _ k hk h => ?_)) hk8 (fun _ k hk e => ?_)
          · have h1 := hf5 k hk; have h2 := SlO.lt hs3 k h; omega
          · have h1 := hf5 k hk; have h3 := hb3.lt; omega
        · have h1 := hf5 k hk
          have h3 := hb3.lt
          refine ⟨by omega, ?_, fun hx => ?_⟩
          · have := hlt6 k hk; have := hk7.size; omega
          · rcases hat.in hx with h | rfl
            · have h2 := SlO.lt hs3 k h; omega
            · have := hlt6 _ hk; omega
    · exact ((hk3.no hk36).fresh hk7 (fun k hk => Nat.le_of_lt (hla k hk))).fresh hk8 (fun k e => by rw [e]; exact Nat.le_refl _)
    · show ((l : Int) - ((i : Int) + 1)).toNat < ((l : Int) - (i : Int)).toNat
      omega
  · have hil : i = l := by omega
    subst hil
    refine ⟨hk3, .inr ⟨hn0, w.heap.size, fun k => k = w.heap.size ∨ inA la k, fun k => ∃ e ∈ es, inA e.1 k, rfl, ⟨la, i, lc, none, 0, 0, es, hb3, hs3, ⟨by omega, fun j e xs he hx => ?_⟩, OB.nil w3, fun hk => by have := hla _ hk; omega, inA_none _, fun k _ => inA_none k, by simp, fun k => ?_, fun k hk e => ?_, fun k hk => ?_, h12.1, h12.2⟩, fun k hk => ?_⟩⟩
    · obtain ⟨xs', hx', hr, _⟩ := hes j e he
      rw [hx] at hx'; cases hx'
      exact ⟨hr, fun _ k hk => ⟨e, List.mem_of_getElem? he, hk⟩⟩
    · constructor
      · rintro (h | h)
        · exact .inl h
        · exact .inr (.inl h)
      · rintro (h | h | h)
        · exact .inl h
        · exact .inr h
        · exact absurd h (inA_none k)
    · obtain ⟨e', he', hk⟩ := hk
      obtain ⟨j, hj⟩ := List.mem_iff_getElem?.1 he'
      obtain ⟨_, _, _, h3⟩ := hes j e' hj
      rcases e with e | e
      · have := (h3 k hk).1; omega
      · exact (h3 k hk).2.2 e
    · obtain ⟨e', he', hk⟩ := hk
      obtain ⟨j, hj⟩ := List.mem_iff_getElem?.1 he'
      obtain ⟨_, _, _, h3⟩ := hes j e' hj
      exact (h3 k hk).2.1
    · rcases hk with (rfl | hk) | ⟨e', he', hk⟩
      · exact Nat.le_refl _
      · exact Nat.le_of_lt (hla k hk)
      · obtain ⟨j, hj⟩ := List.mem_iff_getElem?.1 he'
        obtain ⟨_, _, _, h3⟩ := hes j e' hj
        exact Nat.le_of_lt (h3 k hk).1
theorem rreadT_ok {F R : Nat → Prop} {w : World} {b : Nat} {LL : List (List Int)} {scr : List Int} (h : RefT F R w b LL scr) (n : Int) :
    CallR Tryz.prog 171 [ptt b, .int .i64 n] w fun v w' => ∃ a' c', v = .tuple #[.slice a' (readT n LL).2.1.length c', .int .i64 (readT n LL).1] ∧ RdB w' a' (readT n LL).2.1.length c' (readT n LL).2.1 ∧ ∃ F', (∀ k, F' k → F k) ∧ Kept F w w' ∧ RefT F' R w' b (readT n LL).2.2 scr := by
  have ht := h
  obtain ⟨la, ll, lc, sa, sl, sc, es, hb, hl, hin, ho, hna, hna2, hls, hs, hF, hR, hlt, h1, h2⟩ := h
  have hel : es.length = ll := by have := hl.1; simpa using this
  have hll := hin.1
  refine C171 ?_
  unfold L171
  refine condP (fun hsm => ?_) (fun hge => condP (fun hbig => ?_) (fun hle => ?_))
  · have e : readT n LL = (4, [], LL) := by unfold readT; rw [if_pos (.inl hsm)]
    rw [e]; exact ⟨none, 0, rfl, RdB.nil w, F, fun _ h => h, Kept.refl _ _, ht⟩
  · have e : readT n LL = (4, [], LL) := by unfold readT; rw [if_pos (.inr hbig)]
    rw [e]; exact ⟨none, 0, rfl, RdB.nil w, F, fun _ h => h, Kept.refl _ _, ht⟩
  · have hn : ¬ (n < 1 ∨ n > 1048576) := by omega
    refine nnI ⟨la, ll, lc, hb.at0 rfl, condI (fun h0 => ?_) (fun h0 => ?_)⟩
    · have hl0 : ll = 0 := by simpa using h0
      have hLL : LL = [] := List.eq_nil_of_length_eq_zero (by omega)
      have e : readT n LL = (0, [], LL) := by unfold readT; rw [if_neg hn, hLL]
      rw [e]; exact ⟨none, 0, rfl, RdB.nil w, F, fun _ h => h, Kept.refl _ _, ht⟩
    · have hl0 : ¬ ll = 0 := by simpa using h0
      cases LL with
      | nil =>
        have h3 : es.length = 0 := hll
        omega
      | cons x r =>
        cases es with
        | nil =>
          have h3 : 0 = ll := hel
          omega
        | cons e0 es =>
          obtain ⟨ea, el, ec⟩ := e0
          have hx4 := h2 x (by simp)
          obtain ⟨hrd, hRe⟩ := hin.2 0 (ea, el, ec) x rfl rfl
          simp only at hrd hRe
          obtain rfl : x.length = el := hrd.len
          have hlec : x.length ≤ ec := hrd.2.1
          cases la with
          | none => have := (RdS.isNone hl.rd rfl).1; omega
          | some q =>
            have hce := hl.rd.2.2.2 q rfl 0 (slv (ea, x.length, ec)) rfl
            refine nnI ⟨some q, ll, lc, hb.at0 rfl, ⟨by omega, by omega⟩, nnI ⟨ea, x.length, ec, hce, ?_⟩⟩
            rw [mn_eq]
            have hRb : ∀ k, R k → k ≠ b := fun k hk e => hR k hk ((hF k).2 (.inl e))
            refine condI (fun hall => ?_) (fun hsome => ?_)
            · have hmx : min n (x.length : Int) = x.length := by simpa using hall
              rw [hmx]
              refine nnI ⟨some q, ll, lc, hb.at0 rfl, ⟨by omega, by omega⟩, nnI (stC_blk hb (by simp) fun w3 hb3 hk3 hsz3 => ⟨⟨by omega, by omega⟩, ?_⟩)⟩
              have e : readT n (x :: r) = (0, x, r) := by
                unfold readT; rw [if_neg hn]; simp only; rw [if_pos (by omega), List.take_of_length_le (by omega)]
              rw [e]
              have hrd3 : RdB w3 ea x.length ec x := hrd.keep0 hk3 (fun hne k hk e => hRb k (hRe hne k hk) e)
              refine ⟨ea, ec, rfl, hrd3, F, fun _ h => h, hk3.mono (fun k _ e => (hF k).2 (.inl e)), ?_⟩
              refine ⟨adv (some q) 1 lc 1, ll - 1, lc - 1, sa, sl, sc, es, hb3, ?_, ⟨by simpa using hll, fun i e ys he hy => ?_⟩, ?_, fun h => hna (inA_adv.1 h), hna2, fun k hk => hls k (inA_adv.1 hk), hs, fun k => ?_, hR, fun k hk => Nat.lt_of_lt_of_le (hlt k hk) hk3.size, (by show r.length ≤ 256; simp at h1; omega), fun y hy => h2 y (by simp [hy])⟩
              · have := SlO.keep (hl.from 1 (by omega)) hk3 (fun k hk e => hna (e ▸ inA_adv.1 hk))
                simpa using this
              · have := hin.2 (i + 1) e ys (by simpa using he) (by simpa using hy)
                exact ⟨this.1.keep0 hk3 (fun hne k hk e => hRb k (this.2 hne k hk) e), this.2⟩
              · exact ho.keep hk3 (fun k hk e => hna2 (e ▸ hk))
              · rw [hF k, inA_adv]
            · have hmx : ¬ min n (x.length : Int) = x.length := by simpa using hsome
              have hmn : min n (x.length : Int) = n := by omega
              rw [hmn]
              intro w2
              have hk2 : Kept F w w2 := Kept.drew _ _
              have hb2 : Blk w2 b #[.slice (some q) ll lc, .slice sa sl sc] := hb
              have hl2 : SlO 1 w2 (some q) ll lc (((ea, x.length, ec) :: es).map slv) := hl
              have ht2 : RefT F R w2 b (x :: r) scr := ht.keep (Kept.drew No w) (fun _ _ e => e) (fun _ _ e => e)
              have hrd2 : RdB w2 ea x.length ec x := hrd
              have hin2 : Inner R w2 ((ea, x.length, ec) :: es) (x :: r) := hin.keep (Kept.drew No w) (fun _ _ e => e)
              have ho2 : OB w2 sa sl sc scr := ho
              have hlt2 : ∀ k, R k → k < w2.heap.size := hlt
              clear_value w2
              obtain ⟨m, rfl⟩ : ∃ m : Nat, n = (m : Int) := ⟨n.toNat, by omega⟩
              simp only [Int.toNat_natCast]
              refine nnI ⟨some q, ll, lc, hb2.at0 rfl, ⟨by omega, by omega⟩, ⟨by omega, by omega⟩, nnI (stC_slo (j := 0) hl2 rfl (by omega) fun w3 hl3 hk3 hsz3 => ⟨⟨by omega, by omega⟩, ?_⟩)⟩
              have e : readT (m : Int) (x :: r) = (0, x.take m, x.drop m :: r) := by
                unfold readT; rw [if_neg hn]; simp only; rw [if_neg (by omega)]; simp
              rw [e]
              have hRq : ∀ k, R k → ¬ inA (some q) k := fun k hk e => hR k hk ((hF k).2 (.inr (.inl e)))
              have hrd3 : RdB w3 ea x.length ec x := hrd2.keep0 hk3 (fun hne k hk e => hRq k (hRe hne k hk) e)
              have htl : (x.take m).length = m := by simp; omega
              refine ⟨ea, ec, by rw [htl], by rw [htl]; exact hrd3.to m (by omega), F, fun _ h => h, hk2.trans (hk3.mono (S' := F) fun k _ e => (hF k).2 (.inr (.inl e))) (fun _ _ e => e), ?_⟩
              refine ⟨some q, ll, lc, sa, sl, sc, (adv ea m ec 1, x.length - m, ec - m) :: es, hb2.keep hk3 hna, hl3, ⟨by simpa using hll, fun i e ys he hy => ?_⟩, ?_, hna, hna2, hls, hs, hF, hR, fun k hk => Nat.lt_of_lt_of_le (hlt2 k hk) hk3.size, by simpa using h1, fun y hy => ?_⟩
              · cases i with
                | zero =>
                  simp at he hy
                  subst he hy
                  exact ⟨hrd3.from m (by omega), fun hne k hk => hRe (fun e => hne (by rw [e]; simp)) k (inA_adv.1 hk)⟩
                | succ i =>
                  have := hin2.2 (i + 1) e ys (by simpa using he) (by simpa using hy)
                  exact ⟨this.1.keep0 hk3 (fun hne k hk e => hRq k (this.2 hne k hk) e), this.2⟩
              · exact ho2.keep hk3 (fun k hk e => hls k e hk)
              · rcases List.mem_cons.1 hy with rfl | hy
                · simp; omega
                · exact h2 y (by simp [hy])
theorem rwriteT_ok {F R : Nat → Prop} {w : World} {b : Nat} {LL : List (List Int)} {scr : List Int} (h : RefT F R w b LL scr) {a2 : Option Addr} {l2 c2 : Nat} {ds : List Int} (hd : RdB w a2 l2 c2 ds) (hl2 : l2 ≤ 140737488355328) :
    CallR Tryz.prog 176 [ptt b, .slice a2 l2 c2] w fun v w' => v = .int .i64 (writeT ds scr).1 ∧ ∃ F', RefT F' R w' b LL (writeT ds scr).2 ∧ (∀ k, F' k → F k ∨ w.heap.size ≤ k) ∧ Kept F w w' := by
  have ht := h
  obtain ⟨la, ll, lc, sa, sl, sc, es, hb, hl, hin, ho, hna, hna2, hls, hs, hF, hR, hlt, h1, h2⟩ := h
  have hsl := ho.len
  have hdl := hd.len
  refine C176 ?_
  unfold L176
  refine nnI ⟨sa, sl, sc, hb.at rfl, by unfold inI; omega, condP (fun hfull => ?_) (fun hfit => ?_)⟩
  · have e : writeT ds scr = (31, scr) := by unfold writeT; rw [if_pos (by omega)]
    rw [e]; exact ⟨rfl, F, ht, fun k hk => .inl hk, Kept.refl _ _⟩
  · have e : writeT ds scr = (0, scr ++ ds) := by unfold writeT; rw [if_neg (by omega)]
    rw [e]
    obtain ⟨a', c', w2, hrun, hs2, hk, hat, _⟩ := run_app_sl (P := Tryz.prog) (t := 40) (t2 := 40) (ty := 40) (by kernel_rfl : slTyB Tryz.prog 40 1 1 = true) (by kernel_rfl) ho hd (By_one ds) (by omega) (by omega)
    refine nnI ⟨sa, sl, sc, hb.at rfl, _, _, _, w2, hrun, nnI ?_⟩
    have hna' : ¬ inA a' b := fun hin => by
      rcases hat.in hin with hin | hin
      · exact hna2 hin
      · have := hb.lt; omega
    refine stC_at (hb.keep hk hna2) (by simp) fun w3 hb3 hk3 hsz3 => ?_
    have hkF : Kept F w w3 := (hk.mono fun x _ e => (hF x).2 (.inr (.inr e))).trans hk3 (fun x _ e => (hF x).2 (.inl e))
    refine ⟨rfl, fun k => k = b ∨ inA la k ∨ inA a' k, ⟨la, ll, lc, a', sl + l2, c', es, hb3, SlO.keep (SlO.keep hl hk (fun k hk e => hls k hk e)) hk3 (fun k hk e => hna (e ▸ hk)), hin.keep hkF hR, ?_, hna, hna', fun k hk e => ?_, by simp; omega, fun k => Iff.rfl, fun k hk' e => ?_, fun k hk' => Nat.lt_of_lt_of_le (hlt k hk') hkF.size, h1, h2⟩, fun k hk' => ?_, hkF⟩
    · rw [← By_append] at hs2; exact SlO.keep hs2 hk3 (fun k hk' e => hna' (e ▸ hk'))
    · rcases hat.in e with e | e
      · exact hls k hk e
      · have := SlO.lt hl k hk; omega
    · rcases e with e | e | e
      · exact hR k hk' ((hF k).2 (.inl e))
      · exact hR k hk' ((hF k).2 (.inr (.inl e)))
      · rcases hat.in e with e | e
        · exact hR k hk' ((hF k).2 (.inr (.inr e)))
        · have := hlt k hk'; omega
    · rcases hk' with rfl | hk' | hk'
      · exact .inl ((hF _).2 (.inl rfl))
      · exact .inl ((hF _).2 (.inr (.inl hk')))
      · rcases hat.in hk' with hin | rfl
        · exact .inl ((hF _).2 (.inr (.inr hin)))
        · exact .inr (Nat.le_refl _)
end Go.Proofs.YtpoaacnnhgebfaaGreat
namespace Go.Proofs.YtpoaacnnhgebfaaGreat
open Go.Lw
def RefP (w : World) (rb : Nat) (F : Nat → Prop) (bs : List Int) (e0 e1 : Nat) : Prop :=
  F rb ∧ (∀ x, F x → x < w.heap.size) ∧ ∃ a l c, Blk w rb #[.slice a l c, .int .i64 (e0 : Int), .int .i64 (e1 : Int)] ∧ RdB w a l c bs ∧ (∀ x, inA a x → F x ∧ x ≠ rb) ∧ bs.length ≤ 4096 ∧ e0 ≤ 1024 ∧ e1 ≤ 1024
theorem RefP.keep {S F : Nat → Prop} {w w' : World} {rb : Nat} {bs : List Int} {e0 e1 : Nat} (h : RefP w rb F bs e0 e1) (k : Kept S w w') (hn : ∀ x, F x → ¬ S x) : RefP w' rb F bs e0 e1 := by
  obtain ⟨hF, hlt, a, l, c, hb, hr, ha, h1, h2, h3⟩ := h
  exact ⟨hF, fun x hx => Nat.lt_of_lt_of_le (hlt x hx) k.size, a, l, c, hb.keep k (hn _ hF), hr.keep k (fun x _ hx => hn x (ha x hx).1), ha, h1, h2, h3⟩
theorem rcanr_to {w : World} {rb : Nat} {F : Nat → Prop} {bs : List Int} {e0 e1 : Nat} (h : RefP w rb F bs e0 e1) {Q : Value → World → Prop} (hq : Q (.bool (canRP bs e0 e1)) w) : CallR Tryz.prog 169 [pt rb] w Q := by
  obtain ⟨hF, hlt, a, l, c, hb, hr, ha, h1, h2, h3⟩ := h
  have hlen := hr.len
  refine C169 ?_
  unfold L169
  refine nnI ⟨(e0 : Int), hb.at (i := 1) rfl, condP (fun g => nnI ⟨a, l, c, hb.at0 rfl, condP (fun g2 => ?_) (fun g2 => nnI ⟨(e1 : Int), hb.at (i := 2) rfl, ?_⟩)⟩) (fun g => ?_)⟩
  · have e : canRP bs e0 e1 = true := by unfold canRP; simp only [decide_eq_true_eq]; omega
    rw [e] at hq; exact hq
  · have e : canRP bs e0 e1 = ((e1 : Int) == 0) := by
      unfold canRP; rw [Bool.eq_iff_iff]; simp only [decide_eq_true_eq, beq_iff_eq]; omega
    rw [e] at hq; exact hq
  · have e : canRP bs e0 e1 = false := by unfold canRP; simp only [decide_eq_false_iff_not]; omega
    rw [e] at hq; exact hq
theorem rcanw_to {w : World} {rb : Nat} {F : Nat → Prop} {bs : List Int} {e0 e1 : Nat} (h : RefP w rb F bs e0 e1) (n : Int) {Q : Value → World → Prop} (hq : Q (.bool (canWP n bs e0 e1)) w) : CallR Tryz.prog 173 [pt rb, .int .i64 n] w Q := by
  obtain ⟨hF, hlt, a, l, c, hb, hr, ha, h1, h2, h3⟩ := h
  have hlen := hr.len
  refine C173 ?_
  unfold L173
  have hT : canWP n bs e0 e1 = true → Q (.bool true) w := fun e => e ▸ hq
  have hF : canWP n bs e0 e1 = false → Q (.bool false) w := fun e => e ▸ hq
  refine nnI ⟨a, l, c, hb.at0 rfl, by unfold inI; omega, nnI ⟨(e1 : Int), hb.at (i := 2) rfl, condP (fun g => condP (fun g2 => condP (fun g3 => nnI ⟨(e0 : Int), hb.at (i := 1) rfl, condI (fun g4 => hT ?_) (fun g4 => condP (fun g5 => condP (fun g6 => hT ?_) (fun g6 => condP (fun g7 => ?_) (fun g7 => hF ?_))) (fun g5 => condP (fun g7 => ?_) (fun g7 => hF ?_)))⟩) (fun g3 => hF ?_)) (fun g2 => hF ?_)) (fun g => hF ?_)⟩⟩
  · simp only [beq_iff_eq] at g4
    unfold canWP; simp only [decide_eq_true_eq]; omega
  · unfold canWP takesP; simp only [decide_eq_true_eq]; rw [if_neg (by omega)]; omega
  · omega
  · simp only [beq_eq_false_iff_ne] at g4
    unfold canWP takesP; simp only [decide_eq_false_iff_not]; rw [if_pos (by omega)]; omega
  · simp only [beq_eq_false_iff_ne] at g4
    have e : canWP n bs e0 e1 = decide ((4096 : Int) - (l : Int) > 0) := by
      unfold canWP takesP; rw [Bool.eq_iff_iff]; simp only [decide_eq_true_eq]; rw [if_neg (by omega)]; omega
    rw [e] at hq; exact hq
  · omega
  all_goals (unfold canWP; simp only [decide_eq_false_iff_not]; omega)
theorem rread_ok {w : World} {rb : Nat} {F : Nat → Prop} {bs : List Int} {e0 e1 : Nat} (h : RefP w rb F bs e0 e1) (n : Int) :
    CallR Tryz.prog 172 [pt rb, .int .i64 n] w fun v w' => ∃ a l c, v = .tuple #[.slice a l c, .int .i64 (readP n bs e0 e1).2.1] ∧ RdB w' a l c (readP n bs e0 e1).1 ∧ (∀ x, inA a x → F x ∧ x ≠ rb) ∧
      RefP w' rb F (readP n bs e0 e1).2.2 e0 e1 ∧ Kept (· = rb) w w' := by
  have hbad : ∀ {k : Int}, readP n bs e0 e1 = ([], k, bs) → ∃ a l c, Value.tuple #[.slice none 0 0, .int .i64 k] = .tuple #[.slice a l c, .int .i64 (readP n bs e0 e1).2.1] ∧ RdB w a l c (readP n bs e0 e1).1 ∧ (∀ x, inA a x → F x ∧ x ≠ rb) ∧
      RefP w rb F (readP n bs e0 e1).2.2 e0 e1 ∧ Kept (· = rb) w w := by
    intro k e; rw [e]; exact ⟨none, 0, 0, rfl, RdB.nil w, fun x hx => absurd hx (inA_none x), h, Kept.refl _ _⟩
  have h' := h
  obtain ⟨hF, hlt, a, l, c, hb, hr, ha, h1, h2, h3⟩ := h'
  have hlen := hr.len
  have hlc : l ≤ c := hr.2.1
  refine C172 ?_
  unfold L172
  have hfin : n ≥ 1 → n ≤ 1048576 → e0 ≠ 0 → ¬ (bs = [] ∧ e1 > 0) → (0 ≤ mn n (l : Int) ∧ mn n (l : Int) ≤ (c : Int)) ∧ (0 ≤ mn n (l : Int) ∧ mn n (l : Int) ≤ (l : Int)) ∧
      ∀ w1, Blk w1 rb #[.slice (adv a (mn n (l : Int)).toNat c 1) (l - (mn n (l : Int)).toNat) (c - (mn n (l : Int)).toNat), .int .i64 (e0 : Int), .int .i64 (e1 : Int)] → Kept (· = rb) w w1 →
        ∃ a' l' c', Value.tuple #[.slice a (mn n (l : Int)).toNat c, .int .i64 0] = .tuple #[.slice a' l' c', .int .i64 (readP n bs e0 e1).2.1] ∧ RdB w1 a' l' c' (readP n bs e0 e1).1 ∧ (∀ x, inA a' x → F x ∧ x ≠ rb) ∧
          RefP w1 rb F (readP n bs e0 e1).2.2 e0 e1 ∧ Kept (· = rb) w w1 := by
    intro g1 g2 g3 g4
    have e : readP n bs e0 e1 = (bs.take n.toNat, 0, bs.drop n.toNat) := by
      unfold readP; rw [if_neg (by omega), if_neg (by omega), if_neg g4]
    have hmn : mn n (l : Int) = ((min n.toNat l : Nat) : Int) := by rw [mn_eq]; omega
    rw [hmn, e, Int.toNat_natCast]
    have e1' : bs.take n.toNat = bs.take (min n.toNat l) := by rw [List.take_eq_take_iff]; omega
    have e2' : bs.drop n.toNat = bs.drop (min n.toNat l) := by
      rcases Nat.le_total n.toNat l with hle | hle
      · rw [Nat.min_eq_left hle]
      · rw [Nat.min_eq_right hle, List.drop_of_length_le (by omega), List.drop_of_length_le (by omega)]
    rw [e1', e2']
    refine ⟨⟨by omega, by omega⟩, ⟨by omega, by omega⟩, fun w1 hb1 hk1 => ⟨a, _, c, rfl, ?_, ha, ?_, hk1⟩⟩
    · exact (hr.to (min n.toNat l) (by omega)).keep hk1 (fun x _ hx e => (ha x hx).2 e)
    · exact ⟨hF, fun x hx => Nat.lt_of_lt_of_le (hlt x hx) hk1.size, _, _, _, hb1, (hr.from (min n.toNat l) (by omega)).keep hk1 (fun x _ hx e => (ha x (inA_adv.1 hx)).2 e), fun x hx => ha x (inA_adv.1 hx), by rw [List.length_drop]; omega, h2, h3⟩
  refine condP (fun g => hbad ?_) fun g => condP (fun g2 => hbad ?_) fun g2 => nnI ⟨(e0 : Int), hb.at (i := 1) rfl, condI (fun g3 => hbad ?_) (fun g3 => nnI ⟨a, l, c, hb.at0 rfl, condI (fun g4 => nnI ⟨(e1 : Int), hb.at (i := 2) rfl, condP (fun g5 => hbad ?_) (fun g5 => ?_)⟩) (fun g4 => ?_)⟩)⟩
  · unfold readP; rw [if_pos (by omega)]
  · unfold readP; rw [if_pos (by omega)]
  · simp only [beq_iff_eq] at g3
    unfold readP; rw [if_neg (by omega), if_pos (by omega)]
  all_goals simp only [beq_eq_false_iff_ne, beq_iff_eq] at g3 g4
  · have : bs = [] := List.eq_nil_of_length_eq_zero (by omega)
    unfold readP; rw [if_neg (by omega), if_neg (by omega), if_pos ⟨this, by omega⟩]
  all_goals obtain ⟨f1, f2, f3⟩ := hfin (by omega) (by omega) (by omega) (by first | (rintro ⟨_, _⟩; omega) | (rintro ⟨rfl, _⟩; simp at hlen; omega))
  all_goals exact nnI ⟨a, l, c, hb.at0 rfl, nnI ⟨a, l, c, hb.at0 rfl, f1, nnI ⟨a, l, c, hb.at0 rfl, f2, nnI (stC_blk hb (by simp) fun w1 hb1 hk1 _ => f3 w1 hb1 hk1)⟩⟩⟩
theorem rwrite_ok {w : World} {rb : Nat} {F : Nat → Prop} {bs : List Int} {e0 e1 : Nat} (h : RefP w rb F bs e0 e1) {a2 : Option Addr} {l2 c2 : Nat} {ds : List Int} (hd : RdB w a2 l2 c2 ds) (hdr : ds ≠ [] → ¬ inA a2 rb) (most : Int) :
    CallR Tryz.prog 175 [pt rb, .slice a2 l2 c2, .int .i64 most] w fun v w' => v = .tuple #[.int .i64 (writeP ds most bs e0 e1).1, .int .i64 (writeP ds most bs e0 e1).2.1] ∧
      RefP w' rb (fun x => F x ∨ (w.heap.size ≤ x ∧ x < w'.heap.size)) (writeP ds most bs e0 e1).2.2 e0 e1 ∧ Kept (· = rb) w w' := by
  have hwide : ∀ w', Kept (· = rb) w w' → ∀ bs', RefP w' rb F bs' e0 e1 → RefP w' rb (fun x => F x ∨ (w.heap.size ≤ x ∧ x < w'.heap.size)) bs' e0 e1 := by
    rintro w' k bs' ⟨hF, hlt, a, l, c, hb, hr, ha, h1⟩
    exact ⟨.inl hF, fun x hx => hx.elim (hlt x) (·.2), a, l, c, hb, hr, fun x hx => ⟨.inl (ha x hx).1, (ha x hx).2⟩, h1⟩
  have hbad : ∀ {k : Int}, writeP ds most bs e0 e1 = (0, k, bs) → Value.tuple #[.int .i64 0, .int .i64 k] = .tuple #[.int .i64 (writeP ds most bs e0 e1).1, .int .i64 (writeP ds most bs e0 e1).2.1] ∧
      RefP w rb (fun x => F x ∨ (w.heap.size ≤ x ∧ x < w.heap.size)) (writeP ds most bs e0 e1).2.2 e0 e1 ∧ Kept (· = rb) w w := by
    intro k e; rw [e]; exact ⟨rfl, hwide w (Kept.refl _ _) _ h, Kept.refl _ _⟩
  have h' := h
  obtain ⟨hF, hlt, a, l, c, hb, hr, ha, h1, h2, h3⟩ := h'
  have hlen := hr.len
  have hdl := hd.len
  have hlc : l2 ≤ c2 := hd.2.1
  refine C175 ?_
  unfold L175
  refine nnI ⟨a, l, c, hb.at0 rfl, by unfold inI; omega, fun vs w' => w' = w ∧ ∃ k : Nat, vs = [.int .i64 (k : Int)] ∧ (k : Int) = wtk l2 most l ∧ k ≤ l2 ∧ l + k ≤ 4096 ∧ writeP ds most bs e0 e1 = ((k : Int), 0, bs ++ ds.take k), ?_, ?_⟩
  · have hgood : l2 ≤ 1048576 → 1 ≤ most → most ≤ 1048576 → e1 ≠ 0 → e0 ≠ 0 → l2 ≠ 0 → takesP l l2 ≠ 0 → ∀ m : Int, m = wtk l2 most l → w = w ∧ ∃ k : Nat, [Value.int .i64 m] = [.int .i64 (k : Int)] ∧ (k : Int) = wtk l2 most l ∧ k ≤ l2 ∧ l + k ≤ 4096 ∧ writeP ds most bs e0 e1 = ((k : Int), 0, bs ++ ds.take k) := by
      intro f1 f2 f3 f4 f5 f6 f7 m hm
      have ht0 : 0 ≤ takesP l l2 ∧ takesP l l2 ≤ l2 ∧ (l : Int) + takesP l l2 ≤ 4096 := by unfold takesP; split <;> omega
      have hw0 : 0 ≤ wtk l2 most l ∧ wtk l2 most l ≤ l2 ∧ (l : Int) + wtk l2 most l ≤ 4096 := by unfold wtk; split <;> omega
      have hne : ds ≠ [] := by rintro rfl; simp at hdl; omega
      have e : writeP ds most bs e0 e1 = (wtk l2 most l, 0, bs ++ ds.take (wtk l2 most l).toNat) := by
        unfold writeP; rw [if_neg (by omega), if_neg (by omega), if_neg (by omega), if_neg (by omega), if_neg hne, if_neg (by rw [hlen, hdl]; exact f7), hlen, hdl]
      refine ⟨rfl, (wtk l2 most l).toNat, by rw [hm]; congr 2; omega, by omega, by omega, by omega, ?_⟩
      rw [e]; congr 1; omega
    refine condP (fun g => hbad ?_) fun g => condP (fun g2 => hbad ?_) fun g2 => condP (fun g3 => hbad ?_) fun g3 => nnI ⟨(e1 : Int), hb.at (i := 2) rfl, condI (fun g4 => hbad ?_) (fun g4 => nnI ⟨(e0 : Int), hb.at (i := 1) rfl, condI (fun g5 => hbad ?_) (fun g5 => condI (fun g6 => hbad ?_) (fun g6 => ?_))⟩)⟩
    · unfold writeP; rw [if_pos (by omega)]
    · unfold writeP; rw [if_neg (by omega), if_pos (by omega)]
    · unfold writeP; rw [if_neg (by omega), if_pos (by omega)]
    all_goals simp only [beq_eq_false_iff_ne, beq_iff_eq] at g4
    · unfold writeP; rw [if_neg (by omega), if_neg (by omega), if_pos (by omega)]
    all_goals simp only [beq_eq_false_iff_ne, beq_iff_eq] at g5
    · unfold writeP; rw [if_neg (by omega), if_neg (by omega), if_neg (by omega), if_pos (by omega)]
    all_goals simp only [beq_eq_false_iff_ne, beq_iff_eq] at g6
    · have : ds = [] := List.eq_nil_of_length_eq_zero (by omega)
      unfold writeP; rw [if_neg (by omega), if_neg (by omega), if_neg (by omega), if_neg (by omega), if_pos this]
    have hne : ds ≠ [] := by rintro rfl; simp at hdl; omega
    have hblk : takesP l l2 = 0 → writeP ds most bs e0 e1 = (0, 52, bs) := by
      intro e
      unfold writeP; rw [if_neg (by omega), if_neg (by omega), if_neg (by omega), if_neg (by omega), if_neg hne, if_pos (by rw [hlen, hdl]; exact e)]
    refine condP (fun g7 => condP (fun g8 => hbad (hblk ?_)) (fun g8 => condI (fun g9 => hbad (hblk ?_)) (fun g9 => condP (fun g10 => hgood ?_ ?_ ?_ ?_ ?_ ?_ ?_ _ ?_) (fun g10 => ?_)))) (fun g7 => condI (fun g9 => hbad (hblk ?_)) (fun g9 => condP (fun g10 => ?_) (fun g10 => hgood ?_ ?_ ?_ ?_ ?_ ?_ ?_ _ ?_)))
    all_goals (try simp only [beq_eq_false_iff_ne, beq_iff_eq] at g9)
    all_goals first | omega | (unfold takesP; split <;> omega) | (unfold wtk takesP; rw [if_neg (by omega), if_neg (by omega)]; omega) | (unfold wtk takesP; rw [if_pos (by omega), if_neg (by omega), mn_eq, mn_eq] <;> omega)
  · rintro _ n11 w1 ⟨rfl, k, hvs, hk, hkl, hk4, e⟩
    simp only [List.cons.injEq, Value.int.injEq, true_and, and_true] at hvs
    subst hvs
    rw [e]
    intro w2
    have hk2 : Kept No w1 w2 := Kept.drew _ _
    have hb2 : Blk w2 rb #[.slice a l c, .int .i64 (e0 : Int), .int .i64 (e1 : Int)] := hb
    have hr2 : RdB w2 a l c bs := hr
    have hd2 : RdB w2 a2 l2 c2 ds := hd
    have hsz2 : w2.heap.size = w1.heap.size := rfl
    clear_value w2
    have hrb : rb < w1.heap.size := hb.lt
    obtain ⟨a', c', w3, hrun, hs, hk3, hat, hnn⟩ := run_app_sl (P := Tryz.prog) (t := 40) (t2 := 40) (ty := 40) (by kernel_rfl : slTyB Tryz.prog 40 1 1 = true) (by kernel_rfl) (SlO.nil 1 w2) hr2 (By_one bs) (by omega) (by omega)
    simp only [Nat.zero_add, List.nil_append] at hrun hs
    have hk3 : Kept No w2 w3 := hk3.mono fun b _ hb => inA_none b hb
    have hd3 : RdB w3 a2 k c2 (ds.take k) := (hd2.keep hk3 (fun _ _ _ e => e)).to k (by omega)
    obtain ⟨a5, c5, w4, hrun4, hs4, hk4', hat4, hnn4⟩ := run_app_sl (P := Tryz.prog) (t := 40) (t2 := 40) (ty := 40) (by kernel_rfl : slTyB Tryz.prog 40 1 1 = true) (by kernel_rfl) hs hd3 (By_one _) (by omega) (by omega)
    have hfr : Fresh w2 a' := hat.fresh (Fresh.none w2) (Nat.le_refl _)
    have hk4 : Kept No w2 w4 := hk3.fresh hk4' hfr
    have hfr5 : Fresh w2 a5 := hat4.fresh hfr hk3.size
    refine nnI ⟨a, l, c, hb2.at0 rfl, ⟨by omega, by omega⟩, a', l, c', w3, hrun, a5, l + k, c5, w4, by rw [Int.toNat_natCast]; exact hrun4, nnI ?_⟩
    refine stC_blk (hb2.keep hk4 (fun e => e)) (by simp) fun w5 hb5 hk5 hsz5 => ⟨rfl, ?_, ((hk2.trans hk4 fun _ _ e => e).mono fun _ _ e => e.elim).trans hk5 fun _ _ e => e⟩
    have hsz4 := hk4.size
    refine ⟨.inl hF, fun x hx => hx.elim (fun hx => by have := hlt x hx; omega) (·.2), a5, l + k, c5, hb5, ?_, fun x hx => ⟨.inr ⟨by have := hfr5 x hx; omega, ?_⟩, by have := hfr5 x hx; omega⟩, by rw [List.length_append, List.length_take]; omega, h2, h3⟩
    · rw [← By_append] at hs4
      exact RdB.keep (OB.rd (bs := bs ++ ds.take k) hs4) hk5 (fun x _ hx e => by have := hfr5 x hx; omega)
    · have := SlO.lt hs4 x hx
      omega
end Go.Proofs.YtpoaacnnhgebfaaGreat
set_option maxRecDepth 100000
namespace Go.Proofs.YtpoaacnnhgebfaaGreat
open Go.Lw
def A56 : Ann := ⟨[(4, [(3, .one (.int .i64))])], [], [], [], [], []⟩
def L56 (s1 : ByteArray) (Q : Value → World → Prop) (w : World) : Prop :=
  cond (ByteArray.toList s1 == ByteArray.toList (ByteArray.mk #[]))
  (Q (.bool false) w)
  (cond (decide ((((ByteArray.size s1 : Nat) : Int)) > 64))
  (Q (.bool false) w)
  (∃ (I2 : List Value → World → Prop) (mu3 : List Value → World → Nat),
  I2 [.int .i64 0] w ∧
  ∀ (_ : Env) (n4 : Int) (w1 : World), I2 [.int .i64 n4] w1 →
  cond (decide (n4 < (((ByteArray.size s1 : Nat) : Int))))
  ((0 ≤ (n4 : Int) ∧ (n4 : Int) < ((ByteArray.size s1 : Nat) : Int)) ∧
  cond (decide ((byteAt s1 n4) < 33))
  (Q (.bool false) w1)
  ((0 ≤ (n4 : Int) ∧ (n4 : Int) < ((ByteArray.size s1 : Nat) : Int)) ∧
  cond (decide ((byteAt s1 n4) > 126))
  (Q (.bool false) w1)
  (inI (n4 + 1) ∧
  I2 [.int .i64 (n4 + 1)] w1 ∧ mu3 [.int .i64 (n4 + 1)] w1 < mu3 [.int .i64 n4] w1)))
  (Q (.bool true) w1)))
theorem C56 {s1 : ByteArray} {Q : Value → World → Prop} {w : World} (h : L56 s1 Q w) : CallR Tryz.prog 56 [.string s1] w Q :=
  fun_calls (A := A56) mixed Tryz.func56 (c := (Tryz.f56.body).getD .skip) rfl (by kernel_rfl) (Eq.mp (by kernel_rfl) h)
def A57 : Ann := ⟨[(2, [(5, .one (.int .i64))])], [], [], [], [], []⟩
def L57 (a1 : Option Addr) (l1 : Nat) (c1 : Nat) (s2 : ByteArray) (Q : Value → World → Prop) (w : World) : Prop :=
  ∃ (I3 : List Value → World → Prop) (mu4 : List Value → World → Nat),
  I3 [.int .i64 0] w ∧
  ∀ (_ : Env) (n5 : Int) (w1 : World), I3 [.int .i64 n5] w1 →
  cond (decide (n5 < (((l1 : Nat) : Int))))
  ((0 ≤ (n5 : Int) ∧ (n5 : Int) < ((l1 : Nat) : Int)) ∧
  nn a1 (fun (q6 : Addr) =>
  ∃ (s7 : ByteArray), w1.cell? (Addr.add q6 (Int.toNat n5)) = some ((.string s7 : Value)) ∧
  cond (ByteArray.toList s7 == ByteArray.toList s2)
  (Q (.bool true) w1)
  (inI (n5 + 1) ∧
  I3 [.int .i64 (n5 + 1)] w1 ∧ mu4 [.int .i64 (n5 + 1)] w1 < mu4 [.int .i64 n5] w1)))
  (Q (.bool false) w1)
theorem C57 {a1 : Option Addr} {l1 : Nat} {c1 : Nat} {s2 : ByteArray} {Q : Value → World → Prop} {w : World} (h : L57 a1 l1 c1 s2 Q w) : CallR Tryz.prog 57 [.slice a1 l1 c1, .string s2] w Q :=
  fun_calls (A := A57) mixed Tryz.func57 (c := (Tryz.f57.body).getD .skip) rfl (by kernel_rfl) (Eq.mp (by kernel_rfl) h)
def A9 : Ann := ⟨[(5, [(7, .one (.slice)), (8, .one (.int .i64))]), (15, [(7, .one (.slice)), (9, .one (.int .i64))])], [], [], [], [], []⟩
def L9 (a1 : Option Addr) (l1 : Nat) (c1 : Nat) (a2 : Option Addr) (l2 : Nat) (c2 : Nat) (a3 : Option Addr) (l3 : Nat) (c3 : Nat) (Q : Value → World → Prop) (w : World) : Prop :=
  inI ((((l1 : Nat) : Int)) + (((l2 : Nat) : Int))) ∧
  cond (decide (((((l1 : Nat) : Int)) + (((l2 : Nat) : Int))) > 256))
  (Q (.int .i64 3) w)
  (∃ (I4 : List Value → World → Prop) (mu5 : List Value → World → Nat),
  I4 [.slice none 0 0, .int .i64 0] w ∧
  ∀ (_ : Env) (a6 : Option Addr) (l6 : Nat) (c6 : Nat) (n7 : Int) (w1 : World), I4 [.slice a6 l6 c6, .int .i64 n7] w1 →
  cond (decide (n7 < (((l1 : Nat) : Int))))
  ((0 ≤ (n7 : Int) ∧ (n7 : Int) < ((l1 : Nat) : Int)) ∧
  nn a1 (fun (q8 : Addr) =>
  ∃ (s9 : ByteArray), w1.cell? (Addr.add q8 (Int.toNat n7 * 2)) = some ((.string s9 : Value)) ∧
  CallR Tryz.prog 56 [.string s9] w1 (fun (r11 : Value) (w2 : World) =>
  ∃ (b10 : Bool), r11 = .bool b10 ∧
  cond (!b10)
  (Q (.int .i64 61) w2)
  ((0 ≤ (n7 : Int) ∧ (n7 : Int) < ((l1 : Nat) : Int)) ∧
  nn a1 (fun (q12 : Addr) =>
  ∃ (s13 : ByteArray), w2.cell? (Addr.add q12 (Int.toNat n7 * 2)) = some ((.string s13 : Value)) ∧
  CallR Tryz.prog 57 [.slice a6 l6 c6, .string s13] w2 (fun (r15 : Value) (w3 : World) =>
  ∃ (b14 : Bool), r15 = .bool b14 ∧
  cond b14
  (Q (.int .i64 6) w3)
  ((0 ≤ (n7 : Int) ∧ (n7 : Int) < ((l1 : Nat) : Int)) ∧
  nn a1 (fun (q16 : Addr) =>
  ∃ (a17 : Option Addr) (l17 : Nat) (c17 : Nat), w3.cell? (Addr.add (Addr.add q16 (Int.toNat n7 * 2)) 1) = some ((.slice a17 l17 c17 : Value)) ∧
  cond (decide ((((l17 : Nat) : Int)) > 1048576))
  (Q (.int .i64 5) w3)
  ((0 ≤ (n7 : Int) ∧ (n7 : Int) < ((l1 : Nat) : Int)) ∧
  nn a1 (fun (q18 : Addr) =>
  ∃ (s19 : ByteArray), w3.cell? (Addr.add q18 (Int.toNat n7 * 2)) = some ((.string s19 : Value)) ∧
  let w4 := World.alloc w3 (Obj.cells #[.string s19] 9);
  ∃ (a20 : Option Addr) (l20 : Nat) (c20 : Nat) (w5 : World), Sem.run Tryz.prog (Builtin.append_ #[131, 131] 131 #[.slice a6 l6 c6, .slice (some (Addr.mk w3.heap.size 0 none)) 1 1]) w4 = .ok ((.slice a20 l20 c20 : Value)) w5 ∧
  inI (n7 + 1) ∧
  I4 [.slice a20 l20 c20, .int .i64 (n7 + 1)] w5 ∧ mu5 [.slice a20 l20 c20, .int .i64 (n7 + 1)] w5 < mu5 [.slice a6 l6 c6, .int .i64 n7] w1))))))))))
  (∃ (I21 : List Value → World → Prop) (mu22 : List Value → World → Nat),
  I21 [.slice a6 l6 c6, .int .i64 0] w1 ∧
  ∀ (_ : Env) (a23 : Option Addr) (l23 : Nat) (c23 : Nat) (n24 : Int) (w6 : World), I21 [.slice a23 l23 c23, .int .i64 n24] w6 →
  cond (decide (n24 < (((l2 : Nat) : Int))))
  ((0 ≤ (n24 : Int) ∧ (n24 : Int) < ((l2 : Nat) : Int)) ∧
  nn a2 (fun (q25 : Addr) =>
  ∃ (s26 : ByteArray), w6.cell? (Addr.add q25 (Int.toNat n24 * 2)) = some ((.string s26 : Value)) ∧
  CallR Tryz.prog 56 [.string s26] w6 (fun (r28 : Value) (w7 : World) =>
  ∃ (b27 : Bool), r28 = .bool b27 ∧
  cond (!b27)
  (Q (.int .i64 61) w7)
  ((0 ≤ (n24 : Int) ∧ (n24 : Int) < ((l2 : Nat) : Int)) ∧
  nn a2 (fun (q29 : Addr) =>
  ∃ (s30 : ByteArray), w7.cell? (Addr.add q29 (Int.toNat n24 * 2)) = some ((.string s30 : Value)) ∧
  CallR Tryz.prog 57 [.slice a23 l23 c23, .string s30] w7 (fun (r32 : Value) (w8 : World) =>
  ∃ (b31 : Bool), r32 = .bool b31 ∧
  cond b31
  (Q (.int .i64 6) w8)
  ((0 ≤ (n24 : Int) ∧ (n24 : Int) < ((l2 : Nat) : Int)) ∧
  nn a2 (fun (q33 : Addr) =>
  ∃ (a34 : Option Addr) (l34 : Nat) (c34 : Nat), w8.cell? (Addr.add (Addr.add q33 (Int.toNat n24 * 2)) 1) = some ((.slice a34 l34 c34 : Value)) ∧
  CallR Tryz.prog 58 [.slice a34 l34 c34] w8 (fun (r36 : Value) (w9 : World) =>
  ∃ (n35 : Int), r36 = .int .i64 n35 ∧
  cond (n35 != 0)
  (Q (.int .i64 n35) w9)
  ((0 ≤ (n24 : Int) ∧ (n24 : Int) < ((l2 : Nat) : Int)) ∧
  nn a2 (fun (q37 : Addr) =>
  ∃ (s38 : ByteArray), w9.cell? (Addr.add q37 (Int.toNat n24 * 2)) = some ((.string s38 : Value)) ∧
  let w10 := World.alloc w9 (Obj.cells #[.string s38] 9);
  ∃ (a39 : Option Addr) (l39 : Nat) (c39 : Nat) (w11 : World), Sem.run Tryz.prog (Builtin.append_ #[131, 131] 131 #[.slice a23 l23 c23, .slice (some (Addr.mk w9.heap.size 0 none)) 1 1]) w10 = .ok ((.slice a39 l39 c39 : Value)) w11 ∧
  inI (n24 + 1) ∧
  I21 [.slice a39 l39 c39, .int .i64 (n24 + 1)] w11 ∧ mu22 [.slice a39 l39 c39, .int .i64 (n24 + 1)] w11 < mu22 [.slice a23 l23 c23, .int .i64 n24] w6)))))))))))
  (CallR Tryz.prog 59 [.slice a3 l3 c3] w6 (fun (r42 : Value) (w12 : World) =>
  ∃ (n40 : Int) (n41 : Int), r42 = .tuple #[.int .i64 n40, .int .i64 n41] ∧
  Q (.int .i64 n40) w12))))
theorem C9 {a1 : Option Addr} {l1 : Nat} {c1 : Nat} {a2 : Option Addr} {l2 : Nat} {c2 : Nat} {a3 : Option Addr} {l3 : Nat} {c3 : Nat} {Q : Value → World → Prop} {w : World} (h : L9 a1 l1 c1 a2 l2 c2 a3 l3 c3 Q w) : CallR Tryz.prog 9 [.slice a1 l1 c1, .slice a2 l2 c2, .slice a3 l3 c3] w Q :=
  fun_calls (A := A9) mixed Tryz.func9 (c := (Tryz.f9.body).getD .skip) rfl (by kernel_rfl) (Eq.mp (by kernel_rfl) h)
def A60 : Ann := ⟨[(3, [(8, .one (.int .i64))]), (8, [(11, .one (.int .i64))])], [], [], [], [], []⟩
def L60 (a1 : Option Addr) (l1 : Nat) (c1 : Nat) (a2 : Option Addr) (l2 : Nat) (c2 : Nat) (a3 : Option Addr) (l3 : Nat) (c3 : Nat) (Q : Value → World → Prop) (w : World) : Prop :=
  let w1 := World.alloc w (Obj.cells #[.slice a3 l3 c3] 160);
  let w2 := World.alloc w1 (Obj.cells #[.slice none 0 0, .slice none 0 0, .int .i64 1, .pointer (some (Addr.mk w.heap.size 0 none)), .int .i64 0, .int .i64 0] 154);
  ∃ (I4 : List Value → World → Prop) (mu5 : List Value → World → Nat),
  I4 [.int .i64 0] w2 ∧
  ∀ (_ : Env) (n6 : Int) (w3 : World), I4 [.int .i64 n6] w3 →
  cond (decide (n6 < (((l1 : Nat) : Int))))
  ((0 ≤ (n6 : Int) ∧ (n6 : Int) < ((l1 : Nat) : Int)) ∧
  nn a1 (fun (q7 : Addr) =>
  ∃ (a8 : Option Addr) (l8 : Nat) (c8 : Nat), w3.cell? (Addr.add (Addr.add q7 (Int.toNat n6 * 2)) 1) = some ((.slice a8 l8 c8 : Value)) ∧
  CallR Tryz.prog 127 [.slice a8 l8 c8] w3 (fun (r11 : Value) (w4 : World) =>
  ∃ (p9 : Option Addr) (n10 : Int), r11 = .tuple #[.pointer p9, .int .i64 n10] ∧
  (0 ≤ (n6 : Int) ∧ (n6 : Int) < ((l1 : Nat) : Int)) ∧
  nn a1 (fun (q12 : Addr) =>
  ∃ (s13 : ByteArray), w4.cell? (Addr.add q12 (Int.toNat n6 * 2)) = some ((.string s13 : Value)) ∧
  let w5 := World.alloc w4 (Obj.cells #[.string s13, .int .i64 1, .pointer p9, .pointer none, .pointer none] 202);
  CallR Tryz.prog 128 [.pointer (some (Addr.mk w1.heap.size 0 none)), .pointer (some (Addr.mk w4.heap.size 0 none))] w5 (fun (r14 : Value) (w6 : World) =>
  r14 = .tuple #[] ∧
  inI (n6 + 1) ∧
  I4 [.int .i64 (n6 + 1)] w6 ∧ mu5 [.int .i64 (n6 + 1)] w6 < mu5 [.int .i64 n6] w3)))))
  (∃ (I15 : List Value → World → Prop) (mu16 : List Value → World → Nat),
  I15 [.int .i64 0] w3 ∧
  ∀ (_ : Env) (n17 : Int) (w7 : World), I15 [.int .i64 n17] w7 →
  cond (decide (n17 < (((l2 : Nat) : Int))))
  ((0 ≤ (n17 : Int) ∧ (n17 : Int) < ((l2 : Nat) : Int)) ∧
  nn a2 (fun (q18 : Addr) =>
  ∃ (a19 : Option Addr) (l19 : Nat) (c19 : Nat), w7.cell? (Addr.add (Addr.add q18 (Int.toNat n17 * 2)) 1) = some ((.slice a19 l19 c19 : Value)) ∧
  CallR Tryz.prog 159 [.slice a19 l19 c19] w7 (fun (r22 : Value) (w8 : World) =>
  ∃ (p20 : Option Addr) (n21 : Int), r22 = .tuple #[.pointer p20, .int .i64 n21] ∧
  (0 ≤ (n17 : Int) ∧ (n17 : Int) < ((l2 : Nat) : Int)) ∧
  nn a2 (fun (q23 : Addr) =>
  ∃ (s24 : ByteArray), w8.cell? (Addr.add q23 (Int.toNat n17 * 2)) = some ((.string s24 : Value)) ∧
  let w9 := World.alloc w8 (Obj.cells #[.string s24, .int .i64 2, .pointer none, .pointer p20, .pointer none] 202);
  CallR Tryz.prog 128 [.pointer (some (Addr.mk w1.heap.size 0 none)), .pointer (some (Addr.mk w8.heap.size 0 none))] w9 (fun (r25 : Value) (w10 : World) =>
  r25 = .tuple #[] ∧
  inI (n17 + 1) ∧
  I15 [.int .i64 (n17 + 1)] w10 ∧ mu16 [.int .i64 (n17 + 1)] w10 < mu16 [.int .i64 n17] w7)))))
  (Q (.pointer (some (Addr.mk w1.heap.size 0 none))) w7))
theorem C60 {a1 : Option Addr} {l1 : Nat} {c1 : Nat} {a2 : Option Addr} {l2 : Nat} {c2 : Nat} {a3 : Option Addr} {l3 : Nat} {c3 : Nat} {Q : Value → World → Prop} {w : World} (h : L60 a1 l1 c1 a2 l2 c2 a3 l3 c3 Q w) : CallR Tryz.prog 60 [.slice a1 l1 c1, .slice a2 l2 c2, .slice a3 l3 c3] w Q :=
  fun_calls (A := A60) mixed Tryz.func60 (c := (Tryz.f60.body).getD .skip) rfl (by kernel_rfl) (Eq.mp (by kernel_rfl) h)
def A128 : Ann := ⟨[(2, [(4, .one (.int .i64))])], [], [], [(4, [0, 1, 2, 3, 4, 5, 6, 7, 8, 9, 10, 11, 12, 13, 14, 15, 16, 17, 18, 19, 20, 21, 22, 23, 24, 25, 26, 27, 28, 29])], [], []⟩
def L128 (p1 : Option Addr) (p2 : Option Addr) (Q : Value → World → Prop) (w : World) : Prop :=
  nn p1 (fun (q3 : Addr) =>
  ∃ (a4 : Option Addr) (l4 : Nat) (c4 : Nat), w.cell? q3 = some ((.slice a4 l4 c4 : Value)) ∧
  let w1 := World.alloc w (Obj.cells #[.pointer p2] 195);
  ∃ (a5 : Option Addr) (l5 : Nat) (c5 : Nat) (w2 : World), Sem.run Tryz.prog (Builtin.append_ #[150, 150] 150 #[.slice a4 l4 c4, .slice (some (Addr.mk w.heap.size 0 none)) 1 1]) w1 = .ok ((.slice a5 l5 c5 : Value)) w2 ∧
  nn p1 (fun (q6 : Addr) =>
  stC q6 (.slice a5 l5 c5) w2 (fun (w3 : World) =>
  nn p1 (fun (q7 : Addr) =>
  ∃ (a8 : Option Addr) (l8 : Nat) (c8 : Nat), w3.cell? q7 = some ((.slice a8 l8 c8 : Value)) ∧
  inI ((((l8 : Nat) : Int)) - 1) ∧
  ∃ (I9 : List Value → World → Prop) (mu10 : List Value → World → Nat),
  I9 [.int .i64 ((((l8 : Nat) : Int)) - 1)] w3 ∧
  ∀ (_ : Env) (n11 : Int) (w4 : World), I9 [.int .i64 n11] w4 →
  cond (decide (n11 > 0))
  (nn p1 (fun (q13 : Addr) =>
  ∃ (a14 : Option Addr) (l14 : Nat) (c14 : Nat), w4.cell? q13 = some ((.slice a14 l14 c14 : Value)) ∧
  inI (n11 - 1) ∧
  (0 ≤ (n11 - 1 : Int) ∧ (n11 - 1 : Int) < ((l14 : Nat) : Int)) ∧
  nn a14 (fun (q15 : Addr) =>
  ∃ (p16 : Option Addr), w4.cell? (Addr.add q15 (Int.toNat (n11 - 1))) = some ((.pointer p16 : Value)) ∧
  nn p16 (fun (q17 : Addr) =>
  ∃ (s18 : ByteArray), w4.cell? q17 = some ((.string s18 : Value)) ∧
  nn p2 (fun (q19 : Addr) =>
  ∃ (s20 : ByteArray), w4.cell? q19 = some ((.string s20 : Value)) ∧
  ∀ nd12 : Nat, let w5 := World.drewN w4 nd12;
  cond (!(Op.bytesLess (ByteArray.toList s18) (ByteArray.toList s20) || (ByteArray.toList s18 == ByteArray.toList s20)))
  (let w6 := World.drew w5;
  nn p1 (fun (q21 : Addr) =>
  ∃ (a22 : Option Addr) (l22 : Nat) (c22 : Nat), w6.cell? q21 = some ((.slice a22 l22 c22 : Value)) ∧
  nn p1 (fun (q23 : Addr) =>
  ∃ (a24 : Option Addr) (l24 : Nat) (c24 : Nat), w6.cell? q23 = some ((.slice a24 l24 c24 : Value)) ∧
  inI (n11 - 1) ∧
  nn p1 (fun (q25 : Addr) =>
  ∃ (a26 : Option Addr) (l26 : Nat) (c26 : Nat), w6.cell? q25 = some ((.slice a26 l26 c26 : Value)) ∧
  inI (n11 - 1) ∧
  (0 ≤ (n11 - 1 : Int) ∧ (n11 - 1 : Int) < ((l26 : Nat) : Int)) ∧
  nn a26 (fun (q27 : Addr) =>
  ∃ (p28 : Option Addr), w6.cell? (Addr.add q27 (Int.toNat (n11 - 1))) = some ((.pointer p28 : Value)) ∧
  nn p1 (fun (q29 : Addr) =>
  ∃ (a30 : Option Addr) (l30 : Nat) (c30 : Nat), w6.cell? q29 = some ((.slice a30 l30 c30 : Value)) ∧
  (0 ≤ (n11 : Int) ∧ (n11 : Int) < ((l30 : Nat) : Int)) ∧
  nn a30 (fun (q31 : Addr) =>
  ∃ (p32 : Option Addr), w6.cell? (Addr.add q31 (Int.toNat n11)) = some ((.pointer p32 : Value)) ∧
  (0 ≤ (n11 : Int) ∧ (n11 : Int) < ((l22 : Nat) : Int)) ∧
  nn a22 (fun (q33 : Addr) =>
  stC (Addr.add q33 (Int.toNat n11)) (.pointer p28) w6 (fun (w7 : World) =>
  (0 ≤ (n11 - 1 : Int) ∧ (n11 - 1 : Int) < ((l24 : Nat) : Int)) ∧
  nn a24 (fun (q34 : Addr) =>
  stC (Addr.add q34 (Int.toNat (n11 - 1))) (.pointer p32) w7 (fun (w8 : World) =>
  inI (n11 - 1) ∧
  I9 [.int .i64 (n11 - 1)] w8 ∧ mu10 [.int .i64 (n11 - 1)] w8 < mu10 [.int .i64 n11] w4)))))))))))
  (Q (.tuple #[]) w5))))))
  (∀ nd12 : Nat, let w5 := World.drewN w4 nd12;
  Q (.tuple #[]) w5)))))
theorem C128 {p1 : Option Addr} {p2 : Option Addr} {Q : Value → World → Prop} {w : World} (h : L128 p1 p2 Q w) : CallR Tryz.prog 128 [.pointer p1, .pointer p2] w Q :=
  fun_calls (A := A128) mixed Tryz.func128 (c := (Tryz.f128.body).getD .skip) rfl (by kernel_rfl) (Eq.mp (by kernel_rfl) h)
def A168 : Ann := ⟨[(2, [(5, .one (.int .i64))])], [], [], [], [], []⟩
def L168 (p1 : Option Addr) (n2 : Int) (Q : Value → World → Prop) (w : World) : Prop :=
  ∃ (I3 : List Value → World → Prop) (mu4 : List Value → World → Nat),
  I3 [.int .i64 0] w ∧
  ∀ (_ : Env) (n5 : Int) (w1 : World), I3 [.int .i64 n5] w1 →
  nn p1 (fun (q6 : Addr) =>
  ∃ (a7 : Option Addr) (l7 : Nat) (c7 : Nat), w1.cell? (Addr.add q6 1) = some ((.slice a7 l7 c7 : Value)) ∧
  cond (decide (n5 < (((l7 : Nat) : Int))))
  (nn p1 (fun (q8 : Addr) =>
  ∃ (a9 : Option Addr) (l9 : Nat) (c9 : Nat), w1.cell? (Addr.add q8 1) = some ((.slice a9 l9 c9 : Value)) ∧
  (0 ≤ (n5 : Int) ∧ (n5 : Int) < ((l9 : Nat) : Int)) ∧
  nn a9 (fun (q10 : Addr) =>
  ∃ (p11 : Option Addr), w1.cell? (Addr.add q10 (Int.toNat n5)) = some ((.pointer p11 : Value)) ∧
  nn p11 (fun (q12 : Addr) =>
  ∃ (n13 : Int), w1.cell? q12 = some ((.int .i64 n13 : Value)) ∧
  cond (n13 == n2)
  (nn p1 (fun (q14 : Addr) =>
  ∃ (a15 : Option Addr) (l15 : Nat) (c15 : Nat), w1.cell? (Addr.add q14 1) = some ((.slice a15 l15 c15 : Value)) ∧
  (0 ≤ (n5 : Int) ∧ (n5 : Int) < ((l15 : Nat) : Int)) ∧
  nn a15 (fun (q16 : Addr) =>
  ∃ (p17 : Option Addr), w1.cell? (Addr.add q16 (Int.toNat n5)) = some ((.pointer p17 : Value)) ∧
  Q (.pointer p17) w1)))
  (inI (n5 + 1) ∧
  I3 [.int .i64 (n5 + 1)] w1 ∧ mu4 [.int .i64 (n5 + 1)] w1 < mu4 [.int .i64 n5] w1)))))
  (Q (.pointer none) w1))
theorem C168 {p1 : Option Addr} {n2 : Int} {Q : Value → World → Prop} {w : World} (h : L168 p1 n2 Q w) : CallR Tryz.prog 168 [.pointer p1, .int .i64 n2] w Q :=
  fun_calls (A := A168) mixed Tryz.func168 (c := (Tryz.f168.body).getD .skip) rfl (by kernel_rfl) (Eq.mp (by kernel_rfl) h)
def A126 : Ann := ⟨[(2, [(5, .one (.int .i64))])], [], [], [], [], []⟩
def L126 (p1 : Option Addr) (s2 : ByteArray) (Q : Value → World → Prop) (w : World) : Prop :=
  ∃ (I3 : List Value → World → Prop) (mu4 : List Value → World → Nat),
  I3 [.int .i64 0] w ∧
  ∀ (_ : Env) (n5 : Int) (w1 : World), I3 [.int .i64 n5] w1 →
  nn p1 (fun (q6 : Addr) =>
  ∃ (a7 : Option Addr) (l7 : Nat) (c7 : Nat), w1.cell? q6 = some ((.slice a7 l7 c7 : Value)) ∧
  cond (decide (n5 < (((l7 : Nat) : Int))))
  (nn p1 (fun (q8 : Addr) =>
  ∃ (a9 : Option Addr) (l9 : Nat) (c9 : Nat), w1.cell? q8 = some ((.slice a9 l9 c9 : Value)) ∧
  (0 ≤ (n5 : Int) ∧ (n5 : Int) < ((l9 : Nat) : Int)) ∧
  nn a9 (fun (q10 : Addr) =>
  ∃ (p11 : Option Addr), w1.cell? (Addr.add q10 (Int.toNat n5)) = some ((.pointer p11 : Value)) ∧
  nn p11 (fun (q12 : Addr) =>
  ∃ (s13 : ByteArray), w1.cell? q12 = some ((.string s13 : Value)) ∧
  cond (ByteArray.toList s13 == ByteArray.toList s2)
  (nn p1 (fun (q14 : Addr) =>
  ∃ (a15 : Option Addr) (l15 : Nat) (c15 : Nat), w1.cell? q14 = some ((.slice a15 l15 c15 : Value)) ∧
  (0 ≤ (n5 : Int) ∧ (n5 : Int) < ((l15 : Nat) : Int)) ∧
  nn a15 (fun (q16 : Addr) =>
  ∃ (p17 : Option Addr), w1.cell? (Addr.add q16 (Int.toNat n5)) = some ((.pointer p17 : Value)) ∧
  Q (.pointer p17) w1)))
  (inI (n5 + 1) ∧
  I3 [.int .i64 (n5 + 1)] w1 ∧ mu4 [.int .i64 (n5 + 1)] w1 < mu4 [.int .i64 n5] w1)))))
  (Q (.pointer none) w1))
theorem C126 {p1 : Option Addr} {s2 : ByteArray} {Q : Value → World → Prop} {w : World} (h : L126 p1 s2 Q w) : CallR Tryz.prog 126 [.pointer p1, .string s2] w Q :=
  fun_calls (A := A126) mixed Tryz.func126 (c := (Tryz.f126.body).getD .skip) rfl (by kernel_rfl) (Eq.mp (by kernel_rfl) h)
def A122 : Ann := ⟨[], [], [], [], [(1, [0, 1, 2, 3, 4, 5, 6, 7, 8, 9, 10, 11, 12, 13], 14, [15, 16, 17])], []⟩
def L122 (p1 : Option Addr) (p2 : Option Addr) (n3 : Int) (Q : Value → World → Prop) (w : World) : Prop :=
  ∃ (S4 : World → Prop), S4 (World.drew w) ∧
  let w1 := World.drew w;
  nn p1 (fun (q5 : Addr) =>
  ∃ (a6 : Option Addr) (l6 : Nat) (c6 : Nat), (∀ wS : World, S4 wS → wS.cell? (Addr.add q5 1) = some ((.slice a6 l6 c6 : Value))) ∧
  nn p1 (fun (q7 : Addr) =>
  ∃ (n8 : Int), (∀ wS : World, S4 wS → wS.cell? (Addr.add q7 2) = some ((.int .i64 n8 : Value))) ∧
  let w2 := World.alloc w1 (Obj.cells #[.int .i64 n8, .pointer p2, .int .i64 n3, .int .i64 0, .int .i64 1] 268);
  S4 w2 ∧
  let w3 := World.alloc w2 (Obj.cells #[.pointer (some (Addr.mk w1.heap.size 0 none))] 265);
  S4 w3 ∧
  ∃ (a9 : Option Addr) (l9 : Nat) (c9 : Nat) (w4 : World), Sem.run Tryz.prog (Builtin.append_ #[151, 151] 151 #[.slice a6 l6 c6, .slice (some (Addr.mk w2.heap.size 0 none)) 1 1]) w3 = .ok ((.slice a9 l9 c9 : Value)) w4 ∧
  nn p1 (fun (q10 : Addr) =>
  stC (Addr.add q10 1) (.slice a9 l9 c9) w4 (fun (w5 : World) =>
  nn p1 (fun (q11 : Addr) =>
  ∃ (n12 : Int), w5.cell? (Addr.add q11 2) = some ((.int .i64 n12 : Value)) ∧
  inI (n12 + 1) ∧
  nn p1 (fun (q13 : Addr) =>
  stC (Addr.add q13 2) (.int .i64 (n12 + 1)) w5 (fun (w6 : World) =>
  nn p1 (fun (q14 : Addr) =>
  ∃ (n15 : Int), w6.cell? (Addr.add q14 2) = some ((.int .i64 n15 : Value)) ∧
  inI (n15 - 1) ∧
  Q (.int .i64 (n15 - 1)) w6))))))))
theorem C122 {p1 : Option Addr} {p2 : Option Addr} {n3 : Int} {Q : Value → World → Prop} {w : World} (h : L122 p1 p2 n3 Q w) : CallR Tryz.prog 122 [.pointer p1, .pointer p2, .int .i64 n3] w Q :=
  fun_calls (A := A122) mixed Tryz.func122 (c := (Tryz.f122.body).getD .skip) rfl (by kernel_rfl) (Eq.mp (by kernel_rfl) h)
def A125 : Ann := ⟨[], [], [], [], [], []⟩
def L125 (n1 : Int) (Q : Value → World → Prop) (w : World) : Prop :=
  cond (decide (n1 < 0))
  (Q (.bool false) w)
  (cond (decide (n1 > 63))
  (Q (.bool false) w)
  (cond ((IntKind.wrap .i64 ↑(BitVec.ofInt (IntKind.bits .i64) n1 &&& BitVec.ofInt (IntKind.bits .i64) 3).toNat) == 0)
  (Q (.bool false) w)
  (cond ((IntKind.wrap .i64 ↑(BitVec.ofInt (IntKind.bits .i64) n1 &&& BitVec.ofInt (IntKind.bits .i64) 20).toNat) != 0)
  (cond ((IntKind.wrap .i64 ↑(BitVec.ofInt (IntKind.bits .i64) n1 &&& BitVec.ofInt (IntKind.bits .i64) 2).toNat) == 0)
  (Q (.bool false) w)
  (cond ((IntKind.wrap .i64 ↑(BitVec.ofInt (IntKind.bits .i64) n1 &&& BitVec.ofInt (IntKind.bits .i64) 32).toNat) == 0)
  (Q (.bool true) w)
  (Q (.bool ((IntKind.wrap .i64 ↑(BitVec.ofInt (IntKind.bits .i64) n1 &&& BitVec.ofInt (IntKind.bits .i64) 8).toNat) != 0)) w)))
  (cond ((IntKind.wrap .i64 ↑(BitVec.ofInt (IntKind.bits .i64) n1 &&& BitVec.ofInt (IntKind.bits .i64) 32).toNat) == 0)
  (Q (.bool true) w)
  (Q (.bool ((IntKind.wrap .i64 ↑(BitVec.ofInt (IntKind.bits .i64) n1 &&& BitVec.ofInt (IntKind.bits .i64) 8).toNat) != 0)) w)))))
theorem C125 {n1 : Int} {Q : Value → World → Prop} {w : World} (h : L125 n1 Q w) : CallR Tryz.prog 125 [.int .i64 n1] w Q :=
  fun_calls (A := A125) mixed Tryz.func125 (c := (Tryz.f125.body).getD .skip) rfl (by kernel_rfl) (Eq.mp (by kernel_rfl) h)
def A31 : Ann := ⟨[], [(20, [(8, .one (.ptr))])], [], [], [], []⟩
def L31 (p1 : Option Addr) (s2 : ByteArray) (n3 : Int) (Q : Value → World → Prop) (w : World) : Prop :=
  CallR Tryz.prog 56 [.string s2] w (fun (r5 : Value) (w1 : World) =>
  ∃ (b4 : Bool), r5 = .bool b4 ∧
  cond (!b4)
  (Q (.tuple #[.int .i64 0, .int .i64 61]) w1)
  (CallR Tryz.prog 125 [.int .i64 n3] w1 (fun (r7 : Value) (w2 : World) =>
  ∃ (b6 : Bool), r7 = .bool b6 ∧
  cond (!b6)
  (Q (.tuple #[.int .i64 0, .int .i64 65]) w2)
  (nn p1 (fun (q8 : Addr) =>
  ∃ (a9 : Option Addr) (l9 : Nat) (c9 : Nat), w2.cell? (Addr.add q8 1) = some ((.slice a9 l9 c9 : Value)) ∧
  cond (decide ((((l9 : Nat) : Int)) ≥ 256))
  (Q (.tuple #[.int .i64 0, .int .i64 3]) w2)
  (CallR Tryz.prog 126 [.pointer p1, .string s2] w2 (fun (r11 : Value) (w3 : World) =>
  ∃ (p10 : Option Addr), r11 = .pointer p10 ∧
  ∃ (J12 : List Value → World → Prop),
  (cond (!(Option.isNone p10))
  (cond ((IntKind.wrap .i64 ↑(BitVec.ofInt (IntKind.bits .i64) n3 &&& BitVec.ofInt (IntKind.bits .i64) 32).toNat) != 0)
  (Q (.tuple #[.int .i64 0, .int .i64 63]) w3)
  (cond (Option.isNone p10)
  (cond ((IntKind.wrap .i64 ↑(BitVec.ofInt (IntKind.bits .i64) n3 &&& BitVec.ofInt (IntKind.bits .i64) 8).toNat) == 0)
  (Q (.tuple #[.int .i64 0, .int .i64 62]) w3)
  (cond (Option.isNone p10)
  (nn p1 (fun (q13 : Addr) =>
  ∃ (a14 : Option Addr) (l14 : Nat) (c14 : Nat), w3.cell? q13 = some ((.slice a14 l14 c14 : Value)) ∧
  cond (decide ((((l14 : Nat) : Int)) ≥ 256))
  (Q (.tuple #[.int .i64 0, .int .i64 3]) w3)
  (cond (Option.isNone p10)
  (CallR Tryz.prog 127 [.slice none 0 0] w3 (fun (r17 : Value) (w4 : World) =>
  ∃ (p15 : Option Addr) (n16 : Int), r17 = .tuple #[.pointer p15, .int .i64 n16] ∧
  let w5 := World.alloc w4 (Obj.cells #[.string s2, .int .i64 1, .pointer p15, .pointer none, .pointer none] 202);
  CallR Tryz.prog 128 [.pointer p1, .pointer (some (Addr.mk w4.heap.size 0 none))] w5 (fun (r18 : Value) (w6 : World) =>
  r18 = .tuple #[] ∧
  J12 [.pointer (some (Addr.mk w4.heap.size 0 none))] w6)))
  (nn p10 (fun (q19 : Addr) =>
  ∃ (n20 : Int), w3.cell? (Addr.add q19 1) = some ((.int .i64 n20 : Value)) ∧
  cond (n20 == 1)
  (cond ((IntKind.wrap .i64 ↑(BitVec.ofInt (IntKind.bits .i64) n3 &&& BitVec.ofInt (IntKind.bits .i64) 16).toNat) != 0)
  (nn p10 (fun (q21 : Addr) =>
  ∃ (p22 : Option Addr), w3.cell? (Addr.add q21 2) = some ((.pointer p22 : Value)) ∧
  nn p22 (fun (q23 : Addr) =>
  stC q23 (.slice none 0 0) w3 (fun (w7 : World) =>
  J12 [.pointer p10] w7))))
  (J12 [.pointer p10] w3))
  (J12 [.pointer p10] w3))))))
  (cond (Option.isNone p10)
  (CallR Tryz.prog 127 [.slice none 0 0] w3 (fun (r26 : Value) (w8 : World) =>
  ∃ (p24 : Option Addr) (n25 : Int), r26 = .tuple #[.pointer p24, .int .i64 n25] ∧
  let w9 := World.alloc w8 (Obj.cells #[.string s2, .int .i64 1, .pointer p24, .pointer none, .pointer none] 202);
  CallR Tryz.prog 128 [.pointer p1, .pointer (some (Addr.mk w8.heap.size 0 none))] w9 (fun (r27 : Value) (w10 : World) =>
  r27 = .tuple #[] ∧
  J12 [.pointer (some (Addr.mk w8.heap.size 0 none))] w10)))
  (nn p10 (fun (q28 : Addr) =>
  ∃ (n29 : Int), w3.cell? (Addr.add q28 1) = some ((.int .i64 n29 : Value)) ∧
  cond (n29 == 1)
  (cond ((IntKind.wrap .i64 ↑(BitVec.ofInt (IntKind.bits .i64) n3 &&& BitVec.ofInt (IntKind.bits .i64) 16).toNat) != 0)
  (nn p10 (fun (q30 : Addr) =>
  ∃ (p31 : Option Addr), w3.cell? (Addr.add q30 2) = some ((.pointer p31 : Value)) ∧
  nn p31 (fun (q32 : Addr) =>
  stC q32 (.slice none 0 0) w3 (fun (w11 : World) =>
  J12 [.pointer p10] w11))))
  (J12 [.pointer p10] w3))
  (J12 [.pointer p10] w3))))))
  (cond (Option.isNone p10)
  (nn p1 (fun (q33 : Addr) =>
  ∃ (a34 : Option Addr) (l34 : Nat) (c34 : Nat), w3.cell? q33 = some ((.slice a34 l34 c34 : Value)) ∧
  cond (decide ((((l34 : Nat) : Int)) ≥ 256))
  (Q (.tuple #[.int .i64 0, .int .i64 3]) w3)
  (cond (Option.isNone p10)
  (CallR Tryz.prog 127 [.slice none 0 0] w3 (fun (r37 : Value) (w12 : World) =>
  ∃ (p35 : Option Addr) (n36 : Int), r37 = .tuple #[.pointer p35, .int .i64 n36] ∧
  let w13 := World.alloc w12 (Obj.cells #[.string s2, .int .i64 1, .pointer p35, .pointer none, .pointer none] 202);
  CallR Tryz.prog 128 [.pointer p1, .pointer (some (Addr.mk w12.heap.size 0 none))] w13 (fun (r38 : Value) (w14 : World) =>
  r38 = .tuple #[] ∧
  J12 [.pointer (some (Addr.mk w12.heap.size 0 none))] w14)))
  (nn p10 (fun (q39 : Addr) =>
  ∃ (n40 : Int), w3.cell? (Addr.add q39 1) = some ((.int .i64 n40 : Value)) ∧
  cond (n40 == 1)
  (cond ((IntKind.wrap .i64 ↑(BitVec.ofInt (IntKind.bits .i64) n3 &&& BitVec.ofInt (IntKind.bits .i64) 16).toNat) != 0)
  (nn p10 (fun (q41 : Addr) =>
  ∃ (p42 : Option Addr), w3.cell? (Addr.add q41 2) = some ((.pointer p42 : Value)) ∧
  nn p42 (fun (q43 : Addr) =>
  stC q43 (.slice none 0 0) w3 (fun (w15 : World) =>
  J12 [.pointer p10] w15))))
  (J12 [.pointer p10] w3))
  (J12 [.pointer p10] w3))))))
  (cond (Option.isNone p10)
  (CallR Tryz.prog 127 [.slice none 0 0] w3 (fun (r46 : Value) (w16 : World) =>
  ∃ (p44 : Option Addr) (n45 : Int), r46 = .tuple #[.pointer p44, .int .i64 n45] ∧
  let w17 := World.alloc w16 (Obj.cells #[.string s2, .int .i64 1, .pointer p44, .pointer none, .pointer none] 202);
  CallR Tryz.prog 128 [.pointer p1, .pointer (some (Addr.mk w16.heap.size 0 none))] w17 (fun (r47 : Value) (w18 : World) =>
  r47 = .tuple #[] ∧
  J12 [.pointer (some (Addr.mk w16.heap.size 0 none))] w18)))
  (nn p10 (fun (q48 : Addr) =>
  ∃ (n49 : Int), w3.cell? (Addr.add q48 1) = some ((.int .i64 n49 : Value)) ∧
  cond (n49 == 1)
  (cond ((IntKind.wrap .i64 ↑(BitVec.ofInt (IntKind.bits .i64) n3 &&& BitVec.ofInt (IntKind.bits .i64) 16).toNat) != 0)
  (nn p10 (fun (q50 : Addr) =>
  ∃ (p51 : Option Addr), w3.cell? (Addr.add q50 2) = some ((.pointer p51 : Value)) ∧
  nn p51 (fun (q52 : Addr) =>
  stC q52 (.slice none 0 0) w3 (fun (w19 : World) =>
  J12 [.pointer p10] w19))))
  (J12 [.pointer p10] w3))
  (J12 [.pointer p10] w3)))))))
  (cond (Option.isNone p10)
  (cond ((IntKind.wrap .i64 ↑(BitVec.ofInt (IntKind.bits .i64) n3 &&& BitVec.ofInt (IntKind.bits .i64) 8).toNat) == 0)
  (Q (.tuple #[.int .i64 0, .int .i64 62]) w3)
  (cond (Option.isNone p10)
  (nn p1 (fun (q53 : Addr) =>
  ∃ (a54 : Option Addr) (l54 : Nat) (c54 : Nat), w3.cell? q53 = some ((.slice a54 l54 c54 : Value)) ∧
  cond (decide ((((l54 : Nat) : Int)) ≥ 256))
  (Q (.tuple #[.int .i64 0, .int .i64 3]) w3)
  (cond (Option.isNone p10)
  (CallR Tryz.prog 127 [.slice none 0 0] w3 (fun (r57 : Value) (w20 : World) =>
  ∃ (p55 : Option Addr) (n56 : Int), r57 = .tuple #[.pointer p55, .int .i64 n56] ∧
  let w21 := World.alloc w20 (Obj.cells #[.string s2, .int .i64 1, .pointer p55, .pointer none, .pointer none] 202);
  CallR Tryz.prog 128 [.pointer p1, .pointer (some (Addr.mk w20.heap.size 0 none))] w21 (fun (r58 : Value) (w22 : World) =>
  r58 = .tuple #[] ∧
  J12 [.pointer (some (Addr.mk w20.heap.size 0 none))] w22)))
  (nn p10 (fun (q59 : Addr) =>
  ∃ (n60 : Int), w3.cell? (Addr.add q59 1) = some ((.int .i64 n60 : Value)) ∧
  cond (n60 == 1)
  (cond ((IntKind.wrap .i64 ↑(BitVec.ofInt (IntKind.bits .i64) n3 &&& BitVec.ofInt (IntKind.bits .i64) 16).toNat) != 0)
  (nn p10 (fun (q61 : Addr) =>
  ∃ (p62 : Option Addr), w3.cell? (Addr.add q61 2) = some ((.pointer p62 : Value)) ∧
  nn p62 (fun (q63 : Addr) =>
  stC q63 (.slice none 0 0) w3 (fun (w23 : World) =>
  J12 [.pointer p10] w23))))
  (J12 [.pointer p10] w3))
  (J12 [.pointer p10] w3))))))
  (cond (Option.isNone p10)
  (CallR Tryz.prog 127 [.slice none 0 0] w3 (fun (r66 : Value) (w24 : World) =>
  ∃ (p64 : Option Addr) (n65 : Int), r66 = .tuple #[.pointer p64, .int .i64 n65] ∧
  let w25 := World.alloc w24 (Obj.cells #[.string s2, .int .i64 1, .pointer p64, .pointer none, .pointer none] 202);
  CallR Tryz.prog 128 [.pointer p1, .pointer (some (Addr.mk w24.heap.size 0 none))] w25 (fun (r67 : Value) (w26 : World) =>
  r67 = .tuple #[] ∧
  J12 [.pointer (some (Addr.mk w24.heap.size 0 none))] w26)))
  (nn p10 (fun (q68 : Addr) =>
  ∃ (n69 : Int), w3.cell? (Addr.add q68 1) = some ((.int .i64 n69 : Value)) ∧
  cond (n69 == 1)
  (cond ((IntKind.wrap .i64 ↑(BitVec.ofInt (IntKind.bits .i64) n3 &&& BitVec.ofInt (IntKind.bits .i64) 16).toNat) != 0)
  (nn p10 (fun (q70 : Addr) =>
  ∃ (p71 : Option Addr), w3.cell? (Addr.add q70 2) = some ((.pointer p71 : Value)) ∧
  nn p71 (fun (q72 : Addr) =>
  stC q72 (.slice none 0 0) w3 (fun (w27 : World) =>
  J12 [.pointer p10] w27))))
  (J12 [.pointer p10] w3))
  (J12 [.pointer p10] w3))))))
  (cond (Option.isNone p10)
  (nn p1 (fun (q73 : Addr) =>
  ∃ (a74 : Option Addr) (l74 : Nat) (c74 : Nat), w3.cell? q73 = some ((.slice a74 l74 c74 : Value)) ∧
  cond (decide ((((l74 : Nat) : Int)) ≥ 256))
  (Q (.tuple #[.int .i64 0, .int .i64 3]) w3)
  (cond (Option.isNone p10)
  (CallR Tryz.prog 127 [.slice none 0 0] w3 (fun (r77 : Value) (w28 : World) =>
  ∃ (p75 : Option Addr) (n76 : Int), r77 = .tuple #[.pointer p75, .int .i64 n76] ∧
  let w29 := World.alloc w28 (Obj.cells #[.string s2, .int .i64 1, .pointer p75, .pointer none, .pointer none] 202);
  CallR Tryz.prog 128 [.pointer p1, .pointer (some (Addr.mk w28.heap.size 0 none))] w29 (fun (r78 : Value) (w30 : World) =>
  r78 = .tuple #[] ∧
  J12 [.pointer (some (Addr.mk w28.heap.size 0 none))] w30)))
  (nn p10 (fun (q79 : Addr) =>
  ∃ (n80 : Int), w3.cell? (Addr.add q79 1) = some ((.int .i64 n80 : Value)) ∧
  cond (n80 == 1)
  (cond ((IntKind.wrap .i64 ↑(BitVec.ofInt (IntKind.bits .i64) n3 &&& BitVec.ofInt (IntKind.bits .i64) 16).toNat) != 0)
  (nn p10 (fun (q81 : Addr) =>
  ∃ (p82 : Option Addr), w3.cell? (Addr.add q81 2) = some ((.pointer p82 : Value)) ∧
  nn p82 (fun (q83 : Addr) =>
  stC q83 (.slice none 0 0) w3 (fun (w31 : World) =>
  J12 [.pointer p10] w31))))
  (J12 [.pointer p10] w3))
  (J12 [.pointer p10] w3))))))
  (cond (Option.isNone p10)
  (CallR Tryz.prog 127 [.slice none 0 0] w3 (fun (r86 : Value) (w32 : World) =>
  ∃ (p84 : Option Addr) (n85 : Int), r86 = .tuple #[.pointer p84, .int .i64 n85] ∧
  let w33 := World.alloc w32 (Obj.cells #[.string s2, .int .i64 1, .pointer p84, .pointer none, .pointer none] 202);
  CallR Tryz.prog 128 [.pointer p1, .pointer (some (Addr.mk w32.heap.size 0 none))] w33 (fun (r87 : Value) (w34 : World) =>
  r87 = .tuple #[] ∧
  J12 [.pointer (some (Addr.mk w32.heap.size 0 none))] w34)))
  (nn p10 (fun (q88 : Addr) =>
  ∃ (n89 : Int), w3.cell? (Addr.add q88 1) = some ((.int .i64 n89 : Value)) ∧
  cond (n89 == 1)
  (cond ((IntKind.wrap .i64 ↑(BitVec.ofInt (IntKind.bits .i64) n3 &&& BitVec.ofInt (IntKind.bits .i64) 16).toNat) != 0)
  (nn p10 (fun (q90 : Addr) =>
  ∃ (p91 : Option Addr), w3.cell? (Addr.add q90 2) = some ((.pointer p91 : Value)) ∧
  nn p91 (fun (q92 : Addr) =>
  stC q92 (.slice none 0 0) w3 (fun (w35 : World) =>
  J12 [.pointer p10] w35))))
  (J12 [.pointer p10] w3))
  (J12 [.pointer p10] w3))))))) ∧
  (∀ (_ : Env) (p93 : Option Addr) (w36 : World), J12 [.pointer p93] w36 →
  CallR Tryz.prog 122 [.pointer p1, .pointer p93, .int .i64 n3] w36 (fun (r95 : Value) (w37 : World) =>
  ∃ (n94 : Int), r95 = .int .i64 n94 ∧
  Q (.tuple #[.int .i64 n94, .int .i64 0]) w37)))))))))
theorem C31 {p1 : Option Addr} {s2 : ByteArray} {n3 : Int} {Q : Value → World → Prop} {w : World} (h : L31 p1 s2 n3 Q w) : CallR Tryz.prog 31 [.pointer p1, .string s2, .int .i64 n3] w Q :=
  fun_calls (A := A31) mixed Tryz.func31 (c := (Tryz.f31.body).getD .skip) rfl (by kernel_rfl) (Eq.mp (by kernel_rfl) h)
def A65 : Ann := ⟨[], [(12, [])], [], [(21, [0, 1, 2, 3, 4, 5, 6, 7, 8, 9, 10, 11, 12, 13, 14, 15, 16])], [], []⟩
def L65 (p1 : Option Addr) (n2 : Int) (n3 : Int) (Q : Value → World → Prop) (w : World) : Prop :=
  CallR Tryz.prog 168 [.pointer p1, .int .i64 n2] w (fun (r5 : Value) (w1 : World) =>
  ∃ (p4 : Option Addr), r5 = .pointer p4 ∧
  ∃ (J6 : List Value → World → Prop),
  (cond (Option.isNone p4)
  (Q (.tuple #[.slice none 0 0, .int .i64 64]) w1)
  (nn p4 (fun (q7 : Addr) =>
  ∃ (n8 : Int), w1.cell? (Addr.add q7 2) = some ((.int .i64 n8 : Value)) ∧
  cond ((IntKind.wrap .i64 ↑(BitVec.ofInt (IntKind.bits .i64) n8 &&& BitVec.ofInt (IntKind.bits .i64) 1).toNat) == 0)
  (Q (.tuple #[.slice none 0 0, .int .i64 65]) w1)
  (cond (decide (n3 < 0))
  (Q (.tuple #[.slice none 0 0, .int .i64 4]) w1)
  (cond (decide (n3 > 1048576))
  (Q (.tuple #[.slice none 0 0, .int .i64 4]) w1)
  (cond (n3 == 0)
  (Q (.tuple #[.slice none 0 0, .int .i64 0]) w1)
  (nn p4 (fun (q9 : Addr) =>
  ∃ (p10 : Option Addr), w1.cell? (Addr.add q9 1) = some ((.pointer p10 : Value)) ∧
  nn p10 (fun (q11 : Addr) =>
  ∃ (n12 : Int), w1.cell? (Addr.add q11 1) = some ((.int .i64 n12 : Value)) ∧
  cond (n12 == 3)
  (nn p4 (fun (q13 : Addr) =>
  ∃ (p14 : Option Addr), w1.cell? (Addr.add q13 1) = some ((.pointer p14 : Value)) ∧
  nn p14 (fun (q15 : Addr) =>
  ∃ (p16 : Option Addr), w1.cell? (Addr.add q15 4) = some ((.pointer p16 : Value)) ∧
  CallR Tryz.prog 169 [.pointer p16] w1 (fun (r18 : Value) (w2 : World) =>
  ∃ (b17 : Bool), r18 = .bool b17 ∧
  cond (!b17)
  (Q (.tuple #[.slice none 0 0, .int .i64 52]) w2)
  (J6 [] w2)))))
  (J6 [] w1)))))))))) ∧
  (∀ (_ : Env) (w3 : World), J6 [] w3 →
  nn p1 (fun (q19 : Addr) =>
  ∃ (n20 : Int), w3.cell? (Addr.add q19 4) = some ((.int .i64 n20 : Value)) ∧
  inI (n20 + 1) ∧
  nn p1 (fun (q21 : Addr) =>
  stC (Addr.add q21 4) (.int .i64 (n20 + 1)) w3 (fun (w4 : World) =>
  nn p1 (fun (q22 : Addr) =>
  ∃ (p23 : Option Addr), w4.cell? (Addr.add q22 3) = some ((.pointer p23 : Value)) ∧
  CallR Tryz.prog 170 [.pointer p23, .int .i64 n3] w4 (fun (r26 : Value) (w5 : World) =>
  ∃ (n24 : Int) (n25 : Int), r26 = .tuple #[.int .i64 n24, .int .i64 n25] ∧
  cond (n25 != 0)
  (Q (.tuple #[.slice none 0 0, .int .i64 n25]) w5)
  (nn p4 (fun (q27 : Addr) =>
  ∃ (p28 : Option Addr), w5.cell? (Addr.add q27 1) = some ((.pointer p28 : Value)) ∧
  nn p28 (fun (q29 : Addr) =>
  ∃ (n30 : Int), w5.cell? (Addr.add q29 1) = some ((.int .i64 n30 : Value)) ∧
  cond (n30 == 2)
  (nn p4 (fun (q31 : Addr) =>
  ∃ (p32 : Option Addr), w5.cell? (Addr.add q31 1) = some ((.pointer p32 : Value)) ∧
  nn p32 (fun (q33 : Addr) =>
  ∃ (p34 : Option Addr), w5.cell? (Addr.add q33 3) = some ((.pointer p34 : Value)) ∧
  CallR Tryz.prog 171 [.pointer p34, .int .i64 n24] w5 (fun (r37 : Value) (w6 : World) =>
  ∃ (a35 : Option Addr) (l35 : Nat) (c35 : Nat) (n36 : Int), r37 = .tuple #[.slice a35 l35 c35, .int .i64 n36] ∧
  Q (.tuple #[.slice a35 l35 c35, .int .i64 n36]) w6))))
  (cond (n30 == 3)
  (nn p4 (fun (q38 : Addr) =>
  ∃ (p39 : Option Addr), w5.cell? (Addr.add q38 1) = some ((.pointer p39 : Value)) ∧
  nn p39 (fun (q40 : Addr) =>
  ∃ (p41 : Option Addr), w5.cell? (Addr.add q40 4) = some ((.pointer p41 : Value)) ∧
  CallR Tryz.prog 172 [.pointer p41, .int .i64 n24] w5 (fun (r44 : Value) (w7 : World) =>
  ∃ (a42 : Option Addr) (l42 : Nat) (c42 : Nat) (n43 : Int), r44 = .tuple #[.slice a42 l42 c42, .int .i64 n43] ∧
  Q (.tuple #[.slice a42 l42 c42, .int .i64 n43]) w7))))
  (let w8 := World.drew w5;
  nn p4 (fun (q45 : Addr) =>
  ∃ (p46 : Option Addr), w8.cell? (Addr.add q45 1) = some ((.pointer p46 : Value)) ∧
  nn p46 (fun (q47 : Addr) =>
  ∃ (p48 : Option Addr), w8.cell? (Addr.add q47 2) = some ((.pointer p48 : Value)) ∧
  nn p48 (fun (q49 : Addr) =>
  ∃ (a50 : Option Addr) (l50 : Nat) (c50 : Nat), w8.cell? q49 = some ((.slice a50 l50 c50 : Value)) ∧
  nn p4 (fun (q51 : Addr) =>
  ∃ (n52 : Int), w8.cell? (Addr.add q51 3) = some ((.int .i64 n52 : Value)) ∧
  CallR Tryz.prog 148 [.slice a50 l50 c50, .int .i64 n52, .int .i64 n24] w8 (fun (r54 : Value) (w9 : World) =>
  ∃ (a53 : Option Addr) (l53 : Nat) (c53 : Nat), r54 = .slice a53 l53 c53 ∧
  nn p4 (fun (q55 : Addr) =>
  ∃ (n56 : Int), w9.cell? (Addr.add q55 3) = some ((.int .i64 n56 : Value)) ∧
  inI (n56 + (((l53 : Nat) : Int))) ∧
  nn p4 (fun (q57 : Addr) =>
  stC (Addr.add q57 3) (.int .i64 (n56 + (((l53 : Nat) : Int)))) w9 (fun (w10 : World) =>
  Q (.tuple #[.slice a53 l53 c53, .int .i64 0]) w10))))))))))))))))))))
theorem C65 {p1 : Option Addr} {n2 : Int} {n3 : Int} {Q : Value → World → Prop} {w : World} (h : L65 p1 n2 n3 Q w) : CallR Tryz.prog 65 [.pointer p1, .int .i64 n2, .int .i64 n3] w Q :=
  fun_calls (A := A65) mixed Tryz.func65 (c := (Tryz.f65.body).getD .skip) rfl (by kernel_rfl) (Eq.mp (by kernel_rfl) h)
def A174 : Ann := ⟨[], [], [], [], [], []⟩
def L174 (p1 : Option Addr) (Q : Value → World → Prop) (w : World) : Prop :=
  nn p1 (fun (q2 : Addr) =>
  ∃ (p3 : Option Addr), w.cell? (Addr.add q2 1) = some ((.pointer p3 : Value)) ∧
  nn p3 (fun (q4 : Addr) =>
  ∃ (n5 : Int), w.cell? (Addr.add q4 1) = some ((.int .i64 n5 : Value)) ∧
  cond (n5 == 2)
  (nn p1 (fun (q6 : Addr) =>
  ∃ (p7 : Option Addr), w.cell? (Addr.add q6 1) = some ((.pointer p7 : Value)) ∧
  nn p7 (fun (q8 : Addr) =>
  ∃ (p9 : Option Addr), w.cell? (Addr.add q8 3) = some ((.pointer p9 : Value)) ∧
  nn p9 (fun (q10 : Addr) =>
  ∃ (a11 : Option Addr) (l11 : Nat) (c11 : Nat), w.cell? (Addr.add q10 1) = some ((.slice a11 l11 c11 : Value)) ∧
  inI ((1048576 : Int) - (((l11 : Nat) : Int))) ∧
  Q (.int .i64 ((1048576 : Int) - (((l11 : Nat) : Int)))) w))))
  (nn p1 (fun (q12 : Addr) =>
  ∃ (n13 : Int), w.cell? (Addr.add q12 2) = some ((.int .i64 n13 : Value)) ∧
  cond ((IntKind.wrap .i64 ↑(BitVec.ofInt (IntKind.bits .i64) n13 &&& BitVec.ofInt (IntKind.bits .i64) 4).toNat) != 0)
  (nn p1 (fun (q14 : Addr) =>
  ∃ (p15 : Option Addr), w.cell? (Addr.add q14 1) = some ((.pointer p15 : Value)) ∧
  nn p15 (fun (q16 : Addr) =>
  ∃ (p17 : Option Addr), w.cell? (Addr.add q16 2) = some ((.pointer p17 : Value)) ∧
  nn p17 (fun (q18 : Addr) =>
  ∃ (a19 : Option Addr) (l19 : Nat) (c19 : Nat), w.cell? q18 = some ((.slice a19 l19 c19 : Value)) ∧
  inI ((1048576 : Int) - (((l19 : Nat) : Int))) ∧
  Q (.int .i64 ((1048576 : Int) - (((l19 : Nat) : Int)))) w))))
  (nn p1 (fun (q20 : Addr) =>
  ∃ (n21 : Int), w.cell? (Addr.add q20 3) = some ((.int .i64 n21 : Value)) ∧
  inI ((1048576 : Int) - n21) ∧
  Q (.int .i64 ((1048576 : Int) - n21)) w))))))
theorem C174 {p1 : Option Addr} {Q : Value → World → Prop} {w : World} (h : L174 p1 Q w) : CallR Tryz.prog 174 [.pointer p1] w Q :=
  fun_calls (A := A174) mixed Tryz.func174 (c := (Tryz.f174.body).getD .skip) rfl (by kernel_rfl) (Eq.mp (by kernel_rfl) h)
def A67 : Ann := ⟨[], [(16, []), (28, [])], [], [(24, [0, 1, 2, 3, 4, 5, 6, 7, 8, 9, 10]), (28, [0, 1, 2, 3, 4, 5, 6, 7, 8, 9, 10, 11, 12, 13, 14])], [], []⟩
def L67 (p1 : Option Addr) (n2 : Int) (a3 : Option Addr) (l3 : Nat) (c3 : Nat) (Q : Value → World → Prop) (w : World) : Prop :=
  CallR Tryz.prog 168 [.pointer p1, .int .i64 n2] w (fun (r5 : Value) (w1 : World) =>
  ∃ (p4 : Option Addr), r5 = .pointer p4 ∧
  ∃ (J6 : List Value → World → Prop),
  (cond (Option.isNone p4)
  (Q (.tuple #[.int .i64 0, .int .i64 64]) w1)
  (nn p4 (fun (q7 : Addr) =>
  ∃ (n8 : Int), w1.cell? (Addr.add q7 2) = some ((.int .i64 n8 : Value)) ∧
  cond ((IntKind.wrap .i64 ↑(BitVec.ofInt (IntKind.bits .i64) n8 &&& BitVec.ofInt (IntKind.bits .i64) 2).toNat) == 0)
  (Q (.tuple #[.int .i64 0, .int .i64 65]) w1)
  (cond (decide ((((l3 : Nat) : Int)) > 1048576))
  (Q (.tuple #[.int .i64 0, .int .i64 5]) w1)
  (cond ((((l3 : Nat) : Int)) == 0)
  (Q (.tuple #[.int .i64 0, .int .i64 0]) w1)
  (nn p4 (fun (q9 : Addr) =>
  ∃ (p10 : Option Addr), w1.cell? (Addr.add q9 1) = some ((.pointer p10 : Value)) ∧
  nn p10 (fun (q11 : Addr) =>
  ∃ (n12 : Int), w1.cell? (Addr.add q11 1) = some ((.int .i64 n12 : Value)) ∧
  cond (n12 == 3)
  (nn p4 (fun (q13 : Addr) =>
  ∃ (p14 : Option Addr), w1.cell? (Addr.add q13 1) = some ((.pointer p14 : Value)) ∧
  nn p14 (fun (q15 : Addr) =>
  ∃ (p16 : Option Addr), w1.cell? (Addr.add q15 4) = some ((.pointer p16 : Value)) ∧
  nn p16 (fun (q17 : Addr) =>
  ∃ (n18 : Int), w1.cell? (Addr.add q17 1) = some ((.int .i64 n18 : Value)) ∧
  cond (n18 == 0)
  (Q (.tuple #[.int .i64 0, .int .i64 53]) w1)
  (nn p4 (fun (q19 : Addr) =>
  ∃ (p20 : Option Addr), w1.cell? (Addr.add q19 1) = some ((.pointer p20 : Value)) ∧
  nn p20 (fun (q21 : Addr) =>
  ∃ (n22 : Int), w1.cell? (Addr.add q21 1) = some ((.int .i64 n22 : Value)) ∧
  cond (n22 == 3)
  (nn p4 (fun (q23 : Addr) =>
  ∃ (p24 : Option Addr), w1.cell? (Addr.add q23 1) = some ((.pointer p24 : Value)) ∧
  nn p24 (fun (q25 : Addr) =>
  ∃ (p26 : Option Addr), w1.cell? (Addr.add q25 4) = some ((.pointer p26 : Value)) ∧
  CallR Tryz.prog 173 [.pointer p26, .int .i64 (((l3 : Nat) : Int))] w1 (fun (r28 : Value) (w2 : World) =>
  ∃ (b27 : Bool), r28 = .bool b27 ∧
  cond (!b27)
  (Q (.tuple #[.int .i64 0, .int .i64 52]) w2)
  (nn p4 (fun (q29 : Addr) =>
  ∃ (p30 : Option Addr), w2.cell? (Addr.add q29 1) = some ((.pointer p30 : Value)) ∧
  nn p30 (fun (q31 : Addr) =>
  ∃ (n32 : Int), w2.cell? (Addr.add q31 1) = some ((.int .i64 n32 : Value)) ∧
  cond (n32 != 3)
  (CallR Tryz.prog 174 [.pointer p4] w2 (fun (r34 : Value) (w3 : World) =>
  ∃ (n33 : Int), r34 = .int .i64 n33 ∧
  cond (n33 == 0)
  (Q (.tuple #[.int .i64 0, .int .i64 31]) w3)
  (J6 [] w3)))
  (J6 [] w2))))))))
  (nn p4 (fun (q35 : Addr) =>
  ∃ (p36 : Option Addr), w1.cell? (Addr.add q35 1) = some ((.pointer p36 : Value)) ∧
  nn p36 (fun (q37 : Addr) =>
  ∃ (n38 : Int), w1.cell? (Addr.add q37 1) = some ((.int .i64 n38 : Value)) ∧
  cond (n38 != 3)
  (CallR Tryz.prog 174 [.pointer p4] w1 (fun (r40 : Value) (w4 : World) =>
  ∃ (n39 : Int), r40 = .int .i64 n39 ∧
  cond (n39 == 0)
  (Q (.tuple #[.int .i64 0, .int .i64 31]) w4)
  (J6 [] w4)))
  (J6 [] w1)))))))))))
  (nn p4 (fun (q41 : Addr) =>
  ∃ (p42 : Option Addr), w1.cell? (Addr.add q41 1) = some ((.pointer p42 : Value)) ∧
  nn p42 (fun (q43 : Addr) =>
  ∃ (n44 : Int), w1.cell? (Addr.add q43 1) = some ((.int .i64 n44 : Value)) ∧
  cond (n44 == 3)
  (nn p4 (fun (q45 : Addr) =>
  ∃ (p46 : Option Addr), w1.cell? (Addr.add q45 1) = some ((.pointer p46 : Value)) ∧
  nn p46 (fun (q47 : Addr) =>
  ∃ (p48 : Option Addr), w1.cell? (Addr.add q47 4) = some ((.pointer p48 : Value)) ∧
  CallR Tryz.prog 173 [.pointer p48, .int .i64 (((l3 : Nat) : Int))] w1 (fun (r50 : Value) (w5 : World) =>
  ∃ (b49 : Bool), r50 = .bool b49 ∧
  cond (!b49)
  (Q (.tuple #[.int .i64 0, .int .i64 52]) w5)
  (nn p4 (fun (q51 : Addr) =>
  ∃ (p52 : Option Addr), w5.cell? (Addr.add q51 1) = some ((.pointer p52 : Value)) ∧
  nn p52 (fun (q53 : Addr) =>
  ∃ (n54 : Int), w5.cell? (Addr.add q53 1) = some ((.int .i64 n54 : Value)) ∧
  cond (n54 != 3)
  (CallR Tryz.prog 174 [.pointer p4] w5 (fun (r56 : Value) (w6 : World) =>
  ∃ (n55 : Int), r56 = .int .i64 n55 ∧
  cond (n55 == 0)
  (Q (.tuple #[.int .i64 0, .int .i64 31]) w6)
  (J6 [] w6)))
  (J6 [] w5))))))))
  (nn p4 (fun (q57 : Addr) =>
  ∃ (p58 : Option Addr), w1.cell? (Addr.add q57 1) = some ((.pointer p58 : Value)) ∧
  nn p58 (fun (q59 : Addr) =>
  ∃ (n60 : Int), w1.cell? (Addr.add q59 1) = some ((.int .i64 n60 : Value)) ∧
  cond (n60 != 3)
  (CallR Tryz.prog 174 [.pointer p4] w1 (fun (r62 : Value) (w7 : World) =>
  ∃ (n61 : Int), r62 = .int .i64 n61 ∧
  cond (n61 == 0)
  (Q (.tuple #[.int .i64 0, .int .i64 31]) w7)
  (J6 [] w7)))
  (J6 [] w1))))))))))))))) ∧
  (∀ (_ : Env) (w8 : World), J6 [] w8 →
  nn p1 (fun (q63 : Addr) =>
  ∃ (n64 : Int), w8.cell? (Addr.add q63 5) = some ((.int .i64 n64 : Value)) ∧
  inI (n64 + 1) ∧
  nn p1 (fun (q65 : Addr) =>
  stC (Addr.add q65 5) (.int .i64 (n64 + 1)) w8 (fun (w9 : World) =>
  nn p1 (fun (q66 : Addr) =>
  ∃ (p67 : Option Addr), w9.cell? (Addr.add q66 3) = some ((.pointer p67 : Value)) ∧
  CallR Tryz.prog 170 [.pointer p67, .int .i64 (((l3 : Nat) : Int))] w9 (fun (r70 : Value) (w10 : World) =>
  ∃ (n68 : Int) (n69 : Int), r70 = .tuple #[.int .i64 n68, .int .i64 n69] ∧
  cond (n69 != 0)
  (Q (.tuple #[.int .i64 0, .int .i64 n69]) w10)
  (nn p4 (fun (q71 : Addr) =>
  ∃ (p72 : Option Addr), w10.cell? (Addr.add q71 1) = some ((.pointer p72 : Value)) ∧
  nn p72 (fun (q73 : Addr) =>
  ∃ (n74 : Int), w10.cell? (Addr.add q73 1) = some ((.int .i64 n74 : Value)) ∧
  cond (n74 == 3)
  (nn p4 (fun (q75 : Addr) =>
  ∃ (p76 : Option Addr), w10.cell? (Addr.add q75 1) = some ((.pointer p76 : Value)) ∧
  nn p76 (fun (q77 : Addr) =>
  ∃ (p78 : Option Addr), w10.cell? (Addr.add q77 4) = some ((.pointer p78 : Value)) ∧
  CallR Tryz.prog 175 [.pointer p78, .slice a3 l3 c3, .int .i64 n68] w10 (fun (r81 : Value) (w11 : World) =>
  ∃ (n79 : Int) (n80 : Int), r81 = .tuple #[.int .i64 n79, .int .i64 n80] ∧
  Q (.tuple #[.int .i64 n79, .int .i64 n80]) w11))))
  (CallR Tryz.prog 174 [.pointer p4] w10 (fun (r83 : Value) (w12 : World) =>
  ∃ (n82 : Int), r83 = .int .i64 n82 ∧
  nn p4 (fun (q84 : Addr) =>
  ∃ (p85 : Option Addr), w12.cell? (Addr.add q84 1) = some ((.pointer p85 : Value)) ∧
  nn p85 (fun (q86 : Addr) =>
  ∃ (n87 : Int), w12.cell? (Addr.add q86 1) = some ((.int .i64 n87 : Value)) ∧
  cond (n87 == 2)
  (let w13 := World.drew w12;
  nn p4 (fun (q88 : Addr) =>
  ∃ (p89 : Option Addr), w13.cell? (Addr.add q88 1) = some ((.pointer p89 : Value)) ∧
  nn p89 (fun (q90 : Addr) =>
  ∃ (p91 : Option Addr), w13.cell? (Addr.add q90 3) = some ((.pointer p91 : Value)) ∧
  (0 ≤ (mn n68 n82 : Int) ∧ (mn n68 n82 : Int) ≤ ((c3 : Nat) : Int)) ∧
  CallR Tryz.prog 176 [.pointer p91, .slice a3 (Int.toNat (mn n68 n82)) c3] w13 (fun (r93 : Value) (w14 : World) =>
  ∃ (n92 : Int), r93 = .int .i64 n92 ∧
  Q (.tuple #[.int .i64 (mn n68 n82), .int .i64 0]) w14))))
  (∃ (J94 : List Value → World → Prop),
  (nn p4 (fun (q95 : Addr) =>
  ∃ (n96 : Int), w12.cell? (Addr.add q95 2) = some ((.int .i64 n96 : Value)) ∧
  cond ((IntKind.wrap .i64 ↑(BitVec.ofInt (IntKind.bits .i64) n96 &&& BitVec.ofInt (IntKind.bits .i64) 4).toNat) != 0)
  (nn p4 (fun (q97 : Addr) =>
  ∃ (p98 : Option Addr), w12.cell? (Addr.add q97 1) = some ((.pointer p98 : Value)) ∧
  nn p98 (fun (q99 : Addr) =>
  ∃ (p100 : Option Addr), w12.cell? (Addr.add q99 2) = some ((.pointer p100 : Value)) ∧
  nn p100 (fun (q101 : Addr) =>
  ∃ (a102 : Option Addr) (l102 : Nat) (c102 : Nat), w12.cell? q101 = some ((.slice a102 l102 c102 : Value)) ∧
  nn p4 (fun (q103 : Addr) =>
  stC (Addr.add q103 3) (.int .i64 (((l102 : Nat) : Int))) w12 (fun (w15 : World) =>
  J94 [] w15))))))
  (J94 [] w12))) ∧
  (∀ (_ : Env) (w16 : World), J94 [] w16 →
  let w17 := World.drew w16;
  nn p4 (fun (q104 : Addr) =>
  ∃ (p105 : Option Addr), w17.cell? (Addr.add q104 1) = some ((.pointer p105 : Value)) ∧
  nn p105 (fun (q106 : Addr) =>
  ∃ (p107 : Option Addr), w17.cell? (Addr.add q106 2) = some ((.pointer p107 : Value)) ∧
  nn p4 (fun (q108 : Addr) =>
  ∃ (n109 : Int), w17.cell? (Addr.add q108 3) = some ((.int .i64 n109 : Value)) ∧
  (0 ≤ (mn n68 n82 : Int) ∧ (mn n68 n82 : Int) ≤ ((c3 : Nat) : Int)) ∧
  CallR Tryz.prog 177 [.pointer p107, .int .i64 n109, .slice a3 (Int.toNat (mn n68 n82)) c3] w17 (fun (r111 : Value) (w18 : World) =>
  ∃ (n110 : Int), r111 = .int .i64 n110 ∧
  nn p4 (fun (q112 : Addr) =>
  ∃ (n113 : Int), w18.cell? (Addr.add q112 3) = some ((.int .i64 n113 : Value)) ∧
  inI (n113 + (mn n68 n82)) ∧
  nn p4 (fun (q114 : Addr) =>
  stC (Addr.add q114 3) (.int .i64 (n113 + (mn n68 n82))) w18 (fun (w19 : World) =>
  Q (.tuple #[.int .i64 (mn n68 n82), .int .i64 0]) w19)))))))))))))))))))))))
theorem C67 {p1 : Option Addr} {n2 : Int} {a3 : Option Addr} {l3 : Nat} {c3 : Nat} {Q : Value → World → Prop} {w : World} (h : L67 p1 n2 a3 l3 c3 Q w) : CallR Tryz.prog 67 [.pointer p1, .int .i64 n2, .slice a3 l3 c3] w Q :=
  fun_calls (A := A67) mixed Tryz.func67 (c := (Tryz.f67.body).getD .skip) rfl (by kernel_rfl) (Eq.mp (by kernel_rfl) h)
def A151 : Ann := ⟨[], [], [], [], [], []⟩
def L151 (n1 : Int) (n2 : Int) (n3 : Int) (Q : Value → World → Prop) (w : World) : Prop :=
  inI ((0 : Int) - n1) ∧
  cond (decide (n2 < ((0 : Int) - n1)))
  (Q (.tuple #[.int .i64 0, .bool false]) w)
  (inI (n3 - n1) ∧
  cond (decide (n2 > (n3 - n1)))
  (Q (.tuple #[.int .i64 0, .bool false]) w)
  (inI (n1 + n2) ∧
  Q (.tuple #[.int .i64 (n1 + n2), .bool true]) w))
theorem C151 {n1 : Int} {n2 : Int} {n3 : Int} {Q : Value → World → Prop} {w : World} (h : L151 n1 n2 n3 Q w) : CallR Tryz.prog 151 [.int .i64 n1, .int .i64 n2, .int .i64 n3] w Q :=
  fun_calls (A := A151) mixed Tryz.func151 (c := (Tryz.f151.body).getD .skip) rfl (by kernel_rfl) (Eq.mp (by kernel_rfl) h)
def A69 : Ann := ⟨[], [(14, [(11, .one (.int .i64))])], [], [], [], []⟩
def L69 (p1 : Option Addr) (n2 : Int) (n3 : Int) (n4 : Int) (Q : Value → World → Prop) (w : World) : Prop :=
  CallR Tryz.prog 168 [.pointer p1, .int .i64 n2] w (fun (r6 : Value) (w1 : World) =>
  ∃ (p5 : Option Addr), r6 = .pointer p5 ∧
  cond (Option.isNone p5)
  (Q (.tuple #[.int .i64 0, .int .i64 64]) w1)
  (nn p5 (fun (q7 : Addr) =>
  ∃ (p8 : Option Addr), w1.cell? (Addr.add q7 1) = some ((.pointer p8 : Value)) ∧
  nn p8 (fun (q9 : Addr) =>
  ∃ (n10 : Int), w1.cell? (Addr.add q9 1) = some ((.int .i64 n10 : Value)) ∧
  cond (n10 != 1)
  (Q (.tuple #[.int .i64 0, .int .i64 66]) w1)
  (cond (decide (n4 < 0))
  (Q (.tuple #[.int .i64 0, .int .i64 1]) w1)
  (cond (decide (n4 > 2))
  (Q (.tuple #[.int .i64 0, .int .i64 1]) w1)
  (∃ (J11 : List Value → World → Prop),
  (cond (n4 == 1)
  (nn p5 (fun (q12 : Addr) =>
  ∃ (n13 : Int), w1.cell? (Addr.add q12 3) = some ((.int .i64 n13 : Value)) ∧
  J11 [.int .i64 n13] w1))
  (cond (n4 == 2)
  (nn p5 (fun (q14 : Addr) =>
  ∃ (p15 : Option Addr), w1.cell? (Addr.add q14 1) = some ((.pointer p15 : Value)) ∧
  nn p15 (fun (q16 : Addr) =>
  ∃ (p17 : Option Addr), w1.cell? (Addr.add q16 2) = some ((.pointer p17 : Value)) ∧
  nn p17 (fun (q18 : Addr) =>
  ∃ (a19 : Option Addr) (l19 : Nat) (c19 : Nat), w1.cell? q18 = some ((.slice a19 l19 c19 : Value)) ∧
  J11 [.int .i64 (((l19 : Nat) : Int))] w1))))
  (J11 [.int .i64 0] w1))) ∧
  (∀ (_ : Env) (n20 : Int) (w2 : World), J11 [.int .i64 n20] w2 →
  CallR Tryz.prog 151 [.int .i64 n20, .int .i64 n3, .int .i64 1048576] w2 (fun (r23 : Value) (w3 : World) =>
  ∃ (n21 : Int) (b22 : Bool), r23 = .tuple #[.int .i64 n21, .bool b22] ∧
  cond (!b22)
  (Q (.tuple #[.int .i64 0, .int .i64 4]) w3)
  (nn p5 (fun (q24 : Addr) =>
  stC (Addr.add q24 3) (.int .i64 n21) w3 (fun (w4 : World) =>
  Q (.tuple #[.int .i64 n21, .int .i64 0]) w4))))))))))))
theorem C69 {p1 : Option Addr} {n2 : Int} {n3 : Int} {n4 : Int} {Q : Value → World → Prop} {w : World} (h : L69 p1 n2 n3 n4 Q w) : CallR Tryz.prog 69 [.pointer p1, .int .i64 n2, .int .i64 n3, .int .i64 n4] w Q :=
  fun_calls (A := A69) mixed Tryz.func69 (c := (Tryz.f69.body).getD .skip) rfl (by kernel_rfl) (Eq.mp (by kernel_rfl) h)
def A77 : Ann := ⟨[(3, [(3, .one (.slice)), (4, .one (.int .i64))])], [], [], [], [(7, [0, 1, 2, 3, 4, 5, 6, 7, 8, 9, 10, 11, 12, 13, 14, 15, 16, 17, 18, 19, 20, 21, 22, 23, 24, 25, 26], 27, [28, 29])], []⟩
def L77 (p1 : Option Addr) (Q : Value → World → Prop) (w : World) : Prop :=
  ∃ (I2 : List Value → World → Prop) (mu3 : List Value → World → Nat),
  I2 [.slice none 0 0, .int .i64 0] w ∧
  ∀ (_ : Env) (a4 : Option Addr) (l4 : Nat) (c4 : Nat) (n5 : Int) (w1 : World), I2 [.slice a4 l4 c4, .int .i64 n5] w1 →
  nn p1 (fun (q6 : Addr) =>
  ∃ (a7 : Option Addr) (l7 : Nat) (c7 : Nat), w1.cell? q6 = some ((.slice a7 l7 c7 : Value)) ∧
  cond (decide (n5 < (((l7 : Nat) : Int))))
  (nn p1 (fun (q8 : Addr) =>
  ∃ (a9 : Option Addr) (l9 : Nat) (c9 : Nat), w1.cell? q8 = some ((.slice a9 l9 c9 : Value)) ∧
  (0 ≤ (n5 : Int) ∧ (n5 : Int) < ((l9 : Nat) : Int)) ∧
  nn a9 (fun (q10 : Addr) =>
  ∃ (p11 : Option Addr), w1.cell? (Addr.add q10 (Int.toNat n5)) = some ((.pointer p11 : Value)) ∧
  nn p11 (fun (q12 : Addr) =>
  ∃ (n13 : Int), w1.cell? (Addr.add q12 1) = some ((.int .i64 n13 : Value)) ∧
  cond (n13 == 1)
  (∃ (S14 : World → Prop), S14 (World.drew w1) ∧
  let w2 := World.drew w1;
  nn p1 (fun (q15 : Addr) =>
  ∃ (a16 : Option Addr) (l16 : Nat) (c16 : Nat), (∀ wS : World, S14 wS → wS.cell? q15 = some ((.slice a16 l16 c16 : Value))) ∧
  (0 ≤ (n5 : Int) ∧ (n5 : Int) < ((l16 : Nat) : Int)) ∧
  nn a16 (fun (q17 : Addr) =>
  ∃ (p18 : Option Addr), (∀ wS : World, S14 wS → wS.cell? (Addr.add q17 (Int.toNat n5)) = some ((.pointer p18 : Value))) ∧
  nn p18 (fun (q19 : Addr) =>
  ∃ (s20 : ByteArray), (∀ wS : World, S14 wS → wS.cell? q19 = some ((.string s20 : Value))) ∧
  nn p1 (fun (q21 : Addr) =>
  ∃ (a22 : Option Addr) (l22 : Nat) (c22 : Nat), (∀ wS : World, S14 wS → wS.cell? q21 = some ((.slice a22 l22 c22 : Value))) ∧
  (0 ≤ (n5 : Int) ∧ (n5 : Int) < ((l22 : Nat) : Int)) ∧
  nn a22 (fun (q23 : Addr) =>
  ∃ (p24 : Option Addr), (∀ wS : World, S14 wS → wS.cell? (Addr.add q23 (Int.toNat n5)) = some ((.pointer p24 : Value))) ∧
  nn p24 (fun (q25 : Addr) =>
  ∃ (p26 : Option Addr), (∀ wS : World, S14 wS → wS.cell? (Addr.add q25 2) = some ((.pointer p26 : Value))) ∧
  nn p26 (fun (q27 : Addr) =>
  ∃ (a28 : Option Addr) (l28 : Nat) (c28 : Nat), (∀ wS : World, S14 wS → wS.cell? q27 = some ((.slice a28 l28 c28 : Value))) ∧
  ∃ (a29 : Option Addr) (l29 : Nat) (c29 : Nat) (w3 : World), Sem.run Tryz.prog (Builtin.append_ #[40, 40] 40 #[.slice none 0 0, .slice a28 l28 c28]) w2 = .ok ((.slice a29 l29 c29 : Value)) w3 ∧
  S14 w3 ∧
  let w4 := World.alloc w3 (Obj.cells #[.string s20, .slice a29 l29 c29] 122);
  ∃ (a30 : Option Addr) (l30 : Nat) (c30 : Nat) (w5 : World), Sem.run Tryz.prog (Builtin.append_ #[22, 22] 22 #[.slice a4 l4 c4, .slice (some (Addr.mk w3.heap.size 0 none)) 1 1]) w4 = .ok ((.slice a30 l30 c30 : Value)) w5 ∧
  inI (n5 + 1) ∧
  I2 [.slice a30 l30 c30, .int .i64 (n5 + 1)] w5 ∧ mu3 [.slice a30 l30 c30, .int .i64 (n5 + 1)] w5 < mu3 [.slice a4 l4 c4, .int .i64 n5] w1))))))))
  (inI (n5 + 1) ∧
  I2 [.slice a4 l4 c4, .int .i64 (n5 + 1)] w1 ∧ mu3 [.slice a4 l4 c4, .int .i64 (n5 + 1)] w1 < mu3 [.slice a4 l4 c4, .int .i64 n5] w1)))))
  (Q (.slice a4 l4 c4) w1))
theorem C77 {p1 : Option Addr} {Q : Value → World → Prop} {w : World} (h : L77 p1 Q w) : CallR Tryz.prog 77 [.pointer p1] w Q :=
  fun_calls (A := A77) mixed Tryz.func77 (c := (Tryz.f77.body).getD .skip) rfl (by kernel_rfl) (Eq.mp (by kernel_rfl) h)
def A80 : Ann := ⟨[(3, [(3, .one (.slice)), (4, .one (.int .i64))])], [], [], [], [(7, [0, 1, 2, 3, 4, 5, 6, 7, 8, 9, 10, 11, 12, 13, 14, 15, 16, 17, 18, 19, 20, 21, 22, 23, 24, 25, 26], 27, [28, 29])], []⟩
def L80 (p1 : Option Addr) (Q : Value → World → Prop) (w : World) : Prop :=
  ∃ (I2 : List Value → World → Prop) (mu3 : List Value → World → Nat),
  I2 [.slice none 0 0, .int .i64 0] w ∧
  ∀ (_ : Env) (a4 : Option Addr) (l4 : Nat) (c4 : Nat) (n5 : Int) (w1 : World), I2 [.slice a4 l4 c4, .int .i64 n5] w1 →
  nn p1 (fun (q6 : Addr) =>
  ∃ (a7 : Option Addr) (l7 : Nat) (c7 : Nat), w1.cell? q6 = some ((.slice a7 l7 c7 : Value)) ∧
  cond (decide (n5 < (((l7 : Nat) : Int))))
  (nn p1 (fun (q8 : Addr) =>
  ∃ (a9 : Option Addr) (l9 : Nat) (c9 : Nat), w1.cell? q8 = some ((.slice a9 l9 c9 : Value)) ∧
  (0 ≤ (n5 : Int) ∧ (n5 : Int) < ((l9 : Nat) : Int)) ∧
  nn a9 (fun (q10 : Addr) =>
  ∃ (p11 : Option Addr), w1.cell? (Addr.add q10 (Int.toNat n5)) = some ((.pointer p11 : Value)) ∧
  nn p11 (fun (q12 : Addr) =>
  ∃ (n13 : Int), w1.cell? (Addr.add q12 1) = some ((.int .i64 n13 : Value)) ∧
  cond (n13 == 2)
  (∃ (S14 : World → Prop), S14 (World.drew w1) ∧
  let w2 := World.drew w1;
  nn p1 (fun (q15 : Addr) =>
  ∃ (a16 : Option Addr) (l16 : Nat) (c16 : Nat), (∀ wS : World, S14 wS → wS.cell? q15 = some ((.slice a16 l16 c16 : Value))) ∧
  (0 ≤ (n5 : Int) ∧ (n5 : Int) < ((l16 : Nat) : Int)) ∧
  nn a16 (fun (q17 : Addr) =>
  ∃ (p18 : Option Addr), (∀ wS : World, S14 wS → wS.cell? (Addr.add q17 (Int.toNat n5)) = some ((.pointer p18 : Value))) ∧
  nn p18 (fun (q19 : Addr) =>
  ∃ (s20 : ByteArray), (∀ wS : World, S14 wS → wS.cell? q19 = some ((.string s20 : Value))) ∧
  nn p1 (fun (q21 : Addr) =>
  ∃ (a22 : Option Addr) (l22 : Nat) (c22 : Nat), (∀ wS : World, S14 wS → wS.cell? q21 = some ((.slice a22 l22 c22 : Value))) ∧
  (0 ≤ (n5 : Int) ∧ (n5 : Int) < ((l22 : Nat) : Int)) ∧
  nn a22 (fun (q23 : Addr) =>
  ∃ (p24 : Option Addr), (∀ wS : World, S14 wS → wS.cell? (Addr.add q23 (Int.toNat n5)) = some ((.pointer p24 : Value))) ∧
  nn p24 (fun (q25 : Addr) =>
  ∃ (p26 : Option Addr), (∀ wS : World, S14 wS → wS.cell? (Addr.add q25 3) = some ((.pointer p26 : Value))) ∧
  nn p26 (fun (q27 : Addr) =>
  ∃ (a28 : Option Addr) (l28 : Nat) (c28 : Nat), (∀ wS : World, S14 wS → wS.cell? (Addr.add q27 1) = some ((.slice a28 l28 c28 : Value))) ∧
  ∃ (a29 : Option Addr) (l29 : Nat) (c29 : Nat) (w3 : World), Sem.run Tryz.prog (Builtin.append_ #[40, 40] 40 #[.slice none 0 0, .slice a28 l28 c28]) w2 = .ok ((.slice a29 l29 c29 : Value)) w3 ∧
  S14 w3 ∧
  let w4 := World.alloc w3 (Obj.cells #[.string s20, .slice a29 l29 c29] 122);
  ∃ (a30 : Option Addr) (l30 : Nat) (c30 : Nat) (w5 : World), Sem.run Tryz.prog (Builtin.append_ #[22, 22] 22 #[.slice a4 l4 c4, .slice (some (Addr.mk w3.heap.size 0 none)) 1 1]) w4 = .ok ((.slice a30 l30 c30 : Value)) w5 ∧
  inI (n5 + 1) ∧
  I2 [.slice a30 l30 c30, .int .i64 (n5 + 1)] w5 ∧ mu3 [.slice a30 l30 c30, .int .i64 (n5 + 1)] w5 < mu3 [.slice a4 l4 c4, .int .i64 n5] w1))))))))
  (inI (n5 + 1) ∧
  I2 [.slice a4 l4 c4, .int .i64 (n5 + 1)] w1 ∧ mu3 [.slice a4 l4 c4, .int .i64 (n5 + 1)] w1 < mu3 [.slice a4 l4 c4, .int .i64 n5] w1)))))
  (Q (.slice a4 l4 c4) w1))
theorem C80 {p1 : Option Addr} {Q : Value → World → Prop} {w : World} (h : L80 p1 Q w) : CallR Tryz.prog 80 [.pointer p1] w Q :=
  fun_calls (A := A80) mixed Tryz.func80 (c := (Tryz.f80.body).getD .skip) rfl (by kernel_rfl) (Eq.mp (by kernel_rfl) h)
end Go.Proofs.YtpoaacnnhgebfaaGreat
namespace Go.Proofs.YtpoaacnnhgebfaaGreat
open Go.Proofs Go.Shelf Go.Sort
def laysSort_ren : Go.Shelf.Ren := ⟨fun | 190 => 180 | 125 => 207 | 258 => 206 | 128 => 220 | 129 => 221 | 302 => 211 | 303 => 212 | 304 => 213 | 305 => 214 | 306 => 215 | 307 => 216 | 308 => 217 | 309 => 218 | 310 => 219 | 333 => 223 | 329 => 224 | 330 => 225 | 334 => 226 | 335 => 227 | 336 => 228 | 344 => 229 | n => n, fun | 31 => 131 | 9 => 9 | 3 => 3 | 46 => 313 | 0 => 0 | 51 => 327 | 53 => 329 | 4 => 4 | 183 => 320 | 182 => 319 | 131 => 240 | 5 => 5 | 218 => 331 | 222 => 335 | 228 => 337 | 229 => 67 | n => n, fun | n => n⟩
theorem laysSort : Go.Proofs.Lays.n190 Tryz.prog laysSort_ren := { 
  mixed := by kernel_rfl,
  f125 := Tryz.func207.trans (congrArg some (by kernel_rfl)),
  f128 := Tryz.func220.trans (congrArg some (by kernel_rfl)),
  f129 := Tryz.func221.trans (congrArg some (by kernel_rfl)),
  f190 := Tryz.func180.trans (congrArg some (by kernel_rfl)),
  f258 := Tryz.func206.trans (congrArg some (by kernel_rfl)),
  f302 := Tryz.func211.trans (congrArg some (by kernel_rfl)),
  f303 := Tryz.func212.trans (congrArg some (by kernel_rfl)),
  f304 := Tryz.func213.trans (congrArg some (by kernel_rfl)),
  f305 := Tryz.func214.trans (congrArg some (by kernel_rfl)),
  f306 := Tryz.func215.trans (congrArg some (by kernel_rfl)),
  f307 := Tryz.func216.trans (congrArg some (by kernel_rfl)),
  f308 := Tryz.func217.trans (congrArg some (by kernel_rfl)),
  f309 := Tryz.func218.trans (congrArg some (by kernel_rfl)),
  f310 := Tryz.func219.trans (congrArg some (by kernel_rfl)),
  f329 := Tryz.func224.trans (congrArg some (by kernel_rfl)),
  f330 := Tryz.func225.trans (congrArg some (by kernel_rfl)),
  f333 := Tryz.func223.trans (congrArg some (by kernel_rfl)),
  f334 := Tryz.func226.trans (congrArg some (by kernel_rfl)),
  f335 := Tryz.func227.trans (congrArg some (by kernel_rfl)),
  f336 := Tryz.func228.trans (congrArg some (by kernel_rfl)),
  f344 := Tryz.func229.trans (congrArg some (by kernel_rfl)),
  t0 := Tryz.underlying0,
  a0 := Tryz.isAgg0,
  z0 := Tryz.sizeOf0,
  v0 := Tryz.zeroValue0,
  t3 := Tryz.underlying3,
  a3 := Tryz.isAgg3,
  z3 := Tryz.sizeOf3,
  v3 := Tryz.zeroValue3,
  t4 := Tryz.underlying4,
  a4 := Tryz.isAgg4,
  z4 := Tryz.sizeOf4,
  v4 := Tryz.zeroValue4,
  t5 := Tryz.underlying5,
  a5 := Tryz.isAgg5,
  z5 := Tryz.sizeOf5,
  v5 := Tryz.zeroValue5,
  t9 := Tryz.underlying9,
  a9 := Tryz.isAgg9,
  z9 := Tryz.sizeOf9,
  v9 := Tryz.zeroValue9,
  t31 := Tryz.underlying131,
  a31 := Tryz.isAgg131,
  z31 := Tryz.sizeOf131,
  v31 := Tryz.zeroValue131,
  t46 := Tryz.underlying313,
  a46 := Tryz.isAgg313,
  z46 := Tryz.sizeOf313,
  v46 := Tryz.zeroValue313,
  t51 := Tryz.underlying327,
  a51 := Tryz.isAgg327,
  z51 := Tryz.sizeOf327,
  v51 := Tryz.zeroValue327,
  t53 := Tryz.underlying329,
  a53 := Tryz.isAgg329,
  z53 := Tryz.sizeOf329,
  v53 := Tryz.zeroValue329,
  t131 := Tryz.underlying240,
  a131 := Tryz.isAgg240,
  z131 := Tryz.sizeOf240,
  v131 := Tryz.zeroValue240,
  t182 := Tryz.underlying319,
  a182 := Tryz.isAgg319,
  z182 := Tryz.sizeOf319,
  v182 := Tryz.zeroValue319,
  t183 := Tryz.underlying320,
  a183 := Tryz.isAgg320,
  z183 := Tryz.sizeOf320,
  v183 := Tryz.zeroValue320,
  t218 := Tryz.underlying331,
  a218 := Tryz.isAgg331,
  z218 := Tryz.sizeOf331,
  v218 := Tryz.zeroValue331,
  t222 := Tryz.underlying335,
  a222 := Tryz.isAgg335,
  z222 := Tryz.sizeOf335,
  v222 := Tryz.zeroValue335,
  t228 := Tryz.underlying337,
  a228 := Tryz.isAgg337,
  z228 := Tryz.sizeOf337,
  v228 := Tryz.zeroValue337,
  t229 := Tryz.underlying67,
  a229 := Tryz.isAgg67,
  z229 := Tryz.sizeOf67,
  v229 := Tryz.zeroValue67 }
theorem sortStr (blk off cap : Nat) (ss : List (List UInt8)) (w : World) (hH : Holds encStr w blk off ss.toArray) (hblk : blk < w.heap.size) (hsz : ss.length < 4611686018427387904) :
    Calls Tryz.prog (laysSort_ren.f 190) #[.slice (some ⟨blk, off, none⟩) ss.length cap] w fun e w' =>
      e = .returned (.tuple #[]) ∧ ∃ n os, w' = grow (putRow encStr (Sort.ahead w n) blk off (ss.mergeSort fun x y => decide (x ≤ y)).toArray) os :=
  calls_of_every_depth fun D => AnyS.slices_Sort_string_in laysSort D blk off cap ss w hH hblk hsz
theorem lenBits (n : Nat) (w : World) (hn : n < 4611686018427387904) : Calls Tryz.prog (laysSort_ren.f 125) #[.int .u64 (n : Int)] w fun e w' => e = .returned (.int .i64 (bitsLen n : Nat)) ∧ w' = w :=
  calls_of_every_depth fun D => Any.lenWalkInSAll { laysSort with } D n w hn
end Go.Proofs.YtpoaacnnhgebfaaGreat
set_option maxRecDepth 512
namespace Go.Lw
open Go.MapKept
abbrev kv (e : MapEntry) : Value × Value := (e.key, e.val)
def RngO (w : World) (b r : Nat) (d : TypeDesc) (m left : List (Value × Value)) : Prop :=
  ∃ es clock since seen c0, w.heap[b]? = some (.map es clock) ∧ Stamped es clock ∧ (∀ x ∈ es.toList, IsKey d x.key) ∧ es.toList.map kv = m ∧
    w.heap[r]? = some (.mapIter (some b) since seen c0) ∧ (∀ x ∈ es.toList, x.born < since) ∧ since ≤ c0 ∧ since ≤ clock ∧ (leftOf es seen).toList.map kv = left
theorem RngO.map {w : World} {b r : Nat} {d : TypeDesc} {m left : List (Value × Value)} (h : RngO w b r d m left) : MapO w b d m := by
  obtain ⟨es, clock, since, seen, c0, hb, hs, hk, hm, _⟩ := h
  exact ⟨es, clock, hb, hs, hk, hm⟩
theorem RngO.lt {w : World} {b r : Nat} {d : TypeDesc} {m left : List (Value × Value)} (h : RngO w b r d m left) : r < w.heap.size := by
  obtain ⟨es, clock, since, seen, c0, hb, hs, hk, hm, hr, _⟩ := h
  exact (Array.getElem?_eq_some_iff.1 hr).1
theorem RngO.keep {w w' : World} {b r : Nat} {d : TypeDesc} {m left : List (Value × Value)} (h : RngO w b r d m left) {S : Nat → Prop} (k : Kept S w w') (hb : ¬ S b) (hr : ¬ S r) : RngO w' b r d m left := by
  have hl := h.map.lt
  have hl2 := h.lt
  obtain ⟨es, clock, since, seen, c0, h1, hs, hk, hm, h2, h⟩ := h
  exact ⟨es, clock, since, seen, c0, (k.block _ hl hb).trans h1, hs, hk, hm, (k.block _ hl2 hr).trans h2, h⟩
section
variable {P : Program} {w : World} {mty kt et : TypeId} {d : TypeDesc} {b r : Nat} {m left : List (Value × Value)}
theorem range_map (hm : P.underlying mty = some (.map kt et)) (h : MapO w b d m) :
    ∃ w', (Instr.range mty (.map (some b))).run P w = .ok (.pointer (some ⟨w.heap.size, 0, none⟩)) w' ∧ RngO w' b w.heap.size d m m ∧ Kept No w w' ∧ w'.heap.size = w.heap.size + 1 := by
  have hlt := h.lt
  obtain ⟨es, clock, hb, hs, hks, rfl⟩ := h
  refine ⟨_, run_range_map w mty kt et b es clock hm hb, ⟨es, clock, clock, #[], clock, ((MapKept.heap_alloc w _).2 b hlt).trans hb, hs, hks, rfl, (MapKept.heap_alloc w _).1, hs.1, Nat.le_refl _, Nat.le_refl _, ?_⟩, Kept.alloc _ _ _, by simp⟩
  unfold leftOf
  congr 2
  simp
theorem left_push (es : Array MapEntry) (seen : Array Nat) (k : Nat) : (leftOf es (seen.push k)).toList = (leftOf es seen).toList.filter fun x => !(x.born == k) := by
  unfold leftOf
  rw [Array.toList_filter, Array.toList_filter, List.filter_filter]
  congr 1
  funext x
  rw [Array.contains_push, Bool.not_or, Bool.and_comm]
theorem filter_one {l : List MapEntry} (hn : (l.map (·.born)).Nodup) {e : MapEntry} (he : e ∈ l) : ∃ l1 l2, l = l1 ++ e :: l2 ∧ (l.filter fun x => !(x.born == e.born)) = l1 ++ l2 := by
  obtain ⟨l1, l2, rfl⟩ := List.append_of_mem he
  refine ⟨l1, l2, rfl, ?_⟩
  rw [List.map_append, List.map_cons, List.nodup_append] at hn
  obtain ⟨h1, h2, h3⟩ := hn
  have h2 := List.nodup_cons.1 h2
  have e1 : (l1.filter fun x => !(x.born == e.born)) = l1 := List.filter_eq_self.2 fun x hx => by
    have := h3 x.born (List.mem_map.2 ⟨x, hx, rfl⟩) e.born (by simp)
    simpa using this
  have e2 : (l2.filter fun x => !(x.born == e.born)) = l2 := List.filter_eq_self.2 fun x hx => by
    have : x.born ≠ e.born := fun e' => h2.1 (List.mem_map.2 ⟨x, hx, e'⟩)
    simpa using this
  rw [List.filter_append, e1, List.filter_cons_of_neg (by simp), e2]
theorem next_map (h : RngO w b r d m left) (ty : TypeId) :
    (left = [] ∧ (Instr.next (.pointer (some ⟨r, 0, none⟩)) false ty).run P w = .ok (.tuple #[.bool false]) w) ∨
    ∃ p l1 l2 w', left = l1 ++ p :: l2 ∧ p ∈ m ∧ (Instr.next (.pointer (some ⟨r, 0, none⟩)) false ty).run P w = .ok (.tuple #[.bool true, p.1, p.2]) w' ∧ RngO w' b r d m (l1 ++ l2) ∧ Kept (· = r) w w' ∧ w'.heap.size = w.heap.size ∧
      (Instr.entry (.pointer (some ⟨r, 0, none⟩))).run P w' = .ok (.tuple #[p.1, p.2]) w' := by
  obtain ⟨es, clock, since, seen, c0, hb, hs, hk, rfl, hr, hold, hsc, hsk, rfl⟩ := h
  have hne : b ≠ r := fun e => by rw [e, hr] at hb; cases hb
  rcases run_next_at (P := P) w ty r b since c0 seen es clock hr hb hold hsc with ⟨h0, hrun⟩ | ⟨e, he, w1, hal, hrun⟩
  · refine .inl ⟨?_, hrun⟩
    have : leftOf es seen = #[] := Array.eq_empty_of_size_eq_zero h0
    rw [this]; rfl
  · have hr1 : w1.heap[r]? = some (.mapIter (some b) since seen c0) := by rcases hal with rfl | rfl <;> exact hr
    have hb1 : w1.heap[b]? = some (.map es clock) := by rcases hal with rfl | rfl <;> exact hb
    have hset := heap_set (o' := .mapIter (some b) since (seen.push e.born) clock) hr1
    have hmem : e ∈ es.toList := by unfold leftOf at he; rw [Array.toList_filter] at he; exact (List.mem_filter.1 he).1
    have hnd : ((leftOf es seen).toList.map (·.born)).Nodup := by
      have : (leftOf es seen).toList.Sublist es.toList := by unfold leftOf; rw [Array.toList_filter]; exact List.filter_sublist
      exact (this.map _).nodup hs.2.1
    obtain ⟨l1, l2, e1, e2⟩ := filter_one hnd he
    have hk1 : Kept No w w1 := by
      rcases hal with rfl | rfl
      · exact Kept.refl _ _
      · exact Kept.drew _ _
    have hbset := (hset.2 b hne).trans hb1
    refine .inr ⟨kv e, l1.map kv, l2.map kv, _, by rw [e1]; simp, List.mem_map.2 ⟨e, hmem, rfl⟩, hrun, ⟨es, clock, since, seen.push e.born, clock, hbset, hs, hk, rfl, hset.1, hold, hsk, hsk, ?_⟩, ?_, ?_, ?_⟩
    · rw [left_push, e2, List.map_append]
    · exact ⟨hk1.os, hk1.tape, hk1.output, by simp [ChangeMaps.setBlock]; exact hk1.size, fun k hkl hkn => (hset.2 k hkn).trans (hk1.block k hkl fun e => e)⟩
    · have : w1.heap.size = w.heap.size := by rcases hal with rfl | rfl <;> rfl
      simp [ChangeMaps.setBlock, this]
    · exact run_entry_at _ r b since seen es clock e hset.1 hbset hmem hs.2.1
end
end Go.Lw
namespace Go.Proofs.YtpoaacnnhgebfaaGreat
open Go.Lw Go.Sort
def Sv (ss : List ByteArray) : List Value := ss.map .string
theorem Sv_one (ss : List ByteArray) : ∀ u ∈ Sv ss, u.oneCell' = true := by
  intro u hu; unfold Sv at hu; rw [List.mem_map] at hu; obtain ⟨n, _, rfl⟩ := hu; rfl
theorem Sv_len (ss : List ByteArray) : (Sv ss).length = ss.length := by unfold Sv; rw [List.length_map]
def dataL (ss : List ByteArray) : List (List UInt8) := ss.map (·.data.toList)
def strL (ls : List (List UInt8)) : List ByteArray := ls.map fun x => ⟨x.toArray⟩
theorem strL_dataL (ss : List ByteArray) : strL (dataL ss) = ss := by
  unfold strL dataL
  rw [List.map_map]
  conv => rhs; rw [← List.map_id ss]
  apply List.map_congr_left
  intro x _
  show (⟨x.data.toList.toArray⟩ : ByteArray) = x
  rfl
def sortN (ss : List ByteArray) : List ByteArray := strL ((dataL ss).mergeSort leB)
theorem sortN_perm (ss : List ByteArray) : (sortN ss).Perm ss := by
  have := (List.mergeSort_perm (dataL ss) leB).map fun x => (⟨x.toArray⟩ : ByteArray)
  unfold sortN
  have e : strL (dataL ss) = ss := strL_dataL ss
  unfold strL at e ⊢
  rw [e] at this
  exact this
theorem sortN_of_perm {ss ts : List ByteArray} (h : ss.Perm ts) : sortN ss = sortN ts := by
  unfold sortN
  have h2 : (dataL ss).Perm (dataL ts) := h.map _
  rw [mergeSort_of_perm h2]
theorem sortN_len (ss : List ByteArray) : (sortN ss).length = ss.length := (sortN_perm ss).length_eq
theorem sort_nil {w : World} {c : Nat} : CallR Tryz.prog 180 [.slice none 0 c] w fun v w' => v = .tuple #[] ∧ w' = w := by
  refine C180 ?_
  unfold L180
  have hlen := lenBits 0 w (by omega)
  refine Calls.mono (hlen : Calls Tryz.prog 207 #[.int .u64 ((0 : Nat) : Int)] w _) ?_
  rintro e w1 ⟨rfl, rfl⟩
  refine ⟨_, rfl, _, rfl, C206 ?_⟩
  unfold L206
  refine ⟨fun vs w' => w' = w1 ∧ ∃ n b1 b2, vs = [.int .i64 0, .int .i64 0, .int .i64 n, .bool b1, .bool b2], fun _ _ => 0, ⟨rfl, _, _, _, rfl⟩, ?_⟩
  rintro _ n7 n8 n9 b10 b11 w2 ⟨rfl, n, b1, b2, hv⟩
  simp only [List.cons.injEq, Value.int.injEq, true_and, and_true] at hv
  obtain ⟨rfl, rfl, _⟩ := hv
  refine ⟨⟨by decide, by decide⟩, condTr2 (C211 ?_)⟩
  unfold L211
  refine ⟨⟨by decide, by decide⟩, fun vs w' => w' = w2 ∧ vs = [.int .i64 1], fun _ _ => 0, ⟨rfl, rfl⟩, ?_⟩
  rintro _ n6 w3 ⟨rfl, hv⟩
  simp only [List.cons.injEq, Value.int.injEq, true_and, and_true] at hv
  subst hv
  exact condFa2 ⟨rfl, rfl, rfl, rfl⟩
theorem sort_ok {w : World} {a : Option Addr} {l c : Nat} {ss : List ByteArray} (h : SlO 1 w a l c (Sv ss)) (hl : l < 4611686018427387904) :
    CallR Tryz.prog 180 [.slice a l c] w fun v w' => v = .tuple #[] ∧ RdS 1 w' a l c (Sv (sortN ss)) ∧ Kept (inA a) w w' := by
  have hlen : ss.length = l := by have := h.1; rw [Sv_len] at this; omega
  rcases h.2 with ⟨rfl, rfl, rfl⟩ | ⟨g, off, cur, rfl, hb, hlc, hcs, htk⟩
  · refine CallR.mono sort_nil ?_
    rintro v w' ⟨rfl, rfl⟩
    have : ss = [] := List.eq_nil_of_length_eq_zero hlen
    subst this
    have e : sortN [] = [] := List.eq_nil_of_length_eq_zero (by rw [sortN_len]; rfl)
    rw [e]
    exact ⟨rfl, RdS.nil 1 _, Kept.refl _ _⟩
  · have hdl : (dataL ss).length = l := by unfold dataL; rw [List.length_map, hlen]
    have henc : ∀ j, j < l → w.cell? ⟨g, off + j, none⟩ = (Sv ss)[j]? := fun j hj => by
      rw [hb.cell, ← htk, List.getElem?_take, if_pos (by omega), List.getElem?_drop]
      simp
    have hH : Holds encStr w g off (dataL ss).toArray := by
      intro j hj
      have hj' : j < ss.length := by have : j < (dataL ss).length := by simpa using hj
                                     omega
      refine ⟨?_, hb.frozen _⟩
      rw [henc j (by omega)]
      unfold Sv dataL
      simp [hj']
    have hs := sortStr g off c (dataL ss) w hH hb.lt (by omega)
    rw [hdl] at hs
    have hs : Calls Tryz.prog 180 #[.slice (some ⟨g, off, none⟩) l c] w _ := hs
    refine Calls.mono hs ?_
    rintro e w' ⟨rfl, n, os, rfl⟩
    have hml : ((dataL ss).mergeSort fun x y => decide (x ≤ y)).length = l := by rw [List.length_mergeSort, hdl]
    have hms : Sv (sortN ss) = ((dataL ss).mergeSort fun x y => decide (x ≤ y)).map encStr := by
      unfold Sv sortN strL
      rw [List.map_map]
      rfl
    generalize hT : ((dataL ss).mergeSort fun x y => decide (x ≤ y)) = T at hml hms
    refine ⟨_, rfl, rfl, ⟨by rw [hms, List.length_map, hml]; omega, hlc, (fun h => by cases h), fun ad had i v hi => ?_⟩, ?_⟩
    · cases had
      rw [add_none]
      have hil : i < T.length := by
        have := (List.getElem?_eq_some_iff.1 hi).1
        rw [hms, List.length_map] at this; exact this
      rw [cell?_grow _ _ _ (by simpa using hb.lt), putRow_ahead, cell?_ahead, cell?_putRow encStr w g off (dataL ss).toArray T.toArray hH (by simp [hml, hdl]) i (by simpa using hil)]
      rw [hms] at hi
      rw [List.getElem?_map, List.getElem?_eq_getElem hil] at hi
      simp only [Option.map_some, Option.some.injEq] at hi
      rw [← hi]
      simp [hil]
    · refine ⟨rfl, rfl, rfl, by simp, fun k hk hne => ?_⟩
      rw [heap_grow_old _ _ (by simpa using hk)]
      have : g ≠ k := fun e => hne ((inA_some _ _ _ _).2 e.symm)
      simp [putRow, mapBlock, Sort.ahead, Array.getElem?_modify, this]
def dataO : AObj → List Int
  | .file bs => bs
  | _ => []
def AK.bytesOf (s : AK) (nm : ByteArray) : List Int := match s.fileOf nm with
  | some f => dataO (s.objs f.2)
  | none => []
def AK.filesV (s : AK) : List (ByteArray × List Int) := (sortN (s.files.map (·.1))).map fun nm => (nm, s.bytesOf nm)
theorem AK.fileOf_mem {s : AK} (h : s.Ok) {f : ByteArray × Nat} (hf : f ∈ s.files) : s.fileOf f.1 = some f := by
  unfold AK.fileOf
  cases hd : s.files.find? (fun g => decide (g.1 = f.1)) with
  | none =>
    rw [List.find?_eq_none] at hd
    have := hd f hf
    simp at this
  | some g =>
    have hg := List.mem_of_find?_eq_some hd
    have hn : g.1 = f.1 := by simpa using List.find?_some hd
    obtain ⟨i, hi, rfl⟩ := List.mem_iff_getElem.1 hf
    obtain ⟨j, hj, rfl⟩ := List.mem_iff_getElem.1 hg
    have : (s.files.map (·.1))[j]'(by simpa using hj) = (s.files.map (·.1))[i]'(by simpa using hi) := by rw [List.getElem_map, List.getElem_map]; exact hn
    have := (List.getElem_inj h.fn).1 this
    subst this
    rfl
theorem AK.termOf_mem {s : AK} (h : (s.terms.map (·.1)).Nodup) {f : ByteArray × Nat} (hf : f ∈ s.terms) : s.termOf f.1 = some f := by
  unfold AK.termOf
  cases hd : s.terms.find? (fun g => decide (g.1 = f.1)) with
  | none =>
    rw [List.find?_eq_none] at hd
    have := hd f hf
    simp at this
  | some g =>
    have hg := List.mem_of_find?_eq_some hd
    have hn : g.1 = f.1 := by simpa using List.find?_some hd
    obtain ⟨i, hi, rfl⟩ := List.mem_iff_getElem.1 hf
    obtain ⟨j, hj, rfl⟩ := List.mem_iff_getElem.1 hg
    have : (s.terms.map (·.1))[j]'(by simpa using hj) = (s.terms.map (·.1))[i]'(by simpa using hi) := by rw [List.getElem_map, List.getElem_map]; exact hn
    have := (List.getElem_inj h).1 this
    subst this
    rfl
theorem AK.filesV_len (s : AK) : s.filesV.length = s.files.length := by
  unfold AK.filesV; rw [List.length_map, sortN_len, List.length_map]
end Go.Proofs.YtpoaacnnhgebfaaGreat
namespace Go.Proofs.YtpoaacnnhgebfaaGreat
open Go.Lw
theorem Nv_one' (es : List (ByteArray × Slc)) : ∀ u ∈ Nv es, u.oneCell' = true := by
  intro u hu
  simp only [Nv, List.mem_flatMap, List.mem_cons, List.not_mem_nil, or_false] at hu
  obtain ⟨f, _, h | h⟩ := hu
  · subst h; rfl
  · subst h; rfl
theorem Nv_app' (a b : List (ByteArray × Slc)) : Nv (a ++ b) = Nv a ++ Nv b := by simp [Nv]
structure OwnN (w0 w : World) (a : Option Addr) (l c : Nat) (fs : List (ByteArray × List Int)) (es : List (ByteArray × Slc)) : Prop where
  sl : SlO 2 w a l c (Nv es)
  len : es.length = fs.length
  each : ∀ i, (h : i < es.length) → (h2 : i < fs.length) → es[i].1 = fs[i].1 ∧ OB w es[i].2.1 es[i].2.2.1 es[i].2.2.2 fs[i].2
  fr : ∀ b, inA a b → w0.heap.size ≤ b
  fe : ∀ i, (h : i < es.length) → ∀ b, inA es[i].2.1 b → w0.heap.size ≤ b ∧ ¬ inA a b
  ap : ∀ i j, (hi : i < es.length) → (hj : j < es.length) → i ≠ j → ∀ b, inA es[i].2.1 b → ¬ inA es[j].2.1 b
theorem OwnN.rd {w0 w : World} {a : Option Addr} {l c : Nat} {fs : List (ByteArray × List Int)} {es : List (ByteArray × Slc)} (h : OwnN w0 w a l c fs es) : RdN RB w a l c fs es :=
  ⟨h.sl.rd, h.len, fun i h1 h2 => ⟨(h.each i h1 h2).1, (h.each i h1 h2).2.rd⟩⟩
theorem OwnN.keep {w0 w w' : World} {a : Option Addr} {l c : Nat} {fs : List (ByteArray × List Int)} {es : List (ByteArray × Slc)} (h : OwnN w0 w a l c fs es) {S : Nat → Prop} (k : Kept S w w') (hn : ∀ b, w0.heap.size ≤ b → b < w.heap.size → ¬ S b) : OwnN w0 w' a l c fs es :=
  ⟨h.sl.keep k fun b hb => hn b (h.fr b hb) (SlO.lt h.sl b hb), h.len, fun i h1 h2 => ⟨(h.each i h1 h2).1, (h.each i h1 h2).2.keep k fun b hb => hn b (h.fe i h1 b hb).1 (SlO.lt (h.each i h1 h2).2 b hb)⟩, h.fr, h.fe, h.ap⟩
theorem OwnN.no {w0 w w' : World} {a : Option Addr} {l c : Nat} {fs : List (ByteArray × List Int)} {es : List (ByteArray × Slc)} (h : OwnN w0 w a l c fs es) (k : Kept No w w') : OwnN w0 w' a l c fs es := h.keep k fun _ _ _ e => e
theorem AK.mF_mem {s : AK} {L : KL} {f : ByteArray × Nat} (hf : f ∈ s.files) : ((.string f.1, pd (L.loc f.2)) : Value × Value) ∈ s.mF L := List.mem_map.2 ⟨f, hf, rfl⟩
set_option maxHeartbeats 2000000 in
theorem kernFiles_ok {w : World} {gk : Nat} {s : AK} {L : KL} (h : KernO w gk s L) :
    CallR Tryz.prog 76 [pd gk] w fun v w' => ∃ a l c es, v = .slice a l c ∧ OwnN w w' a l c s.filesV es ∧ Kept No w w' := by
  refine C76 ?_
  unfold L76
  have hTm : Tryz.prog.underlying 112 = some (.map 9 123) := by kernel_rfl
  have hTs : Tryz.prog.underlying 9 = some .string := by kernel_rfl
  refine enone_to h ⟨false, rfl, condF rfl (nnI ⟨_, h.blk.at (i := 1) rfl, ?_⟩)⟩
  obtain ⟨w2, hrun2, hr2, hk2, hz2⟩ := range_map (P := Tryz.prog) hTm h.mf
  refine ⟨w2, hrun2, ?_⟩
  have hfl := h.ok.fl
  have hLF := h.lt L.rf (by rw [h.oF]; simp)
  obtain ⟨I, hI⟩ : ∃ I : List Value → World → Prop, I = fun vs w' => ∃ (a : Option Addr) (c : Nat) (done : List ByteArray) (lf : List (ByteArray × Nat)), vs = [.slice a done.length c] ∧ RngO w' L.rf w.heap.size .string (s.mF L) (lf.map fun f => (.string f.1, pd (L.loc f.2))) ∧
    SlO 1 w' a done.length c (Sv done) ∧ (∀ b, inA a b → w.heap.size < b) ∧ (done ++ lf.map (·.1)).Perm (s.files.map (·.1)) ∧ Kept No w w' := ⟨_, rfl⟩
  obtain ⟨mu, hmu⟩ : ∃ mu : List Value → World → Nat, mu = fun vs _ => match vs with | [.slice _ l _] => s.files.length - l | _ => 0 := ⟨_, rfl⟩
  refine ⟨I, mu, by rw [hI]; exact ⟨none, 0, [], s.files, rfl, hr2, SlO.nil 1 _, fun b hb => absurd hb (inA_none b), by simp, hk2⟩, ?_⟩
  rintro _ a8 l8 c8 w3 hInv
  rw [hI] at hInv
  obtain ⟨a, c, done, lf, hvs, hr3, hs3, hf3, hp3, hk3⟩ := hInv
  simp only [List.cons.injEq, Value.slice.injEq, and_true] at hvs
  obtain ⟨rfl, rfl, rfl⟩ := hvs
  have hcount : done.length + lf.length = s.files.length := by have := hp3.length_eq; simpa using this
  rcases next_map (P := Tryz.prog) hr3 0 with ⟨hl, hrun⟩ | ⟨p, l1, l2, w5, hl, hpm, hrun, hr5, hk5, hz5, hent⟩
  · left
    have hlf : lf = [] := List.map_eq_nil_iff.1 hl
    subst hlf
    have hp3 : done.Perm (s.files.map (·.1)) := by simpa using hp3
    refine ⟨w3, hrun, CallR.mono (sort_ok hs3 (by omega)) ?_⟩
    rintro v w6 ⟨rfl, hrd6, hk6⟩
    rw [sortN_of_perm hp3] at hrd6
    have k6 : Kept No w w6 := hk3.fresh hk6 fun x hx => by have := hf3 x hx; omega
    have h6 := h.no k6
    have hNl : (sortN (s.files.map (·.1))).length = done.length := by rw [sortN_len, ← hp3.length_eq]
    have hfv : s.filesV.length = done.length := by rw [AK.filesV_len]; simpa using hcount.symm
    refine ⟨rfl, ?_⟩
    obtain ⟨I2, hI2⟩ : ∃ I : List Value → World → Prop, I = fun vs w' => ∃ (i : Nat) (a' : Option Addr) (c' : Nat) (es : List (ByteArray × Slc)), vs = [.slice a' i c', .int .i64 (i : Int)] ∧ i ≤ done.length ∧ OwnN w6 w' a' i c' (s.filesV.take i) es ∧ Kept No w6 w' := ⟨_, rfl⟩
    obtain ⟨mu2, hmu2⟩ : ∃ mu : List Value → World → Nat, mu = fun vs _ => match vs with | [_, .int _ i] => done.length - i.toNat | _ => 0 := ⟨_, rfl⟩
    refine ⟨I2, mu2, by
      rw [hI2]
      exact ⟨0, none, 0, [], rfl, Nat.zero_le _, ⟨SlO.nil 2 _, by simp, fun i h1 => by simp at h1, fun b hb => absurd hb (inA_none b), fun i h1 => by simp at h1, fun i j h1 => by simp at h1⟩, Kept.refl _ _⟩, ?_⟩
    rintro _ a14 l14 c14 n15 w7 hInv
    rw [hI2] at hInv
    obtain ⟨i, a', c', es, hvs, hi, hO, hk7⟩ := hInv
    simp only [List.cons.injEq, Value.slice.injEq, Value.int.injEq, true_and, and_true] at hvs
    obtain ⟨⟨rfl, rfl, rfl⟩, rfl⟩ := hvs
    have hesl : es.length = l14 := by rw [hO.len, List.length_take]; omega
    refine condP (fun hlt => ?_) (fun hge => ?_)
    · have hil : l14 < done.length := by omega
      have hN : l14 < (sortN (s.files.map (·.1))).length := by omega
      have hrd7 := hrd6.keep hk7 fun _ _ _ e => e
      have h7 := h6.no hk7
      obtain ⟨q, hq⟩ : ∃ q, a8 = some q := by
        cases ha : a8 with
        | none => have := RdS.isNone hrd7 ha; omega
        | some q => exact ⟨q, rfl⟩
      generalize hnm : (sortN (s.files.map (·.1)))[l14] = nm
      have hcell := hrd7.2.2.2 q hq l14 (.string nm) (by unfold Sv; rw [List.getElem?_map, List.getElem?_eq_getElem hN, hnm]; rfl)
      obtain ⟨f, hf, hfn⟩ : ∃ f ∈ s.files, f.1 = nm := by
        have : nm ∈ s.files.map (·.1) := (sortN_perm _).mem_iff.1 (by rw [← hnm]; exact List.getElem_mem hN)
        obtain ⟨f, hf, e⟩ := List.mem_map.1 this
        exact ⟨f, hf, e⟩
      have hfo := AK.fileOf_mem h.ok hf
      rw [hfn] at hfo
      have hfi := h.ok.fi f hf
      obtain ⟨bs, hob⟩ : ∃ bs, s.objs f.2 = .file bs := by
        cases ho : s.objs f.2 with
        | file bs => exact ⟨bs, rfl⟩
        | term LL scr => have := hfi.2; rw [ho] at this; cases this
        | pipe bs e0 e1 => have := hfi.2; rw [ho] at this; cases this
      have hby : s.bytesOf nm = bs := by unfold AK.bytesOf; rw [hfo]; dsimp only; rw [hob]; rfl
      have hfv1 : s.filesV.take (l14 + 1) = s.filesV.take l14 ++ [(nm, bs)] := by
        have hx : s.filesV[l14]? = some (nm, bs) := by
          unfold AK.filesV
          rw [List.getElem?_map, List.getElem?_eq_getElem hN, hnm]
          show some (nm, s.bytesOf nm) = _
          rw [hby]
        rw [List.take_add_one, hx]
        rfl
      have hF := h7.ob f.2 hfi.1
      rw [hob] at hF
      have hF : FileO _ w7 (L.loc f.2) bs := hF
      refine ⟨⟨by omega, by omega⟩, nnE2 hq ⟨nm, by rw [Int.toNat_natCast]; exact hcell, nnI ⟨_, h7.blk.at (i := 1) rfl, some ⟨L.loc f.2, 0, none⟩, w7, ?_, ?_⟩⟩⟩
      · have := lookup_in (P := Tryz.prog) hTm hTs h7.mf (k := .string nm) trivial (by have := AK.mF_mem (L := L) hf; rw [hfn] at this; exact this) false
        exact this
      refine CallR.mono (bytes_ok hF) ?_
      rintro v w9 ⟨a21, c21, rfl, ob9, hf9, hk9⟩
      refine ⟨_, _, _, rfl, ?_⟩
      intro w10
      have hk10 : Kept No w9 w10 := Kept.alloc _ _ _
      have hz10 : w10.heap.size = w9.heap.size + 1 := by simp [w10]
      have hnew : SlO 2 w10 (some ⟨w9.heap.size, 0, none⟩) 1 1 (Nv [(nm, (a21, bs.length, c21))]) := SlO.of_blk (sz := 2) (n := 1) (Blk.alloc w9 #[.string nm, .slice a21 bs.length c21] _) rfl
      clear_value w10
      have k710 := hk9.no hk10
      have hO10 := hO.no k710
      obtain ⟨a23, c23, w11, hrun11, hs11, hk11, hat, _⟩ := run_app_sl (P := Tryz.prog) (t := 22) (t2 := 22) (ty := 22) (by kernel_rfl : slTyB Tryz.prog 22 2 40 = true) (by kernel_rfl) hO10.sl hnew.rd (Nv_one' _) (by omega) (by omega)
      rw [← Nv_app'] at hs11
      have hob10 := ob9.keep hk10 fun _ _ e => e
      have hlt9 := SlO.lt ob9
      have hltA := SlO.lt hO.sl
      have hz7 := hk7.size
      have hz9 := hk9.size
      have hz11 := hk11.size
      have hin23 : ∀ b, inA a23 b → inA a14 b ∨ b = w10.heap.size := fun b hb => hat.in hb
      refine ⟨a23, _, c23, w11, hrun11, ⟨by omega, by omega⟩, by
        rw [hI2]
        refine ⟨l14 + 1, a23, c23, es ++ [(nm, (a21, bs.length, c21))], rfl, by omega, ⟨hs11, by rw [hfv1, List.length_append, List.length_append, hO.len]; rfl, fun j h1 h2 => ?_, fun b hb => ?_, fun j h1 b hb => ?_, fun j k h1 h2 hjk b hb hb2 => ?_⟩, (hk7.no k710).fresh hk11 fun x hx => hO.fr x hx⟩
        · by_cases hj : j < es.length
          · have hj2 : j < (s.filesV.take l14).length := by rw [← hO.len]; exact hj
            have e1 : (s.filesV.take (l14 + 1))[j] = (s.filesV.take l14)[j] := by
              simp only [hfv1]
              rw [List.getElem_append_left hj2]
            rw [List.getElem_append_left hj, e1]
            obtain ⟨g1, g2⟩ := hO10.each j hj hj2
            exact ⟨g1, g2.keep hk11 fun b hb e => (hO.fe j hj b hb).2 e⟩
          · have hje : j = l14 := by simp at h1; omega
            subst hje
            have e1 : (s.filesV.take (j + 1))[j] = (nm, bs) := by
              simp only [hfv1]
              rw [List.getElem_append_right (by rw [← hO.len]; omega)]
              simp [← hO.len, hesl]
            rw [List.getElem_append_right (by omega), e1]
            simp only [hesl, Nat.sub_self, List.getElem_cons_zero]
            exact ⟨trivial, hob10.keep hk11 fun b hb e => by have := hf9 b hb; have := hltA b e; omega⟩
        · rcases hin23 b hb with e | e
          · exact hO.fr b e
          · omega
        · by_cases hj : j < es.length
          · rw [List.getElem_append_left hj] at hb
            obtain ⟨g1, g2⟩ := hO.fe j hj b hb
            refine ⟨g1, fun e => ?_⟩
            rcases hin23 b e with e | e
            · exact g2 e
            · have hj2 : j < (s.filesV.take l14).length := by rw [← hO.len]; exact hj
              have := SlO.lt (hO.each j hj hj2).2 b hb
              omega
          · have hje : j = l14 := by simp at h1; omega
            subst hje
            rw [List.getElem_append_right (by omega)] at hb
            simp only [hesl, Nat.sub_self, List.getElem_cons_zero] at hb
            have := hf9 b hb
            refine ⟨by omega, fun e => ?_⟩
            rcases hin23 b e with e | e
            · have := hltA b e; omega
            · have := hlt9 b hb; omega
        · have old : ∀ {m : Nat} (hm : m < es.length), inA es[m].2.1 b → b < w7.heap.size := fun {m} hm hb => by
            have hm2 : m < (s.filesV.take l14).length := by rw [← hO.len]; exact hm
            exact SlO.lt (hO.each m hm hm2).2 b hb
          by_cases hj : j < es.length
          · by_cases hk : k < es.length
            · rw [List.getElem_append_left hj] at hb
              rw [List.getElem_append_left hk] at hb2
              exact hO.ap j k hj hk hjk b hb hb2
            · have hke : k = l14 := by simp at h2; omega
              subst hke
              rw [List.getElem_append_left hj] at hb
              rw [List.getElem_append_right (by omega)] at hb2
              simp only [hesl, Nat.sub_self, List.getElem_cons_zero] at hb2
              have := old hj hb
              have := hf9 b hb2
              omega
          · have hje : j = l14 := by simp at h1; omega
            by_cases hk : k < es.length
            · subst hje
              rw [List.getElem_append_left hk] at hb2
              rw [List.getElem_append_right (by omega)] at hb
              simp only [hesl, Nat.sub_self, List.getElem_cons_zero] at hb
              have := old hk hb2
              have := hf9 b hb
              omega
            · have hke : k = l14 := by simp at h2; omega
              omega, ?_⟩
      rw [hmu2]
      show done.length - ((l14 : Int) + 1).toNat < done.length - (l14 : Int).toNat
      omega
    · have hle : l14 = done.length := by omega
      have htk : s.filesV.take l14 = s.filesV := List.take_of_length_le (by omega)
      rw [htk] at hO
      refine ⟨_, _, _, es, rfl, ⟨hO.sl, hO.len, hO.each, fun b hb => ?_, fun j h1 b hb => ?_, hO.ap⟩, k6.no hk7⟩
      · have := hO.fr b hb; have := k6.size; omega
      · obtain ⟨g1, g2⟩ := hO.fe j h1 b hb
        exact ⟨by have := k6.size; omega, g2⟩
  · right
    obtain ⟨lf1, f, lf2, rfl, e1, rfl, e2⟩ : ∃ lf1 f lf2, lf = lf1 ++ f :: lf2 ∧ l1 = lf1.map (fun f => ((.string f.1, pd (L.loc f.2)) : Value × Value)) ∧ p = (.string f.1, pd (L.loc f.2)) ∧ l2 = lf2.map (fun f => ((.string f.1, pd (L.loc f.2)) : Value × Value)) := by
      obtain ⟨x1, x2, e1, e2, e3⟩ := List.map_eq_append_iff.1 hl
      obtain ⟨f, x3, e4, e5, e6⟩ := List.map_eq_cons_iff.1 e3
      exact ⟨x1, f, x3, by rw [e1, e4], e2.symm, e5.symm, e6.symm⟩
    rw [e1, e2, ← List.map_append] at hr5
    refine ⟨_, _, w5, hrun, f.1, _, w5, hent, ?_⟩
    intro w13
    have hk13 : Kept No w5 w13 := Kept.alloc _ _ _
    have hz13 : w13.heap.size = w5.heap.size + 1 := by simp [w13]
    have hnew : SlO 1 w13 (some ⟨w5.heap.size, 0, none⟩) 1 1 (Sv [f.1]) := SlO.of_blk (sz := 1) (n := 1) (Blk.alloc w5 #[.string f.1] _) rfl
    clear_value w13
    have hit : w.heap.size < w3.heap.size := hr3.lt
    have hs13 := (hs3.keep hk5 fun b hb e => by have := hf3 b hb; omega).keep hk13 fun _ _ e => e
    obtain ⟨a26, c26, w14, hrun14, hs14, hk14, hat, _⟩ := run_app_sl (P := Tryz.prog) (t := 131) (t2 := 131) (ty := 131) (by kernel_rfl : slTyB Tryz.prog 131 1 16 = true) (by kernel_rfl) hs13 hnew.rd (Sv_one _) (by omega) (by omega)
    have hsv : Sv done ++ Sv [f.1] = Sv (done ++ [f.1]) := by simp [Sv]
    rw [hsv] at hs14
    have hdl : done.length + 1 = (done ++ [f.1]).length := by simp
    have hin26 : ∀ b, inA a26 b → w.heap.size < b := fun b hb => by
      rcases hat.in hb with e | e
      · exact hf3 b e
      · omega
    have k5 : Kept No w w5 := hk3.fresh hk5 fun x e => by omega
    refine ⟨a26, _, c26, w14, hrun14, ?_, ?_⟩
    · rw [hI, hdl]
      refine ⟨a26, c26, done ++ [f.1], lf1 ++ lf2, rfl, (hr5.keep hk13 (fun e => e) fun e => e).keep hk14 (fun e => ?_) fun e => ?_, by rw [← hdl]; exact hs14, hin26, ?_, (k5.no hk13).fresh hk14 fun x e => by have := hf3 x e; omega⟩
      · have := hf3 _ e; omega
      · have := hf3 _ e; omega
      · refine List.Perm.trans ?_ hp3
        simp only [List.map_append, List.map_cons, List.append_assoc, List.singleton_append]
        refine List.Perm.append_left _ ?_
        exact (List.perm_middle (l₁ := lf1.map (·.1))).symm
    · rw [hmu]
      show s.files.length - (done.length + 1) < s.files.length - done.length
      have : (lf1 ++ f :: lf2).length = lf1.length + (lf2.length + 1) := by simp
      omega
end Go.Proofs.YtpoaacnnhgebfaaGreat
namespace Go.Proofs.YtpoaacnnhgebfaaGreat
open Go.Lw
theorem strEq (a b : ByteArray) : (ByteArray.toList a == ByteArray.toList b) = decide (a = b) := by
  rw [ByteArray.toList_eq, ByteArray.toList_eq]
  by_cases h : a = b
  · subst h; simp
  · rw [decide_eq_false h]
    have : ¬ a.data.toList = b.data.toList := fun e => h (by
      cases a; cases b
      simp only at e
      rw [Array.toList_inj.1 e])
    simpa using this
theorem sameNamed_ok {w : World} {a : Option Addr} {l c : Nat} {fs : List (ByteArray × List Int)} {es : List (ByteArray × Slc)} (h : RdN RB w a l c fs es) {a2 : Option Addr} {l2 c2 : Nat} {gs : List (ByteArray × List Int)} {es2 : List (ByteArray × Slc)} (h2 : RdN RB w a2 l2 c2 gs es2)
    (hl : l ≤ 140737488355328) (hb : ∀ f ∈ fs, f.2.length ≤ 140737488355328) :
    CallR Tryz.prog 75 [.slice a l c, .slice a2 l2 c2] w fun v w' => v = .bool (decide (fs = gs)) ∧ Kept No w w' := by
  have hfl : fs.length = l := by have := h.rd.1; rw [Nv_len, h.len] at this; omega
  have hgl : gs.length = l2 := by have := h2.rd.1; rw [Nv_len, h2.len] at this; omega
  refine C75 ?_
  unfold L75
  refine condI (fun hne => ⟨?_, Kept.refl _ _⟩) (fun heq => ?_)
  · have hne : l ≠ l2 := by simp at hne; omega
    rw [decide_eq_false]
    rintro rfl
    omega
  · have hll : l = l2 := by simp at heq; omega
    subst hll
    refine ⟨fun vs w' => ∃ n : Nat, vs = [.int .i64 (n : Int)] ∧ n ≤ l ∧ fs.take n = gs.take n ∧ Kept No w w', fun vs _ => l - ix vs, ⟨0, rfl, Nat.zero_le _, by simp, Kept.refl _ _⟩, ?_⟩
    rintro _ n5 w1 ⟨n, hv, hn, htk, hk⟩
    simp only [List.cons.injEq, Value.int.injEq, true_and, and_true] at hv
    subst hv
    refine condP (fun hlt => ?_) (fun hge => ?_)
    · intro w2
      have hk2 : Kept No w w2 := hk.no (Kept.drew _ _)
      clear_value w2
      have hx : n < fs.length := by omega
      have hy : n < gs.length := by omega
      obtain ⟨q, sl, haq, e1, e2, hR, _⟩ := (h.no (fun _ _ _ _ h k => h.no k) hk2).at hx
      obtain ⟨q2, sl2, haq2, e3, e4, hR2, _⟩ := (h2.no (fun _ _ _ _ h k => h.no k) hk2).at hy
      have e0 : Int.toNat (n : Int) = n := Int.toNat_natCast n
      rw [e0]
      have hr : 0 ≤ (n : Int) ∧ (n : Int) < ((l : Nat) : Int) := by omega
      have no : fs[n] ≠ gs[n] → ((.bool false : Value) = .bool (decide (fs = gs)) ∧ Kept No w w2) := fun hne => ⟨by
        rw [decide_eq_false]
        rintro rfl
        exact hne rfl, hk2⟩
      refine ⟨hr, nnE2 haq ⟨_, e1, hr, nnE2 haq2 ⟨_, e3, ?_⟩⟩⟩
      rw [strEq]
      by_cases hnm : fs[n].1 = gs[n].1
      · rw [decide_eq_true hnm]
        have hbl := hb fs[n] (List.getElem_mem hx)
        refine condFa2 ⟨hr, nnE2 haq ⟨_, _, _, e2, hr, nnE2 haq2 ⟨_, _, _, e4, CallR.mono (same_ok hR hR2 (by have := RdB.len hR; omega)) ?_⟩⟩⟩
        rintro v w3 ⟨rfl, hk3, _⟩
        refine ⟨_, rfl, ?_⟩
        by_cases hd : fs[n].2 = gs[n].2
        · rw [decide_eq_true hd]
          refine condFa2 ⟨⟨by omega, by omega⟩, ⟨n + 1, rfl, by omega, ?_, hk2.no hk3⟩, by simp only [ix]; omega⟩
          rw [List.take_add_one, List.take_add_one, htk, List.getElem?_eq_getElem hx, List.getElem?_eq_getElem hy, Prod.ext hnm hd]
        · rw [decide_eq_false hd]
          have := no fun e => hd (by rw [e])
          exact condTr2 ⟨this.1, hk2.no hk3⟩
      · rw [decide_eq_false hnm]
        exact condTr2 (no fun e => hnm (by rw [e]))
    · have : n = l := by omega
      subst this
      rw [List.take_of_length_le (by omega), List.take_of_length_le (by omega)] at htk
      exact ⟨by rw [decide_eq_true htk], hk⟩
theorem calls_ok {w : World} {gk : Nat} {s : AK} {L : KL} (h : KernO w gk s L) :
    CallR Tryz.prog 74 [pd gk] w fun v w' => v = .tuple #[.int .i64 s.c0, .int .i64 s.c1] ∧ Kept No w w' := by
  refine C74 ?_
  unfold L74
  have hc : ((⟨gk, 0, none⟩ : Addr).add 6).add 1 = (⟨gk, 0, none⟩ : Addr).add 7 := by rw [Lw.add_add]
  have hc0 : ((⟨gk, 0, none⟩ : Addr).add 6).add (Int.toNat 0) = (⟨gk, 0, none⟩ : Addr).add 6 := by rw [Lw.add_add]; rfl
  refine enone_to h ⟨false, rfl, condF rfl (nnI ⟨⟨by omega, by omega⟩, s.c0, ?_, nnI ⟨⟨by omega, by omega⟩, s.c1, ?_, fun nd => ⟨rfl, Kept.drewN _ _ _⟩⟩⟩)⟩
  · rw [hc0]; exact h.blk.at (i := 6) rfl
  · show w.cell? (((⟨gk, 0, none⟩ : Addr).add 6).add 1) = _
    rw [hc]; exact h.blk.at (i := 7) rfl
def scrO : AObj → List Int
  | .term _ scr => scr
  | _ => []
def AK.screenV (s : AK) (nm : ByteArray) : List Int × Bool := match s.termOf nm with
  | some t => (scrO (s.objs t.2), true)
  | none => ([], false)
theorem screen_ok {w : World} {gk : Nat} {s : AK} {L : KL} (h : KernO w gk s L) (nm : ByteArray) :
    CallR Tryz.prog 81 [pd gk, .string nm] w fun v w' => ∃ a l c, v = .tuple #[.slice a l c, .bool (s.screenV nm).2] ∧ OB w' a l c (s.screenV nm).1 ∧ Kept No w w' ∧ Fresh w a := by
  refine C81 ?_
  unfold L81
  have hT : Tryz.prog.underlying 113 = some (.map 9 128) := by kernel_rfl
  have hS : Tryz.prog.underlying 9 = some .string := by kernel_rfl
  refine enone_to h ⟨false, rfl, condF rfl (nnI ⟨_, h.blk.at (i := 2) rfl, ?_⟩)⟩
  unfold AK.screenV
  cases ht : s.termOf nm with
  | none =>
    have hout : ∀ x ∈ s.mT L, x.1 ≠ .string nm := by
      intro x hx e
      obtain ⟨t, htm, rfl⟩ := List.mem_map.1 hx
      simp only [Value.string.injEq] at e
      unfold AK.termOf at ht
      rw [List.find?_eq_none] at ht
      have := ht t htm
      simp [e] at this
    refine ⟨none, false, w, lookup_out hT hS h.mt (k := .string nm) trivial hout (z := .pointer none) (by kernel_rfl) true, C183 ?_⟩
    unfold L183
    exact condTr2 ⟨_, _, _, rfl, none, 0, 0, rfl, OB.nil _, Kept.refl _ _, Fresh.none _⟩
  | some t =>
    have htm := List.mem_of_find?_eq_some ht
    have htn : t.1 = nm := by simpa using List.find?_some ht
    have hti := h.ok.ti t htm
    obtain ⟨LL, scr, hob⟩ : ∃ LL scr, s.objs t.2 = .term LL scr := by
      cases ho : s.objs t.2 with
      | file bs => have := hti.2; rw [ho] at this; cases this
      | term LL scr => exact ⟨LL, scr, rfl⟩
      | pipe bs e0 e1 => have := hti.2; rw [ho] at this; cases this
    have hO := h.ob t.2 hti.1
    rw [hob] at hO
    have hO : TermO _ _ w (L.loc t.2) LL scr := hO
    have hin : ((.string nm, pd (L.loc t.2)) : Value × Value) ∈ s.mT L := by rw [← htn]; exact List.mem_map.2 ⟨t, htm, rfl⟩
    refine ⟨some ⟨L.loc t.2, 0, none⟩, true, w, lookup_in hT hS h.mt (k := .string nm) trivial hin true, CallR.mono (tscreen_ok hO) ?_⟩
    rintro v w' ⟨a', c', rfl, ho, hf, hk⟩
    dsimp only
    rw [hob]
    exact ⟨_, _, _, rfl, a', _, c', rfl, ho, hk, hf⟩
theorem hseek_ok {w : World} {gk : Nat} {s : AK} {L : KL} (h : KernO w gk s L) (d off wh : Int) :
    CallR Tryz.prog 192 [.agg #[pd gk, .int .i64 d], .int .i64 off, .int .i64 wh] w fun v w' => v = .tuple #[.int .i64 (s.seek d off wh).1, .int .i64 (s.seek d off wh).2.1] ∧ ∃ L', KernO w' gk (s.seek d off wh).2.2 L' ∧ KStep w w' L L' := by
  refine C192 ?_
  unfold L192
  intro w1
  have hb1 : Blk w1 w.heap.size #[pd gk, .int .i64 d] := Blk.alloc _ _ _
  have hk1 : Kept No w w1 := Kept.alloc _ _ _
  clear_value w1
  refine ⟨_, (hb1.cell 0).trans rfl, _, (hb1.cell 1).trans rfl, CallR.mono (kernSeek_ok (h.no hk1) d off wh) ?_⟩
  rintro v w2 ⟨rfl, L', h2, st⟩
  exact ⟨_, _, rfl, rfl, L', h2, st.fresh hk1⟩
end Go.Proofs.YtpoaacnnhgebfaaGreat
namespace Go.Proofs.YtpoaacnnhgebfaaGreat
open Go.Lw
theorem AK.filesV_bound {w : World} {gk : Nat} {s : AK} {L : KL} (h : KernO w gk s L) : ∀ f ∈ s.filesV, f.2.length ≤ 1048576 := by
  intro f hf
  unfold AK.filesV at hf
  obtain ⟨nm, _, rfl⟩ := List.mem_map.1 hf
  show (s.bytesOf nm).length ≤ 1048576
  unfold AK.bytesOf
  split
  · rename_i g hg
    have hm := List.mem_of_find?_eq_some hg
    have hO := h.ob g.2 (h.ok.fi g hm).1
    cases ho : s.objs g.2 with
    | file bs =>
      rw [ho] at hO
      obtain ⟨_, _, _, _, _, _, hl, _⟩ := hO
      exact hl
    | term _ _ => simp [dataO]
    | pipe _ _ _ => simp [dataO]
  · simp
theorem OwnN.len_eq {w0 w : World} {a : Option Addr} {l c : Nat} {fs : List (ByteArray × List Int)} {es : List (ByteArray × Slc)} (h : OwnN w0 w a l c fs es) : l = fs.length := by
  have := h.rd.rd.1; rw [Nv_len, h.len] at this; omega
theorem AK.seek_cs (s : AK) (d off wh : Int) : (s.seek d off wh).2.2.c0 = s.c0 ∧ (s.seek d off wh).2.2.c1 = s.c1 ∧ (s.seek d off wh).2.2.next = s.next := by
  unfold AK.seek
  split
  · exact ⟨rfl, rfl, rfl⟩
  · split
    · exact ⟨rfl, rfl, rfl⟩
    · split
      · split
        · exact ⟨rfl, rfl, rfl⟩
        · rename_i x _ _ _ _ _
          have : ∀ base : Int, ∀ r : Int × Int × AK, r = (if off < -base ∨ off > 1048576 - base then ((0 : Int), (4 : Int), s) else (base + off, 0, s.setD d (base + off) x.hd)) → r.2.2.c0 = s.c0 ∧ r.2.2.c1 = s.c1 ∧ r.2.2.next = s.next := fun base r hr => by
            rw [hr]
            by_cases h3 : off < -base ∨ off > 1048576 - base
            · rw [if_pos h3]; exact ⟨rfl, rfl, rfl⟩
            · rw [if_neg h3]; exact ⟨rfl, rfl, rfl⟩
          exact this _ _ rfl
      · exact ⟨rfl, rfl, rfl⟩
theorem AK.read_bound (s : AK) (d n : Int) : (s.read d n).1.length ≤ 1048576 := by
  by_cases h : n < 0 ∨ n > 1048576
  · unfold AK.read
    split
    · simp
    · simp
  · have := AK.read_len (s := s) (d := d) (n := n) (by omega)
    omega
structure Two (W w : World) (gk gm : Nat) (s r : AK) (L M : KL) : Prop where
  hk : KernO w gk s L
  hm : KernO w gm r M
  ap : ∀ z, L.own z ≠ none → M.own z = none
  nk : ∀ z, L.own z ≠ none → W.heap.size ≤ z
  nm : ∀ z, M.own z ≠ none → W.heap.size ≤ z
  kp : Kept No W w
theorem Two.no {W w w' : World} {gk gm : Nat} {s r : AK} {L M : KL} (h : Two W w gk gm s r L M) (k : Kept No w w') : Two W w' gk gm s r L M := ⟨h.hk.no k, h.hm.no k, h.ap, h.nk, h.nm, h.kp.no k⟩
theorem Two.first {W w w' : World} {gk gm : Nat} {s r s' : AK} {L M L' : KL} (h : Two W w gk gm s r L M) (hK : KernO w' gk s' L') (st : KStep w w' L L') : Two W w' gk gm s' r L' M where
  hk := hK
  hm := h.hm.keep st.kept fun x hx => h.ap x hx
  ap := fun z hz => by
    rcases st.grew z hz with e | e
    · exact h.ap z e
    · cases ho : M.own z with
      | none => rfl
      | some t => have := h.hm.lt z (by rw [ho]; simp); omega
  nk := fun z hz => by
    rcases st.grew z hz with e | e
    · exact h.nk z e
    · have := h.kp.size; omega
  nm := h.nm
  kp := h.kp.trans st.kept fun y hy e => by have := h.nk y e; omega
theorem Two.old {W w : World} {gk gm : Nat} {s r : AK} {L M : KL} (h : Two W w gk gm s r L M) {z : Nat} (hz : z < W.heap.size) : L.own z = none ∧ M.own z = none := by
  constructor
  · cases ho : L.own z with
    | none => rfl
    | some t => have := h.nk z (by rw [ho]; simp); omega
  · cases ho : M.own z with
    | none => rfl
    | some t => have := h.nm z (by rw [ho]; simp); omega
end Go.Proofs.YtpoaacnnhgebfaaGreat
namespace Go.Proofs.YtpoaacnnhgebfaaGreat
open Go.Lw
def thC (nm : ByteArray) (k : TK) (b : Nat) : Array Value := match k with
  | .disk => #[.string nm, .int .i64 1, pd b, .pointer none, .pointer none]
  | .scr => #[.string nm, .int .i64 2, .pointer none, pd b, .pointer none]
  | .con => #[.string nm, .int .i64 3, .pointer none, .pointer none, pd b]
def PObjF (F R : Nat → Prop) (w : World) (b : Nat) : AObj → Prop
  | .file bs => RefO F w b bs
  | .term LL scr => RefT F R w b LL scr
  | .pipe bs e0 e1 => RefP w b F bs e0 e1
theorem PObjF.keep {F R S : Nat → Prop} {w w' : World} {b : Nat} {o : AObj} (h : PObjF F R w b o) (k : Kept S w w') (hf : ∀ z, F z → ¬ S z) (hr : ∀ z, R z → ¬ S z) : PObjF F R w' b o := by
  cases o with
  | file bs => exact RefO.keep h k hf
  | term LL scr => exact RefT.keep h k hf hr
  | pipe bs e0 e1 => exact RefP.keep h k hf
theorem PObjF.lt {F R : Nat → Prop} {w : World} {b : Nat} {o : AObj} (h : PObjF F R w b o) : ∀ z, F z → z < w.heap.size := by
  cases o with
  | file bs => exact RefO.lt h
  | term LL scr => exact fun z hz => RefT.lt h z (.inl hz)
  | pipe bs e0 e1 => exact h.2.1
theorem PObjF.congr {F F' R R' : Nat → Prop} {w : World} {b : Nat} {o : AObj} (h : PObjF F R w b o) (hf : ∀ z, F z ↔ F' z) (hr : ∀ z, R z ↔ R' z) : PObjF F' R' w b o := by
  have e1 : F = F' := funext fun z => propext (hf z)
  have e2 : R = R' := funext fun z => propext (hr z)
  rw [← e1, ← e2]; exact h
def PObj (L : KL) (w : World) (i : Nat) (o : AObj) : Prop := PObjF (fun z => L.own z = some (.obj i)) (fun z => L.own z = some (.lines i)) w (L.loc i) o
def pdC (n : Int) (t : Nat) (fl at_ hd : Int) : Array Value := #[.int .i64 n, pd t, .int .i64 fl, .int .i64 at_, .int .i64 hd]
def nmLe (a b : ByteArray × Nat) : Prop := a.1.data.toList ≤ b.1.data.toList
structure PKb (w : World) (pk : Nat) (s : AK) (L : KL) (tl : Nat → Nat) (T : List (ByteArray × Nat)) (ta : Option Addr) (tc : Nat) (da : Option Addr) (dc : Nat) : Prop where
  b : Blk w pk #[.slice ta T.length tc, .slice da s.descs.length dc, .int .i64 s.next, pd L.pg, .int .i64 s.c0, .int .i64 s.c1]
  ts : SlO 1 w ta T.length tc (T.map fun t => pd (tl t.2))
  to : ∀ b, inA ta b → L.own b = some .mf
  ds : SlO 1 w da s.descs.length dc (s.descs.map fun d => pd (L.dloc d.num))
  dw : ∀ b, inA da b → L.own b = some .md
  pm : T.Perm (s.files ++ s.terms)
  so : T.Pairwise nmLe
structure PagO (w : World) (pk : Nat) (s : AK) (L : KL) (tl : Nat → Nat) (nm : Nat → ByteArray) : Prop where
  kb : ∃ T ta tc da dc, PKb w pk s L tl T ta tc da dc
  th : ∀ i, i < s.nob → Blk w (tl i) (thC (nm i) (s.objs i).kd (L.loc i)) ∧ L.own (tl i) = some .mt
  nn : ∀ f ∈ s.files ++ s.terms, nm f.2 = f.1
  ob : ∀ i, i < s.nob → PObj L w i (s.objs i)
  ds : ∀ d ∈ s.descs, Blk w (L.dloc d.num) (pdC d.num (tl d.ob) d.fl d.at_ d.hd)
  pl : ∃ a l c, Blk w L.pg #[.slice a l c] ∧ RdS 2 w a l c (Fv s.ps) ∧ ∀ b, inA a b → L.own b = some .flts
  oK : L.own pk = some .kern
  oP : L.own L.pg = some .plan
  od : ∀ d ∈ s.descs, L.own (L.dloc d.num) = some (.desc d.num)
  lt : ∀ k, L.own k ≠ none → k < w.heap.size
  ok : s.Ok
theorem PKb.keep {w w' : World} {pk : Nat} {s : AK} {L : KL} {tl : Nat → Nat} {T : List (ByteArray × Nat)} {ta : Option Addr} {tc : Nat} {da : Option Addr} {dc : Nat} (h : PKb w pk s L tl T ta tc da dc) (hK : L.own pk = some .kern) {S : Nat → Prop} (k : Kept S w w')
    (hS : ∀ z t, S z → L.own z = some t → t ≠ .kern ∧ t ≠ .mf ∧ t ≠ .md) : PKb w' pk s L tl T ta tc da dc :=
  ⟨h.b.keep k fun e => (hS _ _ e hK).1 rfl, h.ts.keep k fun b hb e => (hS _ _ e (h.to b hb)).2.1 rfl, h.to, h.ds.keep k fun b hb e => (hS _ _ e (h.dw b hb)).2.2 rfl, h.dw, h.pm, h.so⟩
theorem PagO.keep {w w' : World} {pk : Nat} {s : AK} {L : KL} {tl : Nat → Nat} {nm : Nat → ByteArray} (h : PagO w pk s L tl nm) {S : Nat → Prop} (k : Kept S w w') (hS : ∀ x, S x → L.own x = none) : PagO w' pk s L tl nm where
  kb := by
    obtain ⟨T, ta, tc, da, dc, hb⟩ := h.kb
    exact ⟨T, ta, tc, da, dc, hb.keep h.oK k fun z t e o => by have := hS z e; rw [o] at this; cases this⟩
  th := fun i hi => ⟨(h.th i hi).1.keep k (fun e => by have := hS _ e; rw [(h.th i hi).2] at this; cases this), (h.th i hi).2⟩
  nn := h.nn
  ob := fun i hi => PObjF.keep (h.ob i hi) k (fun x hx e => by have := hS _ e; rw [hx] at this; cases this) (fun x hx e => by have := hS _ e; rw [hx] at this; cases this)
  ds := fun d hd => (h.ds d hd).keep k fun e => by have := hS _ e; rw [h.od d hd] at this; cases this
  pl := by
    obtain ⟨a, l, c, h1, h2, h3⟩ := h.pl
    exact ⟨a, l, c, h1.keep k (fun e => by have := hS _ e; rw [h.oP] at this; cases this), h2.keep k (fun b _ hb e => by have := hS _ e; rw [h3 b hb] at this; cases this), h3⟩
  oK := h.oK
  oP := h.oP
  od := h.od
  lt := fun x hx => Nat.lt_of_lt_of_le (h.lt x hx) k.size
  ok := h.ok
theorem PagO.no {w w' : World} {pk : Nat} {s : AK} {L : KL} {tl : Nat → Nat} {nm : Nat → ByteArray} (h : PagO w pk s L tl nm) (k : Kept No w w') : PagO w' pk s L tl nm := h.keep k fun _ e => e.elim
theorem PagO.new_none {w : World} {pk : Nat} {s : AK} {L : KL} {tl : Nat → Nat} {nm : Nat → ByteArray} (h : PagO w pk s L tl nm) {z : Nat} (hz : w.heap.size ≤ z) : L.own z = none := by
  cases ho : L.own z with
  | none => rfl
  | some t => have := h.lt z (by rw [ho]; simp); omega
open Classical in
noncomputable def KL.setT (L : KL) (t : Tag) (F : Nat → Prop) : KL :=
  { L with own := fun z => if F z then some t else if L.own z = some t then none else L.own z }
theorem KL.setT_eq (L : KL) (t : Tag) (F : Nat → Prop) (z : Nat) : (L.setT t F).own z = some t ↔ F z := by
  unfold KL.setT
  dsimp only
  by_cases h : F z
  · simp [h]
  · rw [if_neg h]
    by_cases e : L.own z = some t
    · simp [e, h]
    · rw [if_neg e]; exact ⟨fun h => absurd h e, fun e => absurd e h⟩
theorem KL.setT_ne (L : KL) {t : Tag} {F : Nat → Prop} (hF : ∀ z, F z → L.own z = some t ∨ L.own z = none) (z : Nat) {u : Tag} (hu : u ≠ t) : (L.setT t F).own z = some u ↔ L.own z = some u := by
  unfold KL.setT
  dsimp only
  by_cases h : F z
  · rw [if_pos h]
    rcases hF z h with e | e
    · rw [e]
    · rw [e]; simp [Ne.symm hu]
  · rw [if_neg h]
    by_cases e : L.own z = some t
    · rw [if_pos e, e]; simp [Ne.symm hu]
    · rw [if_neg e]
theorem KL.setT_some (L : KL) (t : Tag) (F : Nat → Prop) {z : Nat} (h : (L.setT t F).own z ≠ none) : F z ∨ L.own z ≠ none := by
  unfold KL.setT at h
  dsimp only at h
  by_cases e : F z
  · exact .inl e
  · rw [if_neg e] at h
    by_cases e2 : L.own z = some t
    · rw [if_pos e2] at h; exact absurd rfl h
    · rw [if_neg e2] at h; exact .inr h
theorem own_old {w : World} {pk : Nat} {s : AK} {L : KL} {tl : Nat → Nat} {nm : Nat → ByteArray} (h : PagO w pk s L tl nm) {t : Tag} {F : Nat → Prop} (hF : ∀ z, F z → L.own z = some t ∨ w.heap.size ≤ z) : ∀ z, F z → L.own z = some t ∨ L.own z = none := fun z hz => by
  rcases hF z hz with e | e
  · exact .inl e
  · exact .inr (h.new_none e)
theorem PagO.objD {w w' : World} {pk : Nat} {s : AK} {L : KL} {tl : Nat → Nat} {nm : Nat → ByteArray} (h : PagO w pk s L tl nm) {i : Nat} {d : Int} {S : Nat → Prop} (k : Kept S w w')
    (hS : ∀ z, S z → L.own z = some (.obj i) ∨ L.own z = some (.desc d)) {o : AObj} (ho : o.kd = (s.objs i).kd) {F : Nat → Prop} (hF : ∀ z, F z → L.own z = some (.obj i) ∨ w.heap.size ≤ z)
    (hO : PObjF F (fun z => L.own z = some (.lines i)) w' (L.loc i) o) {at' hd' : Int} (hD : ∀ y ∈ s.descs, y.num = d → Blk w' (L.dloc d) (pdC d (tl y.ob) y.fl at' hd')) (hr : 0 ≤ at' ∧ at' ≤ 1048576 ∧ 1 ≤ hd' ∧ hd' ≤ 1024) :
    ∃ L', PagO w' pk ((s.setO i o).setD d at' hd') L' tl nm ∧ KStep w w' L L' ∧ L'.loc = L.loc ∧ L'.dloc = L.dloc := by
  have hF' := own_old h hF
  have ne := fun z {u : Tag} (hu : u ≠ .obj i) => L.setT_ne hF' z hu
  have eq := L.setT_eq (.obj i) F
  have no : ∀ z t, L.own z = some t → t ≠ .obj i → t ≠ .desc d → ¬ S z := by
    intro z t hz h1 h2 hs
    rcases hS z hs with e | e
    · rw [hz] at e; simp only [Option.some.injEq] at e; exact h1 e
    · rw [hz] at e; simp only [Option.some.injEq] at e; exact h2 e
  have hkd : ∀ j, ((s.setO i o).objs j).kd = (s.objs j).kd := fun j => by
    show (if j = i then o else s.objs j).kd = _
    by_cases e : j = i
    · rw [if_pos e, ho, e]
    · rw [if_neg e]
  have hlen : (((s.setO i o).setD d at' hd').descs).length = s.descs.length := by show (s.descs.map _).length = _; simp
  have hptr : ((s.setO i o).setD d at' hd').descs.map (fun y => pd (L.dloc y.num)) = s.descs.map fun y => pd (L.dloc y.num) := by
    show (s.descs.map fun x => if x.num = d then { x with at_ := at', hd := hd' } else x).map _ = _
    rw [List.map_map]
    apply List.map_congr_left
    intro y _
    show pd (L.dloc (if y.num = d then ({ y with at_ := at', hd := hd' } : AD) else y).num) = _
    split <;> rfl
  refine ⟨L.setT (.obj i) F, ⟨?_, fun j hj => ?_, h.nn, fun j hj => ?_, fun y hy => ?_, ?_, (ne _ (by simp)).2 h.oK, (ne _ (by simp)).2 h.oP, fun y hy => ?_, fun z hz => ?_, (h.ok.setO ho).setD hr⟩, ⟨k.mono fun z _ hz => ?_, fun z hz => ?_⟩, rfl, rfl⟩
  · obtain ⟨T, ta, tc, da, dc, hb⟩ := h.kb
    refine ⟨T, ta, tc, da, dc, ?_, hb.ts.keep k fun b hb' => no _ _ (hb.to b hb') (by simp) (by simp), fun b hb' => (ne _ (by simp)).2 (hb.to b hb'), ?_, fun b hb' => (ne _ (by simp)).2 (hb.dw b hb'), hb.pm, hb.so⟩
    · rw [hlen]; exact hb.b.keep k (no _ _ h.oK (by simp) (by simp))
    · rw [hlen]
      show SlO 1 w' da _ dc (((s.setO i o).setD d at' hd').descs.map fun y => pd (L.dloc y.num))
      rw [hptr]
      exact hb.ds.keep k fun b hb' => no _ _ (hb.dw b hb') (by simp) (by simp)
  · have hj : j < s.nob := hj
    show Blk w' (tl j) (thC (nm j) ((s.setO i o).objs j).kd (L.loc j)) ∧ _
    rw [hkd]
    exact ⟨(h.th j hj).1.keep k (no _ _ (h.th j hj).2 (by simp) (by simp)), (ne _ (by simp)).2 (h.th j hj).2⟩
  · have hj' : j < s.nob := hj
    show PObjF _ _ w' (L.loc j) (if j = i then o else s.objs j)
    by_cases e : j = i
    · subst e
      rw [if_pos rfl]
      exact hO.congr (fun z => (eq z).symm) (fun z => (ne z (by simp)).symm)
    · rw [if_neg e]
      exact ((h.ob j hj').keep k (fun z hz => no _ _ hz (by simpa using e) (by simp)) (fun z hz => no _ _ hz (by simp) (by simp))).congr (fun z => (ne z (by simpa using e)).symm) (fun z => (ne z (by simp)).symm)
  · obtain ⟨y', hy', ⟨hn, rfl⟩ | ⟨hn, rfl⟩⟩ := AK.setD_mem hy
    · show Blk w' (L.dloc y'.num) (pdC y'.num (tl y'.ob) y'.fl at' hd')
      rw [hn]; exact hD y' hy' hn
    · exact (h.ds y hy').keep k (no _ _ (h.od y hy') (by simp) (by simpa using hn))
  · obtain ⟨a, l, c, h1, h2, h3⟩ := h.pl
    exact ⟨a, l, c, h1.keep k (no _ _ h.oP (by simp) (by simp)), h2.keep k fun b _ hb => no _ _ (h3 b hb) (by simp) (by simp), fun b hb => (ne _ (by simp)).2 (h3 b hb)⟩
  · obtain ⟨y', hy', ⟨hn, rfl⟩ | ⟨hn, rfl⟩⟩ := AK.setD_mem hy
    · exact (ne _ (by simp)).2 (h.od y' hy')
    · exact (ne _ (by simp)).2 (h.od y hy')
  · rcases L.setT_some _ _ hz with e | e
    · exact hO.lt z e
    · exact Nat.lt_of_lt_of_le (h.lt z e) k.size
  · rcases hS z hz with e | e
    · rw [e]; simp
    · rw [e]; simp
  · rcases L.setT_some _ _ hz with e | e
    · rcases hF z e with e | e
      · exact .inl (by rw [e]; simp)
      · exact .inr e
    · exact .inl e
theorem PagO.count {w w' : World} {pk : Nat} {s : AK} {L : KL} {tl : Nat → Nat} {nm : Nat → ByteArray} (h : PagO w pk s L tl nm) {S : Nat → Prop} (k : Kept S w w') (hS : ∀ z, S z → z = pk ∨ z = L.pg) {s' : AK} (e1 : s'.files = s.files) (e2 : s'.terms = s.terms) (e3 : s'.objs = s.objs) (e4 : s'.nob = s.nob) (e5 : s'.descs = s.descs) (e6 : s'.next = s.next)
    {T : List (ByteArray × Nat)} {ta : Option Addr} {tc : Nat} {da : Option Addr} {dc : Nat} (hB : PKb w pk s L tl T ta tc da dc) (hb : Blk w' pk #[.slice ta T.length tc, .slice da s.descs.length dc, .int .i64 s.next, pd L.pg, .int .i64 s'.c0, .int .i64 s'.c1])
    (hp : ∃ a l c, Blk w' L.pg #[.slice a l c] ∧ RdS 2 w' a l c (Fv s'.ps) ∧ ∀ b, inA a b → L.own b = some .flts) (hok : s'.Ok) : PagO w' pk s' L tl nm ∧ KStep w w' L L := by
  have no : ∀ z t, L.own z = some t → t ≠ .kern → t ≠ .plan → ¬ S z := by
    intro z t hz h1 h2 hs
    rcases hS z hs with rfl | rfl
    · rw [h.oK] at hz; cases hz; exact h1 rfl
    · rw [h.oP] at hz; cases hz; exact h2 rfl
  refine ⟨⟨?_, fun i hi => ?_, fun f hf => h.nn f (by rwa [e1, e2] at hf), fun i hi => ?_, fun d hd => ?_, hp, h.oK, h.oP, fun d hd => h.od d (by rwa [e5] at hd), fun x hx => Nat.lt_of_lt_of_le (h.lt x hx) k.size, hok⟩, ⟨k.mono fun z _ hz => ?_, fun z hz => .inl hz⟩⟩
  · refine ⟨T, ta, tc, da, dc, by rw [e5, e6]; exact hb, hB.ts.keep k fun b hb => no _ _ (hB.to b hb) (by simp) (by simp), hB.to, by rw [e5]; exact hB.ds.keep k fun b hb => no _ _ (hB.dw b hb) (by simp) (by simp), hB.dw, by rw [e1, e2]; exact hB.pm, hB.so⟩
  · rw [e4] at hi
    rw [e3]
    exact ⟨(h.th i hi).1.keep k (no _ _ (h.th i hi).2 (by simp) (by simp)), (h.th i hi).2⟩
  · rw [e4] at hi
    rw [e3]
    exact PObjF.keep (h.ob i hi) k (fun x hx => no _ _ hx (by simp) (by simp)) (fun x hx => no _ _ hx (by simp) (by simp))
  · rw [e5] at hd
    exact (h.ds d hd).keep k (no _ _ (h.od d hd) (by simp) (by simp))
  · rcases hS z hz with rfl | rfl
    · rw [h.oK]; simp
    · rw [h.oP]; simp
end Go.Proofs.YtpoaacnnhgebfaaGreat
namespace Go.Proofs.YtpoaacnnhgebfaaGreat
open Go.Lw
theorem slo_cell {sz : Nat} {w : World} {a : Option Addr} {l c : Nat} {xs : List Value} (h : SlO sz w a l c xs) (hl : 0 < l) {j : Nat} {v : Value} (hv : xs[j]? = some v) : ∃ q, a = some q ∧ w.cell? (q.add j) = some v := by
  cases ha : a with
  | none => subst ha; have := RdS.isNone h.rd rfl; omega
  | some q => exact ⟨q, rfl, h.rd.2.2.2 q ha j v hv⟩
theorem pflagged_ok {w : World} (f : Int) {Q : Value → World → Prop} (hq : Q (.bool (AK.flagged f)) w) : CallR Tryz.prog 125 [.int .i64 f] w Q := by
  refine C125 ?_
  unfold L125
  have b3 : IntKind.wrap .i64 ↑(BitVec.ofInt (IntKind.bits .i64) f &&& BitVec.ofInt (IntKind.bits .i64) 3).toNat = bitI f 3 := rfl
  have b2 : IntKind.wrap .i64 ↑(BitVec.ofInt (IntKind.bits .i64) f &&& BitVec.ofInt (IntKind.bits .i64) 2).toNat = bitI f 2 := rfl
  have b20 : IntKind.wrap .i64 ↑(BitVec.ofInt (IntKind.bits .i64) f &&& BitVec.ofInt (IntKind.bits .i64) 20).toNat = bitI f 20 := rfl
  have b8 : IntKind.wrap .i64 ↑(BitVec.ofInt (IntKind.bits .i64) f &&& BitVec.ofInt (IntKind.bits .i64) 8).toNat = bitI f 8 := rfl
  have b32 : IntKind.wrap .i64 ↑(BitVec.ofInt (IntKind.bits .i64) f &&& BitVec.ofInt (IntKind.bits .i64) 32).toNat = bitI f 32 := rfl
  rw [b3, b2, b20, b8, b32]
  have fl : AK.flagged f = (decide (f ≥ 0 ∧ f ≤ 63) && (bitI f 3 != 0) && ((bitI f 2 != 0) || (bitI f 20 == 0)) && ((bitI f 8 != 0) || (bitI f 32 == 0))) := rfl
  rw [fl] at hq
  refine condP (fun h0 => ?_) (fun h0 => condP (fun h1 => ?_) (fun h1 => ?_))
  · rw [decide_eq_false (by omega)] at hq; exact hq
  · rw [decide_eq_false (by omega)] at hq; exact hq
  rw [decide_eq_true (by omega : f ≥ 0 ∧ f ≤ 63)] at hq
  by_cases h3 : bitI f 3 = 0
  · rw [h3] at hq ⊢; exact condTr2 hq
  refine condF (by simpa using h3) ?_
  rw [show (bitI f 3 != 0) = true by simpa using h3] at hq
  have tail : (Q (.bool ((bitI f 8 != 0) || (bitI f 32 == 0))) w) → cond (bitI f 32 == 0) (Q (.bool true) w) (Q (.bool (bitI f 8 != 0)) w) := fun hq => by
    by_cases h32 : bitI f 32 = 0
    · rw [h32] at hq ⊢; exact condTr2 (by simpa using hq)
    · rw [show (bitI f 32 == 0) = false by simpa using h32] at hq ⊢
      exact condFa2 (by simpa using hq)
  by_cases h20 : bitI f 20 = 0
  · rw [h20] at hq ⊢
    exact condFa2 (tail (by simpa using hq))
  refine condT (by simpa using h20) ?_
  rw [show (bitI f 20 == 0) = false by simpa using h20] at hq
  by_cases h2 : bitI f 2 = 0
  · rw [h2] at hq ⊢
    exact condTr2 (by simpa using hq)
  · refine condF (by simpa using h2) (tail ?_)
    rw [show (bitI f 2 != 0) = true by simpa using h2] at hq
    simpa using hq
theorem pnamed_ok {w : World} (s : ByteArray) {Q : Value → World → Prop} (hq : Q (.bool (namedS s)) w) : CallR Tryz.prog 56 [.string s] w Q := by
  refine C56 ?_
  unfold L56
  have he : (ByteArray.toList s == ByteArray.toList (ByteArray.mk #[])) = decide (s.size = 0) := by
    rw [strEq]
    refine decide_eq_decide.2 ⟨fun h => by rw [h]; rfl, fun h => ?_⟩
    have h : s.data.size = 0 := h
    cases s with
    | mk d =>
      have : d = #[] := Array.eq_empty_of_size_eq_zero h
      rw [this]
  rw [he]
  refine condP (fun h0 => ?_) (fun h0 => condP (fun h1 => ?_) (fun h1 => ?_))
  · rw [show namedS s = false by unfold namedS; rw [decide_eq_false]; exact fun h => h.1 h0] at hq; exact hq
  · rw [show namedS s = false by unfold namedS; rw [decide_eq_false]; exact fun h => by have := h.2.1; omega] at hq; exact hq
  refine ⟨fun vs w' => ∃ n : Nat, vs = [.int .i64 (n : Int)] ∧ n ≤ s.size ∧ w' = w ∧ ∀ i, (h : i < s.size) → i < n → 33 ≤ (s[i]'h).toNat ∧ (s[i]'h).toNat ≤ 126, fun vs _ => s.size - ix vs, ⟨0, rfl, Nat.zero_le _, rfl, fun i h h2 => by omega⟩, ?_⟩
  rintro _ n4 w1 ⟨n, hv, hn, hw, hpl⟩
  simp only [List.cons.injEq, Value.int.injEq, true_and, and_true] at hv
  subst hv
  subst hw
  have bad : ∀ i, (h : i < s.size) → ¬ (33 ≤ (s[i]'h).toNat ∧ (s[i]'h).toNat ≤ 126) → Q (.bool false) w1 := fun i h hne => by
    rw [show namedS s = false by unfold namedS; rw [decide_eq_false]; exact fun hh => hne (hh.2.2 i h)] at hq; exact hq
  refine condP (fun hlt => ?_) (fun hge => ?_)
  · have hns : n < s.size := by omega
    have hb : byteAt s (n : Int) = ((s[n]'hns).toNat : Int) := by
      unfold byteAt
      have : Int.toNat (n : Int) = n := Int.toNat_natCast n
      simp only [this]
      have e : s.data.toList[n]? = some (s[n]'hns) := by rw [Array.getElem?_toList, Array.getElem?_eq_getElem hns]; rfl
      rw [e]; rfl
    refine ⟨⟨by omega, by omega⟩, condP (fun hl => bad n hns (by omega)) (fun hl => ⟨⟨by omega, by omega⟩, condP (fun hg => bad n hns (by omega)) (fun hg => ⟨⟨by omega, by omega⟩, ⟨n + 1, rfl, by omega, rfl, fun i h hi => ?_⟩, by simp only [ix]; omega⟩)⟩)⟩
    by_cases e : i = n
    · subst e; omega
    · exact hpl i h (by omega)
  · have : namedS s = true := by
      unfold namedS
      rw [decide_eq_true]
      exact ⟨h0, by omega, fun i h => hpl i h (by omega)⟩
    rw [this] at hq; exact hq
theorem pfind_ok {w : World} {pk : Nat} {s : AK} {L : KL} {tl : Nat → Nat} {nm : Nat → ByteArray} (h : PagO w pk s L tl nm) (d : Int) :
    CallR Tryz.prog 168 [pd pk, .int .i64 d] w fun v w' => w' = w ∧ ((s.desc d = none ∧ v = .pointer none) ∨ ∃ x, s.desc d = some x ∧ v = pd (L.dloc d)) := by
  refine C168 ?_
  unfold L168
  obtain ⟨T, ta, tc, da, dc, hB⟩ := h.kb
  have hdl := h.ok.dl
  refine ⟨fun vs w' => ∃ n : Nat, vs = [.int .i64 (n : Int)] ∧ n ≤ s.descs.length ∧ w' = w ∧ ∀ i, (hi : i < s.descs.length) → i < n → s.descs[i].num ≠ d, fun vs _ => s.descs.length - ix vs, ⟨0, rfl, Nat.zero_le _, rfl, fun i h h2 => by omega⟩, ?_⟩
  rintro _ n5 w1 ⟨n, hv, hn, hw, hno⟩
  simp only [List.cons.injEq, Value.int.injEq, true_and, and_true] at hv
  subst hv
  subst hw
  refine nnI ⟨_, _, _, hB.b.at (i := 1) rfl, condP (fun hlt => ?_) (fun hge => ⟨rfl, .inl ⟨?_, rfl⟩⟩)⟩
  · have hnl : n < s.descs.length := by omega
    have hmem := List.getElem_mem hnl
    obtain ⟨q, haq, hc⟩ := slo_cell hB.ds (by omega) (j := n) (v := pd (L.dloc s.descs[n].num)) (by rw [List.getElem?_map, List.getElem?_eq_getElem hnl]; rfl)
    have e0 : Int.toNat (n : Int) = n := Int.toNat_natCast n
    rw [e0]
    have hr : 0 ≤ (n : Int) ∧ (n : Int) < ((s.descs.length : Nat) : Int) := by omega
    refine nnI ⟨_, _, _, hB.b.at (i := 1) rfl, hr, nnE2 haq ⟨_, hc, nnI ⟨_, (h.ds _ hmem).at0 rfl, condI (fun he => ?_) (fun hne => ?_)⟩⟩⟩
    · have he : s.descs[n].num = d := by simpa using he
      refine nnI ⟨_, _, _, hB.b.at (i := 1) rfl, hr, nnE2 haq ⟨_, hc, rfl, .inr ⟨s.descs[n], ?_, by rw [he]⟩⟩⟩
      cases hd : s.desc d with
      | none => exact absurd he (AK.desc_none hd _ hmem)
      | some x =>
        obtain ⟨hx, hxn⟩ := AK.desc_some hd
        have := h.ok.dn
        obtain ⟨i, hi, rfl⟩ := List.mem_iff_getElem.1 hx
        have e1 : (s.descs.map (·.num))[i]'(by simpa using hi) = (s.descs.map (·.num))[n]'(by simpa using hnl) := by rw [List.getElem_map, List.getElem_map]; exact hxn.trans he.symm
        have := (List.getElem_inj this).1 e1
        subst this
        rfl
    · have hne : s.descs[n].num ≠ d := by simpa using hne
      refine ⟨⟨by omega, by omega⟩, ⟨n + 1, rfl, by omega, rfl, fun i hi hin => ?_⟩, by simp only [ix]; omega⟩
      by_cases e : i = n
      · subst e; exact hne
      · exact hno i hi (by omega)
  · cases hd : s.desc d with
    | none => rfl
    | some x =>
      obtain ⟨hx, hxn⟩ := AK.desc_some hd
      obtain ⟨i, hi, rfl⟩ := List.mem_iff_getElem.1 hx
      exact absurd hxn (hno i hi (by omega))
def AK.thing (s : AK) (nm : ByteArray) : Option (ByteArray × Nat) := match s.termOf nm with
  | some t => some t
  | none => s.fileOf nm
theorem AK.thing_of {s : AK} (h : s.Ok) {t : ByteArray × Nat} (ht : t ∈ s.files ++ s.terms) : s.thing t.1 = some t := by
  unfold AK.thing
  rcases List.mem_append.1 ht with e | e
  · cases htt : s.termOf t.1 with
    | none => exact AK.fileOf_mem h e
    | some u =>
      obtain ⟨hu, hn⟩ := AK.termOf_some htt
      exact absurd hn.symm (h.ft t e u hu)
  · rw [AK.termOf_mem h.tn e]
theorem AK.thing_mem {s : AK} {nm : ByteArray} {t : ByteArray × Nat} (h : s.thing nm = some t) : t ∈ s.files ++ s.terms ∧ t.1 = nm := by
  unfold AK.thing at h
  split at h
  · rename_i u hu
    cases h
    obtain ⟨a, b⟩ := AK.termOf_some hu
    exact ⟨List.mem_append.2 (.inr a), b⟩
  · obtain ⟨a, b⟩ := AK.fileOf_some h
    exact ⟨List.mem_append.2 (.inl a), b⟩
theorem PagO.nobT {w : World} {pk : Nat} {s : AK} {L : KL} {tl : Nat → Nat} {nm : Nat → ByteArray} (h : PagO w pk s L tl nm) {t : ByteArray × Nat} (ht : t ∈ s.files ++ s.terms) : t.2 < s.nob := by
  rcases List.mem_append.1 ht with e | e
  · exact (h.ok.fi t e).1
  · exact (h.ok.ti t e).1
theorem PagO.thName {w : World} {pk : Nat} {s : AK} {L : KL} {tl : Nat → Nat} {nm : Nat → ByteArray} (h : PagO w pk s L tl nm) {t : ByteArray × Nat} (ht : t ∈ s.files ++ s.terms) : w.cell? ⟨tl t.2, 0, none⟩ = some (.string t.1) := by
  have hb := (h.th t.2 (h.nobT ht)).1
  rw [h.nn t ht] at hb
  cases hk : (s.objs t.2).kd <;> rw [hk] at hb <;> exact (hb.cell 0).trans rfl
theorem pthing_ok {w : World} {pk : Nat} {s : AK} {L : KL} {tl : Nat → Nat} {nm : Nat → ByteArray} (h : PagO w pk s L tl nm) (name : ByteArray) :
    CallR Tryz.prog 126 [pd pk, .string name] w fun v w' => w' = w ∧ ((s.thing name = none ∧ v = .pointer none) ∨ ∃ t, s.thing name = some t ∧ v = pd (tl t.2)) := by
  refine C126 ?_
  unfold L126
  obtain ⟨T, ta, tc, da, dc, hB⟩ := h.kb
  have hfl := h.ok.fl
  have hTl : T.length ≤ 256 := by have := hB.pm.length_eq; rw [List.length_append] at this; omega
  refine ⟨fun vs w' => ∃ n : Nat, vs = [.int .i64 (n : Int)] ∧ n ≤ T.length ∧ w' = w ∧ ∀ i, (hi : i < T.length) → i < n → T[i].1 ≠ name, fun vs _ => T.length - ix vs, ⟨0, rfl, Nat.zero_le _, rfl, fun i h h2 => by omega⟩, ?_⟩
  rintro _ n5 w1 ⟨n, hv, hn, hw, hno⟩
  simp only [List.cons.injEq, Value.int.injEq, true_and, and_true] at hv
  subst hv
  subst hw
  refine nnI ⟨_, _, _, hB.b.at0 rfl, condP (fun hlt => ?_) (fun hge => ⟨rfl, .inl ⟨?_, rfl⟩⟩)⟩
  · have hnl : n < T.length := by omega
    have hmem := hB.pm.mem_iff.1 (List.getElem_mem hnl)
    obtain ⟨q, haq, hc⟩ := slo_cell hB.ts (by omega) (j := n) (v := pd (tl T[n].2)) (by rw [List.getElem?_map, List.getElem?_eq_getElem hnl]; rfl)
    have e0 : Int.toNat (n : Int) = n := Int.toNat_natCast n
    rw [e0]
    have hr : 0 ≤ (n : Int) ∧ (n : Int) < ((T.length : Nat) : Int) := by omega
    refine nnI ⟨_, _, _, hB.b.at0 rfl, hr, nnE2 haq ⟨_, hc, nnI ⟨_, h.thName hmem, ?_⟩⟩⟩
    rw [strEq]
    refine condP (fun he => ?_) (fun hne => ?_)
    · refine nnI ⟨_, _, _, hB.b.at0 rfl, hr, nnE2 haq ⟨_, hc, rfl, .inr ⟨T[n], ?_, rfl⟩⟩⟩
      rw [← he]; exact AK.thing_of h.ok hmem
    · refine ⟨⟨by omega, by omega⟩, ⟨n + 1, rfl, by omega, rfl, fun i hi hin => ?_⟩, by simp only [ix]; omega⟩
      by_cases e : i = n
      · subst e; exact hne
      · exact hno i hi (by omega)
  · cases hd : s.thing name with
    | none => rfl
    | some t =>
      obtain ⟨hm, hne⟩ := AK.thing_mem hd
      obtain ⟨i, hi, rfl⟩ := List.mem_iff_getElem.1 (hB.pm.mem_iff.2 hm)
      exact absurd hne (hno i hi (by omega))
end Go.Proofs.YtpoaacnnhgebfaaGreat
namespace Go.Proofs.YtpoaacnnhgebfaaGreat
open Go.Lw
theorem addD_own (L : KL) {d : Int} {nb : Nat} (hn : L.own nb = none) (z : Nat) {t : Tag} (ht : t ≠ .desc d) : (L.addD d nb).own z = some t ↔ L.own z = some t := by
  show (if z = nb then some (Tag.desc d) else L.own z) = some t ↔ _
  by_cases e : z = nb
  · rw [if_pos e, e, hn]; simp [Ne.symm ht]
  · rw [if_neg e]
set_option maxHeartbeats 1000000 in
theorem pdesc_ok {w : World} {pk : Nat} {s : AK} {L : KL} {tl : Nat → Nat} {nm : Nat → ByteArray} (h : PagO w pk s L tl nm) {i : Nat} (hi : i < s.nob) (fl : Int) (hn2 : s.next ≤ 4611686018427387904) (hl : s.descs.length < 256) :
    CallR Tryz.prog 122 [pd pk, pd (tl i), .int .i64 fl] w fun v w' => v = .int .i64 s.next ∧ ∃ L', PagO w' pk (s.newD i fl) L' tl nm ∧ KStep w w' L L' ∧ L'.loc = L.loc := by
  refine C122 ?_
  unfold L122
  obtain ⟨T, ta, tc, da, dc, hB⟩ := h.kb
  have hn1 := h.ok.nx
  refine ⟨fun wS => Blk wS pk #[.slice ta T.length tc, .slice da s.descs.length dc, .int .i64 s.next, pd L.pg, .int .i64 s.c0, .int .i64 s.c1], hB.b.drew, ?_⟩
  intro w1
  have hk1 : Kept No w w1 := Kept.drew _ _
  have hz1 : w1.heap.size = w.heap.size := rfl
  have hb1 := hB.b.keep hk1 fun e => e
  clear_value w1
  refine nnI ⟨_, _, _, fun wS hS => hS.at (i := 1) rfl, nnI ⟨_, fun wS hS => hS.at (i := 2) rfl, ?_⟩⟩
  intro w2
  have hd2 : Blk w2 w1.heap.size (pdC s.next (tl i) fl 0 1) := Blk.alloc _ _ _
  have hk2 : Kept No w1 w2 := Kept.alloc _ _ _
  have hz2 : w2.heap.size = w1.heap.size + 1 := by simp [w2]
  clear_value w2
  refine ⟨hb1.keep hk2 fun e => e, ?_⟩
  intro w3
  have ht3 : SlO 1 w3 (some ⟨w2.heap.size, 0, none⟩) 1 1 [pd w1.heap.size] := SlO.of_blk (sz := 1) (n := 1) (Blk.alloc w2 #[pd w1.heap.size] _) rfl
  have hk3 : Kept No w2 w3 := Kept.alloc _ _ _
  have hz3 : w3.heap.size = w2.heap.size + 1 := by simp [w3]
  clear_value w3
  have k3 := (hk1.no hk2).no hk3
  refine ⟨(hb1.keep hk2 fun e => e).keep hk3 fun e => e, ?_⟩
  obtain ⟨a9, c9, w4, hrun, hs4, hk4, hat, _⟩ := run_app_sl (P := Tryz.prog) (t := 151) (t2 := 151) (ty := 151) (by kernel_rfl : slTyB Tryz.prog 151 1 8 = true) (by kernel_rfl) (hB.ds.keep k3 fun _ _ e => e) ht3.rd (by intro u hu; simp only [List.mem_singleton] at hu; subst hu; rfl) (by omega) (by omega)
  have hpkd : ¬ inA da pk := fun e => by have := hB.dw pk e; rw [h.oK] at this; cases this
  have hb4 := (hB.b.keep k3 fun e => e).keep hk4 hpkd
  have hpklt := hB.b.lt
  have hpka : ¬ inA a9 pk := fun e => by
    rcases hat.in e with e | e
    · exact hpkd e
    · omega
  refine ⟨a9, _, c9, w4, hrun, nnI (stC_at hb4 (i := 1) (by simp) fun w5 hb5 hk5 hz5 => nnI ⟨_, hb5.at (i := 2) rfl, ⟨by omega, by omega⟩, nnI (stC_at hb5 (i := 2) (by simp) fun w6 hb6 hk6 hz6 => nnI ⟨_, hb6.at (i := 2) rfl, ⟨by omega, by omega⟩, ?_⟩)⟩)⟩
  have hb6 : Blk w6 pk #[.slice ta T.length tc, .slice a9 (s.descs.length + 1) c9, .int .i64 (s.next + 1), pd L.pg, .int .i64 s.c0, .int .i64 s.c1] := hb6
  have hval : (Value.int .i64 (s.next + 1 - 1)) = .int .i64 s.next := by rw [Int.add_sub_cancel]
  refine ⟨hval, ?_⟩
  obtain ⟨nb, hnb⟩ : ∃ nb, nb = w1.heap.size := ⟨_, rfl⟩
  rw [← hnb] at hd2 hs4
  have hnbn : L.own nb = none := h.new_none (by omega)
  have hA : ∀ z, inA a9 z → L.own z = some .md ∨ w3.heap.size ≤ z := fun z hz => by
    rcases hat.in hz with e | e
    · exact .inl (hB.dw z e)
    · exact .inr (by omega)
  have hA' : ∀ z, inA a9 z → L.own z = some .md ∨ L.own z = none := fun z hz => by
    rcases hA z hz with e | e
    · exact .inl e
    · exact .inr (h.new_none (by omega))
  have hnb1 : (L.setT .md (inA a9)).own nb = none := by
    cases ho : (L.setT .md (inA a9)).own nb with
    | none => rfl
    | some t =>
      rcases L.setT_some _ _ (by rw [ho]; simp) with e | e
      · rcases hA nb e with e | e
        · rw [hnbn] at e; cases e
        · omega
      · exact absurd hnbn e
  have kA : Kept (fun z => z = pk ∨ inA da z) w w6 := (((k3.mono fun _ _ e => e.elim : Kept (fun z => z = pk ∨ inA da z) w w3).trans (hk4.mono fun _ _ e => .inr e) fun _ _ e => e).trans (hk5.mono fun _ _ e => .inl e) fun _ _ e => e).trans (hk6.mono fun _ _ e => .inl e) fun _ _ e => e
  have no : ∀ z t, L.own z = some t → t ≠ .kern → t ≠ .md → ¬ (z = pk ∨ inA da z) := by
    rintro z t hz h1 h2 (rfl | e)
    · rw [h.oK] at hz; cases hz; exact h1 rfl
    · rw [hB.dw z e] at hz; cases hz; exact h2 rfl
  let L' := (L.setT .md (inA a9)).addD s.next nb
  have ow : ∀ z t, t ≠ .md → t ≠ .desc s.next → (L'.own z = some t ↔ L.own z = some t) := fun z t h1 h2 => (addD_own _ hnb1 z h2).trans (L.setT_ne hA' z h1)
  have hdl : ∀ y ∈ s.descs, L'.dloc y.num = L.dloc y.num := fun y hy => by
    have := (h.ok.di y hy).2.2.2.2.2.2
    show (if y.num = s.next then nb else L.dloc y.num) = _
    rw [if_neg (by omega)]
  have hdn : L'.dloc s.next = nb := if_pos rfl
  refine ⟨L', ⟨⟨T, ta, tc, a9, c9, ?_, ?_, fun b hb => (ow _ _ (by simp) (by simp)).2 (hB.to b hb), ?_, fun b hb => ?_, hB.pm, hB.so⟩, fun j hj => ?_, h.nn, fun j hj => ?_, fun y hy => ?_, ?_, (ow _ _ (by simp) (by simp)).2 h.oK, (ow _ _ (by simp) (by simp)).2 h.oP, fun y hy => ?_, fun z hz => ?_, h.ok.newD hi fl hl⟩, ⟨kA.mono fun z _ hz => ?_, fun z hz => ?_⟩, rfl⟩
  · show Blk w6 pk #[.slice ta T.length tc, .slice a9 (s.descs ++ [_]).length c9, .int .i64 (s.next + 1), pd L.pg, .int .i64 s.c0, .int .i64 s.c1]
    rw [List.length_append]; exact hb6
  · exact hB.ts.keep kA fun b hb => no _ _ (hB.to b hb) (by simp) (by simp)
  · show SlO 1 w6 a9 (s.descs ++ [_]).length c9 ((s.descs ++ [(⟨s.next, i, fl, 0, 1⟩ : AD)]).map fun d => pd (L'.dloc d.num))
    have e1 : (s.descs ++ [(⟨s.next, i, fl, 0, 1⟩ : AD)]).map (fun d => pd (L'.dloc d.num)) = (s.descs.map fun d => pd (L.dloc d.num)) ++ [pd nb] := by
      rw [List.map_append, List.map_cons, List.map_nil, hdn]
      exact congrArg (· ++ [pd nb]) (List.map_congr_left fun y hy => by rw [hdl y hy])
    rw [e1, List.length_append]
    exact (hs4.keep hk5 fun b hb e => hpka (e ▸ hb)).keep hk6 fun b hb e => hpka (e ▸ hb)
  · exact (addD_own _ hnb1 b (by simp)).2 ((L.setT_eq .md (inA a9) b).2 hb)
  · exact ⟨(h.th j hj).1.keep kA (no _ _ (h.th j hj).2 (by simp) (by simp)), (ow _ _ (by simp) (by simp)).2 (h.th j hj).2⟩
  · exact (PObjF.keep (h.ob j hj) kA (fun z hz => no _ _ hz (by simp) (by simp)) (fun z hz => no _ _ hz (by simp) (by simp))).congr (fun z => (ow z _ (by simp) (by simp)).symm) (fun z => (ow z _ (by simp) (by simp)).symm)
  · have hy : y ∈ s.descs ++ [(⟨s.next, i, fl, 0, 1⟩ : AD)] := hy
    rcases List.mem_append.1 hy with e | e
    · rw [hdl y e]
      exact (h.ds y e).keep kA (no _ _ (h.od y e) (by simp) (by simp))
    · rw [List.mem_singleton] at e
      subst e
      show Blk w6 (L'.dloc s.next) _
      rw [hdn]
      exact (((hd2.keep hk3 fun e => e).keep hk4 fun e => by have := hB.dw _ e; rw [hnbn] at this; cases this).keep hk5 fun e => by omega).keep hk6 fun e => by omega
  · obtain ⟨a, l, c, p1, p2, p3⟩ := h.pl
    exact ⟨a, l, c, p1.keep kA (no _ _ h.oP (by simp) (by simp)), p2.keep kA fun b _ hb => no _ _ (p3 b hb) (by simp) (by simp), fun b hb => (ow _ _ (by simp) (by simp)).2 (p3 b hb)⟩
  · have hy : y ∈ s.descs ++ [(⟨s.next, i, fl, 0, 1⟩ : AD)] := hy
    rcases List.mem_append.1 hy with e | e
    · rw [hdl y e]
      have := (h.ok.di y e).2.2.2.2.2.2
      exact (ow _ _ (by simp) (by simp; omega)).2 (h.od y e)
    · rw [List.mem_singleton] at e
      subst e
      show L'.own (L'.dloc s.next) = _
      rw [hdn]
      exact if_pos rfl
  · have hz : (if z = nb then some (Tag.desc s.next) else (L.setT .md (inA a9)).own z) ≠ none := hz
    by_cases e : z = nb
    · have := kA.size; have := hk4.size; have := hk5.size; have := hk6.size; omega
    · rw [if_neg e] at hz
      rcases L.setT_some _ _ hz with e | e
      · exact Nat.lt_of_lt_of_le (SlO.lt hs4 z e) (by omega)
      · exact Nat.lt_of_lt_of_le (h.lt z e) kA.size
  · rcases hz with rfl | e
    · rw [h.oK]; simp
    · rw [hB.dw z e]; simp
  · have hz : (if z = nb then some (Tag.desc s.next) else (L.setT .md (inA a9)).own z) ≠ none := hz
    by_cases e : z = nb
    · exact .inr (by omega)
    · rw [if_neg e] at hz
      rcases L.setT_some _ _ hz with e | e
      · rcases hA z e with e | e
        · exact .inl (by rw [e]; simp)
        · exact .inr (by omega)
      · exact .inl e
theorem PagO.newO {w w' : World} {pk : Nat} {s : AK} {L : KL} {tl : Nat → Nat} {nm : Nat → ByteArray} (h : PagO w pk s L tl nm) (k : Kept No w w') {b tb : Nat} {F R : Nat → Prop} {o : AObj} {name : ByteArray} (hO : PObjF F R w' b o) (hF : ∀ z, F z → w.heap.size ≤ z) (hR : ∀ z, R z → w.heap.size ≤ z ∧ z < w'.heap.size ∧ ¬ F z)
    (ht : Blk w' tb (thC name o.kd b)) (htb : w.heap.size ≤ tb) (htF : ¬ F tb) (htR : ¬ R tb) :
    ∃ L', PagO w' pk (s.newO o) L' (fun j => if j = s.nob then tb else tl j) (fun j => if j = s.nob then name else nm j) ∧ KStep w w' L L' := by
  obtain ⟨L', hL'⟩ : ∃ L' : KL, L' = { L.addO s.nob b F R with own := fun z => if z = tb then some .mt else (L.addO s.nob b F R).own z } := ⟨_, rfl⟩
  have old : ∀ z t, L.own z = some t → t ≠ .obj s.nob → t ≠ .lines s.nob → L'.own z = some t := by
    intro z t hz h1 h2
    have := h.lt z (by rw [hz]; simp)
    rw [hL']
    unfold KL.addO
    dsimp only
    rw [if_neg (by omega), if_neg (fun e => by have := hF z e; omega), if_neg (fun e => by have := (hR z e).1; omega), hz, if_neg]
    simp [h1, h2]
  have back : ∀ z t, t ≠ .obj s.nob → t ≠ .lines s.nob → t ≠ .mt → L'.own z = some t → L.own z = some t := by
    intro z t h1 h2 h3 hz
    rw [hL'] at hz
    unfold KL.addO at hz
    dsimp only at hz
    by_cases ht : z = tb
    · rw [if_pos ht] at hz; simp only [Option.some.injEq] at hz; exact absurd hz.symm h3
    rw [if_neg ht] at hz
    by_cases hf : F z
    · rw [if_pos hf] at hz; simp only [Option.some.injEq] at hz; exact absurd hz.symm h1
    rw [if_neg hf] at hz
    by_cases hr : R z
    · rw [if_pos hr] at hz; simp only [Option.some.injEq] at hz; exact absurd hz.symm h2
    rw [if_neg hr] at hz
    split at hz
    · cases hz
    · exact hz
  have none_obj : ∀ z, L.own z ≠ some (.obj s.nob) ∧ L.own z ≠ some (.lines s.nob) ∨ True := fun _ => .inr trivial
  have newF : ∀ z, L'.own z = some (.obj s.nob) ↔ F z := fun z => by
    rw [hL']
    unfold KL.addO
    dsimp only
    by_cases ht : z = tb
    · rw [if_pos ht, ht]; simp [htF]
    rw [if_neg ht]
    by_cases hf : F z
    · simp [hf]
    · rw [if_neg hf]
      by_cases hr : R z
      · simp [hr, hf]
      · rw [if_neg hr]
        split
        · simp [hf]
        · rename_i hn
          exact ⟨fun e => absurd (.inl e) hn, fun e => absurd e hf⟩
  have newR : ∀ z, L'.own z = some (.lines s.nob) ↔ R z := fun z => by
    rw [hL']
    unfold KL.addO
    dsimp only
    by_cases ht : z = tb
    · rw [if_pos ht, ht]; simp [htR]
    rw [if_neg ht]
    by_cases hf : F z
    · have : ¬ R z := fun e => (hR z e).2.2 hf
      simp [hf, this]
    · rw [if_neg hf]
      by_cases hr : R z
      · simp [hr]
      · rw [if_neg hr]
        split
        · simp [hr]
        · rename_i hn
          exact ⟨fun e => absurd (.inr e) hn, fun e => absurd e hr⟩
  have some_ : ∀ z, L'.own z ≠ none → z = tb ∨ F z ∨ R z ∨ L.own z ≠ none := by
    intro z hz
    rw [hL'] at hz
    unfold KL.addO at hz
    dsimp only at hz
    by_cases ht : z = tb
    · exact .inl ht
    rw [if_neg ht] at hz
    by_cases hf : F z
    · exact .inr (.inl hf)
    rw [if_neg hf] at hz
    by_cases hr : R z
    · exact .inr (.inr (.inl hr))
    rw [if_neg hr] at hz
    split at hz
    · exact absurd rfl hz
    · exact .inr (.inr (.inr hz))
  have loc : ∀ j, j < s.nob → L'.loc j = L.loc j := fun j hj => by
    rw [hL']
    show (if j = s.nob then b else L.loc j) = _
    rw [if_neg (by omega)]
  have locn : L'.loc s.nob = b := by
    rw [hL']
    exact if_pos rfl
  have hdl : L'.dloc = L.dloc := by rw [hL']; rfl
  have hpg : L'.pg = L.pg := by rw [hL']; rfl
  have tlo : ∀ j, j < s.nob → (if j = s.nob then tb else tl j) = tl j := fun j hj => if_neg (by omega)
  have nmo : ∀ j, j < s.nob → (if j = s.nob then name else nm j) = nm j := fun j hj => if_neg (by omega)
  refine ⟨L', ⟨?_, fun j hj => ?_, fun f hf => ?_, fun j hj => ?_, fun y hy => ?_, ?_, old _ _ h.oK (by simp) (by simp), by rw [hpg]; exact old _ _ h.oP (by simp) (by simp), fun y hy => by rw [hdl]; exact old _ _ (h.od y hy) (by simp) (by simp), fun z hz => ?_, h.ok.newO o⟩, ⟨k.mono fun z _ hz => hz.elim, fun z hz => ?_⟩⟩
  · obtain ⟨T, ta, tc, da, dc, hB⟩ := h.kb
    refine ⟨T, ta, tc, da, dc, by rw [hpg]; exact hB.b.keep k fun e => e, ?_, fun b hb => old _ _ (hB.to b hb) (by simp) (by simp), by rw [hdl]; exact hB.ds.keep k fun _ _ e => e, fun b hb => old _ _ (hB.dw b hb) (by simp) (by simp), hB.pm, hB.so⟩
    have : (T.map fun t => pd (if t.2 = s.nob then tb else tl t.2)) = T.map fun t => pd (tl t.2) := List.map_congr_left fun t ht => by rw [tlo _ (h.nobT (hB.pm.mem_iff.1 ht))]
    rw [this]
    exact hB.ts.keep k fun _ _ e => e
  · have hj : j < s.nob + 1 := hj
    by_cases e : j = s.nob
    · subst e
      rw [if_pos rfl, if_pos rfl, locn]
      have : (s.newO o).objs s.nob = o := if_pos rfl
      rw [this]
      exact ⟨ht, by rw [hL']; exact if_pos rfl⟩
    · have hj' : j < s.nob := by omega
      rw [tlo j hj', nmo j hj', loc j hj', AK.newO_old s o hj']
      exact ⟨(h.th j hj').1.keep k fun e => e, old _ _ (h.th j hj').2 (by simp) (by simp)⟩
  · rw [nmo _ (h.nobT hf)]; exact h.nn f hf
  · have hj : j < s.nob + 1 := hj
    by_cases e : j = s.nob
    · subst e
      show PObjF _ _ w' (L'.loc s.nob) (if s.nob = s.nob then o else _)
      rw [if_pos rfl, locn]
      exact hO.congr (fun z => (newF z).symm) (fun z => (newR z).symm)
    · have hj' : j < s.nob := by omega
      rw [AK.newO_old s o hj']
      show PObjF _ _ w' (L'.loc j) _
      rw [loc j hj']
      exact (PObjF.keep (h.ob j hj') k (fun _ _ e => e) (fun _ _ e => e)).congr (fun z => ⟨fun hz => old _ _ hz (by simpa using e) (by simp), fun hz => back _ _ (by simpa using e) (by simp) (by simp) hz⟩) (fun z => ⟨fun hz => old _ _ hz (by simp) (by simpa using e), fun hz => back _ _ (by simp) (by simpa using e) (by simp) hz⟩)
  · have hy : y ∈ s.descs := hy
    have := (h.ok.di y hy).1
    rw [hdl, tlo _ this]
    exact (h.ds y hy).keep k fun e => e
  · obtain ⟨a, l, c, p1, p2, p3⟩ := h.pl
    rw [hpg]
    exact ⟨a, l, c, p1.keep k fun e => e, p2.keep k fun _ _ _ e => e, fun b hb => old _ _ (p3 b hb) (by simp) (by simp)⟩
  · rcases some_ z hz with e | e | e | e
    · rw [e]; exact ht.lt
    · exact hO.lt z e
    · exact (hR z e).2.1
    · exact Nat.lt_of_lt_of_le (h.lt z e) k.size
  · rcases some_ z hz with e | e | e | e
    · exact .inr (by omega)
    · exact .inr (hF z e)
    · exact .inr (hR z e).1
    · exact .inl e
end Go.Proofs.YtpoaacnnhgebfaaGreat
namespace Go.Proofs.YtpoaacnnhgebfaaGreat
open Go.Lw
theorem ins_step {α : Type} (T : List α) (t : α) {n : Nat} (h1 : 1 ≤ n) (h2 : n ≤ T.length) : ((T.take n ++ t :: T.drop n).set n (T[n - 1]'(by omega))).set (n - 1) t = T.take (n - 1) ++ t :: T.drop (n - 1) := by
  obtain ⟨m, rfl⟩ : ∃ m, n = m + 1 := ⟨n - 1, by omega⟩
  have hm : m < T.length := by omega
  simp only [Nat.add_sub_cancel]
  have e1 : T.take (m + 1) = T.take m ++ [T[m]] := by rw [List.take_add_one, List.getElem?_eq_getElem hm]; rfl
  have e2 : T.drop m = T[m] :: T.drop (m + 1) := List.drop_eq_getElem_cons hm
  have hl : (T.take m).length = m := by rw [List.length_take]; omega
  rw [e1, e2, List.append_assoc]
  show ((T.take m ++ T[m] :: t :: T.drop (m + 1)).set (m + 1) T[m]).set m t = _
  rw [List.set_append_right _ _ (by omega), hl, List.set_append_right _ _ (by omega), hl, Nat.sub_self, show m + 1 - m = 1 by omega]
  rfl
theorem ins_at {α : Type} (T : List α) (t : α) {n k : Nat} (h2 : n ≤ T.length) (hk : k < n) : (T.take n ++ t :: T.drop n)[k]? = some (T[k]'(by omega)) := by
  rw [List.getElem?_append_left (by rw [List.length_take]; omega), List.getElem?_take, if_pos hk, List.getElem?_eq_getElem (by omega)]
theorem ins_new {α : Type} (T : List α) (t : α) {n : Nat} (h2 : n ≤ T.length) : (T.take n ++ t :: T.drop n)[n]? = some t := by
  have hl : (T.take n).length = n := by rw [List.length_take]; omega
  rw [List.getElem?_append_right (by omega), hl, Nat.sub_self]
  rfl
theorem ins_len {α : Type} (T : List α) (t : α) {n : Nat} (h2 : n ≤ T.length) : (T.take n ++ t :: T.drop n).length = T.length + 1 := by
  simp; omega
theorem nmLe_trans {a b c : ByteArray × Nat} (h : nmLe a b) (k : nmLe b c) : nmLe a c := List.le_trans h k
theorem ins_sorted {T : List (ByteArray × Nat)} (hs : T.Pairwise nmLe) {t : ByteArray × Nat} {n : Nat} (hn : n ≤ T.length) (h1 : ∀ x ∈ T.drop n, nmLe t x) (h2 : ∀ (h : 1 ≤ n), nmLe (T[n - 1]'(by omega)) t) : (T.take n ++ t :: T.drop n).Pairwise nmLe := by
  have hs' := hs
  rw [← List.take_append_drop n T, List.pairwise_append] at hs
  obtain ⟨a, b, c⟩ := hs
  rw [List.pairwise_append]
  refine ⟨a, List.pairwise_cons.2 ⟨h1, b⟩, fun x hx y hy => ?_⟩
  rcases List.mem_cons.1 hy with rfl | hy
  · obtain ⟨k, hk, rfl⟩ := List.mem_iff_getElem.1 hx
    rw [List.length_take] at hk
    rw [List.getElem_take]
    by_cases e : k = n - 1
    · subst e; exact h2 (by omega)
    · exact nmLe_trans (List.pairwise_iff_getElem.1 hs' k (n - 1) (by omega) (by omega) (by omega)) (h2 (by omega))
  · exact c x hx y hy
theorem lessB_eq : ∀ (x y : List UInt8), Op.bytesLess x y = decide (x < y)
  | [], [] => by simp [Op.bytesLess]
  | _ :: _, [] => by simp [Op.bytesLess]
  | [], _ :: _ => by simp [Op.bytesLess]
  | a :: x, b :: y => by
    unfold Op.bytesLess
    rw [lessB_eq x y, Bool.eq_iff_iff]
    simp [List.cons_lt_cons_iff]
theorem gtr_le {x y : ByteArray} (h : (!(Op.bytesLess (ByteArray.toList x) (ByteArray.toList y) || (ByteArray.toList x == ByteArray.toList y))) = true) : y.data.toList ≤ x.data.toList := by
  rw [ByteArray.toList_eq, ByteArray.toList_eq, lessB_eq] at h
  simp only [Bool.not_eq_true', Bool.or_eq_false_iff, decide_eq_false_iff_not] at h
  exact h.1
theorem gtr_not {x y : ByteArray} (h : (!(Op.bytesLess (ByteArray.toList x) (ByteArray.toList y) || (ByteArray.toList x == ByteArray.toList y))) = false) : x.data.toList ≤ y.data.toList := by
  rw [ByteArray.toList_eq, ByteArray.toList_eq, lessB_eq] at h
  simp only [Bool.not_eq_false', Bool.or_eq_true, decide_eq_true_eq, beq_iff_eq] at h
  rcases h with h | h
  · exact List.le_of_lt h
  · rw [h]; exact List.le_refl _
theorem PagO.nameAt {w : World} {pk : Nat} {s : AK} {L : KL} {tl : Nat → Nat} {nm : Nat → ByteArray} (h : PagO w pk s L tl nm) {i : Nat} (hi : i < s.nob) : ∃ A, Blk w (tl i) A ∧ A[0]? = some (.string (nm i)) := by
  have hb := (h.th i hi).1
  refine ⟨_, hb, ?_⟩
  cases (s.objs i).kd <;> rfl
set_option maxHeartbeats 2000000 in
theorem padd_ok {w : World} {pk : Nat} {s : AK} {L : KL} {tl : Nat → Nat} {nm : Nat → ByteArray} (h : PagO w pk s L tl nm) {i : Nat} (hi : i < s.nob) (hlen : s.files.length + s.terms.length < 256) {fs' ts' : List (ByteArray × Nat)} (hp : ((s.files ++ s.terms) ++ [(nm i, i)]).Perm (fs' ++ ts')) (hok : AK.Ok { s with files := fs', terms := ts' }) :
    CallR Tryz.prog 128 [pd pk, pd (tl i)] w fun v w' => v = .tuple #[] ∧ ∃ L', PagO w' pk { s with files := fs', terms := ts' } L' tl nm ∧ KStep w w' L L' := by
  refine C128 ?_
  unfold L128
  obtain ⟨T, ta, tc, da, dc, hB⟩ := h.kb
  have hTl : T.length < 256 := by have := hB.pm.length_eq; rw [List.length_append] at this; omega
  refine nnI ⟨_, _, _, hB.b.at0 rfl, ?_⟩
  intro w1
  have ht1 : SlO 1 w1 (some ⟨w.heap.size, 0, none⟩) 1 1 [pd (tl i)] := SlO.of_blk (sz := 1) (n := 1) (Blk.alloc w #[pd (tl i)] _) rfl
  have hk1 : Kept No w w1 := Kept.alloc _ _ _
  have hz1 : w1.heap.size = w.heap.size + 1 := by simp [w1]
  clear_value w1
  obtain ⟨a5, c5, w2, hrun, hs2, hk2, hat, _⟩ := run_app_sl (P := Tryz.prog) (t := 150) (t2 := 150) (ty := 150) (by kernel_rfl : slTyB Tryz.prog 150 1 8 = true) (by kernel_rfl) (hB.ts.keep hk1 fun _ _ e => e) ht1.rd (by intro u hu; simp only [List.mem_singleton] at hu; subst hu; rfl) (by omega) (by omega)
  have hpkt : ¬ inA ta pk := fun e => by have := hB.to pk e; rw [h.oK] at this; cases this
  have hpklt := hB.b.lt
  have hA : ∀ z, inA a5 z → L.own z = some .mf ∨ w1.heap.size ≤ z := fun z hz => by
    rcases hat.in hz with e | e
    · exact .inl (hB.to z e)
    · exact .inr (by omega)
  have hpka : ¬ inA a5 pk := fun e => by
    rcases hA pk e with e | e
    · rw [h.oK] at e; cases e
    · omega
  have hb2 := (hB.b.keep hk1 fun e => e).keep hk2 hpkt
  refine ⟨a5, _, c5, w2, hrun, nnI (stC_blk hb2 (by simp) fun w3 hb3 hk3 hz3 => ?_)⟩
  have hb3 : Blk w3 pk #[.slice a5 (T.length + 1) c5, .slice da s.descs.length dc, .int .i64 s.next, pd L.pg, .int .i64 s.c0, .int .i64 s.c1] := hb3
  obtain ⟨S, hS⟩ : ∃ S : Nat → Prop, S = fun z => z = pk ∨ L.own z = some .mf ∨ w.heap.size ≤ z := ⟨_, rfl⟩
  have k3 : Kept S w w3 := ((hk1.mono fun _ _ e => e.elim : Kept S w w1).trans (hk2.mono fun b _ e => by rw [hS]; exact .inr (.inl (hB.to b e)) : Kept S w1 w2) fun _ _ e => e).trans (hk3.mono fun b _ e => by rw [hS]; exact .inl e) fun _ _ e => e
  have no : ∀ z t, L.own z = some t → t ≠ .kern → t ≠ .mf → ¬ S z := by
    intro z t hz h1 h2 e
    rw [hS] at e
    rcases e with rfl | e | e
    · rw [h.oK] at hz; cases hz; exact h1 rfl
    · rw [hz] at e; cases e; exact h2 rfl
    · rw [h.new_none e] at hz; cases hz
  refine nnI ⟨_, _, _, hb3.at0 rfl, ⟨by omega, by omega⟩, ?_⟩
  obtain ⟨I, hI⟩ : ∃ I : List Value → World → Prop, I = fun vs w' => ∃ n : Nat, n ≤ T.length ∧ vs = [.int .i64 (n : Int)] ∧ SlO 1 w' a5 (T.length + 1) c5 ((T.take n ++ (nm i, i) :: T.drop n).map fun t => pd (tl t.2)) ∧ (∀ x ∈ T.drop n, nmLe (nm i, i) x) ∧ Kept S w w' ∧ Blk w' pk #[.slice a5 (T.length + 1) c5, .slice da s.descs.length dc, .int .i64 s.next, pd L.pg, .int .i64 s.c0, .int .i64 s.c1] := ⟨_, rfl⟩
  obtain ⟨mu, hmu⟩ : ∃ mu : List Value → World → Nat, mu = fun vs _ => ix vs := ⟨_, rfl⟩
  have e0 : (((T.length + 1 : Nat) : Int) - 1) = ((T.length : Nat) : Int) := by omega
  rw [e0]
  refine ⟨I, mu, ?_, ?_⟩
  · rw [hI]
    refine ⟨T.length, Nat.le_refl _, rfl, ?_, fun x hx => by simp at hx, k3, hb3⟩
    have : (T.take T.length ++ (nm i, i) :: T.drop T.length).map (fun t => pd (tl t.2)) = (T.map fun t => pd (tl t.2)) ++ [pd (tl i)] := by simp
    rw [this]
    exact hs2.keep hk3 fun b hb e => hpka (e ▸ hb)
  intro _ n11 w4 hInv
  rw [hI] at hInv
  obtain ⟨n, hn, hv, hs4, hge4, k4, hb4⟩ := hInv
  simp only [List.cons.injEq, Value.int.injEq, true_and, and_true] at hv
  subst hv
  have fin : ∀ {w' : World}, Kept No w4 w' → (∀ (h : 1 ≤ n), nmLe (T[n - 1]'(by omega)) (nm i, i)) → ((.tuple #[] : Value) = .tuple #[] ∧ ∃ L', PagO w' pk { s with files := fs', terms := ts' } L' tl nm ∧ KStep w w' L L') := by
    intro w' k4' hle
    refine ⟨rfl, ?_⟩
    have kW : Kept S w w' := k4.no k4'
    have hA' : ∀ z, inA a5 z → L.own z = some .mf ∨ L.own z = none := fun z hz => by
      rcases hA z hz with e | e
      · exact .inl e
      · exact .inr (h.new_none (by omega))
    have ne := fun z {u : Tag} (hu : u ≠ .mf) => L.setT_ne hA' z hu
    have hl := ins_len T (nm i, i) hn
    refine ⟨L.setT .mf (inA a5), ⟨⟨T.take n ++ (nm i, i) :: T.drop n, a5, c5, da, dc, ?_, ?_, fun b hb => (L.setT_eq _ _ _).2 hb, hB.ds.keep kW fun b hb => no _ _ (hB.dw b hb) (by simp) (by simp), fun b hb => (ne _ (by simp)).2 (hB.dw b hb), ?_, ins_sorted hB.so hn hge4 hle⟩, fun j hj => ⟨(h.th j hj).1.keep kW (no _ _ (h.th j hj).2 (by simp) (by simp)), (ne _ (by simp)).2 (h.th j hj).2⟩, fun f hf => ?_, fun j hj => ?_, fun d hd => (h.ds d hd).keep kW (no _ _ (h.od d hd) (by simp) (by simp)), ?_, (ne _ (by simp)).2 h.oK, (ne _ (by simp)).2 h.oP, fun d hd => (ne _ (by simp)).2 (h.od d hd), fun z hz => ?_, hok⟩, ⟨?_, fun z hz => ?_⟩⟩
    · rw [hl]; exact hb4.keep k4' fun e => e
    · rw [hl]; exact hs4.keep k4' fun _ _ e => e
    · have e1 : (T.take n ++ (nm i, i) :: T.drop n).Perm (T ++ [(nm i, i)]) := by
        refine List.perm_middle.trans ?_
        rw [List.take_append_drop]
        exact (List.perm_append_singleton _ _).symm
      exact (e1.trans (hB.pm.append_right _)).trans hp
    · have hf : f ∈ fs' ++ ts' := hf
      rcases List.mem_append.1 (hp.mem_iff.2 hf) with e | e
      · exact h.nn f e
      · rw [List.mem_singleton] at e; subst e; rfl
    · exact (PObjF.keep (h.ob j hj) kW (fun z hz => no _ _ hz (by simp) (by simp)) (fun z hz => no _ _ hz (by simp) (by simp))).congr (fun z => (ne z (by simp)).symm) (fun z => (ne z (by simp)).symm)
    · obtain ⟨a, l, c, p1, p2, p3⟩ := h.pl
      exact ⟨a, l, c, p1.keep kW (no _ _ h.oP (by simp) (by simp)), p2.keep kW fun b _ hb => no _ _ (p3 b hb) (by simp) (by simp), fun b hb => (ne _ (by simp)).2 (p3 b hb)⟩
    · rcases L.setT_some _ _ hz with e | e
      · exact Nat.lt_of_lt_of_le (SlO.lt hs4 z e) k4'.size
      · exact Nat.lt_of_lt_of_le (h.lt z e) kW.size
    · refine kW.mono fun z hz e => ?_
      rw [hS] at e
      rcases e with rfl | e | e
      · rw [h.oK]; simp
      · rw [e]; simp
      · omega
    · rcases L.setT_some _ _ hz with e | e
      · rcases hA z e with e | e
        · exact .inl (by rw [e]; simp)
        · exact .inr (by omega)
      · exact .inl e
  refine condP (fun hpos => ?_) (fun hz => ?_)
  · have hnl : n - 1 < T.length := by omega
    have e1 : Int.toNat ((n : Int) - 1) = n - 1 := by omega
    have e2 : Int.toNat (n : Int) = n := Int.toNat_natCast n
    rw [e1, e2]
    have hc1 : ∀ {w' : World}, Kept No w4 w' → ∃ q, a5 = some q ∧ w'.cell? (q.add (n - 1)) = some (pd (tl T[n - 1].2)) ∧ w'.cell? (q.add n) = some (pd (tl i)) := fun k => by
      obtain ⟨q, haq, hc⟩ := slo_cell (hs4.keep k fun _ _ e => e) (by omega) (j := n - 1) (v := pd (tl T[n - 1].2)) (by rw [List.getElem?_map, ins_at T _ hn (by omega)]; rfl)
      exact ⟨q, haq, hc, (hs4.keep k fun _ _ e => e).rd.2.2.2 q haq n _ (by rw [List.getElem?_map, ins_new T _ hn]; rfl)⟩
    have hmem := hB.pm.mem_iff.1 (List.getElem_mem hnl)
    obtain ⟨A1, hA1, hA10⟩ := h.nameAt (h.nobT hmem)
    rw [h.nn _ hmem] at hA10
    obtain ⟨A2, hA2, hA20⟩ := h.nameAt hi
    have hn1 := ((hA1.keep k4 (no _ _ (h.th _ (h.nobT hmem)).2 (by simp) (by simp))).cell 0).trans hA10
    have hn2 := ((hA2.keep k4 (no _ _ (h.th _ hi).2 (by simp) (by simp))).cell 0).trans hA20
    obtain ⟨q, haq, hq1, hq2⟩ := hc1 (Kept.refl No w4)
    refine nnI ⟨_, _, _, hb4.at0 rfl, ⟨by omega, by omega⟩, ⟨by omega, by omega⟩, nnE2 haq ⟨_, hq1, nnI ⟨_, hn1, nnI ⟨_, hn2, ?_⟩⟩⟩⟩
    intro nd w5
    have hk5 : Kept No w4 w5 := Kept.drewN _ _ _
    clear_value w5
    refine condI (fun hgt => ?_) (fun hle => fin hk5 fun _ => gtr_not hle)
    intro w6
    have hk6 : Kept No w4 w6 := hk5.no (Kept.drew _ _)
    have hz6 : w6.heap.size = w5.heap.size := rfl
    clear_value w6
    have hb6 := hb4.keep hk6 fun e => e
    obtain ⟨q', haq', hq1', hq2'⟩ := hc1 hk6
    have hq : q' = q := by rw [haq] at haq'; cases haq'; rfl
    subst hq
    refine nnI ⟨_, _, _, hb6.at0 rfl, nnI ⟨_, _, _, hb6.at0 rfl, ⟨by omega, by omega⟩, nnI ⟨_, _, _, hb6.at0 rfl, ⟨by omega, by omega⟩, ⟨by omega, by omega⟩, nnE2 haq ⟨_, hq1', nnI ⟨_, _, _, hb6.at0 rfl, ⟨by omega, by omega⟩, nnE2 haq ⟨_, hq2', ⟨by omega, by omega⟩, nnE2 haq ?_⟩⟩⟩⟩⟩⟩
    refine stC_slo (hs4.keep hk6 fun _ _ e => e) haq (j := n) (by omega) fun w7 hs7 hk7 hz7 => ⟨⟨by omega, by omega⟩, nnE2 haq (stC_slo hs7 haq (j := n - 1) (by omega) fun w8 hs8 hk8 hz8 => ⟨⟨by omega, by omega⟩, ?_, ?_⟩)⟩
    · rw [hI]
      refine ⟨n - 1, by omega, by rw [show ((n : Int) - 1) = ((n - 1 : Nat) : Int) by omega], ?_, fun x hx => ?_, ?_, ?_⟩
      · rw [← List.map_set (f := fun t : ByteArray × Nat => pd (tl t.2)) (a := T[n - 1]), ← List.map_set (f := fun t : ByteArray × Nat => pd (tl t.2)) (a := (nm i, i)), ins_step T _ (by omega) hn] at hs8
        exact hs8
      · rw [show n = (n - 1) + 1 by omega] at hge4
        rw [List.drop_eq_getElem_cons hnl] at hx
        rcases List.mem_cons.1 hx with rfl | hx
        · exact gtr_le hgt
        · exact hge4 x hx
      · refine ((k4.no hk6).trans (hk7.mono fun b hb e => ?_) fun _ _ e => e).trans (hk8.mono fun b hb e => ?_) fun _ _ e => e
        all_goals
          rw [hS]
          rcases hA b e with e | e
          · exact .inr (.inl e)
          · exact .inr (.inr (by omega))
      · exact (hb6.keep hk7 hpka).keep hk8 hpka
    · rw [hmu]; simp only [ix]; omega
  · intro nd w5
    exact fin (Kept.drewN _ _ _) fun h1 => by omega
end Go.Proofs.YtpoaacnnhgebfaaGreat
