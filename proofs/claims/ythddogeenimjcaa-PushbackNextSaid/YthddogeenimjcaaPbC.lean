/-
  Bytes put back and what is held, by the page. Conditions: as each says.
-/
import Derived.Test.YthddogeenimjcaaPbB
set_option linter.unusedVariables false
namespace Go.Proofs.Ythddogeenimjcaa
open Go.Lw

def ungP (p : Pu) (bs : List Int) : Pu × Int :=
  if begP p ≠ 0 then (p, begP p) else if p.r = false then (p, 65) else if p.d = 2 then (p, 112) else if 8 < p.k.length + bs.length then (p, 31) else if bs.length = 0 then (p, 0) else
    ({ p with k := p.k ++ bs.reverse, d := 1, e := false }, 0)

def heldP (p : Pu) : List Int × Int := if begP p ≠ 0 then ([], begP p) else (p.k.reverse ++ p.i, 0)

theorem begP_ck {p : Pu} (h : begP p = 0) : ckP p := by
  by_cases hc : ckP p
  · exact hc
  · unfold begP at h; rw [if_neg hc] at h; omega

theorem ck8 {p : Pu} (h : ckP p) : p.k.length ≤ 8 ∧ p.i.length ≤ 65536 := by
  unfold ckP ckV at h
  obtain ⟨_, _, _, _, _, _, _, h1, h2, _⟩ := h
  exact ⟨h2, h1⟩

theorem OB1 {w : World} {n : Int} {e : TypeId} : RdB (w.alloc (.cells #[.int .u8 n] e)) (some ⟨w.heap.size, 0, none⟩) 1 1 [n] := rd_alloc w [n] e

theorem sz11 {w : World} {g : Nat} {cur : Array Value} (h : Blk w g cur) (hs : cur.size = 11) {i : Nat} (hi : i < 11) : i < cur.size := by omega

theorem Ow3.kput {w0 w w' : World} {s : Sl3} {p : Pu} (h : Ow3 w0 w s p) {S : Nat → Prop} (k : Kept S w w') (hS : ∀ b, S b → inA s.ka b ∨ w.heap.size ≤ b) {a : Option Addr} {l c : Nat} {ks : List Int} (ho : OB w' a l c ks) (hw0 : w0.heap.size ≤ w.heap.size) (ha : ∀ b, inA a b → inA s.ka b ∨ w.heap.size ≤ b) (d : Int) (e : Bool) :
    Ow3 w0 w' { s with ka := a, kl := l, kc := c } { p with k := ks, d := d, e := e } := by
  obtain ⟨⟨o1, o2, o3⟩, ⟨f1, f2, f3⟩, d1, d2⟩ := h
  have l1 := o1.lt
  have l2 := o2.lt
  refine ⟨⟨o1.keep k fun b hb hs => ?_, o2.keep k fun b hb hs => ?_, ho⟩, ⟨f1, f2, fun b hb => ?_⟩, fun b hb => ⟨fun hi => ?_, fun hi => ?_⟩, d2⟩
  · rcases hS b hs with h | h
    · exact (d1 b h).2 hb
    · have := l1 b hb; omega
  · rcases hS b hs with h | h
    · exact (d1 b h).1 hb
    · have := l2 b hb; omega
  · rcases ha b hb with h | h
    · exact f3 b h
    · omega
  · rcases ha b hb with h | h
    · exact (d1 b h).1 hi
    · have := l2 b hi; omega
  · rcases ha b hb with h | h
    · exact (d1 b h).2 hi
    · have := l1 b hi; omega

theorem kset {p : Pu} {s : Sl3} {a : Option Addr} {l c : Nat} {ks : List Int} : (cs p s).setIfInBounds 6 (.slice a l c) = cs { p with k := ks } { s with ka := a, kl := l, kc := c } := rfl
theorem dset {p : Pu} {s : Sl3} {d : Int} : (cs p s).setIfInBounds 7 (.int .i64 d) = cs { p with d := d } s := rfl
theorem eset {p : Pu} {s : Sl3} {e : Bool} : (cs p s).setIfInBounds 8 (.bool e) = cs { p with e := e } s := rfl

theorem rev_take {bs : List Int} {j : Nat} (h : j < bs.length) : bs.reverse.take (j + 1) = bs.reverse.take j ++ [bs[bs.length - 1 - j]'(by omega)] := by
  rw [List.take_add_one, List.getElem?_eq_getElem (by simpa using h), List.getElem_reverse]
  rfl

/-- A byte more at the state's back. -/
theorem push1 {w0 w : World} {g : Nat} {p : Pu} {t : Sl3} {c : Int} {a2 : Option Addr} (hb : Blk w g (cs p t)) (ho : Ow3 w0 w t p) (hn : ∀ b, inA t.oa b ∨ inA t.ia b ∨ inA t.ka b → b ≠ g) (hone : RdB w a2 1 1 [c]) (hl : p.k.length ≤ 2199023255552) (hw0 : w0.heap.size ≤ w.heap.size) {K : World → Prop}
    (hk : ∀ t' w', Blk w' g (cs { p with k := p.k ++ [c] } t') → Ow3 w0 w' t' { p with k := p.k ++ [c] } → Kept (fun z => inA t.ka z ∨ z = g) w w' → (∀ b, inA t'.oa b ∨ inA t'.ia b ∨ inA t'.ka b → b ≠ g) → (∀ b, inA t'.oa b ∨ inA t'.ia b ∨ inA t'.ka b → (inA t.oa b ∨ inA t.ia b ∨ inA t.ka b) ∨ w.heap.size ≤ b) → K w') :
    ∃ (a169 : Option Addr) (l169 : Nat) (c169 : Nat) (w75 : World), Sem.run Try.prog (Builtin.append_ #[22, 22] 22 #[.slice t.ka t.kl t.kc, .slice a2 1 1]) w = .ok ((.slice a169 l169 c169 : Value)) w75 ∧ stC (Addr.mk g 6 none) (.slice a169 l169 c169) w75 K := by
  have hkl : t.kl = p.k.length := ho.1.2.2.len.symm
  obtain ⟨a', c', w75, hrun, hs, hk5, hat, hnn⟩ := run_app_sl (P := Try.prog) (t := 22) (t2 := 22) (ty := 22) (by kernel_rfl : slTyB Try.prog 22 1 1 = true) (by kernel_rfl) ho.1.2.2 hone (By_one _) (by omega) (by omega)
  rw [← By_append] at hs
  refine ⟨a', _, c', w75, hrun, ?_⟩
  have hg := hb.lt
  have hb75 := hb.keep hk5 (fun e => hn g (.inr (.inr e)) rfl)
  have hin : ∀ b, inA a' b → inA t.ka b ∨ w.heap.size ≤ b := fun b hb => by
    rcases hat.in hb with h | h
    · exact .inl h
    · right; omega
  have hing : ∀ b, inA a' b → b ≠ g := fun b hb e => by
    rcases hin b hb with h | h
    · exact hn b (.inr (.inr h)) e
    · omega
  refine stC_blk hb75 (by simp [cs]) fun w76 hb76 hk76 hs76 => ?_
  have hs76' : OB w76 a' (t.kl + 1) c' (p.k ++ [c]) := OB.keep hs hk76 hing
  have hk2 : Kept (fun z => inA t.ka z ∨ z = g) w w76 := (hk5.mono (fun z _ h => Or.inl h)).trans hk76 fun z _ e => Or.inr e
  obtain ⟨⟨o1, o2, o3⟩, ⟨f1, f2, f3⟩, d1, d2⟩ := ho
  have l1 := o1.lt
  have l2 := o2.lt
  refine hk { t with ka := a', kl := t.kl + 1, kc := c' } w76 (by rw [kset (ks := p.k ++ [c])] at hb76; exact hb76) ⟨⟨o1.keep hk2 fun b hb e => ?_, o2.keep hk2 fun b hb e => ?_, hs76'⟩, ⟨f1, f2, fun b hb => ?_⟩, fun b hb => ⟨fun hi => ?_, fun hi => ?_⟩, d2⟩ hk2
    (fun b hb => ?_) (fun b hb => ?_)
  · rcases e with e | e
    · exact (d1 b e).2 hb
    · exact hn b (.inl hb) e
  · rcases e with e | e
    · exact (d1 b e).1 hb
    · exact hn b (.inr (.inl hb)) e
  · rcases hin b hb with h | h
    · exact f3 b h
    · omega
  · rcases hin b hb with h | h
    · exact (d1 b h).1 hi
    · have := l2 b hi; omega
  · rcases hin b hb with h | h
    · exact (d1 b h).2 hi
    · have := l1 b hi; omega
  · rcases hb with hb | hb | hb
    · exact hn b (.inl hb)
    · exact hn b (.inr (.inl hb))
    · exact hing b hb
  · rcases hb with hb | hb | hb
    · exact .inl (.inl hb)
    · exact .inl (.inr (.inl hb))
    · rcases hin b hb with h | h
      · exact .inl (.inr (.inr h))
      · exact .inr h

/-- The state's way and end are set; it is moved to the result. -/
theorem fin1 {w0 w : World} {g g1 : Nat} {p : Pu} {t : Sl3} {cur : Array Value} (hb : Blk w g (cs p t)) (hb1 : Blk w g1 cur) (hs1 : cur.size = 11) (ho : Ow3 w0 w t p) (hn : ∀ b, inA t.oa b ∨ inA t.ia b ∨ inA t.ka b → b ≠ g ∧ b ≠ g1) (hgg : g ≠ g1) {K : World → Prop}
    (hk : ∀ w', Blk w' g (cs { p with d := 1, e := false } t) → Kept (· = g) w w' → Blk w' g1 cur → Ow3 w0 w' t { p with d := 1, e := false } → K w') :
    stC (Addr.mk g 7 none) (.int .i64 1) w fun w77 => stC (Addr.mk g 8 none) (.bool false) w77 K := by
  refine stC_blk hb (by simp [cs]) fun w2 h2 k2 s2 => ?_
  rw [dset] at h2
  refine stC_blk h2 (by simp [cs]) fun w3 h3 k3 s3 => ?_
  rw [eset] at h3
  have k : Kept (· = g) w w3 := k2.trans k3 fun _ _ e => e
  exact hk w3 h3 k (hb1.keep k (fun e => hgg e.symm)) (ho.keep k fun b hb => (hn b hb).1)

theorem rungetall {w : World} {p : Pu} {s : Sl3} (h : Rd3 w s p) (hbd : Bd p) {a : Option Addr} {l c : Nat} {bs : List Int} (hr : RdB w a l c bs) (hl : l ≤ 140737488355328) :
    CallR Try.prog 11 [.agg (cs p s), .slice a l c] w fun v w' => ∃ s', v = .tuple #[.agg (cs (ungP p bs).1 s'), .int .i64 (ungP p bs).2] ∧ Ow3 w w' s' (ungP p bs).1 ∧ Kept No w w' := by
  refine C11 ?_
  unfold L11
  have hlen := hr.len
  intro w1 w2
  have hb1 : Blk w1 w.heap.size (cs p s) := Blk.alloc _ _ _
  have hk1 : Kept No w w1 := Kept.alloc _ _ _
  clear_value w1
  have hb2 : Blk w2 w1.heap.size (cs ⟨false, false, 0, 0, [], [], [], 0, false, false, false⟩ Sl3.no) := Blk.alloc _ _ _
  have hk2 : Kept No w1 w2 := Kept.alloc _ _ _
  clear_value w2
  have hb12 := hb1.keep hk2 (fun e => e)
  have hk02 := hk1.no hk2
  have hlt1 : w.heap.size < w1.heap.size := hb1.lt
  have hlt2 : w1.heap.size < w2.heap.size := hb2.lt
  refine ld11 hb12 (CallR.mono (own2_ok (h.no hk02) hbd) ?_)
  rintro v w3 ⟨s', rfl, ho, hk3⟩
  have hb23 := hb2.keep hk3 (fun e => e)
  have hlt3 : w2.heap.size ≤ w3.heap.size := hk3.size
  refine ⟨_, _, _, _, _, _, _, _, _, _, _, _, _, _, _, _, _, rfl, ?_⟩
  intro w4
  have hb4 : Blk w4 w3.heap.size (cs ⟨false, false, 0, 0, [], [], [], 0, false, false, false⟩ Sl3.no) := Blk.alloc _ _ _
  have hk4 : Kept No w3 w4 := Kept.alloc _ _ _
  clear_value w4
  refine st11 (p := p) (s := s') hb4 rfl fun w15 hb15 hk15 => ?_
  have ho3 : ∀ b, inA s'.oa b ∨ inA s'.ia b ∨ inA s'.ka b → b < w3.heap.size := fun b hb => by
    rcases hb with hb | hb | hb
    · exact ho.1.1.lt b hb
    · exact ho.1.2.1.lt b hb
    · exact ho.1.2.2.lt b hb
  have ho15 : Ow3 w2 w15 s' p := (ho.no hk4).keep hk15 fun b hb e => by have := ho3 b hb; omega
  have hk315 : Kept No w3 w15 := hk4.fresh hk15 (fun x e => by rw [e]; exact Nat.le_refl _)
  have hb215 := hb23.keep hk315 (fun e => e)
  refine ld11 hb15 (CallR.mono (beg_ok (p := p) (s := s') ho15.rd hbd) ?_)
  rintro v w16 ⟨rfl, hk16⟩
  have hb16 := hb15.keep hk16 (fun e => e)
  have hb216 := hb215.keep hk16 (fun e => e)
  have ho16 := ho15.no hk16
  have hk316 := hk315.no hk16
  have hk016 : Kept No w w16 := (hk02.no hk3).no hk316
  have hlt16 : w3.heap.size < w16.heap.size := hb16.lt
  -- the end: the state is moved to the result
  have fin : ∀ (q : Pu) (t : Sl3) (wa : World) (n : Int) (e1 : q = (ungP p bs).1) (e2 : n = (ungP p bs).2) (hq : Blk wa w1.heap.size (cs q t)) (hw : Ow3 w wa t q) (hkk : Kept No w wa),
      ∃ s', Value.tuple #[.agg (cs q t), .int .i64 n] = .tuple #[.agg (cs (ungP p bs).1 s'), .int .i64 (ungP p bs).2] ∧ Ow3 w wa s' (ungP p bs).1 ∧ Kept No w wa := by
    rintro q t wa n rfl rfl hq hw hkk
    exact ⟨t, rfl, hw, hkk⟩
  have stay : ∀ (wa : World), Kept (· = w1.heap.size) w16 wa → Ow3 w wa s' p ∧ Kept No w wa := fun wa hka => by
    refine ⟨Ow3.base (w1 := w2) (ho16.keep hka fun b hb e => ?_) hk02.size, hk016.fresh hka (fun x e => by rw [e]; exact Nat.le_of_lt hlt1)⟩
    have hge : w2.heap.size ≤ b := by
      rcases hb with hb | hb | hb
      · exact ho.2.1.1 b hb
      · exact ho.2.1.2.1 b hb
      · exact ho.2.1.2.2 b hb
    omega
  have hku : s'.kl = p.k.length := ho16.1.2.2.len.symm
  obtain ⟨hB1, hB2, hB3⟩ := hbd
  refine ⟨_, rfl, ?_⟩
  refine condN (fun he => ?_) (fun he => ?_)
  · refine ld11 hb16 (st11 hb216 rfl fun w27 hb27 hk27 => ld11 hb27 ?_)
    exact fin p s' w27 _ (by unfold ungP; rw [if_pos he]) (by unfold ungP; rw [if_pos he]) hb27 (stay _ hk27).1 (stay _ hk27).2
  have hck := begP_ck he
  obtain ⟨hk8, hi8⟩ := ck8 hck
  have hne0 : ¬ begP p ≠ 0 := fun h => h he
  refine ⟨_, (hb16.cell 0).trans rfl, ?_⟩
  refine condI (fun hr0 => ?_) (fun hr0 => ?_)
  · have hr1 : p.r = false := notT hr0
    refine ld11 hb16 (st11 hb216 rfl fun w27 hb27 hk27 => ld11 hb27 ?_)
    exact fin p s' w27 _ (by unfold ungP; rw [if_neg hne0, if_pos hr1]) (by unfold ungP; rw [if_neg hne0, if_pos hr1]) hb27 (stay _ hk27).1 (stay _ hk27).2
  have hr1 : ¬ p.r = false := by rw [notF hr0]; simp
  refine ⟨_, (hb16.cell 7).trans rfl, ?_⟩
  refine condE (fun hd => ?_) (fun hd => ?_)
  · refine ld11 hb16 (st11 hb216 rfl fun w27 hb27 hk27 => ld11 hb27 ?_)
    exact fin p s' w27 _ (by unfold ungP; rw [if_neg hne0, if_neg hr1, if_pos hd]) (by unfold ungP; rw [if_neg hne0, if_neg hr1, if_pos hd]) hb27 (stay _ hk27).1 (stay _ hk27).2
  refine ⟨_, _, _, (hb16.cell 6).trans rfl, ⟨by omega, by omega⟩, ?_⟩
  refine condP (fun hf => ?_) (fun hf => ?_)
  · have hf' : 8 < p.k.length + bs.length := by omega
    refine ld11 hb16 (st11 hb216 rfl fun w27 hb27 hk27 => ld11 hb27 ?_)
    exact fin p s' w27 _ (by unfold ungP; rw [if_neg hne0, if_neg hr1, if_neg hd, if_pos hf']) (by unfold ungP; rw [if_neg hne0, if_neg hr1, if_neg hd, if_pos hf']) hb27 (stay _ hk27).1 (stay _ hk27).2
  have hf' : ¬ 8 < p.k.length + bs.length := by omega
  refine condE (fun hz => ?_) (fun hz => ?_)
  · have hz' : bs.length = 0 := by omega
    refine ld11 hb16 (st11 hb216 rfl fun w27 hb27 hk27 => ld11 hb27 ?_)
    exact fin p s' w27 _ (by unfold ungP; rw [if_neg hne0, if_neg hr1, if_neg hd, if_neg hf', if_pos hz']) (by unfold ungP; rw [if_neg hne0, if_neg hr1, if_neg hd, if_neg hf', if_pos hz']) hb27 (stay _ hk27).1 (stay _ hk27).2
  have hz' : ¬ bs.length = 0 := by omega
  have hres : ungP p bs = ({ p with k := p.k ++ bs.reverse, d := 1, e := false }, 0) := by
    unfold ungP; rw [if_neg hne0, if_neg hr1, if_neg hd, if_neg hf', if_neg hz']
  refine ⟨⟨by omega, by omega⟩, ?_⟩
  refine ⟨fun vs w' => ∃ (j : Nat) (t : Sl3), vs = [.int .i64 ((l : Int) - 1 - j)] ∧ j ≤ l ∧ Blk w' w3.heap.size (cs { p with k := p.k ++ bs.reverse.take j } t) ∧ Ow3 w2 w' t { p with k := p.k ++ bs.reverse.take j } ∧ Kept No w w' ∧ Blk w' w1.heap.size (cs ⟨false, false, 0, 0, [], [], [], 0, false, false, false⟩ Sl3.no) ∧ (∀ b, inA t.oa b ∨ inA t.ia b ∨ inA t.ka b → b ≠ w3.heap.size),
    fun vs _ => match vs with | [.int _ n] => (n + 1).toNat | _ => 0, ⟨0, s', by simp, by omega, by simpa using hb16, by simpa using ho16, hk016, hb216, fun b hb => by have := ho3 b hb; omega⟩, ?_⟩
  intro _ n w72 hI
  obtain ⟨j, t, hvs, hj, hbt, hot, hkt, hbr, hnt⟩ := hI
  simp only [List.cons.injEq, Value.int.injEq, true_and, and_true] at hvs
  subst hvs
  have hjl : (bs.reverse.take j).length = j := by rw [List.length_take, List.length_reverse]; omega
  have hlt72 : w3.heap.size < w72.heap.size := hbt.lt
  refine condP (fun hlt => ?_) (fun hge => ?_)
  · have hj' : j < l := by omega
    have hjb : l - 1 - j < bs.length := by omega
    obtain ⟨q, haq, hg⟩ := (hr.keep hkt (fun _ _ _ e => e)).get hjb
    have etn : Int.toNat ((l : Int) - 1 - j) = l - 1 - j := by omega
    refine ⟨fun wS => Blk wS w3.heap.size (cs { p with k := p.k ++ bs.reverse.take j } t) ∧ Kept No w72 wS, ⟨hbt.drew, Kept.drew _ _⟩, _, _, _, fun wS hS => (hS.1.cell 6).trans rfl, ⟨by omega, by omega⟩, ?_⟩
    subst haq
    refine nnI ⟨bs[l - 1 - j], fun wS hS => by rw [etn]; exact hS.2.cell hg (fun e => e), ?_⟩
    have hkd : Kept No w72 w72.drew := Kept.drew _ _
    intro w74
    have hk74 : Kept No w72.drew w74 := Kept.alloc _ _ _
    have hone : RdB w74 (some ⟨w72.drew.heap.size, 0, none⟩) 1 1 [bs[l - 1 - j]] := OB1
    clear_value w74
    have hk724 := hkd.no hk74
    have hz724 : w72.heap.size ≤ w74.heap.size := hk724.size
    refine ⟨⟨hbt.keep hk724 (fun e => e), hk724⟩, ?_⟩
    refine push1 (hbt.keep hk724 (fun e => e)) (hot.no hk724) hnt hone (by simp [hjl]; omega) (by omega) fun t' w76 hb' ho' hk' hn' hin' => ?_
    have hks : p.k ++ bs.reverse.take j ++ [bs[l - 1 - j]] = p.k ++ bs.reverse.take (j + 1) := by
      rw [rev_take (by omega : j < bs.length), List.append_assoc]
      simp only [hlen]
    dsimp only at hb' ho'
    rw [hks] at hb' ho'
    have hne1 : w1.heap.size ≠ w3.heap.size := by omega
    have hka : ∀ b, inA t.ka b → w2.heap.size ≤ b := hot.2.1.2.2
    refine ⟨⟨by omega, by omega⟩, ⟨j + 1, t', by simp; omega, by omega, hb', ho', ?_, ?_, hn'⟩, ?_⟩
    · exact (hkt.no hk724).fresh hk' (fun x e => by
        rcases e with e | e
        · have := hka x e; omega
        · omega)
    · exact (hbr.keep hk724 (fun e => e)).keep hk' (fun e => by
        rcases e with e | e
        · have := hka _ e; omega
        · omega)
    · show ((l : Int) - 1 - j - 1 + 1).toNat < ((l : Int) - 1 - j + 1).toNat
      omega
  · have hjj : j = l := by omega
    have htk : bs.reverse.take j = bs.reverse := List.take_of_length_le (by rw [List.length_reverse]; omega)
    rw [htk] at hbt hot
    have hx : ∀ b, inA t.oa b ∨ inA t.ia b ∨ inA t.ka b → w2.heap.size ≤ b := fun b hb => by
      rcases hb with hb | hb | hb
      · exact hot.2.1.1 b hb
      · exact hot.2.1.2.1 b hb
      · exact hot.2.1.2.2 b hb
    refine fin1 (g1 := w1.heap.size) hbt hbr rfl hot (fun b hb => ⟨hnt b hb, by have := hx b hb; omega⟩) (by omega) fun w78 hb78 hk78 hbr78 ho78 => ?_
    refine ld11 hb78 (st11 hbr78 rfl fun w89 hb89 hk89 => ld11 hb89 ?_)
    rw [hres]
    exact ⟨t, rfl, Ow3.base (w1 := w2) (ho78.keep hk89 fun b hb e => by have := hx b hb; omega) hk02.size, (hkt.fresh hk78 (fun x e => by omega)).fresh hk89 (fun x e => by omega)⟩

theorem runget {w : World} {p : Pu} {s : Sl3} (h : Rd3 w s p) (hbd : Bd p) (c : Int) :
    CallR Try.prog 9 [.agg (cs p s), .int .u8 c] w fun v w' => ∃ s', v = .tuple #[.agg (cs (ungP p [c]).1 s'), .int .i64 (ungP p [c]).2] ∧ Ow3 w w' s' (ungP p [c]).1 ∧ Kept No w w' := by
  refine C9 ?_
  unfold L9
  intro w1 w2
  have hb1 : Blk w1 w.heap.size (cs p s) := Blk.alloc _ _ _
  have hk1 : Kept No w w1 := Kept.alloc _ _ _
  clear_value w1
  have hb2 : Blk w2 w1.heap.size (cs ⟨false, false, 0, 0, [], [], [], 0, false, false, false⟩ Sl3.no) := Blk.alloc _ _ _
  have hk2 : Kept No w1 w2 := Kept.alloc _ _ _
  clear_value w2
  have hb12 := hb1.keep hk2 (fun e => e)
  have hk02 := hk1.no hk2
  have hlt1 : w.heap.size < w1.heap.size := hb1.lt
  have hlt2 : w1.heap.size < w2.heap.size := hb2.lt
  refine ld11 hb12 ?_
  intro w3
  have hk3 : Kept No w2 w3 := Kept.alloc _ _ _
  have hone : RdB w3 (some ⟨w2.heap.size, 0, none⟩) 1 1 [c] := OB1
  clear_value w3
  have hk03 := hk02.no hk3
  have hlt3 : w2.heap.size ≤ w3.heap.size := hk3.size
  refine CallR.mono (rungetall (h.no hk03) hbd hone (by omega)) ?_
  rintro v w4 ⟨s', rfl, ho, hk4⟩
  refine ⟨_, _, _, _, _, _, _, _, _, _, _, _, _, _, _, _, _, _, rfl, ?_⟩
  refine st11 (p := (ungP p [c]).1) (s := s') ((hb2.keep hk3 (fun e => e)).keep hk4 (fun e => e)) rfl fun w15 hb15 hk15 => ld11 hb15 ⟨s', rfl, Ow3.base (w1 := w3) (ho.keep hk15 fun b hb e => ?_) hk03.size, (hk03.no hk4).fresh hk15 (fun x e => by omega)⟩
  have hx : w3.heap.size ≤ b := by
    rcases hb with hb | hb | hb
    · exact ho.2.1.1 b hb
    · exact ho.2.1.2.1 b hb
    · exact ho.2.1.2.2 b hb
  omega

end Go.Proofs.Ythddogeenimjcaa
