/-
  Bytes put back by the program: a range over a function. Conditions: as each says.
-/
import Derived.Test.YthddogeenimjcaaPbD
set_option linter.unusedVariables false
namespace Go.Proofs.Ythddogeenimjcaa
open Go.Lw

theorem YieldR.mono {P : Program} {l : Nat} {x : List Value} {W : World} {R R' : Bool → World → Prop} (h : YieldR P l x W R) (hr : ∀ b W', R b W' → R' b W') : YieldR P l x W R' := by
  obtain ⟨fn, tmps, asg, bd, h1, h2⟩ := h
  exact ⟨fn, tmps, asg, bd, h1, RoundIn.mono h2 fun e W' ⟨b, e1, h⟩ => ⟨b, e1, hr b W' h⟩⟩

theorem back_ok {w : World} {a : Option Addr} {l c : Nat} :
    CallR Try.prog 24 [.slice a l c] w fun v w' => v = .func (.func 35) #[] #[.pointer (some ⟨w.heap.size, 0, none⟩)] ∧ Blk w' w.heap.size #[.slice a l c] ∧ Kept No w w' := by
  refine C24 ?_
  unfold L24
  exact ⟨rfl, Blk.alloc _ _ _, Kept.alloc _ _ _⟩

def xsOf (bs : List Int) : List (List Value) := (List.range bs.length).map fun (i : Nat) => ([Value.int .i64 ((bs.length : Int) - 1 - (i : Int)), Value.int .u8 (bs.getD (bs.length - 1 - i) 0)] : List Value)

theorem xsOf_len (bs : List Int) : (xsOf bs).length = bs.length := by simp [xsOf]
theorem xsOf_at {bs : List Int} {i : Nat} (h : i < bs.length) : (xsOf bs)[i]? = some [.int .i64 ((bs.length : Int) - 1 - i), .int .u8 (bs[bs.length - 1 - i]'(by omega))] := by
  simp only [xsOf, List.getElem?_map, List.getElem?_range h, Option.map_some]
  rw [List.getD_eq_getElem?_getD, List.getElem?_eq_getElem (by omega)]
  rfl
theorem xsOf_some {bs : List Int} {i : Nat} {x : List Value} (h : (xsOf bs)[i]? = some x) : i < bs.length := by
  have := (List.getElem?_eq_some_iff.1 h).1
  rwa [xsOf_len] at this

theorem back_iter {w : World} {g : Nat} {a : Option Addr} {l c : Nat} {bs : List Int} (hb : Blk w g #[.slice a l c]) (hr : RdB w a l c bs) (hl : l ≤ 140737488355328) :
    IterOK Try.prog 35 [.pointer (some ⟨g, 0, none⟩)] (xsOf bs) (fun z => z = g ∨ inA a z) w := by
  intro l' J Jx W hW hJ hJx hy h0
  refine C35 ?_
  unfold L35
  have hbW := hb.keep hW (fun e => e)
  have hrW := hr.keep hW (fun _ _ _ e => e)
  have hlen := hr.len
  refine nnI ⟨_, _, _, (hbW.cell 0).trans rfl, ⟨by omega, by omega⟩, fun vs w' => ∃ i : Nat, vs = [.int .i64 ((l : Int) - 1 - i)] ∧ i ≤ l ∧ J i w' ∧ Blk w' g #[.slice a l c] ∧ RdB w' a l c bs,
    fun vs _ => match vs with | [.int _ n] => (n + 1).toNat | _ => 0, ⟨0, by simp, by omega, h0, hbW, hrW⟩, ?_⟩
  intro _ n7 w1 hI
  obtain ⟨i, hvs, hi, hj, hb1, hr1⟩ := hI
  simp only [List.cons.injEq, Value.int.injEq, true_and, and_true] at hvs
  subst hvs
  refine condP (fun hlt => ?_) (fun hge => ?_)
  · have hi' : i < bs.length := by omega
    have hjb : l - 1 - i < bs.length := by omega
    obtain ⟨q, haq, hg⟩ := hr1.get hjb
    have etn : Int.toNat ((l : Int) - 1 - i) = l - 1 - i := by omega
    refine nnI ⟨_, _, _, (hb1.cell 0).trans rfl, ⟨by omega, by omega⟩, ?_⟩
    subst haq
    refine nnI ⟨bs[l - 1 - i], by rw [etn]; exact hg, l', rfl, ?_⟩
    have hx : (xsOf bs)[i]? = some [.int .i64 ((l : Int) - 1 - i), .int .u8 bs[l - 1 - i]] := by
      rw [xsOf_at hi']
      simp only [hlen]
    refine YieldR.mono (hy i _ w1 hx hj) fun b B hB => ?_
    cases b
    · exact .inr ⟨i, by rw [xsOf_len]; exact hi', hB⟩
    · obtain ⟨hB1, hB2⟩ := hB
      refine condFa ⟨⟨by omega, by omega⟩, ⟨i + 1, by simp; omega, by omega, hB1, hb1.keep hB2 (fun e => e (.inl rfl)), hr1.keep hB2 (fun b _ hin e => e (.inr hin))⟩, ?_⟩
      show ((l : Int) - 1 - i - 1 + 1).toNat < ((l : Int) - 1 - i + 1).toNat
      omega
  · have : i = bs.length := by omega
    subst this
    exact .inl (by rw [xsOf_len]; exact hj)

set_option maxHeartbeats 1000000 in
theorem ungetall {w : World} {p : Pu} {s : Sl3} (h : Rd3 w s p) (hbd : Bd p) {a : Option Addr} {l c : Nat} {bs : List Int} (hr : RdB w a l c bs) (hl : l ≤ 140737488355328) :
    CallR Try.prog 10 [.agg (cs p s), .slice a l c] w fun v w' => ∃ s', v = .tuple #[.agg (cs (ungP p bs).1 s'), .int .i64 (ungP p bs).2] ∧ Ow3 w w' s' (ungP p bs).1 ∧ Kept No w w' := by
  refine C10 ?_
  unfold L10
  have hlen := hr.len
  intro w1 w2
  have hb1 : Blk w1 w.heap.size (cs p s) := Blk.alloc _ _ _
  have hk1 : Kept No w w1 := Kept.alloc _ _ _
  clear_value w1
  have hb2 : Blk w2 w1.heap.size (cs ⟨false, false, 0, 0, [], [], [], 0, false, false, false⟩ Sl3.no) := Blk.alloc _ _ _
  have hk2 : Kept No w1 w2 := Kept.alloc _ _ _
  clear_value w2
  have hb12 := hb1.keep hk2 (fun e => e)
  have hk02 := hk1.no hk2
  have hlt1 : w.heap.size < w1.heap.size := hb1.lt
  have hlt2 : w1.heap.size < w2.heap.size := hb2.lt
  refine ld11 hb12 (CallR.mono (own_ok (h.no hk02) hbd) ?_)
  rintro v w3 ⟨s', rfl, ho, hk3⟩
  have hb23 := hb2.keep hk3 (fun e => e)
  have hlt3 : w2.heap.size ≤ w3.heap.size := hk3.size
  refine ⟨_, _, _, _, _, _, _, _, _, _, _, _, _, _, _, _, _, _, rfl, ?_⟩
  intro w4
  have hb4 : Blk w4 w3.heap.size (cs ⟨false, false, 0, 0, [], [], [], 0, false, false, false⟩ Sl3.no) := Blk.alloc _ _ _
  have hk4 : Kept No w3 w4 := Kept.alloc _ _ _
  clear_value w4
  refine st11 (p := p) (s := s') hb4 rfl fun w16 hb16 hk16 => ?_
  have ho3 : ∀ b, inA s'.oa b ∨ inA s'.ia b ∨ inA s'.ka b → b < w3.heap.size := fun b hb => by
    rcases hb with hb | hb | hb
    · exact ho.1.1.lt b hb
    · exact ho.1.2.1.lt b hb
    · exact ho.1.2.2.lt b hb
  have hk316 : Kept No w3 w16 := hk4.fresh hk16 (fun x e => by rw [e]; exact Nat.le_refl _)
  have ho16 : Ow3 w2 w16 s' p := ho.no hk316
  have hb216 := hb23.keep hk316 (fun e => e)
  have hk016 : Kept No w w16 := (hk02.no hk3).no hk316
  have hlt16 : w3.heap.size < w16.heap.size := hb16.lt
  have fin : ∀ (q : Pu) (t : Sl3) (wa : World) (n : Int) (e1 : q = (ungP p bs).1) (e2 : n = (ungP p bs).2) (hq : Blk wa w1.heap.size (cs q t)) (hw : Ow3 w wa t q) (hkk : Kept No w wa),
      ∃ s', Value.tuple #[.agg (cs q t), .int .i64 n] = .tuple #[.agg (cs (ungP p bs).1 s'), .int .i64 (ungP p bs).2] ∧ Ow3 w wa s' (ungP p bs).1 ∧ Kept No w wa := by
    rintro q t wa n rfl rfl hq hw hkk
    exact ⟨t, rfl, hw, hkk⟩
  have stay : ∀ (wa : World), Kept (· = w1.heap.size) w16 wa → Ow3 w wa s' p ∧ Kept No w wa := fun wa hka => by
    refine ⟨Ow3.base (w1 := w2) (ho16.keep hka fun b hb e => ?_) hk02.size, hk016.fresh hka (fun x e => by rw [e]; exact Nat.le_of_lt hlt1)⟩
    have hge : w2.heap.size ≤ b := by
      rcases hb with hb | hb | hb
      · exact ho.2.1.1 b hb
      · exact ho.2.1.2.1 b hb
      · exact ho.2.1.2.2 b hb
    omega
  have hku : s'.kl = p.k.length := ho16.1.2.2.len.symm
  obtain ⟨hB1, hB2, hB3⟩ := hbd
  refine condN (fun he => ?_) (fun he => ?_)
  · refine ld11 hb16 (st11 hb216 rfl fun w27 hb27 hk27 => ld11 hb27 ?_)
    exact fin p s' w27 _ (by unfold ungP; rw [if_pos he]) (by unfold ungP; rw [if_pos he]) hb27 (stay _ hk27).1 (stay _ hk27).2
  have hck := begP_ck he
  obtain ⟨hk8, hi8⟩ := ck8 hck
  have hne0 : ¬ begP p ≠ 0 := fun h => h he
  refine ⟨_, (hb16.cell 0).trans rfl, ?_⟩
  refine condI (fun hr0 => ?_) (fun hr0 => ?_)
  · have hr1 : p.r = false := notT hr0
    refine ld11 hb16 (st11 hb216 rfl fun w27 hb27 hk27 => ld11 hb27 ?_)
    exact fin p s' w27 _ (by unfold ungP; rw [if_neg hne0, if_pos hr1]) (by unfold ungP; rw [if_neg hne0, if_pos hr1]) hb27 (stay _ hk27).1 (stay _ hk27).2
  have hr1 : ¬ p.r = false := by rw [notF hr0]; simp
  refine ⟨_, (hb16.cell 7).trans rfl, ?_⟩
  refine condE (fun hd => ?_) (fun hd => ?_)
  · refine ld11 hb16 (st11 hb216 rfl fun w27 hb27 hk27 => ld11 hb27 ?_)
    exact fin p s' w27 _ (by unfold ungP; rw [if_neg hne0, if_neg hr1, if_pos hd]) (by unfold ungP; rw [if_neg hne0, if_neg hr1, if_pos hd]) hb27 (stay _ hk27).1 (stay _ hk27).2
  refine ⟨_, _, _, (hb16.cell 6).trans rfl, ⟨by omega, by omega⟩, ?_⟩
  refine condP (fun hf => ?_) (fun hf => ?_)
  · have hf' : 8 < p.k.length + bs.length := by omega
    refine ld11 hb16 (st11 hb216 rfl fun w27 hb27 hk27 => ld11 hb27 ?_)
    exact fin p s' w27 _ (by unfold ungP; rw [if_neg hne0, if_neg hr1, if_neg hd, if_pos hf']) (by unfold ungP; rw [if_neg hne0, if_neg hr1, if_neg hd, if_pos hf']) hb27 (stay _ hk27).1 (stay _ hk27).2
  have hf' : ¬ 8 < p.k.length + bs.length := by omega
  refine condE (fun hz => ?_) (fun hz => ?_)
  · have hz' : bs.length = 0 := by omega
    refine ld11 hb16 (st11 hb216 rfl fun w27 hb27 hk27 => ld11 hb27 ?_)
    exact fin p s' w27 _ (by unfold ungP; rw [if_neg hne0, if_neg hr1, if_neg hd, if_neg hf', if_pos hz']) (by unfold ungP; rw [if_neg hne0, if_neg hr1, if_neg hd, if_neg hf', if_pos hz']) hb27 (stay _ hk27).1 (stay _ hk27).2
  have hz' : ¬ bs.length = 0 := by omega
  have hres : ungP p bs = ({ p with k := p.k ++ bs.reverse, d := 1, e := false }, 0) := by
    unfold ungP; rw [if_neg hne0, if_neg hr1, if_neg hd, if_neg hf', if_neg hz']
  refine CallR.mono back_ok ?_
  rintro v w71 ⟨rfl, hbI, hk71⟩
  have hr71 := hr.keep (hk016.no hk71) (fun _ _ _ e => e)
  have hne : By bs ≠ [] := fun e => by
    have : (By bs).length = 0 := by rw [e]; rfl
    rw [By_length] at this; omega
  have hold : ∀ b, inA a b → b < w.heap.size := RdS.old hr hne
  have hD : w16.heap.size < w71.heap.size := hbI.lt
  refine ⟨_, rfl, 35, _, xsOf bs, fun z => z = w16.heap.size ∨ inA a z, fun z => ¬ (z = w16.heap.size ∨ inA a z) ∧ z ≠ w71.heap.size ∧ z ≠ w71.heap.size + 1,
    fun i W => ∃ t : Sl3, Blk W w3.heap.size (cs { p with k := p.k ++ bs.reverse.take i } t) ∧ Ow3 w2 W t { p with k := p.k ++ bs.reverse.take i } ∧ Blk W w1.heap.size (cs ⟨false, false, 0, 0, [], [], [], 0, false, false, false⟩ Sl3.no) ∧ Kept No w W ∧
      (∀ b, inA t.oa b ∨ inA t.ia b ∨ inA t.ka b → (w2.heap.size ≤ b ∧ b < w3.heap.size) ∨ w71.heap.size + 2 ≤ b),
    fun _ _ => False, rfl, by kernel_rfl, back_iter hbI hr71 hl, fun z hz => ?_, fun z hz => hz, ?_, fun _ _ _ h _ => h, ?_, ?_, ?_, ?_⟩
  · rcases hz with rfl | hz
    · exact hD
    · have := hold z hz; omega
  · rintro i A B ⟨t, h1, h2, h3, h4, h5⟩ hk
    refine ⟨t, h1.keep hk (by omega), h2.keep hk (fun b hb e => ?_), h3.keep hk (by omega), h4.fresh hk (fun x e => by omega), h5⟩
    have := h5 b hb; omega
  · have hin2 : ∀ b, inA s'.oa b ∨ inA s'.ia b ∨ inA s'.ka b → w2.heap.size ≤ b := fun b hb => by
      rcases hb with hb | hb | hb
      · exact ho.2.1.1 b hb
      · exact ho.2.1.2.1 b hb
      · exact ho.2.1.2.2 b hb
    exact ⟨s', by simpa using hb16.keep hk71 (fun e => e), by simpa using ho16.no hk71, hb216.keep hk71 (fun e => e), hk016.no hk71, fun b hb => .inl ⟨hin2 b hb, ho3 b hb⟩⟩
  · rintro i x w72 hx ⟨t, h1, h2, h3, h4, h5⟩ hz72
    have hi : i < bs.length := xsOf_some hx
    rw [xsOf_at hi] at hx
    simp only [Option.some.injEq] at hx
    subst hx
    refine ⟨rfl, _, _, rfl, rfl, fun w73 hk73 => ?_⟩
    have h1' := h1.keep hk73 (by omega)
    have h2' := h2.keep hk73 (fun b hb e => by have := h5 b hb; omega)
    have h3' := h3.keep hk73 (by omega)
    have h4' : Kept No w w73 := h4.fresh hk73 (fun x e => by omega)
    have hz73 : w72.heap.size ≤ w73.heap.size := hk73.size
    refine ⟨_, _, _, (h1'.cell 6).trans rfl, ?_⟩
    intro w77
    have hk77 : Kept No w73 w77 := Kept.alloc _ _ _
    have hone : RdB w77 (some ⟨w73.heap.size, 0, none⟩) 1 1 [bs[bs.length - 1 - i]] := OB1
    clear_value w77
    have hz77 : w73.heap.size ≤ w77.heap.size := hk77.size
    have hil : (bs.reverse.take i).length = i := by rw [List.length_take, List.length_reverse]; omega
    refine push1 (h1'.keep hk77 (fun e => e)) (h2'.no hk77) (fun b hb e => by have := h5 b hb; omega) hone (by simp [hil]; omega) (by omega) fun t' w79 hb' ho' hk' hn' hin' => ?_
    have hks : p.k ++ bs.reverse.take i ++ [bs[bs.length - 1 - i]] = p.k ++ bs.reverse.take (i + 1) := by
      rw [rev_take hi, List.append_assoc]
    dsimp only at hb' ho'
    rw [hks] at hb' ho'
    have hin5 : ∀ x, inA t.ka x → (w2.heap.size ≤ x ∧ x < w3.heap.size) ∨ w71.heap.size + 2 ≤ x := fun x hx => h5 x (.inr (.inr hx))
    refine ⟨(hk77.mono (fun _ _ e => e.elim)).trans hk' fun z hz e => ?_, t', hb', ho', (h3'.keep hk77 (fun e => e)).keep hk' (fun e => ?_), (h4'.no hk77).fresh hk' (fun x e => ?_), fun b hb => ?_⟩
    · rcases e with e | e
      · have := hin5 z e
        refine ⟨fun h => ?_, by omega, by omega⟩
        rcases h with h | h
        · omega
        · have := hold z h; omega
      · refine ⟨fun h => ?_, by omega, by omega⟩
        rcases h with h | h
        · omega
        · have := hold z h; omega
    · rcases e with e | e
      · have := hin5 _ e; omega
      · omega
    · rcases e with e | e
      · have := hin5 _ e; omega
      · omega
    · rcases hin' b hb with h | h
      · exact h5 b h
      · right; omega
  · rintro w74 ⟨t, h1, h2, h3, h4, h5⟩
    have htk : bs.reverse.take (xsOf bs).length = bs.reverse := by rw [xsOf_len]; exact List.take_of_length_le (by rw [List.length_reverse]; omega)
    rw [htk] at h1 h2
    refine fin1 (g1 := w1.heap.size) h1 h3 rfl h2 (fun b hb => by have := h5 b hb; omega) (by omega) fun w78 hb78 hk78 hbr78 ho78 => ?_
    refine ld11 hb78 (st11 hbr78 rfl fun w89 hb89 hk89 => ⟨?_, fun w75 hk75 => ?_⟩)
    · exact (hk78.mono (fun z _ e => by omega)).trans hk89 fun z _ e => by omega
    · have hb75 := hb89.keep hk75 (by omega)
      refine ld11 hb75 ?_
      rw [hres]
      refine ⟨t, rfl, Ow3.base (w1 := w2) ((ho78.keep hk89 fun b hb e => by have := h5 b hb; omega).keep hk75 fun b hb e => by have := h5 b hb; omega) hk02.size, ?_⟩
      exact ((h4.fresh hk78 (fun x e => by omega)).fresh hk89 (fun x e => by omega)).fresh hk75 (fun x e => by omega)
  · intro i w74 h
    exact h.elim

theorem unget {w : World} {p : Pu} {s : Sl3} (h : Rd3 w s p) (hbd : Bd p) (c : Int) :
    CallR Try.prog 8 [.agg (cs p s), .int .u8 c] w fun v w' => ∃ s', v = .tuple #[.agg (cs (ungP p [c]).1 s'), .int .i64 (ungP p [c]).2] ∧ Ow3 w w' s' (ungP p [c]).1 ∧ Kept No w w' := by
  refine C8 ?_
  unfold L8
  intro w1 w2
  have hb1 : Blk w1 w.heap.size (cs p s) := Blk.alloc _ _ _
  have hk1 : Kept No w w1 := Kept.alloc _ _ _
  clear_value w1
  have hb2 : Blk w2 w1.heap.size (cs ⟨false, false, 0, 0, [], [], [], 0, false, false, false⟩ Sl3.no) := Blk.alloc _ _ _
  have hk2 : Kept No w1 w2 := Kept.alloc _ _ _
  clear_value w2
  have hb12 := hb1.keep hk2 (fun e => e)
  have hk02 := hk1.no hk2
  have hlt1 : w.heap.size < w1.heap.size := hb1.lt
  have hlt2 : w1.heap.size < w2.heap.size := hb2.lt
  refine ld11 hb12 ?_
  intro w3
  have hk3 : Kept No w2 w3 := Kept.alloc _ _ _
  have hone : RdB w3 (some ⟨w2.heap.size, 0, none⟩) 1 1 [c] := OB1
  clear_value w3
  have hk03 := hk02.no hk3
  have hlt3 : w2.heap.size ≤ w3.heap.size := hk3.size
  refine CallR.mono (ungetall (h.no hk03) hbd hone (by omega)) ?_
  rintro v w4 ⟨s', rfl, ho, hk4⟩
  refine ⟨_, _, _, _, _, _, _, _, _, _, _, _, _, _, _, _, _, _, rfl, ?_⟩
  refine st11 (p := (ungP p [c]).1) (s := s') ((hb2.keep hk3 (fun e => e)).keep hk4 (fun e => e)) rfl fun w15 hb15 hk15 => ld11 hb15 ⟨s', rfl, Ow3.base (w1 := w3) (ho.keep hk15 fun b hb e => ?_) hk03.size, (hk03.no hk4).fresh hk15 (fun x e => by omega)⟩
  have hx : w3.heap.size ≤ b := by
    rcases hb with hb | hb | hb
    · exact ho.2.1.1 b hb
    · exact ho.2.1.2.1 b hb
    · exact ho.2.1.2.2 b hb
  omega

end Go.Proofs.Ythddogeenimjcaa
