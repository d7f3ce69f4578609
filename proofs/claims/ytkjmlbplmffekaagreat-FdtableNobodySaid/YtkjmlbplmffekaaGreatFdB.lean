/-
  What a table of descriptors does: Open, Install, Close, Dup, DupTo, Mark, Marked, Desc, Read, Write. Conditions: as each says.
  What a table of descriptors does: Read, Fork, CloseAll, List, Pipe. Conditions: as each says.
-/
import Derived.Test.YtkjmlbplmffekaaGreatFd
import Derived.Test.YtkjmlbplmffekaaGreatRt
set_option linter.unusedVariables false
namespace Go.Proofs.YtkjmlbplmffekaaGreat
open Go.Lw

/-- A slot in use. -/
def tAt (sl : List (Int × Bool)) (fd : Int) : Option (Int × Bool) :=
  if 0 ≤ fd ∧ fd < 64 then (if (sl.getD fd.toNat (0, false)).1 = 0 then none else some (sl.getD fd.toNat (0, false))) else none

def tOpen (sl : List (Int × Bool)) (s : AK) (nm : ByteArray) (fl : Int) : Int × Int × List (Int × Bool) × AK := match freeIx sl with
  | [] => (0, 31, sl, s)
  | i :: _ => if (s.open_ nm fl).2.1 ≠ 0 then (0, (s.open_ nm fl).2.1, sl, (s.open_ nm fl).2.2) else ((i : Int), 0, sl.set i ((s.open_ nm fl).1, false), (s.open_ nm fl).2.2)
def tInstall (sl : List (Int × Bool)) (s : AK) (d : Int) : Int × Int × List (Int × Bool) × AK := match freeIx sl with
  | [] => (0, 31, sl, s)
  | i :: _ => if (s.keep d).1 ≠ 0 then (0, (s.keep d).1, sl, (s.keep d).2) else ((i : Int), 0, sl.set i (d, false), (s.keep d).2)
def tClose (sl : List (Int × Bool)) (s : AK) (fd : Int) : Int × List (Int × Bool) × AK := match tAt sl fd with
  | none => (71, sl, s)
  | some x => (0, sl.set fd.toNat (0, false), (s.drop x.1).2)
def tDup (sl : List (Int × Bool)) (s : AK) (fd : Int) : Int × Int × List (Int × Bool) × AK := match tAt sl fd with
  | none => (0, 71, sl, s)
  | some x => tInstall sl s x.1
def tDupTo (sl : List (Int × Bool)) (s : AK) (fd to : Int) : Int × List (Int × Bool) × AK := match tAt sl fd with
  | none => (71, sl, s)
  | some x => if to < 0 ∨ to ≥ 64 then (71, sl, s) else if to = fd then (0, sl, s) else if (s.keep x.1).1 ≠ 0 then ((s.keep x.1).1, sl, (s.keep x.1).2) else
      (0, (tClose sl (s.keep x.1).2 to).2.1.set to.toNat (x.1, false), (tClose sl (s.keep x.1).2 to).2.2)
def tMark (sl : List (Int × Bool)) (fd : Int) (on : Bool) : Int × List (Int × Bool) := match tAt sl fd with
  | none => (71, sl)
  | some x => (0, sl.set fd.toNat (x.1, on))

/-- What a table's call may have turned. -/
structure TStep (t : Nat) (w w' : World) (L L' : KL) : Prop where
  kept : Kept (fun z => L.own z ≠ none ∨ z = t) w w'
  grew : ∀ z, L'.own z ≠ none → L.own z ≠ none ∨ w.heap.size ≤ z

theorem TStep.refl (t : Nat) (w : World) (L : KL) : TStep t w w L L := ⟨Kept.refl _ _, fun _ h => .inl h⟩
theorem TStep.of_no {t : Nat} {w w' : World} {L : KL} (k : Kept No w w') : TStep t w w' L L := ⟨k.mono fun _ _ e => e.elim, fun _ h => .inl h⟩
theorem TStep.of_k {t : Nat} {w w' : World} {L L' : KL} (k : KStep w w' L L') : TStep t w w' L L' := ⟨k.kept.mono fun _ _ e => .inl e, k.grew⟩
theorem TStep.of_t {t : Nat} {w w' : World} {L : KL} (k : Kept (· = t) w w') : TStep t w w' L L := ⟨k.mono fun _ _ e => .inr e, fun _ h => .inl h⟩
theorem TStep.trans {t : Nat} {w w1 w2 : World} {L L1 L2 : KL} (h : TStep t w w1 L L1) (k : TStep t w1 w2 L1 L2) : TStep t w w2 L L2 :=
  ⟨h.kept.trans k.kept fun x hx e => by
    rcases e with e | e
    · rcases h.grew x e with e | e
      · exact .inl e
      · omega
    · exact .inr e, fun z hz => by
    rcases k.grew z hz with e | e
    · exact h.grew z e
    · exact .inr (Nat.le_trans h.kept.size e)⟩
theorem TStep.own {t : Nat} {w w' : World} {L L' : KL} (h : TStep t w w' L L') {z : Nat} (hz : L.own z = none) (hl : z < w.heap.size) : L'.own z = none := by
  cases ho : L'.own z with
  | none => rfl
  | some x =>
    exfalso
    rcases h.grew z (by rw [ho]; simp) with e | e
    · exact e hz
    · omega
theorem KStep.own' {w w' : World} {L L' : KL} (h : KStep w w' L L') {z : Nat} (hz : L.own z = none) (hl : z < w.heap.size) : L'.own z = none := (TStep.of_k (t := 0) h).own hz hl

theorem TabO.step {w w' : World} {t gk : Nat} {sl : List (Int × Bool)} {L L' : KL} (h : TabO w t gk sl) (hn : L.own t = none) (st : KStep w w' L L') : TabO w' t gk sl := h.keep st.kept fun e => e hn

theorem getD_at {sl : List (Int × Bool)} {i : Nat} (h : i < sl.length) : sl.getD i (0, false) = sl[i] := by rw [List.getD_eq_getElem?_getD, List.getElem?_eq_getElem h]; rfl

theorem freeIx_some {sl : List (Int × Bool)} (hl : sl.length = 64) : ∀ x ∈ freeIx sl, x < 64 := fun x hx => by
  have := freeL_lt sl 64 0 x hx; omega

/-- A table's address of a slot. -/
def slotA (t : Nat) (fd : Int) : Addr := ((⟨t, 0, none⟩ : Addr).add 1).add (Int.toNat fd * 2)

theorem at_ok {w : World} {t gk : Nat} {sl : List (Int × Bool)} (h : TabO w t gk sl) (fd : Int) :
    CallR Tryz.prog 134 [pd t, .int .i64 fd] w fun v w' => w' = w ∧ (tAt sl fd = none ∧ v = .tuple #[.pointer none, .int .i64 71] ∨ ∃ x, tAt sl fd = some x ∧ 0 ≤ fd ∧ fd < 64 ∧ x = sl.getD fd.toNat (0, false) ∧ x.1 ≠ 0 ∧ v = .tuple #[.pointer (some (slotA t fd)), .int .i64 0]) := by
  refine C134 ?_
  unfold L134
  have hlen := h.len
  unfold tAt
  refine tnone_to h ⟨_, rfl, condFa2 (condP (fun h1 => ⟨rfl, .inl ⟨by rw [if_neg (by omega)], rfl⟩⟩) (fun h1 => condP (fun h2 => ⟨rfl, .inl ⟨by rw [if_neg (by omega)], rfl⟩⟩) (fun h2 => ?_)))⟩
  have hi : fd.toNat < sl.length := by omega
  have hg := getD_at hi
  refine nnI ⟨⟨by omega, by omega⟩, _, h.desc hi, condI (fun hz => ⟨rfl, .inl ⟨?_, rfl⟩⟩) (fun hz => nnI ⟨⟨by omega, by omega⟩, rfl, .inr ⟨sl[fd.toNat], ?_, by omega, by omega, hg.symm, by simpa using hz, rfl⟩⟩)⟩
  · rw [if_pos ⟨by omega, by omega⟩, if_pos (by rw [hg]; simpa using hz)]
  · rw [if_pos ⟨by omega, by omega⟩, if_neg (by rw [hg]; simpa using hz), hg]

theorem tab_new {w : World} {t gk : Nat} (h : Blk w t (#[pd gk] ++ ((List.replicate 64 [Value.int .i64 0, Value.bool false]).flatten).toArray)) : TabO w t gk (List.replicate 64 (0, false)) := by
  refine ⟨_, h, by simp, by simp, by simp, fun i hi => ?_⟩
  have hi : i < 64 := by simpa using hi
  have key : ∀ (n j : Nat), j < n → ((List.replicate n [Value.int .i64 0, Value.bool false]).flatten)[j * 2]? = some (Value.int .i64 0) ∧ ((List.replicate n [Value.int .i64 0, Value.bool false]).flatten)[j * 2 + 1]? = some (Value.bool false) := by
    intro n
    induction n with
    | zero => intro j hj; omega
    | succ n ih =>
      intro j hj
      cases j with
      | zero => exact ⟨rfl, rfl⟩
      | succ j =>
        obtain ⟨g1, g2⟩ := ih j (by omega)
        rw [show (j + 1) * 2 = j * 2 + 2 by omega]
        exact ⟨g1, g2⟩
  obtain ⟨g1, g2⟩ := key 64 i hi
  constructor
  · rw [Array.getElem?_append_right (by simp)]
    simp only [List.size_toArray, List.length_singleton, List.getElem?_toArray, List.size_toArray]
    rw [show 1 + i * 2 - 1 = i * 2 by omega]
    rw [g1, List.getElem_replicate]
  · rw [Array.getElem?_append_right (by simp)]
    simp only [List.size_toArray, List.length_singleton, List.getElem?_toArray, List.size_toArray]
    rw [show 1 + i * 2 + 1 - 1 = i * 2 + 1 by omega]
    rw [g2, List.getElem_replicate]

def slots0 : List (Int × Bool) := List.replicate 64 (0, false)

set_option maxRecDepth 100000 in
theorem tnew_okT {w : World} (gk : Nat) : CallR Tryz.prog 41 [pd gk] w fun v w' => v = pd w.heap.size ∧ TabO w' w.heap.size gk slots0 ∧ Kept No w w' := by
  refine C41 ?_
  unfold L41
  intro w1
  have hk : Kept No w w1 := Kept.alloc _ _ _
  have hb : ∃ cs, w1 = w.alloc (.cells cs 95) ∧ cs = (#[pd gk] ++ ((List.replicate 64 [Value.int .i64 0, Value.bool false]).flatten).toArray) := ⟨_, rfl, by kernel_rfl⟩
  clear_value w1
  obtain ⟨cs, rfl, rfl⟩ := hb
  exact ⟨rfl, tab_new (Blk.alloc _ _ _), hk⟩

theorem topen_ok {w : World} {t gk : Nat} {sl : List (Int × Bool)} {s : AK} {L : KL} (hT : TabO w t gk sl) (hK : KernO w gk s L) (hn : L.own t = none) (nm : ByteArray) (fl : Int) (hx : s.next ≤ 4611686018427387904) :
    CallR Tryz.prog 43 [pd t, .string nm, .int .i64 fl] w fun v w' => v = .tuple #[.int .i64 (tOpen sl s nm fl).1, .int .i64 (tOpen sl s nm fl).2.1] ∧ ∃ L', TabO w' t gk (tOpen sl s nm fl).2.2.1 ∧ KernO w' gk (tOpen sl s nm fl).2.2.2 L' ∧ TStep t w w' L L' := by
  refine C43 ?_
  unfold L43
  have hlen := hT.len
  refine tnone_to hT ⟨_, rfl, condFa2 (CallR.mono (some_okT hT (k := 1) (by omega) (by omega)) ?_)⟩
  rintro v w2 ⟨a, l, c, rfl, hk2, ⟨h1, rfl⟩ | ⟨h1, hne, rfl, hs, hf⟩⟩
  · have : freeIx sl = [] := List.eq_nil_of_length_eq_zero (by omega)
    unfold tOpen
    rw [this]
    exact ⟨_, _, _, rfl, condTr2 ⟨rfl, L, hT.keep hk2 (fun e => e), hK.no hk2, .of_no hk2⟩⟩
  · obtain ⟨i, r, hfr⟩ : ∃ i r, freeIx sl = i :: r := by
      cases hh : freeIx sl with
      | nil => rw [hh] at h1; simp at h1
      | cons i r => exact ⟨i, r, rfl⟩
    have hi64 := freeIx_some hlen i (by rw [hfr]; simp)
    rw [hfr] at hs
    have hs : SlO 1 w2 a 1 c (In [(i : Int)]) := hs
    unfold tOpen
    rw [hfr]
    dsimp -zeta only
    obtain ⟨q, rfl⟩ : ∃ q, a = some q := by cases a with | none => exact absurd rfl hne | some q => exact ⟨q, rfl⟩
    have hT2 := hT.keep hk2 (fun e => e)
    have hK2 := hK.no hk2
    refine ⟨_, _, _, rfl, condFa2 (nnI ⟨_, hT2.at0, CallR.mono (kernOpen_ok hK2 nm fl hx) ?_⟩)⟩
    rintro v w3 ⟨rfl, L3, h3, st3⟩
    have hT3 := hT2.step hn st3
    have hz2 := hk2.size
    refine ⟨_, _, rfl, condN (fun he => ?_) (fun he => ?_)⟩
    · rw [if_pos he]
      exact ⟨rfl, L3, hT3, h3, .of_k (st3.fresh hk2)⟩
    · rw [if_neg (fun e => e he)]
      intro w4
      have hk4 : Kept No w3 w4 := Kept.drew _ _
      clear_value w4
      have hav : ∀ b, inA (some q) b → L.own b = none ∧ b < w2.heap.size ∧ b ≠ t := fun b hb => by
        have h1 := hf b hb
        exact ⟨hK.new_none h1, SlO.lt hs b hb, fun e => by have := hT.lt; omega⟩
      have hs4 := (hs.keep st3.kept fun b hb e => e (hav b hb).1).keep hk4 fun _ _ e => e
      have hc : ∀ {w' : World}, SlO 1 w' (some q) 1 c (In [(i : Int)]) → w'.cell? (q.add (Int.toNat 0)) = some (.int .i64 (i : Int)) := fun h => h.rd.2.2.2 q rfl 0 _ rfl
      have hT4 := hT3.keep hk4 fun e => e
      have hil : i < sl.length := by omega
      refine ⟨⟨by omega, by omega⟩, nnI ⟨_, hc hs4, nnI ⟨⟨by omega, by omega⟩, ?_⟩⟩⟩
      rw [Int.toNat_natCast]
      refine hT4.st hil fun w6 hT6 hk6 hs6 => ?_
      have hs6' := hs4.keep hk6 fun b hb e => (hav b hb).2.2 e
      refine ⟨⟨by omega, by omega⟩, nnI ⟨_, hc hs6', rfl, L3, hT6, ?_, (TStep.of_k ((st3.fresh hk2).no hk4)).trans (.of_t hk6)⟩⟩
      exact (h3.no hk4).keep hk6 fun x e => by rw [e]; exact (st3.fresh hk2).own' hn hT.lt

theorem tinstall_ok {w : World} {t gk : Nat} {sl : List (Int × Bool)} {s : AK} {L : KL} (hT : TabO w t gk sl) (hK : KernO w gk s L) (hn : L.own t = none) (d : Int) :
    CallR Tryz.prog 48 [pd t, .int .i64 d] w fun v w' => v = .tuple #[.int .i64 (tInstall sl s d).1, .int .i64 (tInstall sl s d).2.1] ∧ ∃ L', TabO w' t gk (tInstall sl s d).2.2.1 ∧ KernO w' gk (tInstall sl s d).2.2.2 L' ∧ TStep t w w' L L' := by
  refine C48 ?_
  unfold L48
  have hlen := hT.len
  refine tnone_to hT ⟨_, rfl, condFa2 (CallR.mono (some_okT hT (k := 1) (by omega) (by omega)) ?_)⟩
  rintro v w2 ⟨a, l, c, rfl, hk2, ⟨h1, rfl⟩ | ⟨h1, hne, rfl, hs, hf⟩⟩
  · have : freeIx sl = [] := List.eq_nil_of_length_eq_zero (by omega)
    unfold tInstall
    rw [this]
    exact ⟨_, _, _, rfl, condTr2 ⟨rfl, L, hT.keep hk2 (fun e => e), hK.no hk2, .of_no hk2⟩⟩
  · obtain ⟨i, r, hfr⟩ : ∃ i r, freeIx sl = i :: r := by
      cases hh : freeIx sl with
      | nil => rw [hh] at h1; simp at h1
      | cons i r => exact ⟨i, r, rfl⟩
    have hi64 := freeIx_some hlen i (by rw [hfr]; simp)
    rw [hfr] at hs
    have hs : SlO 1 w2 a 1 c (In [(i : Int)]) := hs
    unfold tInstall
    rw [hfr]
    dsimp -zeta only
    obtain ⟨q, rfl⟩ : ∃ q, a = some q := by cases a with | none => exact absurd rfl hne | some q => exact ⟨q, rfl⟩
    have hT2 := hT.keep hk2 (fun e => e)
    have hK2 := hK.no hk2
    refine ⟨_, _, _, rfl, condFa2 (nnI ⟨_, hT2.at0, CallR.mono (kernKeep_ok hK2 d) ?_⟩)⟩
    rintro v w3 ⟨rfl, L3, h3, st3⟩
    have hT3 := hT2.step hn st3
    have hz2 := hk2.size
    refine ⟨_, rfl, condN (fun he => ?_) (fun he => ?_)⟩
    · rw [if_pos he]
      exact ⟨rfl, L3, hT3, h3, .of_k (st3.fresh hk2)⟩
    · rw [if_neg (fun e => e he)]
      intro w4
      have hk4 : Kept No w3 w4 := Kept.drew _ _
      clear_value w4
      have hav : ∀ b, inA (some q) b → L.own b = none ∧ b < w2.heap.size ∧ b ≠ t := fun b hb => by
        have h1 := hf b hb
        exact ⟨hK.new_none h1, SlO.lt hs b hb, fun e => by have := hT.lt; omega⟩
      have hs4 := (hs.keep st3.kept fun b hb e => e (hav b hb).1).keep hk4 fun _ _ e => e
      have hc : ∀ {w' : World}, SlO 1 w' (some q) 1 c (In [(i : Int)]) → w'.cell? (q.add (Int.toNat 0)) = some (.int .i64 (i : Int)) := fun h => h.rd.2.2.2 q rfl 0 _ rfl
      have hT4 := hT3.keep hk4 fun e => e
      have hil : i < sl.length := by omega
      refine ⟨⟨by omega, by omega⟩, nnI ⟨_, hc hs4, nnI ⟨⟨by omega, by omega⟩, ?_⟩⟩⟩
      rw [Int.toNat_natCast]
      refine hT4.st hil fun w6 hT6 hk6 hs6 => ?_
      have hs6' := hs4.keep hk6 fun b hb e => (hav b hb).2.2 e
      refine ⟨⟨by omega, by omega⟩, nnI ⟨_, hc hs6', rfl, L3, hT6, ?_, (TStep.of_k ((st3.fresh hk2).no hk4)).trans (.of_t hk6)⟩⟩
      exact (h3.no hk4).keep hk6 fun x e => by rw [e]; exact (st3.fresh hk2).own' hn hT.lt

theorem tclose_ok {w : World} {t gk : Nat} {sl : List (Int × Bool)} {s : AK} {L : KL} (hT : TabO w t gk sl) (hK : KernO w gk s L) (hn : L.own t = none) (fd : Int) :
    CallR Tryz.prog 49 [pd t, .int .i64 fd] w fun v w' => v = .int .i64 (tClose sl s fd).1 ∧ ∃ L', TabO w' t gk (tClose sl s fd).2.1 ∧ KernO w' gk (tClose sl s fd).2.2 L' ∧ TStep t w w' L L' := by
  refine C49 ?_
  unfold L49
  refine CallR.mono (at_ok hT fd) ?_
  unfold tClose
  rintro v w1 ⟨rfl, ⟨ha, rfl⟩ | ⟨x, ha, h0, h1, hx, hxz, rfl⟩⟩
  · rw [ha]
    exact ⟨_, _, rfl, condTr2 ⟨rfl, L, hT, hK, .refl _ _ _⟩⟩
  · rw [ha]
    dsimp -zeta only
    refine ⟨_, _, rfl, condFa2 ?_⟩
    intro w2
    have hk2 : Kept No w1 w2 := Kept.drew _ _
    clear_value w2
    have hT2 := hT.keep hk2 fun e => e
    have hlen := hT.len
    have hi : fd.toNat < sl.length := by omega
    have hxg : x = sl[fd.toNat] := hx.trans (getD_at hi)
    refine nnI ⟨_, hT2.at0, nnI ⟨_, hT2.desc hi, CallR.mono (kernDrop_ok (hK.no hk2) _) ?_⟩⟩
    rintro v w3 ⟨rfl, L3, h3, st3⟩
    have hT3 := hT2.step hn st3
    refine ⟨_, rfl, nnI (hT3.st hi fun w5 hT5 hk5 hs5 => ?_)⟩
    rw [hxg]
    refine ⟨rfl, L3, hT5, h3.keep hk5 fun z e => by rw [e]; exact (st3.fresh hk2).own' hn hT.lt, (TStep.of_k (st3.fresh hk2)).trans (.of_t hk5)⟩

theorem tdup_ok {w : World} {t gk : Nat} {sl : List (Int × Bool)} {s : AK} {L : KL} (hT : TabO w t gk sl) (hK : KernO w gk s L) (hn : L.own t = none) (fd : Int) :
    CallR Tryz.prog 45 [pd t, .int .i64 fd] w fun v w' => v = .tuple #[.int .i64 (tDup sl s fd).1, .int .i64 (tDup sl s fd).2.1] ∧ ∃ L', TabO w' t gk (tDup sl s fd).2.2.1 ∧ KernO w' gk (tDup sl s fd).2.2.2 L' ∧ TStep t w w' L L' := by
  refine C45 ?_
  unfold L45
  refine CallR.mono (at_ok hT fd) ?_
  unfold tDup
  rintro v w1 ⟨rfl, ⟨ha, rfl⟩ | ⟨x, ha, h0, h1, hx, hxz, rfl⟩⟩
  · rw [ha]
    exact ⟨_, _, rfl, condTr2 ⟨rfl, L, hT, hK, .refl _ _ _⟩⟩
  · rw [ha]
    have hlen := hT.len
    have hi : fd.toNat < sl.length := by omega
    have hxg : x = sl[fd.toNat] := hx.trans (getD_at hi)
    refine ⟨_, _, rfl, condFa2 (nnI ⟨_, hT.desc hi, CallR.mono (tinstall_ok hT hK hn _) ?_⟩)⟩
    rintro v w2 ⟨rfl, h⟩
    rw [hxg]
    exact ⟨_, _, rfl, rfl, h⟩

theorem tdupto_ok {w : World} {t gk : Nat} {sl : List (Int × Bool)} {s : AK} {L : KL} (hT : TabO w t gk sl) (hK : KernO w gk s L) (hn : L.own t = none) (fd to : Int) :
    CallR Tryz.prog 50 [pd t, .int .i64 fd, .int .i64 to] w fun v w' => v = .int .i64 (tDupTo sl s fd to).1 ∧ ∃ L', TabO w' t gk (tDupTo sl s fd to).2.1 ∧ KernO w' gk (tDupTo sl s fd to).2.2 L' ∧ TStep t w w' L L' := by
  refine C50 ?_
  unfold L50
  refine CallR.mono (at_ok hT fd) ?_
  unfold tDupTo
  rintro v w1 ⟨rfl, ⟨ha, rfl⟩ | ⟨x, ha, h0, h1, hx, hxz, rfl⟩⟩
  · rw [ha]
    exact ⟨_, _, rfl, condTr2 ⟨rfl, L, hT, hK, .refl _ _ _⟩⟩
  · rw [ha]
    dsimp -zeta only
    have hlen := hT.len
    have hi : fd.toNat < sl.length := by omega
    have hxg : x = sl[fd.toNat] := hx.trans (getD_at hi)
    refine ⟨_, _, rfl, condFa2 (condP (fun e => ?_) (fun e1 => condP (fun e => ?_) (fun e2 => condI (fun e => ?_) (fun e3 => ?_))))⟩
    · rw [if_pos (.inl e)]; exact ⟨rfl, L, hT, hK, .refl _ _ _⟩
    · rw [if_pos (.inr e)]; exact ⟨rfl, L, hT, hK, .refl _ _ _⟩
    · rw [if_neg (by omega), if_pos (by simpa using e)]; exact ⟨rfl, L, hT, hK, .refl _ _ _⟩
    have e3 : to ≠ fd := by simpa using e3
    rw [if_neg (by omega), if_neg e3]
    intro w2
    have hk2 : Kept No w1 w2 := Kept.drew _ _
    clear_value w2
    have hT2 := hT.keep hk2 fun e => e
    refine nnI ⟨_, hT2.at0, nnI ⟨_, hT2.desc hi, CallR.mono (kernKeep_ok (hK.no hk2) _) ?_⟩⟩
    rw [← hxg]
    rintro v w3 ⟨rfl, L3, h3, st3⟩
    have hT3 := hT2.step hn st3
    have st23 := st3.fresh hk2
    have hn3 := st23.own' hn hT.lt
    refine ⟨_, rfl, condN (fun he => ?_) (fun he => ?_)⟩
    · rw [if_pos he]; exact ⟨rfl, L3, hT3, h3, .of_k st23⟩
    rw [if_neg (fun e => e he)]
    refine CallR.mono (tclose_ok hT3 h3 hn3 to) ?_
    rintro v w4 ⟨rfl, L4, hT4, h4, st4⟩
    refine ⟨_, rfl, ?_⟩
    intro w5
    have hk5 : Kept No w4 w5 := Kept.drew _ _
    clear_value w5
    have hT5 := hT4.keep hk5 fun e => e
    have hlen4 := hT4.len
    -- the slot that is read is another one
    have hsame : ∀ hi' : fd.toNat < (tClose sl (s.keep x.1).2 to).2.1.length, ((tClose sl (s.keep x.1).2 to).2.1)[fd.toNat]'hi' = x := by
      intro hi'
      have : (tClose sl (s.keep x.1).2 to).2.1 = sl ∨ (tClose sl (s.keep x.1).2 to).2.1 = sl.set to.toNat (0, false) := by
        unfold tClose
        cases tAt sl to with
        | none => exact .inl rfl
        | some y => exact .inr rfl
      have key : ((tClose sl (s.keep x.1).2 to).2.1)[fd.toNat]? = sl[fd.toNat]? := by
        rcases this with e | e
        · rw [e]
        · rw [e, List.getElem?_set_ne (by omega)]
      rw [List.getElem?_eq_getElem hi', List.getElem?_eq_getElem hi] at key
      exact (Option.some.inj key).trans hxg.symm
    have hi4 : fd.toNat < (tClose sl (s.keep x.1).2 to).2.1.length := by omega
    refine nnI ⟨_, hT5.desc hi4, nnI ⟨⟨by omega, by omega⟩, ?_⟩⟩
    rw [hsame hi4]
    refine hT5.st (by omega) fun w7 hT7 hk7 hs7 => ?_
    have hn4 : L4.own t = none := st4.own hn3 hT3.lt
    exact ⟨rfl, L4, hT7, (h4.no hk5).keep hk7 fun z e => by rw [e]; exact hn4, (((TStep.of_k st23).trans st4).trans (.of_no hk5)).trans (.of_t hk7)⟩

theorem tmark_ok {w : World} {t gk : Nat} {sl : List (Int × Bool)} (hT : TabO w t gk sl) (fd : Int) (on : Bool) :
    CallR Tryz.prog 125 [pd t, .int .i64 fd, .bool on] w fun v w' => v = .int .i64 (tMark sl fd on).1 ∧ TabO w' t gk (tMark sl fd on).2 ∧ Kept (· = t) w w' := by
  refine C125 ?_
  unfold L125
  refine CallR.mono (at_ok hT fd) ?_
  unfold tMark
  rintro v w1 ⟨rfl, ⟨ha, rfl⟩ | ⟨x, ha, h0, h1, hx, hxz, rfl⟩⟩
  · rw [ha]
    exact ⟨_, _, rfl, condFa2 ⟨rfl, hT, Kept.refl _ _⟩⟩
  · rw [ha]
    have hlen := hT.len
    have hi : fd.toNat < sl.length := by omega
    have hxg : x = sl[fd.toNat] := hx.trans (getD_at hi)
    refine ⟨_, _, rfl, condTr2 (nnI (hT.stM hi fun w2 hT2 hk2 hs2 => ?_))⟩
    rw [hxg]
    exact ⟨rfl, hT2, hk2⟩

theorem tdesc_ok {w : World} {t gk : Nat} {sl : List (Int × Bool)} (hT : TabO w t gk sl) (fd : Int) :
    CallR Tryz.prog 127 [pd t, .int .i64 fd] w fun v w' => w' = w ∧ (tAt sl fd = none ∧ v = .tuple #[.int .i64 0, .int .i64 71] ∨ ∃ x, tAt sl fd = some x ∧ v = .tuple #[.int .i64 x.1, .int .i64 0]) := by
  refine C127 ?_
  unfold L127
  refine CallR.mono (at_ok hT fd) ?_
  rintro v w1 ⟨rfl, ⟨ha, rfl⟩ | ⟨x, ha, h0, h1, hx, hxz, rfl⟩⟩
  · exact ⟨_, _, rfl, condTr2 ⟨rfl, .inl ⟨ha, rfl⟩⟩⟩
  · have hlen := hT.len
    have hi : fd.toNat < sl.length := by omega
    have hxg : x = sl[fd.toNat] := hx.trans (getD_at hi)
    refine ⟨_, _, rfl, condFa2 (nnI ⟨_, hT.desc hi, rfl, .inr ⟨x, ha, by rw [hxg]⟩⟩)⟩

end Go.Proofs.YtkjmlbplmffekaaGreat

namespace Go.Proofs.YtkjmlbplmffekaaGreat
open Go.Lw

def tRead (sl : List (Int × Bool)) (s : AK) (fd n : Int) : List Int × Int × AK := match tAt sl fd with
  | none => ([], 71, s)
  | some x => s.read x.1 n

theorem handle_ok {w : World} {t gk : Nat} {sl : List (Int × Bool)} (hT : TabO w t gk sl) (fd : Int) :
    CallR Tryz.prog 214 [pd t, .int .i64 fd] w fun v w' => Kept No w w' ∧ (tAt sl fd = none ∧ v = .tuple #[.agg #[.pointer none, .int .i64 0], .int .i64 71] ∨ ∃ x, tAt sl fd = some x ∧ v = .tuple #[.agg #[pd gk, .int .i64 x.1], .int .i64 0]) := by
  refine C214 ?_
  unfold L214
  intro w1
  have hb1 : Blk w1 w.heap.size #[.pointer none, .int .i64 0] := Blk.alloc _ _ _
  have hk1 : Kept No w w1 := Kept.alloc _ _ _
  clear_value w1
  have hlt := hT.lt
  have hT1 := hT.keep hk1 fun e => e
  refine CallR.mono (tdesc_ok hT1 fd) ?_
  rintro v w2 ⟨rfl, ⟨ha, rfl⟩ | ⟨x, ha, rfl⟩⟩
  · refine ⟨_, _, rfl, condTr2 (stC_blk hb1 (by simp) fun w3 hb3 hk3 hs3 => stC_blk hb3 (by simp) fun w4 hb4 hk4 hs4 => ?_)⟩
    refine ⟨_, _, (hb4.cell 0).trans rfl, (hb4.cell 1).trans rfl, (hk1.fresh hk3 fun x e => by omega).fresh hk4 fun x e => by omega, .inl ⟨ha, rfl⟩⟩
  · refine ⟨_, _, rfl, condFa2 (nnI ⟨_, hT1.at0, stC_blk hb1 (by simp) fun w3 hb3 hk3 hs3 => stC_blk hb3 (by simp) fun w4 hb4 hk4 hs4 => ?_⟩)⟩
    refine ⟨_, _, (hb4.cell 0).trans rfl, (hb4.cell 1).trans rfl, (hk1.fresh hk3 fun x e => by omega).fresh hk4 fun x e => by omega, .inr ⟨x, ha, rfl⟩⟩

theorem tread_okT {w : World} {t gk : Nat} {sl : List (Int × Bool)} {s : AK} {L : KL} (hT : TabO w t gk sl) (hK : KernO w gk s L) (fd n : Int) (hc : s.c0 ≤ 1152921504606846976) :
    CallR Tryz.prog 128 [pd t, .int .i64 fd, .int .i64 n] w fun v w' => ∃ a l c L', v = .tuple #[.slice a l c, .int .i64 (tRead sl s fd n).2.1] ∧ OB w' a l c (tRead sl s fd n).1 ∧ Fresh w a ∧ KernO w' gk (tRead sl s fd n).2.2 L' ∧ KStep w w' L L' ∧ (∀ z, inA a z → L'.own z = none) := by
  refine C128 ?_
  unfold L128
  refine CallR.mono (handle_ok hT fd) ?_
  unfold tRead
  rintro v w1 ⟨hk1, ⟨ha, rfl⟩ | ⟨x, ha, rfl⟩⟩
  · rw [ha]
    refine ⟨_, _, _, rfl, newPair fun w4 hb4 hk4 hz4 => condTr2 ⟨none, 0, 0, L, rfl, OB.nil _, Fresh.none _, (hK.no hk1).no hk4, .of_no (hk1.no hk4), fun z hz => absurd hz (inA_none z)⟩⟩
  · rw [ha]
    refine ⟨_, _, _, rfl, newPair fun w4 hb4 hk4 hz4 => condFa2 ⟨_, _, (hb4.cell 0).trans rfl, (hb4.cell 1).trans rfl, ?_⟩⟩
    have k4 := hk1.no hk4
    have hz := k4.size
    refine CallR.mono (hread_ok (hK.no k4) x.1 n hc) ?_
    rintro v w5 ⟨a, l, c, L5, rfl, ob, hf, h5, st5, hap⟩
    exact ⟨_, _, _, _, rfl, a, l, c, L5, rfl, ob, fun b hb => by have := hf b hb; omega, h5, st5.fresh k4, hap⟩

/-- What a child inherits. -/
def forkL (sl : List (Int × Bool)) : Nat → Nat → List (Int × Bool) → AK → List (Int × Bool) × AK
  | 0, _, c, s => (c, s)
  | n + 1, i, c, s =>
    if (sl.getD i (0, false)).1 ≠ 0 ∧ (sl.getD i (0, false)).2 = false then
      (if (s.keep (sl.getD i (0, false)).1).1 = 0 then forkL sl n (i + 1) (c.set i ((sl.getD i (0, false)).1, false)) (s.keep (sl.getD i (0, false)).1).2 else forkL sl n (i + 1) c (s.keep (sl.getD i (0, false)).1).2)
    else forkL sl n (i + 1) c s
def tFork (sl : List (Int × Bool)) (s : AK) : List (Int × Bool) × AK := forkL sl 64 0 slots0 s

theorem tfork_ok {w : World} {t gk : Nat} {sl : List (Int × Bool)} {s : AK} {L : KL} (hT : TabO w t gk sl) (hK : KernO w gk s L) (hn : L.own t = none) :
    CallR Tryz.prog 53 [pd t] w fun v w' => ∃ c L', v = pd c ∧ w.heap.size ≤ c ∧ TabO w' c gk (tFork sl s).1 ∧ KernO w' gk (tFork sl s).2 L' ∧ L'.own c = none ∧ KStep w w' L L' := by
  refine C53 ?_
  unfold L53
  have hlen := hT.len
  refine tnone_to hT ⟨_, rfl, condFa2 (nnI ⟨_, hT.at0, CallR.mono (tnew_okT gk) ?_⟩)⟩
  rintro v w2 ⟨rfl, hC2, hk2⟩
  have hT2 := hT.keep hk2 fun e => e
  obtain ⟨vs, hv1, hv2, hv3⟩ := hT2.all
  have hclt := hC2.lt
  have htlt := hT.lt
  refine ⟨_, rfl, nnI ⟨vs, hv1, hv2, fun vs w' => ∃ (i : Nat) (c : List (Int × Bool)) (s' : AK) (L' : KL), vs = [.int .i64 (i : Int)] ∧ i ≤ 64 ∧ tFork sl s = forkL sl (64 - i) i c s' ∧ (∀ x ∈ c, x.2 = false) ∧ TabO w' w.heap.size gk c ∧ TabO w' t gk sl ∧ KernO w' gk s' L' ∧ L'.own w.heap.size = none ∧ L'.own t = none ∧ KStep w w' L L' ∧ w2.heap.size ≤ w'.heap.size,
    fun vs _ => 64 - ix vs, ⟨0, slots0, s, L, rfl, by omega, rfl, fun x hx => by have := List.eq_of_mem_replicate hx; rw [this], hC2, hT2, hK.no hk2, hK.new_none (Nat.le_refl _), hn, .of_no hk2, Nat.le_refl _⟩, ?_⟩⟩
  rintro _ n12 w3 ⟨i, c, s', L', hvs, hi, hrel, hcm, hC3, hT3, hK3, hnc, hnt, st3, hz3⟩
  simp only [List.cons.injEq, Value.int.injEq, true_and, and_true] at hvs
  subst hvs
  refine condP (fun hlt => ?_) (fun hge => ?_)
  · have hil : i < sl.length := by omega
    have hg := getD_at hil
    obtain ⟨k, hk⟩ : ∃ k, 64 - i = k + 1 := ⟨63 - i, by omega⟩
    have hk' : 64 - (i + 1) = k := by omega
    rw [hk] at hrel
    have hrel : tFork sl s = if sl[i].1 ≠ 0 ∧ sl[i].2 = false then (if (s'.keep sl[i].1).1 = 0 then forkL sl k (i + 1) (c.set i (sl[i].1, false)) (s'.keep sl[i].1).2 else forkL sl k (i + 1) c (s'.keep sl[i].1).2) else forkL sl k (i + 1) c s' := by
      rw [hrel, ← hg]; rfl
    refine ⟨⟨by omega, by omega⟩, sl[i].1, sl[i].2, by rw [Int.toNat_natCast]; exact hv3 i hil, ?_⟩
    refine newPair fun w6 hb6 hk6 hz6 => ?_
    have hk7 : Kept No w6 w6.drew := Kept.drew _ _
    generalize w6.drew = w7 at hk7 ⊢
    have hb7 := hb6.keep hk7 fun e => e
    have k7 : Kept No w3 w7 := hk6.no hk7
    have hz7 := k7.size
    have hC7 := hC3.keep k7 fun e => e
    have hT7 := hT3.keep k7 fun e => e
    have hK7 := hK3.no k7
    have st7 := st3.no k7
    have skip : ¬ (sl[i].1 ≠ 0 ∧ sl[i].2 = false) → inI ((i : Int) + 1) ∧ (∃ (i' : Nat) (c : List (Int × Bool)) (s' : AK) (L' : KL), [Value.int .i64 ((i : Int) + 1)] = [.int .i64 (i' : Int)] ∧ i' ≤ 64 ∧ tFork sl s = forkL sl (64 - i') i' c s' ∧ (∀ x ∈ c, x.2 = false) ∧ TabO w7 w.heap.size gk c ∧ TabO w7 t gk sl ∧ KernO w7 gk s' L' ∧ L'.own w.heap.size = none ∧ L'.own t = none ∧ KStep w w7 L L' ∧ w2.heap.size ≤ w7.heap.size) ∧ 64 - ix [Value.int .i64 ((i : Int) + 1)] < 64 - ix [Value.int .i64 (i : Int)] := by
      intro h
      rw [if_neg h] at hrel
      refine ⟨⟨by omega, by omega⟩, ⟨i + 1, c, s', L', rfl, by omega, by rw [hk', hrel], hcm, hC7, hT7, hK7, hnc, hnt, st7, by omega⟩, ?_⟩
      simp only [ix]; omega
    refine ⟨_, (hb7.cell 0).trans rfl, condN (fun hd => ⟨_, (hb7.cell 1).trans rfl, condI (fun hm => ?_) (fun hm => ?_)⟩) (fun hd => skip (fun e => e.1 hd))⟩
    · have hm : sl[i].2 = false := notT hm
      rw [if_pos ⟨hd, hm⟩] at hrel
      refine nnI ⟨_, hT7.at0, _, (hb7.cell 0).trans rfl, CallR.mono (kernKeep_ok hK7 sl[i].1) ?_⟩
      rintro v w8 ⟨rfl, L8, h8, st8⟩
      have hC8 := hC7.step hnc st8
      have hT8 := hT7.step hnt st8
      have hnc8 : L8.own w.heap.size = none := st8.own' hnc (by omega)
      have hnt8 : L8.own t = none := st8.own' hnt (by omega)
      have hz8 := st8.size
      have hbn : L'.own w3.heap.size = none := hK3.new_none (Nat.le_refl _)
      have hb8 := hb7.keep st8.kept fun e => e hbn
      refine ⟨_, rfl, condI (fun he => ?_) (fun he => ?_)⟩
      · have he : (s'.keep sl[i].1).1 = 0 := by simpa using he
        rw [if_pos he] at hrel
        intro w9
        have hk9 : Kept No w8 w9 := Kept.drew _ _
        clear_value w9
        have hC9 := hC8.keep hk9 fun e => e
        have hcl := hC9.len
        have hcf : c[i].2 = false := hcm _ (List.getElem_mem (by omega))
        refine ⟨_, ((hb8.keep hk9 fun e => e).cell 0).trans rfl, nnI ⟨⟨by omega, by omega⟩, ?_⟩⟩
        rw [Int.toNat_natCast]
        refine hC9.stD (by omega) fun w10 hC10 hk10 hs10 => ?_
        rw [hcf] at hC10
        have hz9 := hk9.size
        refine ⟨⟨by omega, by omega⟩, ⟨i + 1, _, _, L8, rfl, by omega, by rw [hk', hrel], fun x hx => ?_, hC10, (hT8.keep hk9 fun e => e).keep hk10 (by omega), (h8.no hk9).keep hk10 fun z e => by rw [e]; exact hnc8, hnc8, hnt8, ((st7.trans st8).no hk9).own hk10 (Nat.le_refl _), by omega⟩, ?_⟩
        · rcases List.mem_or_eq_of_mem_set hx with h | h
          · exact hcm x h
          · rw [h]
        · simp only [ix]; omega
      · have he : ¬ (s'.keep sl[i].1).1 = 0 := by simpa using he
        rw [if_neg he] at hrel
        refine ⟨⟨by omega, by omega⟩, ⟨i + 1, c, _, L8, rfl, by omega, by rw [hk', hrel], hcm, hC8, hT8, h8, hnc8, hnt8, st7.trans st8, by omega⟩, ?_⟩
        simp only [ix]; omega
    · exact skip (fun e => by rw [e.2] at hm; cases hm)
  · have : 64 - i = 0 := by omega
    rw [this] at hrel
    rw [hrel]
    exact ⟨w.heap.size, L', rfl, Nat.le_refl _, hC3, hK3, hnc, st3⟩

/-- Those in use, rising. -/
def usedL (sl : List (Int × Bool)) (i : Nat) : Nat → List Nat
  | 0 => []
  | n + 1 => if (sl.getD i (0, false)).1 ≠ 0 then i :: usedL sl (i + 1) n else usedL sl (i + 1) n
def usedIx (sl : List (Int × Bool)) : List Nat := usedL sl 0 64

theorem usedL_lt (sl : List (Int × Bool)) : ∀ (n i : Nat), (usedL sl i n).length ≤ n ∧ ∀ x ∈ usedL sl i n, i ≤ x ∧ x < i + n
  | 0, i => ⟨Nat.le_refl _, fun x hx => by cases hx⟩
  | n + 1, i => by
    obtain ⟨h1, h2⟩ := usedL_lt sl n (i + 1)
    unfold usedL
    split
    · refine ⟨by rw [List.length_cons]; omega, fun x hx => ?_⟩
      rcases List.mem_cons.1 hx with rfl | hx
      · omega
      · have := h2 x hx; omega
    · exact ⟨by omega, fun x hx => by have := h2 x hx; omega⟩

def castI (l : List Nat) : List Int := l.map fun (i : Nat) => (i : Int)

theorem tlist_ok {w : World} {t gk : Nat} {sl : List (Int × Bool)} (hT : TabO w t gk sl) :
    CallR Tryz.prog 47 [pd t] w fun v w' => ∃ a l c, v = .slice a l c ∧ SlO 1 w' a l c (In (castI (usedIx sl))) ∧ Fresh w a ∧ Kept No w w' := by
  refine C47 ?_
  unfold L47
  have hlen := hT.len
  obtain ⟨vs, hv1, hv2, hv3⟩ := hT.all
  refine tnone_to hT ⟨_, rfl, condFa2 (nnI ⟨vs, hv1, hv2, fun vs w' => ∃ (i : Nat) (pre : List Nat) (a : Option Addr) (c : Nat), vs = [.slice a pre.length c, .int .i64 (i : Int)] ∧ i ≤ 64 ∧ pre.length ≤ i ∧ usedIx sl = pre ++ usedL sl i (64 - i) ∧ SlO 1 w' a pre.length c (In (castI pre)) ∧ (∀ b, inA a b → w.heap.size ≤ b) ∧ Kept No w w',
    fun vs _ => match vs with | [_, .int _ n] => 64 - n.toNat | _ => 0, ⟨0, [], none, 0, rfl, by omega, Nat.le_refl _, rfl, SlO.nil 1 _, fun b hb => absurd hb (inA_none b), Kept.refl _ _⟩, ?_⟩)⟩
  rintro _ a8 l8 c8 n9 w2 ⟨i, pre, a, c, hvs, hi, hpl, hpre, hs, hf, hk⟩
  simp only [List.cons.injEq, Value.int.injEq, Value.slice.injEq, true_and, and_true] at hvs
  obtain ⟨⟨rfl, rfl, rfl⟩, rfl⟩ := hvs
  refine condP (fun hlt => ?_) (fun hge => ?_)
  · have hil : i < sl.length := by omega
    have hg := getD_at hil
    obtain ⟨k, hk'⟩ : ∃ k, 64 - i = k + 1 := ⟨63 - i, by omega⟩
    have hk'' : 64 - (i + 1) = k := by omega
    rw [hk'] at hpre
    have hu : usedL sl i (k + 1) = if sl[i].1 ≠ 0 then i :: usedL sl (i + 1) k else usedL sl (i + 1) k := by rw [← hg]; rfl
    rw [hu] at hpre
    refine ⟨⟨by omega, by omega⟩, sl[i].1, sl[i].2, by rw [Int.toNat_natCast]; exact hv3 i hil, ?_⟩
    refine newPair fun w5 hb5 hk5 hz5 => ⟨_, (hb5.cell 0).trans rfl, condN (fun hd => ?_) (fun hd => ?_)⟩
    · rw [if_pos hd] at hpre
      intro w6
      have hk6 : Kept No w5 w6 := Kept.alloc _ _ _
      have hone : RdS 1 w6 (some ⟨w5.heap.size, 0, none⟩) 1 1 (In [(i : Int)]) := (SlO.of_blk (sz := 1) (n := 1) (Blk.alloc w5 #[.int .i64 (i : Int)] _) (by simp)).rd
      clear_value w6
      obtain ⟨a13, c13, w7, hrun, hs7, hk7, hat, _⟩ := run_app_sl (P := Tryz.prog) (t := 98) (t2 := 98) (ty := 98) (by kernel_rfl : slTyB Tryz.prog 98 1 8 = true) (by kernel_rfl) ((hs.keep hk5 fun _ _ e => e).keep hk6 fun _ _ e => e) hone (In_one _) (by omega) (by omega)
      have htk : In (castI pre) ++ In [(i : Int)] = In (castI (pre ++ [i])) := by
        rw [← In_append]
        unfold castI
        rw [List.map_append]
        rfl
      rw [htk] at hs7
      have hz2 := hk.size
      refine ⟨a13, pre.length + 1, c13, w7, hrun, ⟨by omega, by omega⟩, ⟨i + 1, pre ++ [i], a13, c13, by rw [List.length_append]; rfl, by omega, by rw [List.length_append, List.length_singleton]; omega, by rw [hpre, hk'', List.append_assoc]; rfl, by rw [List.length_append]; exact hs7, fun b hb => ?_, ((hk.no hk5).no hk6).fresh hk7 hf⟩, ?_⟩
      · rcases hat.in hb with e | e
        · exact hf b e
        · have := hk6.size; omega
      · show 64 - Int.toNat ((i : Int) + 1) < 64 - Int.toNat (i : Int)
        omega
    · rw [if_neg (fun e => e hd)] at hpre
      refine ⟨⟨by omega, by omega⟩, ⟨i + 1, pre, _, _, rfl, by omega, by omega, by rw [hpre, hk''], hs.keep hk5 fun _ _ e => e, hf, hk.no hk5⟩, ?_⟩
      show 64 - Int.toNat ((i : Int) + 1) < 64 - Int.toNat (i : Int)
      omega
  · have : 64 - i = 0 := by omega
    rw [this] at hpre
    have hpre : usedIx sl = pre := by rw [hpre]; exact List.append_nil _
    rw [hpre]
    exact ⟨_, _, _, rfl, hs, hf, hk⟩

def closeS (p : List (Int × Bool) × AK) (fd : Nat) : List (Int × Bool) × AK := ((tClose p.1 p.2 (fd : Int)).2.1, (tClose p.1 p.2 (fd : Int)).2.2)
def tCloseAll (sl : List (Int × Bool)) (s : AK) : List (Int × Bool) × AK := (usedIx sl).foldl closeS (sl, s)

theorem tcloseall_ok {w : World} {t gk : Nat} {sl : List (Int × Bool)} {s : AK} {L : KL} (hT : TabO w t gk sl) (hK : KernO w gk s L) (hn : L.own t = none) :
    CallR Tryz.prog 131 [pd t] w fun v w' => v = .tuple #[] ∧ ∃ L', TabO w' t gk (tCloseAll sl s).1 ∧ KernO w' gk (tCloseAll sl s).2 L' ∧ TStep t w w' L L' := by
  refine C131 ?_
  unfold L131
  have htlt := hT.lt
  refine CallR.mono (tlist_ok hT) ?_
  rintro v w1 ⟨a, l, c, rfl, hs, hf, hk1⟩
  have hl : (usedIx sl).length = l := by have := hs.1; rw [In_length] at this; unfold castI at this; rw [List.length_map] at this; omega
  have hl64 := (usedL_lt sl 64 0).1
  have hl64 : l ≤ 64 := by rw [← hl]; exact hl64
  have hav : ∀ b, inA a b → L.own b = none ∧ b < w1.heap.size ∧ b ≠ t := fun b hb => by
    have h1 := hf b hb
    exact ⟨hK.new_none h1, SlO.lt hs b hb, by omega⟩
  refine ⟨_, _, _, rfl, fun vs w' => ∃ (i : Nat) (sl' : List (Int × Bool)) (s' : AK) (L' : KL), vs = [.int .i64 (i : Int)] ∧ i ≤ l ∧ tCloseAll sl s = ((usedIx sl).drop i).foldl closeS (sl', s') ∧ TabO w' t gk sl' ∧ KernO w' gk s' L' ∧ TStep t w1 w' L L',
    fun vs _ => l - ix vs, ⟨0, sl, s, L, rfl, by omega, rfl, hT.keep hk1 (fun e => e), hK.no hk1, .refl _ _ _⟩, ?_⟩
  rintro _ n6 w2 ⟨i, sl', s', L', hvs, hi, hrel, hT2, hK2, st2⟩
  simp only [List.cons.injEq, Value.int.injEq, true_and, and_true] at hvs
  subst hvs
  refine condP (fun hlt => ?_) (fun hge => ?_)
  · have hil : i < (usedIx sl).length := by omega
    rw [List.drop_eq_getElem_cons hil] at hrel
    obtain ⟨q, haq⟩ : ∃ q, a = some q := by
      cases ha : a with
      | none => have := RdS.isNone hs.rd ha; omega
      | some q => exact ⟨q, rfl⟩
    have hs2 := hs.keep st2.kept fun b hb e => by
      rcases e with e | e
      · exact e (hav b hb).1
      · exact (hav b hb).2.2 e
    have hcell := hs2.rd.2.2.2 q haq i _ (In_get (castI (usedIx sl)) i (by unfold castI; rw [List.length_map]; exact hil))
    have hgi : (castI (usedIx sl))[i]'(by unfold castI; rw [List.length_map]; exact hil) = (((usedIx sl)[i] : Nat) : Int) := by unfold castI; rw [List.getElem_map]
    rw [hgi] at hcell
    refine ⟨⟨by omega, by omega⟩, nnE2 haq ⟨_, by rw [Int.toNat_natCast]; exact hcell, CallR.mono (tclose_ok hT2 hK2 (st2.own hn (by have := hk1.size; omega)) _) ?_⟩⟩
    rintro v w3 ⟨rfl, L3, hT3, hK3, st3⟩
    refine ⟨_, rfl, ⟨by omega, by omega⟩, ⟨i + 1, _, _, L3, rfl, by omega, by rw [hrel]; rfl, hT3, hK3, st2.trans st3⟩, ?_⟩
    simp only [ix]; omega
  · rw [List.drop_of_length_le (by omega)] at hrel
    rw [hrel]
    exact ⟨rfl, L', hT2, hK2, (TStep.of_no hk1).trans st2⟩

def tPipe (sl : List (Int × Bool)) (s : AK) : Int × Int × Int × List (Int × Bool) × AK := match freeIx sl with
  | i :: j :: _ => if s.pipe.2.2.1 ≠ 0 then (0, 0, s.pipe.2.2.1, sl, s.pipe.2.2.2) else ((i : Int), (j : Int), 0, (sl.set i (s.pipe.1, false)).set j (s.pipe.2.1, false), s.pipe.2.2.2)
  | _ => (0, 0, 31, sl, s)

theorem tpipe_ok {w : World} {t gk : Nat} {sl : List (Int × Bool)} {s : AK} {L : KL} (hT : TabO w t gk sl) (hK : KernO w gk s L) (hn : L.own t = none) (hx : s.next ≤ 4611686018427387903) :
    CallR Tryz.prog 44 [pd t] w fun v w' => v = .tuple #[.int .i64 (tPipe sl s).1, .int .i64 (tPipe sl s).2.1, .int .i64 (tPipe sl s).2.2.1] ∧ ∃ L', TabO w' t gk (tPipe sl s).2.2.2.1 ∧ KernO w' gk (tPipe sl s).2.2.2.2 L' ∧ TStep t w w' L L' := by
  refine C44 ?_
  unfold L44
  have hlen := hT.len
  refine tnone_to hT ⟨_, rfl, condFa2 (CallR.mono (some_okT hT (k := 2) (by omega) (by omega)) ?_)⟩
  rintro v w2 ⟨a, l, c, rfl, hk2, ⟨h1, rfl⟩ | ⟨h1, hne, rfl, hs, hf⟩⟩
  · have hp : tPipe sl s = (0, 0, 31, sl, s) := by
      unfold tPipe
      match hh : freeIx sl, h1 with
      | [], _ => rfl
      | [i], _ => rfl
      | i :: j :: r, h1 => simp only [List.length_cons] at h1; omega
    rw [hp]
    exact ⟨_, _, _, rfl, condTr2 ⟨rfl, L, hT.keep hk2 (fun e => e), hK.no hk2, .of_no hk2⟩⟩
  · obtain ⟨i, j, r, hfr⟩ : ∃ i j r, freeIx sl = i :: j :: r := by
      match hh : freeIx sl, h1 with
      | [], h1 => simp at h1
      | [i], h1 => simp at h1
      | i :: j :: r, _ => exact ⟨i, j, r, rfl⟩
    have hi64 := freeIx_some hlen i (by rw [hfr]; simp)
    have hj64 := freeIx_some hlen j (by rw [hfr]; simp)
    rw [hfr] at hs
    have hs : SlO 1 w2 a 2 c (In [(i : Int), (j : Int)]) := hs
    unfold tPipe
    rw [hfr]
    dsimp -zeta only
    obtain ⟨q, rfl⟩ : ∃ q, a = some q := by cases a with | none => exact absurd rfl hne | some q => exact ⟨q, rfl⟩
    have hT2 := hT.keep hk2 (fun e => e)
    have hK2 := hK.no hk2
    refine ⟨_, _, _, rfl, condFa2 (nnI ⟨_, hT2.at0, CallR.mono (kernPipe_ok hK2 hx) ?_⟩)⟩
    rintro v w3 ⟨rfl, L3, h3, st3⟩
    have hT3 := hT2.step hn st3
    have hz2 := hk2.size
    refine ⟨_, _, _, rfl, condN (fun he => ?_) (fun he => ?_)⟩
    · rw [if_pos he]
      exact ⟨rfl, L3, hT3, h3, .of_k (st3.fresh hk2)⟩
    · rw [if_neg (fun e => e he)]
      intro w4
      have hk4 : Kept No w3 w4 := Kept.drew _ _
      clear_value w4
      have hav : ∀ b, inA (some q) b → L.own b = none ∧ b < w2.heap.size ∧ b ≠ t := fun b hb => by
        have h1 := hf b hb
        exact ⟨hK.new_none h1, SlO.lt hs b hb, fun e => by have := hT.lt; omega⟩
      have hs4 := (hs.keep st3.kept fun b hb e => e (hav b hb).1).keep hk4 fun _ _ e => e
      have hc0 : ∀ {w' : World}, SlO 1 w' (some q) 2 c (In [(i : Int), (j : Int)]) → w'.cell? (q.add (Int.toNat 0)) = some (.int .i64 (i : Int)) := fun h => h.rd.2.2.2 q rfl 0 _ rfl
      have hc1 : ∀ {w' : World}, SlO 1 w' (some q) 2 c (In [(i : Int), (j : Int)]) → w'.cell? (q.add (Int.toNat 1)) = some (.int .i64 (j : Int)) := fun h => h.rd.2.2.2 q rfl 1 _ rfl
      have hT4 := hT3.keep hk4 fun e => e
      have hil : i < sl.length := by omega
      have hn3 : L3.own t = none := (st3.fresh hk2).own' hn hT.lt
      refine ⟨⟨by omega, by omega⟩, nnI ⟨_, hc0 hs4, ⟨by omega, by omega⟩, nnI ⟨_, hc1 hs4, nnI ⟨⟨by omega, by omega⟩, nnI ?_⟩⟩⟩⟩
      rw [Int.toNat_natCast, Int.toNat_natCast]
      refine hT4.st hil fun w6 hT6 hk6 hs6 => ⟨⟨by omega, by omega⟩, hT6.st (by rw [List.length_set]; omega) fun w8 hT8 hk8 hs8 => ?_⟩
      have hs6' := (hs4.keep hk6 fun b hb e => (hav b hb).2.2 e).keep hk8 fun b hb e => (hav b hb).2.2 e
      refine ⟨⟨by omega, by omega⟩, nnI ⟨_, hc0 hs6', ⟨by omega, by omega⟩, nnI ⟨_, hc1 hs6', fun nd => ?_⟩⟩⟩
      have hk9 : Kept No w8 (w8.drewN nd) := Kept.drewN _ _ _
      exact ⟨rfl, L3, hT8.keep hk9 fun e => e, (((h3.no hk4).keep hk6 fun x e => by rw [e]; exact hn3).keep hk8 fun x e => by rw [e]; exact hn3).no hk9, (((TStep.of_k ((st3.fresh hk2).no hk4)).trans (.of_t hk6)).trans (.of_t hk8)).trans (.of_no hk9)⟩

end Go.Proofs.YtkjmlbplmffekaaGreat
