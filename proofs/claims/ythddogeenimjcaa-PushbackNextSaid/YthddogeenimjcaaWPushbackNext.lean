/-
  What was pushed back is got, in order, ahead of all else, and without a raw call; then what was there goes on: the walk. Conditions: none.
-/
import Derived.Test.YthddogeenimjcaaPnC
import Derived.Test.YthddogeenimjcaaOPushbackNext
set_option linter.unusedVariables false
namespace Go.Proofs.Ythddogeenimjcaa
open Go.Lw

theorem fifty (n : Int) : inI (Int.tmod n 50 + 50) ∧ 0 ≤ Int.tmod (Int.tmod n 50 + 50) 50 ∧ Int.tmod (Int.tmod n 50 + 50) 50 < 50 := by
  have h1 := Int.tmod_lt_of_pos n (by omega : (0 : Int) < 50)
  have h2 := Int.lt_tmod_of_pos n (by omega : (0 : Int) < 50)
  have h3 := Int.tmod_lt_of_pos (Int.tmod n 50 + 50) (by omega : (0 : Int) < 50)
  have h4 := Int.tmod_nonneg 50 (by omega : 0 ≤ Int.tmod n 50 + 50)
  exact ⟨⟨by omega, by omega⟩, h4, h3⟩

set_option maxRecDepth 100000 in
set_option maxHeartbeats 4000000 in
theorem walk_pushbackNext {W : World} {args : List Value} (h : V6 W args) : CallR Try.prog 6 args W fun v w' => v = .bool true ∧ Kept No W w' := by
  obtain ⟨a1, l1, c1, bs, hbs, _, hl1, size, _, gets, _, a4, l4, c4, xs, hxs, _, hl4, rfl⟩ := h
  have hbs : RdB W a1 l1 c1 bs := hbs
  have hxs : RdB W a4 l4 c4 xs := hxs
  have hlen := hbs.len
  have hlenx := hxs.len
  refine C6 ?_
  unfold L6
  refine CallR.mono palive_ok ?_
  rintro v w1 ⟨rfl, hk1⟩
  refine ⟨_, rfl, condFa ?_⟩
  refine CallR.mono (newN_ok size) ?_
  rintro v w2 ⟨⟨hz, rfl⟩ | ⟨hz, rfl⟩, hk2⟩
  · have k2 := hk1.no hk2
    refine ⟨_, _, _, _, _, _, _, _, _, _, _, _, _, _, _, _, _, _, rfl, newSt (p := zeroP) (s := Sl3.no) fun w14 hb14 hk14 hz14 => ?_⟩
    exact pnum_to ⟨_, rfl, condT rfl ⟨rfl, k2.no hk14⟩⟩
  have k2 := hk1.no hk2
  refine ⟨_, _, _, _, _, _, _, _, _, _, _, _, _, _, _, _, _, _, rfl, newSt (p := rdZ size) (s := Sl3.no) fun w14 hb14 hk14 hz14 => ?_⟩
  have k14 := k2.no hk14
  refine pnum_to ⟨_, rfl, condF rfl ?_⟩
  refine CallR.mono (copyb_ok (hbs.keep k14 fun _ _ _ e => e) (by omega)) ?_
  rintro v w16 ⟨a, c, rfl, ho, hk16, hfo⟩
  have k16 := k14.no hk16
  have hlo := ho.lt
  refine ⟨_, _, _, rfl, ?_⟩
  intro w17
  have hb17 : Blk w17 w16.heap.size #[.slice a l1 c, .int .i64 ((0 : Nat) : Int), .int .i64 ((0 : Nat) : Int), .int .i64 0] := Blk.alloc _ _ _
  have hk17 : Kept No w16 w17 := Kept.alloc _ _ _
  clear_value w17
  have hz16 : w14.heap.size ≤ w16.heap.size := hk16.size
  have hz17 := hb17.lt
  have hA : ∀ b, inA a b → b < w16.heap.size ∧ b ≠ w16.heap.size := fun b hb => by have := hlo b hb; omega
  have hAw2 : ∀ b, inA a b → b ≠ w2.heap.size := fun b hb => by have := hfo b hb; omega
  have hco17 : CoO w17 w16.heap.size a l1 c bs 0 0 := ⟨hb17, ho.rd.keep hk17 fun _ _ _ e => e, Nat.zero_le _, fun b _ hb => (hA b hb).2⟩
  obtain ⟨h50, hG0, hG1⟩ := fifty gets
  refine ⟨by decide, h50, by decide, ?_⟩
  generalize Int.tmod (Int.tmod gets 50 + 50) 50 = G at hG0 hG1 ⊢
  refine ⟨fun vs w' => ∃ (got i k rd : Nat) (p : Pu) (s : Sl3), vs = [.int .i64 (got : Int), .int .i64 (i : Int)] ∧ (i : Int) ≤ G ∧ got ≤ i ∧ rd ≤ i ∧ Inv p bs size k got ∧ Blk w' w2.heap.size (cs p s) ∧ Rd3 w' s p ∧ CoO w' w16.heap.size a l1 c bs k rd ∧ Kept No W w' ∧ w17.heap.size ≤ w'.heap.size,
    fun vs _ => match vs with | [_, .int _ i] => (50 - i).toNat | _ => 0, ⟨0, 0, 0, 0, rdZ size, Sl3.no, rfl, by omega, by omega, by omega, rdZ_inv hz.1 hz.2, (hb14.no' hk16).no' hk17, ⟨RdB.nil _, RdB.nil _, RdB.nil _⟩, hco17, k16.no hk17, Nat.le_refl _⟩, ?_⟩
  intro _ n26 n27 w18 hI
  obtain ⟨got, i, k, rd, p, s, hvs, hiG, hgi, hri, hinv, hb18, hr18, hco18, k18, hz18⟩ := hI
  simp only [List.cons.injEq, Value.int.injEq, true_and, and_true] at hvs
  obtain ⟨rfl, rfl⟩ := hvs
  have hbd : Bd p := by
    have h1 := hinv.il
    unfold Bd; rw [hinv.o, hinv.k0]; exact ⟨by simp, by omega, by simp⟩
  have hdd : p.d ≠ 2 := by have := hinv.d; omega
  have hA18 : ∀ b, inA a b → b < w18.heap.size ∧ b ≠ w16.heap.size := fun b hb => by have := hlo b hb; omega
  refine condP (fun hlt => ?_) (fun hge => ?_)
  · have hget := get3_ok hr18 hbd hco18 hA18 hinv.ck0 hinv.c hinv.m hinv.r hdd (by omega) (by omega)
    refine ld11 hb18 (CallR.mono hget ?_)
    rintro v w19 ⟨s', rfl, hO, hco19, hk19⟩
    have hz19 : w18.heap.size ≤ w19.heap.size := hk19.size
    refine ⟨_, _, _, _, _, _, _, _, _, _, _, _, _, _, _, _, _, _, _, rfl, newSt (p := (getP p bs k).1) (s := s') fun w31 hb31 hk31 hz31 => ?_⟩
    have hb231 := (hb18.keep hk19 (by omega)).no' hk31
    have k31 : Kept No W w31 := (k18.fresh hk19 (fun x e => by have := k16.size; omega)).no hk31
    refine ld11 hb31 (st11 (p := (getP p bs k).1) (s := s') hb231 rfl fun w42 hb42 hk42 => ?_)
    have hz42 : w31.heap.size ≤ w42.heap.size := hk42.size
    have hkw : W.heap.size ≤ w2.heap.size := k2.size
    have hr42 : Rd3 w42 s' (getP p bs k).1 := (hO.rd.no hk31).keep hk42 (fun b _ hb e => by have := inS hO b hb; omega)
    have hco42 := (hco19.keep hk31 (fun e => e) (fun _ _ _ e => e) (fun b hb => (hA b hb).2)).keep hk42 (by omega) (fun b _ hb e => hAw2 b hb e) (fun b hb => (hA b hb).2)
    have k42 : Kept No W w42 := k31.fresh hk42 (fun x e => by omega)
    have hrr : (getP p bs k).2.2.2.2 ≤ 1 := by
      unfold getP
      split
      · simp
      · split
        · simp
        · split
          · simp
          · split
            · simp
            · simp
    refine pnum_to ⟨_, rfl, condE (fun he => ?_) (fun he => ?_)⟩
    · have hgl : got < bs.length := by
        by_cases hg : got < bs.length
        · exact hg
        · have := ((get_inv hinv).2 hg).1
          omega
      refine ⟨⟨by omega, by omega⟩, ⟨by omega, by omega⟩, ⟨got + 1, i + 1, _, _, _, s', rfl, by omega, by omega, by omega, ((get_inv hinv).1 hgl).2.2, hb42, hr42, hco42, k42, by omega⟩, ?_⟩
      show (50 - ((i : Int) + 1)).toNat < (50 - (i : Int)).toNat
      omega
    · have hgl : ¬ got < bs.length := fun hg => he ((get_inv hinv).1 hg).1
      refine ⟨⟨by omega, by omega⟩, ⟨got, i + 1, _, _, _, s', rfl, by omega, by omega, by omega, ((get_inv hinv).2 hgl).2, hb42, hr42, hco42, k42, by omega⟩, ?_⟩
      show (50 - ((i : Int) + 1)).toNat < (50 - (i : Int)).toNat
      omega
  -- bytes are put back
  refine ld11 hb18 (CallR.mono (ungetall hr18 hbd (hxs.keep k18 fun _ _ _ e => e) (by omega)) ?_)
  rintro v w44 ⟨su, rfl, hu, hk44⟩
  refine ⟨_, _, _, _, _, _, _, _, _, _, _, _, _, _, _, _, _, _, rfl, newSt (p := (ungP p xs).1) (s := su) fun w56 hb56 hk56 hz56 => ?_⟩
  have hz44 : w18.heap.size ≤ w44.heap.size := hk44.size
  have k56 := (k18.no hk44).no hk56
  have hung := ung_good hinv.err xs
  rw [hinv.k0] at hung
  simp only [List.length_nil, Nat.zero_add, List.nil_append] at hung
  refine condP (fun h8 => ?_) (fun h8 => ?_)
  · have e : ungP p xs = (p, 31) := by rw [hung, if_pos (by omega)]
    refine pnum_to ⟨_, rfl, ?_, k56⟩
    rw [e]; rfl
  have h8' : ¬ 8 < xs.length := by omega
  rw [if_neg h8'] at hung
  have hf : (ungP p xs).2 = 0 := by rw [hung]; split <;> rfl
  obtain ⟨p1, hp1, hi1, hd1⟩ : ∃ p1 : Pu, (ungP p xs).1 = { p1 with k := xs.reverse.take xs.length } ∧ Inv p1 bs size k got ∧ (0 < xs.length → p1.d = 1) := by
    by_cases hx : xs.length = 0
    · refine ⟨p, ?_, hinv, fun h => by omega⟩
      rw [hung, if_pos hx, hx]
      have := hinv.same
      simpa using this.symm
    · refine ⟨{ p with d := 1, e := false }, ?_, ⟨hinv.r, hinv.m, hinv.z1, hinv.z2, hinv.z3, hinv.o, hinv.k0, hinv.c, .inr rfl, (fun e => by simp at e), hinv.i, hinv.g1, hinv.g2, hinv.il, (fun e => by simp at e)⟩, fun _ => rfl⟩
      rw [hung, if_neg hx, List.take_of_length_le (by rw [List.length_reverse]; omega)]
  have hco56 := ((hco18.keep hk44 (fun e => e) (fun _ _ _ e => e) (fun b hb => (hA b hb).2)).keep hk56 (fun e => e) (fun _ _ _ e => e) (fun b hb => (hA b hb).2))
  refine pnum_to ⟨_, rfl, condF (by rw [hf]; rfl) ⟨_, (hco56.blk.cell 2).trans rfl, ?_⟩⟩
  rw [hp1] at hb56 hu
  refine ⟨fun vs w' => ∃ (j : Nat) (p2 : Pu) (s : Sl3), vs = [.int .i64 (j : Int)] ∧ j ≤ xs.length ∧ Inv p2 bs size k got ∧ (j < xs.length → p2.d = 1) ∧ Blk w' w44.heap.size (cs { p2 with k := xs.reverse.take (xs.length - j) } s) ∧ Rd3 w' s { p2 with k := xs.reverse.take (xs.length - j) } ∧ CoO w' w16.heap.size a l1 c bs k rd ∧ Kept No W w' ∧ w56.heap.size ≤ w'.heap.size,
    fun vs _ => match vs with | [.int _ i] => ((l4 : Int) - i).toNat | _ => 0, ⟨0, p1, su, rfl, by omega, hi1, hd1, hb56, (hu.no hk56).rd, hco56, k56, Nat.le_refl _⟩, ?_⟩
  intro _ n97 w59 hI
  obtain ⟨j, p2, s2, hvs, hj, hinv2, hd2, hb59, hr59, hco59, k59, hz59⟩ := hI
  simp only [List.cons.injEq, Value.int.injEq, true_and, and_true] at hvs
  subst hvs
  have hA59 : ∀ b, inA a b → b < w59.heap.size ∧ b ≠ w16.heap.size := fun b hb => by have := hlo b hb; omega
  have htl : (xs.reverse.take (xs.length - j)).length = xs.length - j := by rw [List.length_take, List.length_reverse]; omega
  have hbd2 : Bd { p2 with k := xs.reverse.take (xs.length - j) } := by
    have h1 := hinv2.il
    unfold Bd; rw [hinv2.o]; exact ⟨by simp, by dsimp only; omega, by dsimp only; omega⟩
  have hck2 : ckP { p2 with k := xs.reverse.take (xs.length - j) } := hinv2.ck (by omega) (fun e => hd2 (by omega))
  have hdd2 : p2.d ≠ 2 := by have := hinv2.d; omega
  have hget := get3_ok hr59 hbd2 hco59 hA59 hck2 hinv2.c hinv2.m hinv2.r hdd2 (by omega) (by omega)
  refine condP (fun hlt => ?_) (fun hge => ?_)
  · have hjx : j < xs.length := by omega
    obtain ⟨n, hn⟩ : ∃ n, xs.length - j = n + 1 := ⟨xs.length - j - 1, by omega⟩
    have hgb : getP { p2 with k := xs.reverse.take (xs.length - j) } bs k = ({ p2 with k := xs.reverse.take n }, xs.reverse.getD n 0, 0, k, 0) := by
      rw [hn]
      exact get_back (by rw [List.length_reverse]; omega) (hd2 hjx)
    rw [hgb] at hget
    dsimp only at hget
    refine ld11 hb59 (CallR.mono hget ?_)
    rintro v w60 ⟨s', rfl, hO, hco60, hk60⟩
    have hz60 : w59.heap.size ≤ w60.heap.size := hk60.size
    refine ⟨_, _, _, _, _, _, _, _, _, _, _, _, _, _, _, _, _, _, _, rfl, newSt (p := { p2 with k := xs.reverse.take n }) (s := s') fun w72 hb72 hk72 hz72 => ?_⟩
    have hb4472 := (hb59.keep hk60 (by omega)).no' hk72
    have hkw : W.heap.size ≤ w44.heap.size := (k18.no hk44).size
    have k72 : Kept No W w72 := (k59.fresh hk60 (fun x e => by have := k16.size; omega)).no hk72
    refine ld11 hb72 (st11 (p := { p2 with k := xs.reverse.take n }) (s := s') hb4472 rfl fun w83 hb83 hk83 => ?_)
    have hz83 : w72.heap.size ≤ w83.heap.size := hk83.size
    have hr83 : Rd3 w83 s' { p2 with k := xs.reverse.take n } := (hO.rd.no hk72).keep hk83 (fun b _ hb e => by have := inS hO b hb; omega)
    have hco83 := (hco60.keep hk72 (fun e => e) (fun _ _ _ e => e) (fun b hb => (hA b hb).2)).keep hk83 (by omega) (fun b _ hb e => by have := hlo b hb; omega) (fun b hb => (hA b hb).2)
    have k83 : Kept No W w83 := k72.fresh hk83 (fun x e => by omega)
    obtain ⟨q, haq, hgq⟩ := (hxs.keep k83 (fun _ _ _ e => e)).get hjx
    have hv : xs.reverse.getD n 0 = xs[j] := by
      rw [List.getD_eq_getElem?_getD, List.getElem?_reverse (by omega), show xs.length - 1 - n = j by omega, List.getElem?_eq_getElem hjx]
      rfl
    refine pnum_to ⟨_, rfl, condF rfl ⟨⟨by omega, by omega⟩, nnE haq ⟨xs[j], by simpa using hgq, condF (by rw [hv]; simp) ⟨⟨by omega, by omega⟩, ⟨j + 1, p2, s', rfl, by omega, hinv2, fun h => hd2 hjx, ?_, ?_, hco83, k83, by omega⟩, ?_⟩⟩⟩⟩
    · rw [show xs.length - (j + 1) = n by omega]; exact hb83
    · rw [show xs.length - (j + 1) = n by omega]; exact hr83
    · show ((l4 : Int) - ((j : Int) + 1)).toNat < ((l4 : Int) - (j : Int)).toNat
      omega
  · have hjx : xs.length - j = 0 := by omega
    have hp2 : ({ p2 with k := xs.reverse.take (xs.length - j) } : Pu) = p2 := by rw [hjx]; simpa using hinv2.same
    rw [hp2] at hget hb59
    refine ⟨_, (hco59.blk.cell 2).trans rfl, condF (by simp) (ld11 hb59 (CallR.mono hget ?_))⟩
    rintro v w85 ⟨s', rfl, hO, hco85, hk85⟩
    refine ⟨_, _, _, _, _, _, _, _, _, _, _, _, _, _, _, _, _, _, _, rfl, newSt (p := (getP p2 bs k).1) (s := s') fun w97 hb97 hk97 hz97 => ?_⟩
    have k97 : Kept No W w97 := (k59.fresh hk85 (fun x e => by have := k16.size; omega)).no hk97
    refine condP (fun hlt => ?_) (fun hge => ?_)
    · have hgl : got < bs.length := by omega
      obtain ⟨e1, e2, _⟩ := (get_inv hinv2).1 hgl
      obtain ⟨q, haq, hgq⟩ := (hbs.keep k97 (fun _ _ _ e => e)).get hgl
      refine pnum_to ⟨_, rfl, condT (by rw [e1]; rfl) ⟨⟨by omega, by omega⟩, nnE haq ⟨bs[got], by simpa using hgq, ?_, k97⟩⟩⟩
      rw [e2, List.getD_eq_getElem?_getD, List.getElem?_eq_getElem hgl]
      simp
    · have hgl : ¬ got < bs.length := by omega
      obtain ⟨e1, _⟩ := (get_inv hinv2).2 hgl
      refine pnum_to ⟨_, rfl, ?_, k97⟩
      rw [e1]; rfl

end Go.Proofs.Ythddogeenimjcaa
