/-
  The page's example of terminals lives; copies of lists; terminals that no call made. Conditions: none.
-/
import Derived.Test.YtapnpbfbebdjjaaTerm
import Derived.Test.YtapnpbfbebdjjaaLU
set_option linter.unusedVariables false
namespace Go.Proofs.Ytapnpbfbebdjjaa
open Go.Lw

theorem tnum_to {w : World} {n : Int} {Q : Value → World → Prop} (h : Q (.int .i64 n) w) : CallR Try.prog 28 [.int .i64 n] w Q := C28 h

theorem str_is {s : ByteArray} {bs : List Int} (h : strOfNums bs = s) : (ByteArray.toList (strOfNums bs) == ByteArray.toList s) = true := by rw [h]; exact beq_self_eq_true _

theorem talive_ok {w : World} : CallR Try.prog 26 [] w fun v w' => v = .bool true ∧ Kept No w w' := by
  refine C26 ?_
  unfold L26
  intro w1
  obtain ⟨w2, hr2, hrd2, hk2, hz2⟩ := run_const (P := Try.prog) w (t := 22) (e := 5) (by kernel_rfl) [97, 98, 10]
  refine ⟨_, _, _, w2, hr2, ?_⟩
  intro w3
  obtain ⟨w4, hr4, hrd4, hk4, hz4⟩ := run_const (P := Try.prog) w2 (t := 22) (e := 5) (by kernel_rfl) [99]
  refine ⟨_, _, _, w4, hr4, ?_⟩
  intro w5
  have hk5 : Kept No w4 w5 := Kept.alloc _ _ _
  have hb5 : Blk w5 w4.heap.size #[slv (some ⟨w.heap.size, 0, none⟩, 3, 3), slv (none, 0, 0), slv (some ⟨w2.heap.size, 0, none⟩, 1, 1)] := Blk.alloc _ _ _
  have hL : RdL (fun _ => True) w5 (some ⟨w4.heap.size, 0, none⟩) 3 3 [[97, 98, 10], [], [99]] := by
    refine ⟨[(some ⟨w.heap.size, 0, none⟩, 3, 3), (none, 0, 0), (some ⟨w2.heap.size, 0, none⟩, 1, 1)], (SlO.of_blk (sz := 1) (n := 3) hb5 rfl).rd, rfl, fun _ _ _ => trivial, fun i e xs he hx => ⟨?_, fun _ _ _ => trivial⟩⟩
    match i with
    | 0 => cases he; cases hx; exact (hrd2.keep hk4 (fun _ _ _ e => e)).keep hk5 (fun _ _ _ e => e)
    | 1 => cases he; cases hx; exact RdB.nil w5
    | 2 => cases he; cases hx; exact hrd4.keep hk5 (fun _ _ _ e => e)
    | n + 3 => cases he
  clear_value w5
  have h05 : Kept No w w5 := (hk2.no hk4).no hk5
  refine (tnew_ok hL (by simp)).mono fun v w6 ⟨hk6, h6⟩ => ?_
  rcases h6 with ⟨h6, _⟩ | ⟨_, b, F, R, rfl, ht, hnew⟩
  · exact absurd (by decide) h6
  refine ⟨_, _, rfl, tnum_to ⟨_, rfl, condF rfl (condF rfl ?_)⟩⟩
  have hFb : F b := by obtain ⟨la, ll, lc, i, sa, sl, sc, raw, hb, hl, hc, ho, hna, hs, hF, _⟩ := ht; exact (hF b).2 (.inl rfl)
  have hb0 : w.heap.size ≤ b := Nat.le_trans h05.size (hnew b (.inl hFb))
  have h06 := h05.no hk6
  have hbb : ∀ x, x = b → w.heap.size ≤ x := fun x e => by rw [e]; exact hb0
  have e1 : readT 2 [[97, 98, 10], [], [99]] = (0, [97, 98], [[10], [], [99]]) := by decide
  have e2 : readT 9 [[10], [], [99]] = (0, [10], [[], [99]]) := by decide
  have e3 : readT 9 [[], [99]] = (0, [], [[99]]) := by decide
  have e4 : readT 9 [[99]] = (0, [99], []) := by decide
  refine (tread_ok ht 2).mono fun v w8 ⟨a8, c8, hv8, ho8, hf8, hk8, ht8⟩ => ?_
  rw [e1] at hv8 ho8 ht8
  refine ⟨_, _, _, _, hv8, (tread_ok ht8 9).mono fun v w9 ⟨a9, c9, hv9, ho9, hf9, hk9, ht9⟩ => ?_⟩
  rw [e2] at hv9 ho9 ht9
  refine ⟨_, _, _, _, hv9, (tread_ok ht9 9).mono fun v w10 ⟨a10, c10, hv10, ho10, hf10, hk10, ht10⟩ => ?_⟩
  rw [e3] at hv10 ho10 ht10
  refine ⟨_, _, _, _, hv10, (tread_ok ht10 9).mono fun v w11 ⟨a11, c11, hv11, ho11, hf11, hk11, ht11⟩ => ?_⟩
  rw [e4] at hv11 ho11 ht11
  refine ⟨_, _, _, _, hv11, ?_⟩
  have h011 : Kept No w w11 := (((h06.fresh hk8 hbb).fresh hk9 hbb).fresh hk10 hbb).fresh hk11 hbb
  intro w12
  obtain ⟨w13, hr13, hrd13, hk13, hz13⟩ := run_const (P := Try.prog) w11 (t := 22) (e := 5) (by kernel_rfl) [104, 105]
  refine ⟨_, _, _, w13, hr13, ?_⟩
  have ht13 := ht11.keep hk13 (fun _ _ e => e) (fun _ _ e => e)
  refine (twrite_ok ht13 hrd13 (by simp)).mono fun v w14 ⟨hv14, F14, ht14, hg14, hk14⟩ => ⟨_, hv14, ?_⟩
  have e5 : writeT [104, 105] [] = (0, [104, 105]) := by decide
  rw [e5] at ht14 ⊢
  refine tnum_to ⟨_, rfl, tnum_to ⟨_, rfl, by unfold inI; decide, tnum_to ⟨_, rfl, by unfold inI; decide, tnum_to ⟨_, rfl, by unfold inI; decide, tnum_to ⟨_, rfl, by unfold inI; decide, condT rfl ?_⟩⟩⟩⟩⟩
  have hF0 : ∀ k, F k → w.heap.size ≤ k := fun k hk => Nat.le_trans h05.size (hnew k (.inl hk))
  have h014 : Kept No w w14 := (h011.no hk13).fresh hk14 hF0
  have hlt : ∀ k, F k → k < w6.heap.size := fun k hk => ht.lt k (.inl hk)
  -- what was read is as it was
  have k811 : Kept (· = b) w8 w11 := (hk9.trans hk10 fun _ _ e => e).trans hk11 fun _ _ e => e
  have k814 : Kept F w8 w14 := ((k811.no hk13).mono fun _ _ e => e ▸ hFb).trans hk14 fun _ _ e => e
  have k914 : Kept F w9 w14 := (((hk10.trans hk11 fun _ _ e => e).no hk13).mono fun _ _ e => e ▸ hFb).trans hk14 fun _ _ e => e
  have k1114 : Kept F w11 w14 := (hk13.mono fun _ _ e => e.elim).trans hk14 fun _ _ e => e
  have old : ∀ k, F k → k < w6.heap.size := hlt
  have s8 := hk8.size
  have s9 := hk9.size
  have s10 := hk10.size
  have hro8 : RdB w14 a8 _ c8 [97, 98] := ho8.rd.keep k814 (fun k _ hk hF => by have := hf8 k hk; have := hlt k hF; omega)
  have hro9 : RdB w14 a9 _ c9 [10] := ho9.rd.keep k914 (fun k _ hk hF => by have := hf9 k hk; have := hlt k hF; omega)
  have hro11 : RdB w14 a11 _ c11 [99] := ho11.rd.keep k1114 (fun k _ hk hF => by have := hf11 k hk; have := hlt k hF; omega)
  refine ⟨_, _, run_str (P := Try.prog) w14 (t := 22) (ts := 9) (by kernel_rfl) (by kernel_rfl) hro8, condT (str_is rfl) ?_⟩
  refine ⟨_, _, run_str (P := Try.prog) w14 (t := 22) (ts := 9) (by kernel_rfl) (by kernel_rfl) hro9, condT (str_is rfl) (condT rfl ?_)⟩
  refine ⟨_, _, run_str (P := Try.prog) w14 (t := 22) (ts := 9) (by kernel_rfl) (by kernel_rfl) hro11, condT (str_is rfl) ?_⟩
  refine tleft_to ht14 ⟨_, rfl, condT rfl ((tscreen_ok ht14).mono fun v w24 ⟨a24, c24, hv24, ho24, hf24, hk24⟩ => ⟨_, _, _, hv24, ?_⟩)⟩
  refine ⟨_, _, run_str (P := Try.prog) w24 (t := 22) (ts := 9) (by kernel_rfl) (by kernel_rfl) ho24.rd, congrArg Value.bool (str_is rfl), h014.no hk24⟩

/-- A terminal that no call made. -/
def DeadT (w : World) (p : Option Addr) : Prop := p = none ∨ ∃ b, p = some ⟨b, 0, none⟩ ∧ Blk w b #[.bool false, .slice none 0 0, .int .i64 0, .slice none 0 0]

theorem DeadT.keep {w w' : World} {p : Option Addr} (h : DeadT w p) (k : Kept No w w') : DeadT w' p := by
  rcases h with h | ⟨b, h, hb⟩
  · exact .inl h
  · exact .inr ⟨b, h, hb.keep k (fun e => e)⟩

theorem tnothing_ok {w : World} {p : Option Addr} (h : DeadT w p) : CallR Try.prog 39 [.pointer p] w fun v w' => v = .bool true ∧ Kept No w w' := by
  have rd : ∀ {w : World} {x : Int} {Q : Value → World → Prop}, DeadT w p → Q (.tuple #[.slice none 0 0, .int .i64 2]) w → CallR Try.prog 30 [.pointer p, .int .i64 x] w Q := by
    intro w x Q h hq
    refine C30 ?_
    unfold L30
    rcases h with rfl | ⟨b, rfl, hb⟩
    · exact condT rfl hq
    · exact condF rfl (nnI ⟨false, hb.at0 rfl, condT rfl hq⟩)
  have wr : ∀ {w : World} {a : Option Addr} {l c : Nat} {Q : Value → World → Prop}, DeadT w p → Q (.int .i64 2) w → CallR Try.prog 31 [.pointer p, .slice a l c] w Q := by
    intro w a l c Q h hq
    refine C31 ?_
    unfold L31
    rcases h with rfl | ⟨b, rfl, hb⟩
    · exact condT rfl hq
    · exact condF rfl (nnI ⟨false, hb.at0 rfl, condT rfl hq⟩)
  have lf : ∀ {w : World} {Q : Value → World → Prop}, DeadT w p → Q (.int .i64 0) w → CallR Try.prog 29 [.pointer p] w Q := by
    intro w Q h hq
    refine C29 ?_
    unfold L29
    rcases h with rfl | ⟨b, rfl, hb⟩
    · exact condT rfl hq
    · exact condF rfl (nnI ⟨none, 0, 0, hb.at rfl, hq⟩)
  have cp : ∀ {w : World} {Q : Value → World → Prop}, DeadT w p → Q (.pointer none) w → CallR Try.prog 38 [.pointer p] w Q := by
    intro w Q h hq
    refine C38 ?_
    unfold L38
    rcases h with rfl | ⟨b, rfl, hb⟩
    · exact condT rfl hq
    · exact condF rfl (nnI ⟨false, hb.at0 rfl, condT rfl hq⟩)
  have sc : ∀ {w : World}, DeadT w p → CallR Try.prog 32 [.pointer p] w fun v w' => ∃ a c, v = .slice a 0 c ∧ Kept No w w' := by
    intro w h
    refine C32 ?_
    unfold L32
    rcases h with rfl | ⟨b, rfl, hb⟩
    · exact condT rfl ⟨none, 0, rfl, Kept.refl _ _⟩
    · obtain ⟨w1, hrun1, hs1, hk1, hsz1⟩ := run_mk (P := Try.prog) (t := 22) tyB' (w := w) (k := .i64) (k' := .i64) (n := 0) (m := 0) (Nat.le_refl _) (by omega) (by omega)
      obtain ⟨w2, hrun2, hs2, hk2, hsz2, _⟩ := run_copy_own (P := Try.prog) (t := 22) (t2 := 22) (ty := 3) (by kernel_rfl : slTyB Try.prog 22 1 1 = true) hs1 (RdS.nil 1 w1) (by simp)
      exact condF rfl (nnI ⟨none, 0, 0, hb.at rfl, _, _, _, w1, hrun1, nnI ⟨none, 0, 0, (hb.keep hk1 (fun e => e)).at rfl, _, w2, hrun2, _, _, rfl, hk1.fresh hk2 (fun k hk => by rw [inA_some] at hk; omega)⟩⟩)
  refine C39 ?_
  unfold L39
  refine rd h ⟨_, _, _, _, rfl, tnum_to ⟨_, rfl, condT rfl (wr h ⟨_, rfl, tnum_to ⟨_, rfl, condT rfl (lf h ⟨_, rfl, condT rfl ?_⟩)⟩⟩)⟩⟩
  exact (sc h).mono fun v w1 ⟨a, c, hv, hk⟩ => ⟨_, _, _, hv, condT rfl (cp (h.keep hk) ⟨_, rfl, rfl, hk⟩)⟩

/-- CopyLists: lists in new memory, each of its own. -/
theorem copyl_ok {R0 : Nat → Prop} {w : World} {a : Option Addr} {l c : Nat} {LL : List (List Int)} (h : RdL R0 w a l c LL) (hl : ∀ x ∈ LL, x.length ≤ 140737488355328) (hl2 : l * 24 ≤ 140737488355328) :
    CallR Try.prog 33 [.slice a l c] w fun v w' => ∃ (a' : Option Addr) (c' : Nat) (es : List Slc), v = .slice a' l c' ∧ Kept No w w' ∧ SlO 1 w' a' l c' (es.map slv) ∧ es.length = l ∧ Fresh w a' ∧
      (∀ (j : Nat) (e : Slc), es[j]? = some e → ∃ xs, LL[j]? = some xs ∧ OB w' e.1 e.2.1 e.2.2 xs ∧ (∀ k, inA e.1 k → w.heap.size ≤ k ∧ ¬ inA a' k)) ∧
      (∀ (i j : Nat) (e f : Slc), i < j → es[i]? = some e → es[j]? = some f → ∀ k, inA e.1 k → ¬ inA f.1 k) := by
  have hlen := h.len
  refine C33 ?_
  unfold L33
  refine ⟨fun vs w' => ∃ (i : Nat) (a' : Option Addr) (c' : Nat) (es : List Slc), vs = [.slice a' i c', .int .i64 (i : Int)] ∧ i ≤ l ∧ Kept No w w' ∧ SlO 1 w' a' i c' (es.map slv) ∧ es.length = i ∧ Fresh w a' ∧
      (∀ (j : Nat) (e : Slc), es[j]? = some e → ∃ xs, LL[j]? = some xs ∧ OB w' e.1 e.2.1 e.2.2 xs ∧ (∀ k, inA e.1 k → w.heap.size ≤ k ∧ ¬ inA a' k)) ∧
      (∀ (i j : Nat) (e f : Slc), i < j → es[i]? = some e → es[j]? = some f → ∀ k, inA e.1 k → ¬ inA f.1 k),
    fun vs _ => match vs with | [_, .int _ i] => (l - i).toNat | _ => 0, ⟨0, none, 0, [], rfl, Nat.zero_le _, Kept.refl _ _, SlO.nil 1 w, rfl, Fresh.none w, fun j e he => by simp at he, fun i j e f _ he => by simp at he⟩, ?_⟩
  intro _ a4 l4 c4 n5 w1 hI
  obtain ⟨i, a', c', es, hv, hi, hk1, hs1, hesl, hf1, hes, hpw⟩ := hI
  simp only [List.cons.injEq, Value.slice.injEq, Value.int.injEq, true_and, and_true] at hv
  obtain ⟨⟨rfl, rfl, rfl⟩, rfl⟩ := hv
  refine condP (fun hlt => ?_) (fun hge => ?_)
  · have hil : l4 < LL.length := by omega
    obtain ⟨q, ⟨ea, el, ec⟩, hq, hc, hrd, _⟩ := (h.keep hk1 (fun _ _ e => e)).get hil
    subst hq
    simp only at hc hrd
    obtain rfl : LL[l4].length = el := hrd.len
    have hLi := hl LL[l4] (List.getElem_mem hil)
    refine ⟨⟨by omega, by omega⟩, nnI ⟨_, _, _, hc, (copyb_ok hrd (by omega)).mono fun v w2 ⟨a2, c2, hv2, ho2, hk2, hf2⟩ => ⟨_, _, _, hv2, ?_⟩⟩⟩
    intro w3
    have hk3 : Kept No w2 w3 := Kept.alloc _ _ _
    have hz3 : w3.heap.size = w2.heap.size + 1 := by show (w2.heap.push _).size = _; simp
    have hnew3 : SlO 1 w3 (some ⟨w2.heap.size, 0, none⟩) 1 1 ([(a2, LL[l4].length, c2)].map slv) :=
      SlO.of_blk (sz := 1) (n := 1) (Blk.alloc w2 #[slv (a2, LL[l4].length, c2)] 22) rfl
    clear_value w3
    have hs3 := (hs1.keep hk2 (fun _ _ e => e)).keep hk3 (fun _ _ e => e)
    obtain ⟨a6, c6, w6, hrun, hs6, hk6, hat, _⟩ := run_app_sl (P := Try.prog) (t := 49) (t2 := 49) (ty := 49) (by kernel_rfl : slTyB Try.prog 49 1 24 = true) (by kernel_rfl) hs3 hnew3.rd (slv_one _) (by omega) (by omega)
    have hk13 := hk2.no hk3
    have hlt2 := SlO.lt ho2
    have hlt1 := SlO.lt hs1
    have hin6 : ∀ k, inA a6 k → w.heap.size ≤ k := fun k hk => by
      rcases hat.in hk with h | rfl
      · exact hf1 k h
      · have := (hk1.no hk13).size; omega
    refine ⟨a6, _, c6, w6, hrun, by unfold inI; omega, ⟨l4 + 1, a6, c6, es ++ [(a2, LL[l4].length, c2)], rfl, by omega, (hk1.no hk13).fresh hk6 hf1, by rw [List.map_append]; exact hs6, by simp [hesl], hin6, ?_, ?_⟩, ?_⟩
    · intro j e he
      by_cases hj : j < l4
      · rw [List.getElem?_append_left (by omega)] at he
        obtain ⟨xs, hx, hr, hin⟩ := hes j e he
        refine ⟨xs, hx, (hr.keep hk13 (fun _ _ e => e)).keep hk6 (fun k hk h => (hin k hk).2 h), fun k hk => ⟨(hin k hk).1, fun hx => ?_⟩⟩
        rcases hat.in hx with h | rfl
        · exact (hin k hk).2 h
        · have := SlO.lt hr _ hk; have := hk13.size; omega
      · have hje : j = l4 := by
          have := (List.getElem?_eq_some_iff.1 he).1
          simp at this; omega
        subst hje
        rw [List.getElem?_append_right (by omega), hesl, Nat.sub_self] at he
        simp at he
        subst he
        refine ⟨LL[j], by simp [hil], (ho2.keep hk3 (fun _ _ e => e)).keep hk6 (fun k hk h => ?_), fun k hk => ⟨?_, fun hx => ?_⟩⟩
        · have := hf2 k hk; have := hlt1 k h; omega
        · have := hf2 k hk; have := hk1.size; omega
        · rcases hat.in hx with h | rfl
          · have := hf2 k hk; have := hlt1 k h; omega
          · have := hlt2 _ hk; omega
    · intro i j e f hij he hf k hke hkf
      by_cases hj : j < l4
      · rw [List.getElem?_append_left (by omega)] at he hf
        exact hpw i j e f hij he hf k hke hkf
      · have hje : j = l4 := by
          have := (List.getElem?_eq_some_iff.1 hf).1
          simp at this; omega
        subst hje
        rw [List.getElem?_append_right (by omega), hesl, Nat.sub_self] at hf
        simp at hf
        subst hf
        rw [List.getElem?_append_left (by omega)] at he
        obtain ⟨xs, hx, hr, hin⟩ := hes i e he
        have := SlO.lt hr k hke
        have := hf2 k hkf
        omega
    · show ((l : Int) - ((l4 : Int) + 1)).toNat < ((l : Int) - (l4 : Int)).toNat
      omega
  · have hil : l4 = l := by omega
    subst hil
    exact ⟨a4, c4, es, rfl, hk1, hs1, hesl, hf1, hes, hpw⟩

end Go.Proofs.Ytapnpbfbebdjjaa
