/-
  A mode's flags are such as the kernel takes, and do what the mode says: the walk. Conditions: none.
-/
import Derived.Test.YtkjmlbplmffekaaGreatKaA
import Derived.Test.YtkjmlbplmffekaaGreatKf
import Derived.Test.YtkjmlbplmffekaaGreatOmF
import Derived.Test.YtkjmlbplmffekaaGreatOOpenmodeOpens
set_option linter.unusedVariables false
namespace Go.Proofs.YtkjmlbplmffekaaGreat
open Go.Lw

abbrev nO : ByteArray := ByteArray.mk #[102]

namespace AK

def new1 (there : Bool) (bs : List Int) : AK := new (if there then [(nO, bs)] else []) [] []

theorem new1_t (bs : List Int) : new1 true bs = ⟨[(nO, 0)], [], fun j => if j = 0 then .file bs else .file [], 1, [], 1, [], 0, 0⟩ := rfl
theorem new1_f (bs : List Int) : new1 false bs = ⟨[], [], fun _ => .file [], 0, [], 1, [], 0, 0⟩ := rfl

theorem mn1 {a : Int} (h : 1 ≤ a) : mn 1 a = 1 := by unfold mn; split <;> omega

theorem write_one {s : AK} {d : Int} {i : Nat} {bs : List Int} {fl at_ : Int} (h : FD s d i bs fl at_) (hb : bitI fl 2 = 2) (hps : s.ps = []) (hl : bs.length ≤ 1000) (ha : at_ ≤ 1000) : (s.write d [1]).1 = 1 ∧ (s.write d [1]).2.1 = 0 := by
  obtain ⟨hd, hx⟩ := h.ex
  have hr : s.roomO ⟨d, i, fl, at_, hd⟩ 1 = (1, 0) := by
    unfold roomO
    rw [h.ob]
    show roomD (placeF fl at_ bs) 1 = _
    have : placeF fl at_ bs ≤ 1000 := by
      unfold placeF
      split <;> omega
    unfold roomD
    rw [if_pos (by omega), mn1 (by omega)]
  unfold write
  rw [if_neg (fun e => e (find_of hx hb)), if_neg (by simp), if_neg (by simp), hx]
  dsimp only
  rw [show ((([1] : List Int).length : Nat) : Int) = 1 from rfl, hr, if_neg (by simp), hps, show metF [] 1 = (1, 0) from rfl, if_neg (by simp)]
  refine ⟨?_, rfl⟩
  show (s.met1.wrO ⟨d, i, fl, at_, hd⟩ [1] 1).1 = 1
  unfold wrO
  rw [show s.met1.objs i = s.objs i from rfl, h.ob]
  rfl

theorem find_no {s : AK} {d : Int} {i : Nat} {bs : List Int} {fl at_ way : Int} (h : FD s d i bs fl at_) (hb : bitI fl way ≠ way) : s.find d way = 65 := by
  obtain ⟨hd, hx⟩ := h.ex
  unfold find
  rw [hx]
  exact if_pos hb

theorem write_no {s : AK} {d : Int} {i : Nat} {bs ds : List Int} {fl at_ : Int} (h : FD s d i bs fl at_) (hb : bitI fl 2 ≠ 2) : (s.write d ds).2.1 = 65 := by
  unfold write
  rw [find_no h hb, if_pos (by simp)]

/-- What the opened file is. -/
structure Op1 (s : AK) (cur : List Int) (fl : Int) : Prop where
  fd : FD s 1 0 cur fl 0
  fs : s.files = [(nO, 0)]
  ps : s.ps = []

theorem open_1t {m : Md} (hm : flagsOk m = true) (bs : List Int) : if m.x = true then (new1 true bs).open_ nO (flI m 6) = (0, 63, new1 true bs) else ∃ s1, (new1 true bs).open_ nO (flI m 6) = (1, 0, s1) ∧ Op1 s1 (if m.t = true then [] else bs) (flI m 6) := by
  unfold flagsOk at hm
  simp only [Bool.and_eq_true, beq_iff_eq] at hm
  obtain ⟨⟨⟨⟨⟨⟨h0, h1⟩, h2⟩, h3⟩, h4⟩, h5⟩, h6⟩ := hm
  rw [new1_t]
  have hE : ∀ s : AK, s = ⟨[(nO, 0)], [], fun j => if j = 0 then .file bs else .file [], 1, [], 1, [], 0, 0⟩ → s.openE nO (flI m 6) = if m.x = true then 63 else 0 := by
    rintro s rfl
    unfold openE
    rw [if_neg (by rw [show namedS nO = true by kernel_rfl]; simp), if_neg (by rw [h1]; simp), if_neg (by simp), if_pos (.inl rfl), ← h2]
    by_cases e : bitI (flI m 6) 32 = 0
    · simp [e]
    · simp [e]
  unfold open_
  rw [hE _ rfl]
  by_cases hx : m.x = true
  · rw [if_pos hx, if_pos hx, if_pos (by simp)]
  · rw [if_neg hx, if_neg hx, if_neg (by simp)]
    refine ⟨_, rfl, ?_⟩
    unfold openS
    rw [show termOf (⟨[(nO, 0)], [], fun j => if j = 0 then .file bs else .file [], 1, [], 1, [], 0, 0⟩ : AK) nO = none from rfl, show fileOf (⟨[(nO, 0)], [], fun j => if j = 0 then .file bs else .file [], 1, [], 1, [], 0, 0⟩ : AK) nO = some (nO, 0) from by unfold fileOf; rw [List.find?_cons_of_pos (by simp)]]
    dsimp only
    by_cases ht : m.t = true
    · have : bitI (flI m 6) 16 ≠ 0 := by rw [ht] at h4; simpa using h4
      rw [if_pos this, if_pos ht]
      exact ⟨⟨⟨1, rfl⟩, rfl, Int.le_refl _⟩, rfl, rfl⟩
    · have ht' : m.t = false := by simpa using ht
      have : ¬ bitI (flI m 6) 16 ≠ 0 := by rw [ht'] at h4; simpa using h4
      rw [if_neg this, if_neg ht]
      exact ⟨⟨⟨1, rfl⟩, rfl, Int.le_refl _⟩, rfl, rfl⟩

theorem open_1f {m : Md} (hm : flagsOk m = true) (bs : List Int) : if m.c = true then ∃ s1, (new1 false bs).open_ nO (flI m 6) = (1, 0, s1) ∧ Op1 s1 [] (flI m 6) else (new1 false bs).open_ nO (flI m 6) = (0, 62, new1 false bs) := by
  unfold flagsOk at hm
  simp only [Bool.and_eq_true, beq_iff_eq] at hm
  obtain ⟨⟨⟨⟨⟨⟨h0, h1⟩, h2⟩, h3⟩, h4⟩, h5⟩, h6⟩ := hm
  rw [new1_f]
  have hE : ∀ s : AK, s = ⟨[], [], fun _ => .file [], 0, [], 1, [], 0, 0⟩ → s.openE nO (flI m 6) = if m.c = true then 0 else 62 := by
    rintro s rfl
    unfold openE
    rw [if_neg (by rw [show namedS nO = true by kernel_rfl]; simp), if_neg (by rw [h1]; simp), if_neg (by simp), if_neg (by simp [fileOf, termOf]), ← h3]
    by_cases e : bitI (flI m 6) 8 = 0
    · simp [e]
    · simp [e]
  unfold open_
  rw [hE _ rfl]
  by_cases hc : m.c = true
  · rw [if_pos hc, if_pos hc, if_neg (by simp)]
    refine ⟨_, rfl, ?_⟩
    unfold openS
    rw [show termOf (⟨[], [], fun _ => .file [], 0, [], 1, [], 0, 0⟩ : AK) nO = none from rfl, show fileOf (⟨[], [], fun _ => .file [], 0, [], 1, [], 0, 0⟩ : AK) nO = none from rfl]
    exact ⟨⟨⟨1, rfl⟩, rfl, Int.le_refl _⟩, rfl, rfl⟩
  · rw [if_neg hc, if_neg hc, if_pos (by simp)]

theorem filesV_op1 {s : AK} {cur : List Int} {fl : Int} (h : Op1 s cur fl) : s.filesV = [(nO, cur)] := by
  unfold filesV
  rw [h.fs]
  have e : sortN [nO] = [nO] := List.perm_singleton.1 (sortN_perm [nO])
  show (sortN [nO]).map _ = _
  rw [e]
  show [(nO, s.bytesOf nO)] = _
  have : s.bytesOf nO = cur := by
    unfold bytesOf fileOf
    rw [h.fs, List.find?_cons_of_pos (by simp)]
    show dataO (s.objs 0) = cur
    rw [h.fd.ob]; rfl
  rw [this]

end AK

set_option maxHeartbeats 4000000 in
theorem walk_openmodeOpens {W : World} {args : List Value} (h : V10 W args) : CallR Tryz.prog 10 args W fun v w' => v = .bool true ∧ Kept No W w' := by
  obtain ⟨s, hs, b2, a3, l3, c3, bs, r1, _, hl3, rfl⟩ := h
  have r1 : RdB W a3 l3 c3 bs := r1
  have hln := r1.len
  refine C10 ?_
  unfold L10
  refine CallR.mono oalive_ok ?_
  rintro v w1 ⟨rfl, hk1⟩
  refine ⟨_, rfl, condFa2 (CallR.mono (oparse_ok s hs) ?_)⟩
  rintro v w2 ⟨rfl, hk2⟩
  unfold parsed
  refine ⟨_, _, _, _, _, _, _, _, _, _, rfl, lay8 (m := (parseM s).1) fun w11 hx11 hk11 => ?_⟩
  refine onum_to ⟨_, rfl, ?_⟩
  have k11 := (hk1.no hk2).no hk11
  refine condI (fun _ => ⟨rfl, k11⟩) (fun he => condP (fun _ => ⟨rfl, k11⟩) (fun hlb => ?_))
  have he : (parseM s).2.1 = 0 := by simpa using he
  have hfl := parse_flags he
  generalize (parseM s).1 = m at hfl hx11
  have hfl0 := hfl
  unfold flagsOk at hfl0
  simp only [Bool.and_eq_true, beq_iff_eq, decide_eq_true_eq] at hfl0
  obtain ⟨⟨⟨⟨⟨⟨p0, _⟩, _⟩, _⟩, _⟩, p5⟩, p6⟩ := hfl0
  refine ld8 hx11 (CallR.mono (oflags_ok m) ?_)
  rintro v w13 ⟨hv, hk13⟩
  rw [p0, if_neg (by simp)] at hv
  subst hv
  refine ⟨_, _, rfl, ?_⟩
  intro w14
  have hc14 : Blk w14 w13.heap.size #[.slice none 0 0, .slice none 0 0, .slice none 0 0] := Blk.alloc _ _ _
  have hk14 : Kept No w13 w14 := Kept.alloc _ _ _
  clear_value w14
  have hx14 := (hx11.keep hk13 fun e => e).keep hk14 fun e => e
  have k14 := (k11.no hk13).no hk14
  have hz11 : w2.heap.size < w13.heap.size := by have := hx11.lt; have := hk13.size; omega
  have hW2 : W.heap.size ≤ w2.heap.size := (hk1.no hk2).size
  refine ⟨fun vs w' => vs = [] ∧ Kept No W w' ∧ Blk w' w2.heap.size m.cs ∧ ∃ (a : Option Addr) (l c : Nat) (ef : List (ByteArray × Slc)), Blk w' w13.heap.size #[.slice a l c, .slice none 0 0, .slice none 0 0] ∧ RdN RB w' a l c (if b2 = true then [(nO, bs)] else []) ef ∧ l ≤ 1, ?_, ?_⟩
  · cases b2 with
    | true =>
      refine condTr2 ?_
      intro w15
      have hf15 : Blk w15 w14.heap.size #[.string nO, .slice a3 l3 c3] := Blk.alloc _ _ _
      have hk15 : Kept No w14 w15 := Kept.alloc _ _ _
      clear_value w15
      have hlt := hc14.lt
      have k15 := k14.no hk15
      refine stC_blk (hc14.keep hk15 fun e => e) (by simp) fun w16 hc16 hk16 _ => ?_
      have hR : RB w16 (a3, l3, c3) bs := (r1.keep (k15.fresh hk16 fun x e => by have := k11.size; have := hk13.size; omega) fun _ _ _ e => e)
      exact ⟨rfl, k15.fresh hk16 fun x e => by have := k11.size; have := hk13.size; omega, (hx14.keep hk15 fun e => e).keep hk16 fun e => by omega, _, _, _, _, hc16, rdN_one6 (R := RB) (nm := nO) (hf15.keep hk16 fun e => by omega) hR, Nat.le_refl _⟩
    | false => exact condFa2 ⟨rfl, k14, hx14, _, _, _, _, hc14, rdN_nil6 (R := RB), Nat.zero_le _⟩
  rintro _ w17 ⟨-, k17, hx17, a, l, c, ef, hc17, hef, hl1⟩
  refine ⟨_, _, _, _, _, _, _, _, _, (hc17.cell 0).trans rfl, (hc17.cell 1).trans rfl, (hc17.cell 2).trans rfl, CallR.mono (kernNew_ok hef (rdN_nil6 (R := RL)) (ps := []) (RdS.nil 2 w17) (by omega) (by omega)) ?_⟩
  have hck : checkK (if b2 = true then [(nO, bs)] else []) [] [] = 0 := by
    cases b2 with
    | true => exact AK.ck_one (nm := nO) (by kernel_rfl) (by omega) []
    | false => kernel_rfl
  rintro v w18 ⟨hk18, ⟨hne, _⟩ | ⟨_, gk, L, rfl, h18, hL⟩⟩
  · exact absurd hck hne
  have hL : ∀ z, L.own z ≠ none → W.heap.size ≤ z ∧ z ≠ w2.heap.size := fun z hz => by
    have e1 := hL z hz
    have e2 := hx17.lt
    have e3 := k17.size
    exact ⟨by omega, by omega⟩
  have hx18 := hx17.keep hk18 fun e => e
  have k18 := k17.no hk18
  have h18 : KernO w18 gk (AK.new1 b2 bs) L := h18
  refine ⟨_, _, rfl, onum_to ⟨_, rfl, onum_to ⟨_, rfl, ⟨by decide, by decide⟩, condFa2 (condFa2 ?_)⟩⟩⟩
  have hnx : (AK.new1 b2 bs).next = 1 := (AK.new_is _ _ _).2.2.2.1
  have hc0 : (AK.new1 b2 bs).c0 = 0 := (AK.new_is _ _ _).2.2.2.2.2.1
  have hc1 : (AK.new1 b2 bs).c1 = 0 := (AK.new_is _ _ _).2.2.2.2.2.2
  refine CallR.mono (kernOpen_ok h18 _ _ (by omega)) ?_
  rintro v w21 ⟨rfl, L1, h21, st21⟩
  have hx21 := hx18.keep st21.kept fun e => (hL _ e).2 rfl
  have k21 : Kept No W w21 := k18.trans st21.kept fun y hy e => by have := (hL y e).1; omega
  have hcs := AK.open_cs (AK.new1 b2 bs) nO (flI m 6)
  refine ⟨_, _, rfl, fun vs w' => vs = [] ∧ w' = w21 ∧ ∃ s1 : AK, (AK.new1 b2 bs).open_ nO (flI m 6) = (1, 0, s1) ∧ AK.Op1 s1 (if b2 = true then (if m.t = true then [] else bs) else []) (flI m 6), ?_, ?_⟩
  · cases b2 with
    | true =>
      have ho := AK.open_1t hfl bs
      refine condTr2 ⟨_, (hx21.cell 5).trans rfl, ?_⟩
      by_cases hx : m.x = true
      · rw [if_pos hx] at ho
        rw [ho, hx]
        exact condTr2 (onum_to ⟨_, rfl, rfl, k21⟩)
      · rw [if_neg hx] at ho
        obtain ⟨s1, ho, hop⟩ := ho
        have hx : m.x = false := by simpa using hx
        rw [hx]
        have hn : ((AK.new1 true bs).open_ nO (flI m 6)).2.1 = 0 := by rw [ho]
        rw [hn]
        exact condFa2 (condFa2 (onum_to ⟨_, rfl, condFa2 ⟨rfl, rfl, s1, ho, by rw [if_pos rfl]; exact hop⟩⟩))
    | false =>
      have ho := AK.open_1f hfl bs
      refine condFa2 (condTr2 ⟨_, (hx21.cell 3).trans rfl, ?_⟩)
      by_cases hx : m.c = true
      · rw [if_pos hx] at ho
        obtain ⟨s1, ho, hop⟩ := ho
        have hn : ((AK.new1 false bs).open_ nO (flI m 6)).2.1 = 0 := by rw [ho]
        rw [hx, hn]
        exact condFa2 (onum_to ⟨_, rfl, condFa2 ⟨rfl, rfl, s1, ho, by rw [if_neg (by simp)]; exact hop⟩⟩)
      · rw [if_neg hx] at ho
        have hx : m.c = false := by simpa using hx
        rw [ho, hx]
        exact condTr2 (onum_to ⟨_, rfl, rfl, k21⟩)
  rintro _ w29 ⟨-, rfl, s1, ho, hop⟩
  generalize hcur : (if b2 = true then (if m.t = true then [] else bs) else []) = cur at hop
  have hcl : cur.length ≤ 1000 := by
    rw [← hcur]
    split
    · split
      · simp
      · omega
    · simp
  refine ⟨fun vs w' => vs = [.int .i64 ((cur.length : Nat) : Int)] ∧ w' = w29, ?_, ?_⟩
  · rw [← hcur]
    cases b2 with
    | true =>
      refine condFa2 ⟨_, (hx21.cell 4).trans rfl, ?_⟩
      by_cases ht : m.t = true
      · rw [ht]; exact condTr2 ⟨rfl, rfl⟩
      · have ht : m.t = false := by simpa using ht
        rw [ht]
        refine condFa2 ⟨?_, rfl⟩
        rw [if_pos rfl, if_neg (by simp), hln]
    | false => exact condTr2 ⟨rfl, rfl⟩
  rintro _ n64 w30 ⟨hvs, rfl⟩
  simp only [List.cons.injEq, Value.int.injEq, true_and, and_true] at hvs
  subst hvs
  rw [ho] at h21 hcs
  rw [ho]
  have h21 : KernO w30 gk s1 L1 := h21
  have hL1 : ∀ z, L1.own z ≠ none → W.heap.size ≤ z ∧ z ≠ w2.heap.size := fun z hz => by
    rcases st21.grew z hz with e | e
    · exact hL z e
    · have e2 := hx18.lt
      have e3 := k18.size
      exact ⟨by omega, by omega⟩
  refine CallR.mono (kernFiles_ok h21) ?_
  rintro v w31 ⟨a65, l65, c65, es, rfl, hfv, hk31⟩
  rw [AK.filesV_op1 hop] at hfv
  have hl65 : l65 = 1 := by have := hfv.len_eq; simpa using this
  subst hl65
  have h31 := h21.no hk31
  obtain ⟨o1, o2, o3, o4⟩ := hcs
  dsimp only at o1 o2 o3 o4
  refine ⟨_, _, _, rfl, CallR.mono (kernRead_ok h31 1 5 (by omega)) ?_⟩
  rintro v w32 ⟨a67, l67, c67, L2, rfl, hob, hfr, h32, st32, _⟩
  have hfv32 := hfv.keep st32.kept fun b hb _ e => by have := h21.lt b e; omega
  have hx32 := (hx21.keep hk31 fun e => e).keep st32.kept fun e => (hL1 _ e).2 rfl
  have k32 : Kept No W w32 := (k21.no hk31).trans st32.kept fun y hy e => by have := (hL1 y e).1; omega
  have hL2 : ∀ z, L2.own z ≠ none → W.heap.size ≤ z ∧ z ≠ w2.heap.size ∧ ∀ b, inA a65 b → z ≠ b := fun z hz => by
    have e2 := hx21.lt
    have e3 := hk31.size
    have e4 := (k21.no hk31).size
    rcases st32.grew z hz with e | e
    · refine ⟨(hL1 z e).1, (hL1 z e).2, fun b hb => ?_⟩
      have := h21.lt z e
      have := hfv.fr b hb
      omega
    · refine ⟨by omega, by omega, fun b hb => ?_⟩
      have := SlO.lt hfv.sl b hb
      omega
  have hl67 : l67 ≤ 5 := by
    have h1 := hob.rd.len
    have h2 := AK.read_len (s := s1) (d := 1) (n := 5) (by omega)
    omega
  refine ⟨_, _, _, _, rfl, ?_⟩
  intro w33
  have hb33 : Blk w33 w32.heap.size #[.int .u8 1] := Blk.alloc _ _ _
  have hk33 : Kept No w32 w33 := Kept.alloc _ _ _
  clear_value w33
  have hd : RdB w33 (some ⟨w32.heap.size, 0, none⟩) 1 1 [1] := (SlO.of_blk (sz := 1) (n := 1) hb33 (by simp)).rd
  have hrcs := AK.read_cs s1 1 5
  refine CallR.mono (kernWrite_ok (h32.no hk33) 1 hd (fun _ k hk => by rw [inA_some] at hk; subst hk; exact h32.new_none (Nat.le_refl _)) (by omega)) ?_
  rintro v w34 ⟨rfl, L3, h34, st34⟩
  have hx34 := (hx32.keep hk33 fun e => e).keep st34.kept fun e => (hL2 _ e).2.1 rfl
  have k34 : Kept No W w34 := (k32.no hk33).trans st34.kept fun y hy e => by have := (hL2 y e).1; omega
  have hfv34 := (hfv32.no hk33).rd.rd.keep st34.kept fun b _ hb e => (hL2 b e).2.2 b hb rfl
  obtain ⟨q, sl, haq, _, hq, _⟩ := (hfv32.no hk33).rd.at (i := 0) (by simp)
  clear hq
  have hes : ∃ sl : Slc, Nv es = [.string nO, .slice sl.1 sl.2.1 sl.2.2] ∧ sl.2.1 = cur.length := by
    have hlen := hfv.len
    cases es with
    | nil => simp at hlen
    | cons e r =>
      cases r with
      | nil =>
        obtain ⟨e1, e2⟩ := hfv.each 0 (by simp) (by simp)
        have e1 : e.1 = nO := e1
        refine ⟨e.2, by unfold Nv; simp [e1], ?_⟩
        exact e2.rd.len.symm
      | cons _ _ => simp at hlen
  obtain ⟨sl, hnv, hsl⟩ := hes
  refine ⟨_, _, rfl, fun wS => RdS 2 wS a65 1 c65 (Nv es) ∧ Blk wS w2.heap.size m.cs ∧ Kept No W wS, ⟨hfv34.drew, hx34.drew, k34.no (Kept.drew _ _)⟩, ?_⟩
  intro w35
  have hS35 : RdS 2 w35 a65 1 c65 (Nv es) ∧ Blk w35 w2.heap.size m.cs ∧ Kept No W w35 := ⟨hfv34.drew, hx34.drew, k34.no (Kept.drew _ _)⟩
  clear_value w35
  have hr : ((s1.read 1 5).2.1 == 0) = m.r := by
    by_cases e : bitI (flI m 6) 1 = 1
    · obtain ⟨_, r2⟩ := AK.read_fd (n := 5) hop.fd e (by omega) (by omega)
      rw [hop.ps] at r2
      obtain ⟨_, q2, _⟩ := r2 rfl
      rw [q2, ← p5, e]; rfl
    · have : (s1.read 1 5).2.1 = 65 := by
        unfold AK.read
        rw [AK.find_no hop.fd e, if_pos (by simp)]
      rw [this, ← p5]
      simp [e]
  have hw : (((s1.read 1 5).2.2.write 1 [1]).2.1 = 0 ∧ ((s1.read 1 5).2.2.write 1 [1]).1 = 1 ∧ m.w = true) ∨ (((s1.read 1 5).2.2.write 1 [1]).2.1 = 65 ∧ m.w = false) := by
    have hfd : ∃ at_, at_ ≤ 5 ∧ AK.FD (s1.read 1 5).2.2 1 0 cur (flI m 6) at_ ∧ (s1.read 1 5).2.2.ps = [] := by
      by_cases e : bitI (flI m 6) 1 = 1
      · obtain ⟨_, r2⟩ := AK.read_fd (n := 5) hop.fd e (by omega) (by omega)
        rw [hop.ps] at r2
        obtain ⟨q1, q2, q3, q4, _⟩ := r2 rfl
        refine ⟨_, ?_, q3, q4⟩
        have h2 := AK.read_len (s := s1) (d := 1) (n := 5) (by omega)
        rw [q1] at h2
        omega
      · have : (s1.read 1 5).2.2 = s1 := by
          unfold AK.read
          rw [AK.find_no hop.fd e, if_pos (by simp)]
        rw [this]
        exact ⟨0, by omega, hop.fd, hop.ps⟩
    obtain ⟨at_, ha, hfd, hps⟩ := hfd
    by_cases e : bitI (flI m 6) 2 = 2
    · obtain ⟨w1, w2⟩ := AK.write_one hfd e hps hcl (by omega)
      exact .inl ⟨w2, w1, by rw [← p6, e]; rfl⟩
    · exact .inr ⟨AK.write_no hfd e, by rw [← p6]; simp [e]⟩
  refine condTr2 ⟨⟨by omega, by omega⟩, nnE2 haq ⟨sl.1, sl.2.1, sl.2.2, fun wS hS => ?_, ?_⟩⟩
  · have := hS.1.2.2.2 q haq 1 (.slice sl.1 sl.2.1 sl.2.2) (by rw [hnv]; rfl)
    simpa [Lw.add_add] using this
  · refine condT (by simp [hsl]) ⟨m.r, fun wS hS => (hS.2.1.cell 0).trans rfl, onum_to ⟨_, rfl, hS35, condT (by simp [hr]) (condT (by simp; omega) ⟨m.w, fun wS hS => (hS.2.1.cell 1).trans rfl, onum_to ⟨_, rfl, hS35, ?_⟩⟩)⟩⟩
    rcases hw with ⟨e0, e1, e2⟩ | ⟨e0, e2⟩
    · rw [e0, e1, e2]; exact condTr2 ⟨rfl, hS35.2.2⟩
    · rw [e0, e2]; exact condFa2 ⟨rfl, hS35.2.2⟩

end Go.Proofs.YtkjmlbplmffekaaGreat
