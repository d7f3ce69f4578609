/-
  Seek, Keep, Drop, CanWrite, Held. Conditions: as each says.
-/
import Derived.Test.YtbiofmgebbdflaaKeK
set_option linter.unusedVariables false
namespace Go.Proofs.Ytbiofmgebbdflaa
open Go.Lw

theorem canwrite_ok {w : World} {gk : Nat} {s : AK} {L : KL} (h : KernO w gk s L) (d n : Int) : CallR Try.prog 49 [pd gk, .int .i64 d, .int .i64 n] w fun v w' => v = .bool (s.canWrite d n) ∧ Kept No w w' := by
  refine C49 ?_
  unfold L49
  refine CallR.mono (find_ok h d 2) ?_
  unfold AK.canWrite
  rintro v w1 ⟨rfl, ⟨hne, rfl⟩ | ⟨he, x, hx, rfl⟩⟩
  · refine ⟨_, _, rfl, condN (fun _ => ⟨?_, Kept.refl _ _⟩) (fun e => absurd e hne)⟩
    rw [if_pos (.inl hne)]
  · refine ⟨_, _, rfl, condN (fun e => absurd rfl e) (fun _ => condP (fun h1 => ⟨by rw [if_pos (.inr (.inl h1))], Kept.refl _ _⟩) (fun h1 => condP (fun h2 => ⟨by rw [if_pos (.inr (.inr h2))], Kept.refl _ _⟩) (fun h2 => ?_)))⟩
    refine nnI ⟨_, Blk.at0 (h.ofD hx) rfl, _, _, _, tv_room (s.objs x.ob).kd (L.loc x.ob) #[pd (L.dloc d), .int .i64 n] _, CallR.mono (roomO_ok h hx n) ?_⟩
    rintro v w3 ⟨rfl, hk3⟩
    refine ⟨_, _, rfl, ?_, hk3⟩
    have hnr : ¬ (s.find d 2 ≠ 0 ∨ n < 1 ∨ n > 1048576) := by omega
    rw [if_neg hnr, hx]
    dsimp only
    congr 1
    by_cases e : (s.roomO x n).2 = 52
    · rw [e]; simp
    · rw [show ((s.roomO x n).2 != 52) = true by simpa using e]; simp [e]

theorem kernHeld_ok {w : World} {gk : Nat} {s : AK} {L : KL} (h : KernO w gk s L) (d : Int) : CallR Try.prog 21 [pd gk, .int .i64 d] w fun v w' => ∃ a l c, v = .slice a l c ∧ OB w' a l c (s.held d) ∧ Fresh w a ∧ Kept No w w' := by
  refine C21 ?_
  unfold L21
  refine CallR.mono (find_ok h d 0) ?_
  unfold AK.held
  rintro v w1 ⟨rfl, ⟨hne, rfl⟩ | ⟨he, x, hx, rfl⟩⟩
  · refine ⟨_, _, rfl, condN (fun _ => ⟨none, 0, 0, rfl, ?_, Fresh.none _, Kept.refl _ _⟩) (fun e => absurd e hne)⟩
    rw [if_pos hne]; exact OB.nil _
  · rw [if_neg (fun e => e he), hx]
    dsimp -zeta only
    refine ⟨_, _, rfl, condN (fun e => absurd rfl e) (fun _ => nnI ⟨_, Blk.at0 (h.ofD hx) rfl, ?_⟩)⟩
    have ht := tv_con (s.objs x.ob).kd (L.loc x.ob) w1
    have hO := h.ofO hx
    cases ho : s.objs x.ob with
    | file bs =>
      rw [ho] at ht
      refine ⟨_, _, _, ht, ?_⟩
      intro w3
      have hb3 : Blk w3 w1.heap.size #[.pointer none] := Blk.alloc _ _ _
      have hk3 : Kept No w1 w3 := Kept.alloc _ _ _
      clear_value w3
      exact stC_blk hb3 (by simp) fun w4 hb4 hk4 _ => condTr2 ⟨none, 0, 0, rfl, OB.nil _, Fresh.none _, hk3.fresh hk4 (fun x e => by omega)⟩
    | term LL scr =>
      rw [ho] at ht
      refine ⟨_, _, _, ht, ?_⟩
      intro w3
      have hb3 : Blk w3 w1.heap.size #[.pointer none] := Blk.alloc _ _ _
      have hk3 : Kept No w1 w3 := Kept.alloc _ _ _
      clear_value w3
      exact stC_blk hb3 (by simp) fun w4 hb4 hk4 _ => condTr2 ⟨none, 0, 0, rfl, OB.nil _, Fresh.none _, hk3.fresh hk4 (fun x e => by omega)⟩
    | pipe bs e0 e1 =>
      rw [ho] at ht hO
      refine ⟨_, _, _, ht, ?_⟩
      intro w3
      have hb3 : Blk w3 w1.heap.size #[.pointer none] := Blk.alloc _ _ _
      have hk3 : Kept No w1 w3 := Kept.alloc _ _ _
      clear_value w3
      refine stC_blk hb3 (by simp) fun w4 hb4 hk4 _ => condFa2 ?_
      have hb4 : Blk w4 w1.heap.size #[.pointer (some ⟨L.loc x.ob, 0, none⟩)] := by simpa using hb4
      have k4 : Kept No w1 w4 := hk3.fresh hk4 (fun x e => by omega)
      refine ⟨_, (hb4.cell 0).trans rfl, CallR.mono (kheld_ok (hO.1.keep k4 (fun e => e))) ?_⟩
      rintro v w5 ⟨a, c, rfl, ob, hf, hk5⟩
      have hz := k4.size
      exact ⟨_, _, _, rfl, a, _, c, rfl, ob, fun b hb => by have := hf b hb; omega, k4.no hk5⟩

theorem kernKeep_ok {w : World} {gk : Nat} {s : AK} {L : KL} (h : KernO w gk s L) (d : Int) : CallR Try.prog 40 [pd gk, .int .i64 d] w fun v w' => v = .int .i64 (s.keep d).1 ∧ ∃ L', KernO w' gk (s.keep d).2 L' ∧ KStep w w' L L' := by
  refine C40 ?_
  unfold L40
  refine CallR.mono (find_ok h d 0) ?_
  unfold AK.keep
  rintro v w1 ⟨rfl, ⟨hne, rfl⟩ | ⟨he, x, hx, rfl⟩⟩
  · refine ⟨_, _, rfl, condN (fun _ => ?_) (fun e => absurd e hne)⟩
    rw [if_pos hne]; exact ⟨rfl, L, h, KStep.refl _ _⟩
  · rw [if_neg (fun e => e he), hx]
    dsimp -zeta only
    have hD := h.ofD hx
    have hr := h.ok.di x (AK.desc_some hx).1
    refine ⟨_, _, rfl, condN (fun e => absurd rfl e) (fun _ => nnI ⟨_, Blk.at hD (i := 3) rfl, condP (fun h1 => ?_) (fun h1 => nnI ⟨_, Blk.at hD (i := 3) rfl, ⟨by omega, by omega⟩, nnI (stC_at hD (i := 3) (by simp) fun w2 hb2 hk2 hs2 => ?_)⟩)⟩)⟩
    · rw [if_pos h1]; exact ⟨rfl, L, h, KStep.refl _ _⟩
    · rw [if_neg h1]
      obtain ⟨L', h', st, _, _, hnw⟩ := h.descStep hx hk2 (at' := x.at_) (hd' := x.hd + 1) hb2 ⟨hr.2.1, hr.2.2.1, by omega, by omega⟩
      exact ⟨rfl, L', h', st⟩

theorem kernSeek_ok {w : World} {gk : Nat} {s : AK} {L : KL} (h : KernO w gk s L) (d off wh : Int) : CallR Try.prog 41 [pd gk, .int .i64 d, .int .i64 off, .int .i64 wh] w fun v w' => v = .tuple #[.int .i64 (s.seek d off wh).1, .int .i64 (s.seek d off wh).2.1] ∧ ∃ L', KernO w' gk (s.seek d off wh).2.2 L' ∧ KStep w w' L L' := by
  refine C41 ?_
  unfold L41
  refine CallR.mono (find_ok h d 0) ?_
  unfold AK.seek
  rintro v w1 ⟨rfl, ⟨hne, rfl⟩ | ⟨he, x, hx, rfl⟩⟩
  · refine ⟨_, _, rfl, condN (fun _ => ?_) (fun e => absurd e hne)⟩
    rw [if_pos hne]; exact ⟨rfl, L, h, KStep.refl _ _⟩
  · rw [if_neg (fun e => e he), hx]
    dsimp -zeta only
    refine ⟨_, _, rfl, condN (fun e => absurd rfl e) (fun _ => nnI ⟨_, Blk.at0 (h.ofD hx) rfl, ?_⟩)⟩
    have ht := tv_disk (s.objs x.ob).kd (L.loc x.ob) w1
    have hO := h.ofO hx
    have hD := h.ofD hx
    have hr := h.ok.di x (AK.desc_some hx).1
    cases ho : s.objs x.ob with
    | term LL scr =>
      rw [ho] at ht
      refine ⟨_, _, _, ht, ?_⟩
      intro w3
      have hb3 : Blk w3 w1.heap.size #[.pointer none] := Blk.alloc _ _ _
      have hk3 : Kept No w1 w3 := Kept.alloc _ _ _
      clear_value w3
      refine stC_blk hb3 (by simp) fun w4 hb4 hk4 _ => condTr2 ?_
      have k4 : Kept No w1 w4 := hk3.fresh hk4 (fun x e => by omega)
      exact ⟨rfl, L, h.no k4, .of_no k4⟩
    | pipe bs e0 e1 =>
      rw [ho] at ht
      refine ⟨_, _, _, ht, ?_⟩
      intro w3
      have hb3 : Blk w3 w1.heap.size #[.pointer none] := Blk.alloc _ _ _
      have hk3 : Kept No w1 w3 := Kept.alloc _ _ _
      clear_value w3
      refine stC_blk hb3 (by simp) fun w4 hb4 hk4 _ => condTr2 ?_
      have k4 : Kept No w1 w4 := hk3.fresh hk4 (fun x e => by omega)
      exact ⟨rfl, L, h.no k4, .of_no k4⟩
    | file bs =>
      rw [ho] at ht hO
      refine ⟨_, _, _, ht, ?_⟩
      intro w3
      have hb3 : Blk w3 w1.heap.size #[.pointer none] := Blk.alloc _ _ _
      have hk3 : Kept No w1 w3 := Kept.alloc _ _ _
      clear_value w3
      refine stC_blk hb3 (by simp) fun w4 hb4 hk4 _ => condFa2 ?_
      have hb4 : Blk w4 w1.heap.size #[.pointer (some ⟨L.loc x.ob, 0, none⟩)] := by simpa using hb4
      have k4 : Kept No w1 w4 := hk3.fresh hk4 (fun x e => by omega)
      have bad : ∀ e : Int, (.tuple #[.int .i64 0, .int .i64 e] : Value) = .tuple #[.int .i64 0, .int .i64 e] ∧ ∃ L', KernO w4 gk s L' ∧ KStep w1 w4 L L' := fun e => ⟨rfl, L, h.no k4, .of_no k4⟩
      dsimp only
      refine condP (fun h1 => ?_) (fun h1 => condP (fun h2 => ?_) (fun h2 => ?_))
      · rw [if_pos (.inl h1)]; exact bad 1
      · rw [if_pos (.inr h2)]; exact bad 1
      have hnw : ¬ (wh < 0 ∨ wh > 2) := by omega
      rw [if_neg hnw]
      have hO : FileO _ w1 (L.loc x.ob) bs := hO
      have hlen := hO.len
      refine ⟨fun wS => Kept No w4 wS, Kept.drew _ _, ?_⟩
      have hk5 : Kept No w4 w4.drew := Kept.drew _ _
      generalize w4.drew = w5 at hk5 ⊢
      have hD4 := Blk.keep hD k4 (fun e => e)
      refine nnI ⟨_, fun wS hS => (Blk.keep hD4 hS (fun e => e)).at (i := 2) rfl, _, fun wS hS => ((hb4.keep hS (fun e => e)).cell 0).trans rfl, CallR.mono (size_ok ((hO.keep k4 (fun _ _ e => e)).keep hk5 (fun _ _ e => e))) ?_⟩
      rintro v w6 ⟨rfl, rfl⟩
      have k6 : Kept No w1 w6 := k4.no hk5
      refine ⟨_, rfl, hk5, ⟨by omega, by omega⟩, ?_⟩
      obtain ⟨base, hbase, hget, hb0, hb1⟩ : ∃ base : Int, base = (if wh = 0 then 0 else if wh = 1 then x.at_ else (bs.length : Int)) ∧ (#[.int .i64 0, .int .i64 x.at_, .int .i64 (bs.length : Int)] : Array Value)[Int.toNat wh]? = some (.int .i64 base) ∧ 0 ≤ base ∧ base ≤ 1048576 := by
        by_cases e0 : wh = 0
        · subst e0; exact ⟨0, rfl, rfl, by omega, by omega⟩
        · by_cases e1 : wh = 1
          · subst e1; exact ⟨x.at_, rfl, rfl, by omega, by omega⟩
          · obtain rfl : wh = 2 := by omega
            exact ⟨_, rfl, rfl, by omega, by omega⟩
      rw [← hbase]
      have hK6 := h.no k6
      refine ⟨base, hget, ⟨by omega, by omega⟩, condP (fun h3 => ?_) (fun h3 => ⟨⟨by omega, by omega⟩, condP (fun h4 => ?_) (fun h4 => ⟨⟨by omega, by omega⟩, ?_⟩)⟩)⟩
      · rw [if_pos (.inl (by omega))]; exact ⟨rfl, L, hK6, .of_no k6⟩
      · rw [if_pos (.inr (by omega))]; exact ⟨rfl, L, hK6, .of_no k6⟩
      · have : ¬ (off < -base ∨ off > 1048576 - base) := by omega
        rw [if_neg this]
        have hD6 := hK6.ofD hx
        refine nnI (stC_at hD6 (i := 2) (by simp) fun w7 hb7 hk7 hs7 => nnI ⟨_, hb7.at (i := 2) rfl, ?_⟩)
        obtain ⟨L', h', st, _, _, hnw⟩ := hK6.descStep hx hk7 (at' := base + off) (hd' := x.hd) (by rw [ho] at hb7 ⊢; exact hb7) ⟨by omega, by omega, hr.2.2.2.1, hr.2.2.2.2.1⟩
        exact ⟨rfl, L', h', st.fresh k6⟩

theorem dropF_ok {w : World} {k : TK} (hk : k ≠ .con) (b bd : Nat) : CallR Try.prog (dropF k) [ag b, pd bd] w fun v w' => v = .tuple #[] ∧ Kept No w w' := by
  cases k
  · exact C209 ⟨rfl, Kept.alloc _ _ _⟩
  · exact C203 ⟨rfl, Kept.alloc _ _ _⟩
  · exact absurd rfl hk

theorem filter_split {l1 l2 : List AD} {x : AD} {d : Int} (hn : ((l1 ++ x :: l2).map (·.num)).Nodup) (hx : x.num = d) : (l1 ++ x :: l2).filter (fun y => decide (y.num ≠ d)) = l1 ++ l2 := by
  rw [List.map_append, List.map_cons, List.nodup_append] at hn
  obtain ⟨_, h2, h3⟩ := hn
  rw [List.nodup_cons] at h2
  rw [List.filter_append, List.filter_cons_of_neg (by simp [hx]), List.filter_eq_self.2, List.filter_eq_self.2]
  · intro y hy
    simp only [ne_eq, decide_not, Bool.not_eq_eq_eq_not, Bool.not_true, decide_eq_false_iff_not]
    intro e
    exact h2.1 (List.mem_map.2 ⟨y, hy, by rw [e, hx]⟩)
  · intro y hy
    simp only [ne_eq, decide_not, Bool.not_eq_eq_eq_not, Bool.not_true, decide_eq_false_iff_not]
    intro e
    exact h3 y.num (List.mem_map.2 ⟨y, hy, rfl⟩) x.num (by simp) (by rw [e, hx])

theorem kernDrop_ok {w : World} {gk : Nat} {s : AK} {L : KL} (h : KernO w gk s L) (d : Int) : CallR Try.prog 47 [pd gk, .int .i64 d] w fun v w' => v = .int .i64 (s.drop d).1 ∧ ∃ L', KernO w' gk (s.drop d).2 L' ∧ KStep w w' L L' := by
  refine C47 ?_
  unfold L47
  refine CallR.mono (find_ok h d 0) ?_
  unfold AK.drop
  rintro v w1 ⟨rfl, ⟨hne, rfl⟩ | ⟨he, x, hx, rfl⟩⟩
  · refine ⟨_, _, rfl, condN (fun _ => ?_) (fun e => absurd e hne)⟩
    rw [if_pos hne]; exact ⟨rfl, L, h, KStep.refl _ _⟩
  · rw [if_neg (fun e => e he), hx]
    dsimp -zeta only
    have hD := h.ofD hx
    have hr := h.ok.di x (AK.desc_some hx).1
    have hod := h.ownD hx
    refine ⟨_, _, rfl, condN (fun e => absurd rfl e) (fun _ => nnI ⟨_, Blk.at hD (i := 3) rfl, ⟨by omega, by omega⟩, nnI (stC_at hD (i := 3) (by simp) fun w2 hb2 hk2 hs2 => nnI ⟨_, hb2.at (i := 3) rfl, ?_⟩)⟩)⟩
    refine condI (fun h1 => ?_) (fun h1 => ?_)
    · have h1 : x.hd - 1 = 0 := by simpa using h1
      rw [if_pos (by omega)]
      have hT : Try.prog.underlying 103 = some (.map 3 125) := by kernel_rfl
      have hI : Try.prog.underlying 3 = some (.int .i64) := by kernel_rfl
      have hne : gk ≠ L.dloc d := fun e => by have := h.oK; rw [e, hod] at this; cases this
      have hb2' := h.blk.keep hk2 hne
      have hrd : L.rd ≠ L.dloc d := fun e => by have := h.oD; rw [e, hod] at this; cases this
      obtain ⟨hxm, hxn⟩ := AK.desc_some hx
      obtain ⟨l1, l2, hl⟩ := List.append_of_mem hxm
      have hmD : s.mD L = l1.map (fun d => (Value.int .i64 d.num, pd (L.dloc d.num))) ++ (.int .i64 d, pd (L.dloc d)) :: l2.map (fun d => (Value.int .i64 d.num, pd (L.dloc d.num))) := by
        unfold AK.mD
        rw [hl, List.map_append, List.map_cons, hxn]
      obtain ⟨w3, hrun, hm3, hk3, hs3⟩ := delete_in hT hI (h.md.keep hk2 hrd) (k := .int .i64 d) rfl hmD 0
      refine nnI ⟨_, hb2'.at (i := 3) rfl, w3, hrun, ?_⟩
      have kA : Kept (fun z => z = L.rd ∨ z = L.dloc d) w1 w3 := (hk2.mono fun _ _ e => .inr e).trans hk3 fun _ _ e => .inl e
      have hdel : (s.delD d).mD L = l1.map (fun d => (Value.int .i64 d.num, pd (L.dloc d.num))) ++ l2.map (fun d => (Value.int .i64 d.num, pd (L.dloc d.num))) := by
        unfold AK.mD AK.delD
        dsimp only
        rw [hl, filter_split (by rw [← hl]; exact h.ok.dn) hxn, List.map_append]
      obtain ⟨h3, st3⟩ := h.delStep hx kA (by rw [hdel]; exact hm3)
      have hb3 := Blk.keep hb2 hk3 (fun e => hrd e.symm)
      refine nnI ⟨_, hb3.at0 rfl, _, _, _, tv_drop (s.objs x.ob).kd (L.loc x.ob) #[pd (L.dloc d)] _, ?_⟩
      have hi : x.ob < (s.delD d).nob := hr.1
      have hO := h3.ob x.ob hi
      unfold AK.leave
      have hob : (s.delD d).objs = s.objs := rfl
      rw [hob] at hO ⊢
      cases ho : s.objs x.ob with
      | file bs =>
        refine CallR.mono (dropF_ok (by simp [AObj.kd]) _ _) ?_
        rintro v w5 ⟨rfl, hk5⟩
        exact ⟨rfl, rfl, L, h3.no hk5, st3.no hk5⟩
      | term LL scr =>
        refine CallR.mono (dropF_ok (by simp [AObj.kd]) _ _) ?_
        rintro v w5 ⟨rfl, hk5⟩
        exact ⟨rfl, rfl, L, h3.no hk5, st3.no hk5⟩
      | pipe bs e0 e1 =>
        rw [ho] at hO hb3
        refine CallR.mono (cdrop_ok (k := .con) (o := L.loc x.ob) (fl := x.fl) (at_ := x.at_) (hd := x.hd - 1) hO.1 hb3) ?_
        rintro v w5 ⟨rfl, hO', hk5⟩
        obtain ⟨L', h', st, _, _, hnw⟩ := h3.obOnly (i := x.ob) hk5 (fun z hz => by subst hz; exact (h3.ob x.ob hi).mem) (o := .pipe bs (leaveP (bitI x.fl 2 != 0) e0 e1).2.1 (leaveP (bitI x.fl 2 != 0) e0 e1).2.2) (by rw [hob, ho]; rfl) (F := fun z => L.own z = some (.obj x.ob)) (fun z hz => .inl hz) ⟨hO', hO.2⟩
        exact ⟨rfl, rfl, L', h', st3.trans st⟩
    · have h1 : ¬ x.hd - 1 = 0 := by simpa using h1
      rw [if_neg (by omega)]
      obtain ⟨L', h', st, _, _, hnw⟩ := h.descStep hx hk2 (at' := x.at_) (hd' := x.hd - 1) hb2 ⟨hr.2.1, hr.2.2.1, by omega, by omega⟩
      exact ⟨rfl, L', h', st⟩

end Go.Proofs.Ytbiofmgebbdflaa
