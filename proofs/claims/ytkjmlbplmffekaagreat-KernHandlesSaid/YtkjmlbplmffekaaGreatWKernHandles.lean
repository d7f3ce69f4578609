/-
  A handle's calls are its kernel's: the walk. Conditions: none.
-/
import Derived.Test.YtkjmlbplmffekaaGreatKaA
import Derived.Test.YtkjmlbplmffekaaGreatKeP
import Derived.Test.YtkjmlbplmffekaaGreatKeW
import Derived.Test.YtkjmlbplmffekaaGreatKf
import Derived.Test.YtkjmlbplmffekaaGreatRt
import Derived.Test.YtkjmlbplmffekaaGreatPt
import Derived.Test.YtkjmlbplmffekaaGreatCf
import Derived.Test.YtkjmlbplmffekaaGreatLZh
import Derived.Test.YtkjmlbplmffekaaGreatOKernHandles
set_option linter.unusedVariables false
namespace Go.Proofs.YtkjmlbplmffekaaGreat
open Go.Lw

theorem nokern_find {w : World} (d way : Int) {Q : Value → World → Prop} (h : Q (.tuple #[.pointer none, .int .i64 2]) w) : CallR Tryz.prog 92 [.pointer none, .int .i64 d, .int .i64 way] w Q := by
  refine C92 ?_
  unfold L92
  refine C87 ?_
  unfold L87
  exact condTr2 ⟨_, rfl, condTr2 h⟩

theorem nohand_read {w : World} (d n : Int) : CallR Tryz.prog 13 [.agg #[.pointer none, .int .i64 d], .int .i64 n] w fun v w' => v = .tuple #[.slice none 0 0, .int .i64 2] ∧ Kept No w w' := by
  refine C13 ?_
  unfold L13
  intro w1
  have hb1 : Blk w1 w.heap.size #[.pointer none, .int .i64 d] := Blk.alloc _ _ _
  have hk1 : Kept No w w1 := Kept.alloc _ _ _
  clear_value w1
  refine ⟨_, (hb1.cell 0).trans rfl, _, (hb1.cell 1).trans rfl, C20 ?_⟩
  unfold L20
  exact nokern_find _ _ ⟨_, _, rfl, condTr2 ⟨_, _, _, _, rfl, rfl, hk1⟩⟩

theorem nohand_write {w : World} (d : Int) (a : Option Addr) (l c : Nat) : CallR Tryz.prog 14 [.agg #[.pointer none, .int .i64 d], .slice a l c] w fun v w' => v = .tuple #[.int .i64 0, .int .i64 2] ∧ Kept No w w' := by
  refine C14 ?_
  unfold L14
  intro w1
  have hb1 : Blk w1 w.heap.size #[.pointer none, .int .i64 d] := Blk.alloc _ _ _
  have hk1 : Kept No w w1 := Kept.alloc _ _ _
  clear_value w1
  refine ⟨_, (hb1.cell 0).trans rfl, _, (hb1.cell 1).trans rfl, C22 ?_⟩
  unfold L22
  exact nokern_find _ _ ⟨_, _, rfl, condTr2 ⟨_, _, rfl, rfl, hk1⟩⟩

theorem nohand_seek {w : World} (d off wh : Int) : CallR Tryz.prog 15 [.agg #[.pointer none, .int .i64 d], .int .i64 off, .int .i64 wh] w fun v w' => v = .tuple #[.int .i64 0, .int .i64 2] ∧ Kept No w w' := by
  refine C15 ?_
  unfold L15
  intro w1
  have hb1 : Blk w1 w.heap.size #[.pointer none, .int .i64 d] := Blk.alloc _ _ _
  have hk1 : Kept No w w1 := Kept.alloc _ _ _
  clear_value w1
  refine ⟨_, (hb1.cell 0).trans rfl, _, (hb1.cell 1).trans rfl, C23 ?_⟩
  unfold L23
  exact nokern_find _ _ ⟨_, _, rfl, condTr2 ⟨_, _, rfl, rfl, hk1⟩⟩

set_option maxHeartbeats 8000000 in
theorem walk_kernHandles {W : World} {args : List Value} (h : V3 W args) : CallR Tryz.prog 3 args W fun v w' => v = .bool true ∧ Kept No W w' := by
  obtain ⟨a1, l1, c1, h1, h2, h3, h4, a2, l2, c2, g1, g2, g3, g4, a3, l3, c3, k1, k2, k3, k4, a4, l4, c4, s1, s2, s3, s4, n5, _, rfl⟩ := h
  obtain ⟨fs, ts, ps, hset⟩ := setup_of_view h1 h2 h3 h4 g1 g2 g3 g4 k1 k2 k3 k4
  obtain ⟨xs, hst⟩ := steps_of_view s1 s2 s4
  have hl4b : l4 * 72 ≤ 140737488351232 := s3
  refine C3 ?_
  unfold L3
  intro w1
  have hb1 : Blk w1 W.heap.size #[.slice a1 l1 c1, .slice a2 l2 c2, .slice a3 l3 c3] := Blk.alloc _ _ _
  have hk1 : Kept No W w1 := Kept.alloc _ _ _
  clear_value w1
  refine CallR.mono alive6_ok ?_
  rintro v w2 ⟨rfl, hk2⟩
  have hb2 := hb1.keep hk2 fun e => e
  refine ⟨_, rfl, condFa2 ?_⟩
  intro w3
  have hn3 : Blk w3 w2.heap.size #[.pointer none, .int .i64 0] := Blk.alloc _ _ _
  have hk3 : Kept No w2 w3 := Kept.alloc _ _ _
  clear_value w3
  refine stC_blk hn3 (by simp) fun w4 hn4 hk4 _ => stC_blk hn4 (by simp) fun w5 hn5 hk5 _ => ?_
  have hn5 : Blk w5 w2.heap.size #[.pointer none, .int .i64 n5] := hn5
  have k25 : Kept No w2 w5 := (hk3.fresh hk4 fun x e => by omega).fresh hk5 fun x e => by omega
  have hb5 := hb2.keep k25 fun e => e
  have k5 : Kept No W w5 := (hk1.no hk2).no k25
  clear hk3 hk4 hk5 hn3 hn4
  refine ⟨_, _, (hn5.cell 0).trans rfl, (hn5.cell 1).trans rfl, CallR.mono (nohand_read _ _) ?_⟩
  rintro v w6 ⟨rfl, hk6⟩
  have hn6 := hn5.keep hk6 fun e => e
  refine ⟨_, _, _, _, rfl, _, _, (hn6.cell 0).trans rfl, (hn6.cell 1).trans rfl, ?_⟩
  intro w7
  have hk7 : Kept No w6 w7 := Kept.alloc _ _ _
  clear_value w7
  refine CallR.mono (nohand_write _ _ _ _) ?_
  rintro v w8 ⟨rfl, hk8⟩
  have hn8 := (hn6.keep hk7 fun e => e).keep hk8 fun e => e
  refine ⟨_, _, rfl, _, _, (hn8.cell 0).trans rfl, (hn8.cell 1).trans rfl, CallR.mono (nohand_seek _ _ _) ?_⟩
  rintro v w12 ⟨rfl, hk12⟩
  have k12 : Kept No w5 w12 := ((hk6.no hk7).no hk8).no hk12
  have kk12 := k5.no k12
  have hb12 := hb5.keep k12 fun e => e
  refine ⟨_, _, rfl, lnum_to ⟨_, rfl, condFa2 (lnum_to ⟨_, rfl, condFa2 (lnum_to ⟨_, rfl, condFa2 ?_⟩)⟩)⟩⟩
  refine ⟨_, _, _, _, _, _, _, _, _, (hb12.cell 0).trans rfl, (hb12.cell 1).trans rfl, (hb12.cell 2).trans rfl, CallR.mono (config_ok (hset.no kk12)) ?_⟩
  rintro v w13 ⟨af, cf, at_, ct, ap, cp, rfl, hk13, hset13⟩
  obtain ⟨ef, hef⟩ := hset13.ef
  obtain ⟨et, het⟩ := hset13.et
  have q1 := hset13.lf
  have q2 := hset13.lt
  refine ⟨_, _, _, _, _, _, _, _, _, rfl, CallR.mono (kernNew_ok hef het hset13.pp (by omega) (by omega)) ?_⟩
  rintro v w14 ⟨hk14, hv14⟩
  have k14 := (kk12.no hk13).no hk14
  have hb14 := (hb12.keep hk13 fun e => e).keep hk14 fun e => e
  have hset14 := hset.no k14
  obtain ⟨p36, n37, rfl, hr36⟩ : ∃ (p : Option Addr) (n : Int), v = .tuple #[.pointer p, .int .i64 n] ∧ ((checkK fs ts ps ≠ 0 ∧ p = none ∧ n = checkK fs ts ps) ∨ (checkK fs ts ps = 0 ∧ n = 0 ∧ ∃ gk L, p = some ⟨gk, 0, none⟩ ∧ KernO w14 gk (AK.new fs ts ps) L ∧ ∀ z, L.own z ≠ none → w13.heap.size ≤ z)) := by
    rcases hv14 with ⟨a, rfl⟩ | ⟨a, gk, L, rfl, b, c⟩
    · exact ⟨_, _, rfl, .inl ⟨a, rfl, rfl⟩⟩
    · exact ⟨_, _, rfl, .inr ⟨a, rfl, gk, L, rfl, b, c⟩⟩
  clear hv14
  refine ⟨_, _, rfl, _, _, _, _, _, _, _, _, _, (hb14.cell 0).trans rfl, (hb14.cell 1).trans rfl, (hb14.cell 2).trans rfl, CallR.mono (config_ok hset14) ?_⟩
  rintro v w15 ⟨af', cf', at', ct', ap', cp', rfl, hk15, hset15⟩
  obtain ⟨ef', hef'⟩ := hset15.ef
  obtain ⟨et', het'⟩ := hset15.et
  have q1' := hset15.lf
  have q2' := hset15.lt
  refine ⟨_, _, _, _, _, _, _, _, _, rfl, CallR.mono (kernNew_ok hef' het' hset15.pp (by omega) (by omega)) ?_⟩
  rintro v w16 ⟨hk16, hv16⟩
  have k16 := (k14.no hk15).no hk16
  rcases hr36 with ⟨hck, rfl, rfl⟩ | ⟨hck, rfl, gk, L, rfl, hK14, hnL⟩
  · rcases hv16 with ⟨_, rfl⟩ | ⟨hck', _⟩
    · exact ⟨_, _, rfl, condF (by simp) (condTr2 (condT (by simp) (condTr2 ⟨rfl, k16⟩)))⟩
    · exact absurd hck' hck
  rcases hv16 with ⟨hck', _⟩ | ⟨_, gm, M, rfl, hM16, hnM⟩
  · exact absurd hck hck'
  refine ⟨_, _, rfl, condFa2 (condFa2 (condFa2 ?_))⟩
  have hT : Two W w16 gk gm (AK.new fs ts ps) (AK.new fs ts ps) L M := ⟨(hK14.no hk15).no hk16, hM16, fun z hz => by
      cases ho : M.own z with
      | none => rfl
      | some t =>
        have a := hnM z (by rw [ho]; simp)
        have b := hK14.lt z hz
        have c := hk15.size
        omega, fun z hz => by have := hnL z hz; have := (kk12.no hk13).size; omega, fun z hz => by have := hnM z hz; have := (k14.no hk15).size; omega, k16⟩
  clear hK14 hnL hnM hM16
  obtain ⟨I, hI⟩ : ∃ I : List Value → World → Prop, I = fun vs w' => ∃ (i : Nat) (s : AK) (L M : KL), vs = [.int .i64 (i : Int)] ∧ i ≤ l4 ∧ s.next ≤ 1 + 2 * (i : Int) ∧ s.c0 ≤ (i : Int) ∧ s.c1 ≤ (i : Int) ∧ Two W w' gk gm s s L M := ⟨_, rfl⟩
  obtain ⟨mu, hmu⟩ : ∃ mu : List Value → World → Nat, mu = fun vs _ => l4 - ix vs := ⟨_, rfl⟩
  refine ⟨I, mu, by rw [hI]; exact ⟨0, _, L, M, rfl, by omega, by rw [(AK.new_is _ _ _).2.2.2.1]; omega, by rw [(AK.new_is _ _ _).2.2.2.2.2.1]; omega, by rw [(AK.new_is _ _ _).2.2.2.2.2.2]; omega, hT⟩, ?_⟩
  clear hT hset15 hef' het' hset14 hef het hset13 q1 q2 q1' q2'
  clear L M
  intro _ n23 w17 hInv
  rw [hI] at hInv
  obtain ⟨i, s, L, M, hvs, hi, hnx, hc0, hc1, h17⟩ := hInv
  simp only [List.cons.injEq, Value.int.injEq, true_and, and_true] at hvs
  subst hvs
  refine condP (fun hlt => ?_) (fun hge => ?_)
  · have hil : i < xs.length := by rw [hst.1]; omega
    obtain ⟨q, haq, hx⟩ := (hst.no h17.kp).2 i hil
    refine ⟨⟨by omega, by omega⟩, nnE2 haq ⟨_, _, _, _, _, _, _, _, by rw [Int.toNat_natCast]; exact hx.e0, by rw [Int.toNat_natCast]; exact hx.e1, by rw [Int.toNat_natCast]; exact hx.e2, by rw [Int.toNat_natCast]; exact hx.e3, by rw [Int.toNat_natCast]; exact hx.e4, by rw [Int.toNat_natCast]; exact hx.e5, ?_⟩⟩
    refine newSix fun w24 hb24 hk24 => ⟨_, (hb24.cell 0).trans rfl, ?_⟩
    have h24 := h17.no hk24
    have hnk : L.own w17.heap.size = none := none_new h17.hk (Nat.le_refl _)
    have hold : ∀ {w' : World}, Kept No W w' → RdB w' xs[i].sl.1 xs[i].sl.2.1 xs[i].sl.2.2 xs[i].bs := fun k => by
      obtain ⟨_, _, hx0⟩ := hst.2 i hil
      exact hx0.rd.keep k fun _ _ _ e => e
    have hlow : xs[i].bs ≠ [] → ∀ k, inA xs[i].sl.1 k → k < W.heap.size := fun hne k hk => by
      obtain ⟨_, _, hx0⟩ := hst.2 i hil
      exact RdS.old hx0.rd (fun e => hne (By_inj (b := []) e)) k hk
    have fin : ∀ {w' : World} {s' : AK} {L' M' : KL}, Two W w' gk gm s' s' L' M' → s'.next ≤ 1 + 2 * ((i : Int) + 1) → s'.c0 ≤ (i : Int) + 1 → s'.c1 ≤ (i : Int) + 1 → inI ((i : Int) + 1) ∧ I [.int .i64 ((i : Int) + 1)] w' ∧ mu [.int .i64 ((i : Int) + 1)] w' < mu [.int .i64 (i : Int)] w17 := by
      intro w' s' L' M' hT b1 b2 b3
      refine ⟨⟨by omega, by omega⟩, ?_, ?_⟩
      · rw [hI]
        exact ⟨i + 1, s', L', M', rfl, by omega, by omega, by omega, by omega, hT⟩
      · rw [hmu]; simp only [ix]; omega
    refine condI (fun _ => ⟨_, (hb24.cell 1).trans rfl, _, (hb24.cell 2).trans rfl, CallR.mono (kernOpen_ok h24.hk _ _ (by omega)) ?_⟩) (fun _ => condI (fun _ => ⟨_, (hb24.cell 2).trans rfl, _, (hb24.cell 3).trans rfl, CallR.mono (hread_ok h24.hk _ _ (by omega)) ?_⟩) (fun _ => condI (fun _ => ⟨_, (hb24.cell 2).trans rfl, _, _, _, (hb24.cell 5).trans rfl, CallR.mono (hwrite_ok h24.hk _ (hold h24.kp) ?_ (by omega)) ?_⟩) (fun _ => condI (fun _ => ⟨_, (hb24.cell 2).trans rfl, _, (hb24.cell 3).trans rfl, _, (hb24.cell 4).trans rfl, CallR.mono (hseek_ok h24.hk _ _ _) ?_⟩) (fun _ => fin h24 (by omega) (by omega) (by omega)))))
    · rintro v w25 ⟨rfl, L', h', st⟩
      have h25 := h24.first h' st
      have hb25 := hb24.keep st.kept fun e => e hnk
      refine ⟨_, _, rfl, _, (hb25.cell 1).trans rfl, _, (hb25.cell 2).trans rfl, CallR.mono (kernOpen_ok h25.hm _ _ (by omega)) ?_⟩
      rintro v w26 ⟨rfl, M', h'', st'⟩
      obtain ⟨o1, o2, o3, o4⟩ := AK.open_cs s xs[i].nm xs[i].a
      exact ⟨_, _, rfl, fin (h25.second h'' st') (by omega) (by omega) (by omega)⟩
    · rintro v w25 ⟨a, l, c, L', rfl, ho, hf, h', st, _⟩
      have h25 := h24.first h' st
      have hb25 := hb24.keep st.kept fun e => e hnk
      refine ⟨_, _, _, _, rfl, _, (hb25.cell 2).trans rfl, _, (hb25.cell 3).trans rfl, CallR.mono (kernRead_ok h25.hm _ _ (by omega)) ?_⟩
      rintro v w26 ⟨a', l', c', M', rfl, ho', hf', h'', st', _⟩
      have h26 := h25.second h'' st'
      have ho26 := ho.keep st'.kept fun b hb e => by have := hf b hb; have := h24.hm.lt b e; omega
      obtain ⟨o1, o2, o3, o4, _⟩ := AK.read_cs s xs[i].a xs[i].b
      have hln : l ≤ 140737488355328 := by
        have h1 := ho.rd.len
        have h2 := AK.read_bound s xs[i].a xs[i].b
        omega
      refine ⟨_, _, _, _, rfl, CallR.mono (same_ok ho26.rd ho'.rd hln) ?_⟩
      rintro v w27 ⟨rfl, hk27, _⟩
      exact ⟨_, rfl, condF (by simp) (condF (by simp) (fin (h26.no hk27) (by omega) (by omega) (by omega)))⟩
    · exact fun hne k hk => (h24.old (hlow hne k hk)).1
    · rintro v w25 ⟨rfl, L', h', st⟩
      have h25 := h24.first h' st
      have hb25 := hb24.keep st.kept fun e => e hnk
      refine ⟨_, _, rfl, _, (hb25.cell 2).trans rfl, _, _, _, (hb25.cell 5).trans rfl, CallR.mono (kernWrite_ok h25.hm _ (hold h25.kp) (fun hne k hk => (h25.old (hlow hne k hk)).2) (by omega)) ?_⟩
      rintro v w26 ⟨rfl, M', h'', st'⟩
      obtain ⟨o1, o2, o3, o4, _⟩ := AK.write_cs s xs[i].a xs[i].bs
      exact ⟨_, _, rfl, condF (by simp) (condF (by simp) (fin (h25.second h'' st') (by omega) (by omega) (by omega)))⟩
    · rintro v w25 ⟨rfl, L', h', st⟩
      have h25 := h24.first h' st
      have hb25 := hb24.keep st.kept fun e => e hnk
      refine ⟨_, _, rfl, _, (hb25.cell 2).trans rfl, _, (hb25.cell 3).trans rfl, _, (hb25.cell 4).trans rfl, CallR.mono (kernSeek_ok h25.hm _ _ _) ?_⟩
      rintro v w26 ⟨rfl, M', h'', st'⟩
      obtain ⟨o1, o2, o3⟩ := AK.seek_cs s xs[i].a xs[i].b xs[i].c
      exact ⟨_, _, rfl, condF (by simp) (condF (by simp) (fin (h25.second h'' st') (by omega) (by omega) (by omega)))⟩
  · refine CallR.mono (kernFiles_ok h17.hk) ?_
    rintro v w34 ⟨a, l, c, es, rfl, hf, hk34⟩
    have h34 := h17.no hk34
    refine ⟨_, _, _, rfl, CallR.mono (kernFiles_ok h34.hm) ?_⟩
    rintro v w35 ⟨a', l', c', es', rfl, hf', hk35⟩
    refine ⟨_, _, _, rfl, CallR.mono (same_files (h34.no hk35).hk (hf.no hk35) hf') ?_⟩
    rintro v w36 ⟨rfl, hk36⟩
    exact ⟨_, rfl, by rw [decide_eq_true rfl], ((h34.no hk35).no hk36).kp⟩

end Go.Proofs.YtkjmlbplmffekaaGreat
