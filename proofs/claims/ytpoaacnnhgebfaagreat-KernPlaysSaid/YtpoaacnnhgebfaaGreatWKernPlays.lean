/-
  A kernel of any files, terminals and faults answers any raw calls as the page's does: the walk. Conditions: none.
-/
import Derived.Test.YtpoaacnnhgebfaaGreatGkN
import Derived.Test.YtpoaacnnhgebfaaGreatOKernPlays
set_option linter.unusedVariables false
namespace Go.Proofs.YtpoaacnnhgebfaaGreat
open Go.Lw

set_option maxHeartbeats 8000000 in
theorem walk_kernPlays {W : World} {args : List Value} (h : V3 W args) : CallR Tryz.prog 3 args W fun v w' => v = .bool true ∧ Kept No W w' := by
  obtain ⟨a1, l1, c1, h1, h2, h3, h4, a2, l2, c2, g1, g2, g3, g4, a3, l3, c3, k1, k2, k3, k4, a4, l4, c4, s1, s2, s3, s4, rfl⟩ := h
  obtain ⟨fs, ts, ps, hset⟩ := setup_of_view h1 h2 h3 h4 g1 g2 g3 g4 k1 k2 k3 k4
  obtain ⟨xs, hst⟩ := steps_of_view s1 s2 s4
  have hl4b : l4 * 72 ≤ 140737488351232 := s3
  refine C3 ?_
  unfold L3
  intro w1
  have hb1 : Blk w1 W.heap.size #[.slice a1 l1 c1, .slice a2 l2 c2, .slice a3 l3 c3] := Blk.alloc _ _ _
  have hk1 : Kept No W w1 := Kept.alloc _ _ _
  clear_value w1
  refine ⟨_, _, _, _, _, _, _, _, _, (hb1.cell 0).trans rfl, (hb1.cell 1).trans rfl, (hb1.cell 2).trans rfl, CallR.mono (config_ok (hset.no hk1)) ?_⟩
  rintro v w2 ⟨af, cf, at_, ct, ap, cp, rfl, hk2, hset2⟩
  refine ⟨_, _, _, _, _, _, _, _, _, rfl, ?_⟩
  intro w3
  have hn3 : Blk w3 w2.heap.size #[.slice none 0 0, .slice none 0 0, .slice none 0 0] := Blk.alloc _ _ _
  have hk3 : Kept No w2 w3 := Kept.alloc _ _ _
  clear_value w3
  refine stC_blk hn3 (by simp) fun w4 hn4 hk4 _ => stC_blk hn4 (by simp) fun w5 hn5 hk5 _ => stC_blk hn5 (by simp) fun w6 hn6 hk6 _ => ?_
  have hn6 : Blk w6 w2.heap.size #[.slice af l1 cf, .slice at_ l2 ct, .slice ap l3 cp] := hn6
  have k26 : Kept No w2 w6 := ((hk3.fresh hk4 fun x e => by omega).fresh hk5 fun x e => by omega).fresh hk6 fun x e => by omega
  clear hk3 hk4 hk5 hk6 hn3 hn4 hn5
  have hb6 := (hb1.keep hk2 fun e => e).keep k26 fun e => e
  have k6 : Kept No W w6 := (hk1.no hk2).no k26
  have hset6 := hset2.no k26
  obtain ⟨ef, hef⟩ := hset6.ef
  obtain ⟨et, het⟩ := hset6.et
  have q1 := hset6.lf
  have q2 := hset6.lt
  generalize w2.heap.size = e2 at hn6
  refine ⟨_, _, _, _, _, _, _, _, _, (hn6.cell 0).trans rfl, (hn6.cell 1).trans rfl, (hn6.cell 2).trans rfl, CallR.mono (kernNew_ok hef het hset6.pp (by omega) (by omega)) ?_⟩
  rintro v w7 ⟨hk7, hv7⟩
  obtain ⟨p15, n16, rfl, hr⟩ : ∃ (p : Option Addr) (n : Int), v = .tuple #[.pointer p, .int .i64 n] ∧ ((checkK fs ts ps ≠ 0 ∧ p = none ∧ n = checkK fs ts ps) ∨ (checkK fs ts ps = 0 ∧ n = 0 ∧ ∃ gk L, p = some ⟨gk, 0, none⟩ ∧ KernO w7 gk (AK.new fs ts ps) L ∧ ∀ z, L.own z ≠ none → w6.heap.size ≤ z)) := by
    rcases hv7 with ⟨a, rfl⟩ | ⟨a, gk, L, rfl, b, c⟩
    · exact ⟨_, _, rfl, .inl ⟨a, rfl, rfl⟩⟩
    · exact ⟨_, _, rfl, .inr ⟨a, rfl, gk, L, rfl, b, c⟩⟩
  have hn16 : n16 = checkK fs ts ps := by
    rcases hr with ⟨_, _, e⟩ | ⟨a, e, _⟩
    · exact e
    · rw [e, a]
  clear hv7
  have hb7 := hb6.keep hk7 fun e => e
  have hn7 := hn6.keep hk7 fun e => e
  have k7 := k6.no hk7
  have hset7 := hset.no k7
  obtain ⟨ef', hef'⟩ := hset7.ef
  obtain ⟨et', het'⟩ := hset7.et
  refine ⟨_, _, rfl, _, _, _, (hb7.cell 0).trans rfl, _, _, _, (hb7.cell 1).trans rfl, _, _, _, (hb7.cell 2).trans rfl, CallR.mono (pcheck_ok hef' het' hset7.pp (by omega) (by omega)) ?_⟩
  rintro v w8 ⟨rfl, hk8⟩
  have hb8 := hb7.keep hk8 fun e => e
  have hn8 := hn7.keep hk8 fun e => e
  have k8 := k7.no hk8
  refine ⟨_, rfl, _, _, _, _, _, _, _, _, _, (hb8.cell 0).trans rfl, (hb8.cell 1).trans rfl, (hb8.cell 2).trans rfl, CallR.mono (page_ok (hset.no k8)) ?_⟩
  rintro v w9 ⟨hk9, hv9⟩
  have hn9 := hn8.keep hk9 fun e => e
  have k9 := k8.no hk9
  obtain ⟨p26, rfl, hr'⟩ : ∃ (p : Option Addr), v = .pointer p ∧ ((checkK fs ts ps ≠ 0 ∧ p = none) ∨ (checkK fs ts ps = 0 ∧ ∃ pk L tl nm, p = some ⟨pk, 0, none⟩ ∧ PagO w9 pk (AK.new fs ts ps) L tl nm ∧ ∀ z, L.own z ≠ none → w8.heap.size ≤ z)) := by
    rcases hv9 with ⟨a, rfl⟩ | ⟨a, pk, L, tl, nm, rfl, b, c⟩
    · exact ⟨_, rfl, .inl ⟨a, rfl⟩⟩
    · exact ⟨_, rfl, .inr ⟨a, pk, L, tl, nm, rfl, b, c⟩⟩
  clear hv9
  subst hn16
  have k29 := (hk7.no hk8).no hk9
  have hset9 := hset6.no k29
  obtain ⟨ef9, hef9⟩ := hset9.ef
  obtain ⟨et9, het9⟩ := hset9.et
  refine ⟨_, rfl, lnum_to ⟨_, rfl, condF (by simp) ⟨_, _, _, _, _, _, _, _, _, (hn9.cell 0).trans rfl, (hn9.cell 1).trans rfl, (hn9.cell 2).trans rfl, CallR.mono (kcheck_ok hef9 het9 hset9.pp (by omega) (by omega)) ?_⟩⟩⟩
  rintro v w12 ⟨rfl, hk12⟩
  have k12 := k9.no hk12
  refine ⟨_, rfl, lnum_to ⟨_, rfl, condF (by simp) ?_⟩⟩
  rcases hr with ⟨hck, rfl, _⟩ | ⟨hck, _, gk, L, rfl, hK7, hnL⟩
  · rcases hr' with ⟨_, rfl⟩ | ⟨hck', _⟩
    · refine condFa2 ⟨fun vs w' => vs = [.int .i64 0] ∧ Kept No W w', fun _ _ => 0, ⟨rfl, k12⟩, ?_⟩
      rintro _ n w13 ⟨hv, k13⟩
      refine condFa2 (condTr2 (CallR.mono alive6_ok ?_))
      rintro v w14 ⟨rfl, hk14⟩
      exact ⟨_, rfl, rfl, k13.no hk14⟩
    · exact absurd hck' hck
  rcases hr' with ⟨hck', _⟩ | ⟨_, pk, M, tl, nm, rfl, hP9, hnM⟩
  · exact absurd hck hck'
  refine condFa2 ?_
  have hT : Duo W w12 gk pk (AK.new fs ts ps) L M tl nm := ⟨((hK7.no hk8).no hk9).no hk12, hP9.no hk12, PInv.new _ _ _, fun z hz => by
      cases ho : M.own z with
      | none => rfl
      | some t =>
        have a := hnM z (by rw [ho]; simp)
        have b := hK7.lt z hz
        have c := hk8.size
        omega, fun z hz => by have := hnL z hz; have := k6.size; omega, fun z hz => by have := hnM z hz; have := k8.size; omega, k12⟩
  clear hK7 hnL hnM hP9
  obtain ⟨I, hI⟩ : ∃ I : List Value → World → Prop, I = fun vs w' => ∃ (i : Nat) (s : AK) (L M : KL) (tl : Nat → Nat) (nm : Nat → ByteArray), vs = [.int .i64 (i : Int)] ∧ i ≤ l4 ∧ s.next ≤ 1 + 2 * (i : Int) ∧ s.c0 ≤ (i : Int) ∧ s.c1 ≤ (i : Int) ∧ Duo W w' gk pk s L M tl nm := ⟨_, rfl⟩
  obtain ⟨mu, hmu⟩ : ∃ mu : List Value → World → Nat, mu = fun vs _ => l4 - ix vs := ⟨_, rfl⟩
  refine ⟨I, mu, by rw [hI]; exact ⟨0, _, L, M, tl, nm, rfl, by omega, by rw [(AK.new_is _ _ _).2.2.2.1]; omega, by rw [(AK.new_is _ _ _).2.2.2.2.2.1]; omega, by rw [(AK.new_is _ _ _).2.2.2.2.2.2]; omega, hT⟩, ?_⟩
  clear hT hset6 hef het hset7 hef' het' hset9 hef9 het9 q1 q2 hset2
  clear L M tl nm
  intro _ n39 w13 hInv
  rw [hI] at hInv
  obtain ⟨i, s, L, M, tl, nm, hvs, hi, hnx, hc0, hc1, h13⟩ := hInv
  simp only [List.cons.injEq, Value.int.injEq, true_and, and_true] at hvs
  subst hvs
  refine condTr2 (condP (fun hlt => ?_) (fun hge => ?_))
  · have hil : i < xs.length := by rw [hst.1]; omega
    obtain ⟨q, haq, hx⟩ := (hst.no h13.kp).2 i hil
    obtain ⟨q0, haq0, hx0⟩ := hst.2 i hil
    have fin : ∀ {w' : World} {s' : AK} {L' M' : KL} {tl' : Nat → Nat} {nm' : Nat → ByteArray}, Duo W w' gk pk s' L' M' tl' nm' → s'.next ≤ s.next + 2 → s'.c0 ≤ s.c0 + 1 → s'.c1 ≤ s.c1 + 1 → inI ((i : Int) + 1) ∧ I [.int .i64 ((i : Int) + 1)] w' ∧ mu [.int .i64 ((i : Int) + 1)] w' < mu [.int .i64 (i : Int)] w13 := by
      intro w' s' L' M' tl' nm' hT b1 b2 b3
      refine ⟨⟨by omega, by omega⟩, ?_, ?_⟩
      · rw [hI]
        exact ⟨i + 1, s', L', M', tl', nm', rfl, by omega, by omega, by omega, by omega, hT⟩
      · rw [hmu]; simp only [ix]; omega
    refine ⟨⟨by omega, by omega⟩, nnE2 haq ⟨_, _, _, _, _, _, _, _, by rw [Int.toNat_natCast]; exact hx.e0, by rw [Int.toNat_natCast]; exact hx.e1, by rw [Int.toNat_natCast]; exact hx.e2, by rw [Int.toNat_natCast]; exact hx.e3, by rw [Int.toNat_natCast]; exact hx.e4, by rw [Int.toNat_natCast]; exact hx.e5, CallR.mono (does_ok h13 hx0 (by omega) (by omega) (by omega)) ?_⟩⟩
    rintro v w14 ⟨rfl, s', L', M', tl', nm', hD, b1, b2, b3⟩
    refine ⟨_, rfl, condF (by simp) ⟨by decide, condI (fun _ => CallR.mono (same6_ok hD (by omega)) ?_) (fun _ => fin hD b1 b2 b3)⟩⟩
    rintro v w15 ⟨rfl, hk15⟩
    exact ⟨_, rfl, condF (by simp) (fin (hD.no hk15) b1 b2 b3)⟩
  · refine condFa2 (CallR.mono (same6_ok h13 (by omega)) ?_)
    rintro v w17 ⟨rfl, hk17⟩
    refine ⟨_, rfl, condTr2 (CallR.mono alive6_ok ?_)⟩
    rintro v w18 ⟨rfl, hk18⟩
    exact ⟨_, rfl, rfl, (h13.kp.no hk17).no hk18⟩

end Go.Proofs.YtpoaacnnhgebfaaGreat
