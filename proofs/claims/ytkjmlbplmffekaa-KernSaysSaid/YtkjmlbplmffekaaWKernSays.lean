
/-
  A read or write that the kernel says would not wait does not; one that would does; and asking changes nothing: the walk. Conditions: none.
-/
import Derived.Test.YtkjmlbplmffekaaKaA
import Derived.Test.YtkjmlbplmffekaaKeX
import Derived.Test.YtkjmlbplmffekaaKeW
import Derived.Test.YtkjmlbplmffekaaCf
import Derived.Test.YtkjmlbplmffekaaLKc
import Derived.Test.YtkjmlbplmffekaaOKernSays
set_option linter.unusedVariables false
namespace Go.Proofs.Ytkjmlbplmffekaa
open Go.Lw

/-- The law's last part: a write of n bytes, and whether it waits as it was said. -/
def sayTail (gk : Nat) (d n : Int) (b : Bool) (Q : Value → World → Prop) (w : World) : Prop :=
  ∃ (a91 : Option Addr) (l91 : Nat) (c91 : Nat) (w37 : World), Sem.run Try.prog (Instr.makeSlice 36 (.int .i64 n) (.int .i64 n)) w = .ok ((.slice a91 l91 c91 : Value)) w37 ∧
  CallR Try.prog 14 [pd gk, .int .i64 d, .slice a91 l91 c91] w37 (fun (r94 : Value) (w38 : World) =>
  ∃ (n92 : Int) (n93 : Int), r94 = .tuple #[.int .i64 n92, .int .i64 n93] ∧
  CallR Try.prog 10 [.int .i64 n93] w38 (fun (r96 : Value) (w39 : World) =>
  ∃ (n95 : Int), r96 = .int .i64 n95 ∧
  cond (n95 == 65)
  (cond (!b)
  (Q (.bool true) w39)
  (CallR Try.prog 10 [.int .i64 n93] w39 (fun (r98 : Value) (w40 : World) =>
  ∃ (n97 : Int), r98 = .int .i64 n97 ∧
  cond (n97 != 65)
  (CallR Try.prog 10 [.int .i64 n93] w40 (fun (r100 : Value) (w41 : World) =>
  ∃ (n99 : Int), r100 = .int .i64 n99 ∧
  Q (.bool (!(b == (n99 == 52)))) w41))
  (Q (.bool false) w40))))
  (CallR Try.prog 10 [.int .i64 n93] w39 (fun (r102 : Value) (w42 : World) =>
  ∃ (n101 : Int), r102 = .int .i64 n101 ∧
  cond (n101 != 65)
  (CallR Try.prog 10 [.int .i64 n93] w42 (fun (r104 : Value) (w43 : World) =>
  ∃ (n103 : Int), r104 = .int .i64 n103 ∧
  Q (.bool (!(b == (n103 == 52)))) w43))
  (Q (.bool false) w42)))))

theorem sayTail_ok {W w : World} {gk : Nat} {s : AK} {L : KL} (h : KernO w gk s L) (hL : ∀ z, L.own z ≠ none → W.heap.size ≤ z) (hW : Kept No W w) (hc : s.c1 ≤ 1152921504606846976) {d : Int} {x : AD} (hx : s.desc d = some x) {n : Nat} (h1 : 1 ≤ n) (h2 : n ≤ 5000) {b : Bool}
    (hb0 : bitI x.fl 2 ≠ 2 → b = false) (hb1 : ∀ ds : List Int, ds.length = n → bitI x.fl 2 = 2 → b = decide ((s.write d ds).2.1 ≠ 52)) :
    sayTail gk d (n : Int) b (fun v w' => v = .bool true ∧ Kept No W w') w := by
  unfold sayTail
  obtain ⟨w37, hrun, hs, hk, hz⟩ := run_mk (P := Try.prog) (t := 36) tyB (w := w) (k := .i64) (k' := .i64) (n := n) (m := n) (Nat.le_refl _) (by omega) (by omega)
  have hob : OB w37 (some ⟨w.heap.size, 0, none⟩) n n (List.replicate n 0) := by
    have := By_zeros n
    show SlO 1 _ _ _ _ (By _)
    rw [← this]; exact hs
  refine ⟨_, _, _, w37, hrun, CallR.mono (kernWrite_ok (h.no hk) d hob.rd (fun _ k hk' => by rw [inA_some] at hk'; subst hk'; exact h.new_none (Nat.le_refl _)) hc) ?_⟩
  rintro v w38 ⟨rfl, L38, h38, st38⟩
  have k38 : Kept No W w38 := (hW.no hk).trans st38.kept fun y hy e => by have := hL y e; omega
  have hl : (List.replicate n (0 : Int)).length = n := by simp
  refine ⟨_, _, rfl, lnum_to ⟨_, rfl, ?_⟩⟩
  rcases AK.says_write hx (ds := List.replicate n (0 : Int)) (by omega) (by omega) with ⟨hb, he, _⟩ | ⟨hb, he, _⟩
  · rw [he, hb0 hb]
    exact condTr2 (condTr2 ⟨rfl, k38⟩)
  · have hbe := hb1 _ hl hb
    refine condF (by simpa using he) (lnum_to ⟨_, rfl, condT (by simpa using he) (lnum_to ⟨_, rfl, ?_, k38⟩)⟩)
    rw [hbe]
    by_cases e : (s.write d (List.replicate n (0 : Int))).2.1 = 52
    · rw [e]; rfl
    · rw [decide_eq_true e]
      have : ((s.write d (List.replicate n (0 : Int))).2.1 == 52) = false := by simpa using e
      rw [this]; rfl


/-- Six cells, filled. -/
theorem newSix {w : World} {e : TypeId} {v0 v1 v2 v3 v4 v5 u0 u1 u2 u3 u4 u5 : Value} {K : World → Prop} (hk : ∀ w', Blk w' w.heap.size #[v0, v1, v2, v3, v4, v5] → Kept No w w' → K w') :
    stC (Addr.mk w.heap.size 0 none) v0 (w.alloc (.cells #[u0, u1, u2, u3, u4, u5] e)) fun w1 => stC (Addr.mk w.heap.size 1 none) v1 w1 fun w2 => stC (Addr.mk w.heap.size 2 none) v2 w2 fun w3 => stC (Addr.mk w.heap.size 3 none) v3 w3 fun w4 => stC (Addr.mk w.heap.size 4 none) v4 w4 fun w5 => stC (Addr.mk w.heap.size 5 none) v5 w5 K := by
  have hb : Blk (w.alloc (.cells #[u0, u1, u2, u3, u4, u5] e)) w.heap.size #[u0, u1, u2, u3, u4, u5] := Blk.alloc _ _ _
  have hk1 : Kept No w (w.alloc (.cells #[u0, u1, u2, u3, u4, u5] e)) := Kept.alloc _ _ _
  refine stC_blk hb (by simp) fun w1 h1 k1 _ => stC_blk h1 (by simp) fun w2 h2 k2 _ => stC_blk h2 (by simp) fun w3 h3 k3 _ => stC_blk h3 (by simp) fun w4 h4 k4 _ => stC_blk h4 (by simp) fun w5 h5 k5 _ => stC_blk h5 (by simp) fun w6 h6 k6 _ => ?_
  have h6' : Blk w6 w.heap.size #[v0, v1, v2, v3, v4, v5] := by simpa using h6
  exact hk w6 h6' ((((((hk1.fresh k1 fun x e => by omega).fresh k2 fun x e => by omega).fresh k3 fun x e => by omega).fresh k4 fun x e => by omega).fresh k5 fun x e => by omega).fresh k6 fun x e => by omega)

set_option maxHeartbeats 4000000 in
theorem walk_kernSays {W : World} {args : List Value} (h : V3 W args) : CallR Try.prog 3 args W fun v w' => v = .bool true ∧ Kept No W w' := by
  obtain ⟨a1, l1, c1, h1, h2, h3, h4, a2, l2, c2, g1, g2, g3, g4, a3, l3, c3, k1, k2, k3, k4, a4, l4, c4, s1, s2, s3, s4, d, _, n6, _, rfl⟩ := h
  obtain ⟨fs, ts, ps, hset⟩ := setup_of_view h1 h2 h3 h4 g1 g2 g3 g4 k1 k2 k3 k4
  obtain ⟨xs, hst⟩ := steps_of_view s1 s2 s4
  refine C3 ?_
  unfold L3
  intro w1
  have hb1 : Blk w1 W.heap.size #[.slice a1 l1 c1, .slice a2 l2 c2, .slice a3 l3 c3] := Blk.alloc _ _ _
  have hk1 : Kept No W w1 := Kept.alloc _ _ _
  clear_value w1
  refine CallR.mono alive6_ok ?_
  rintro v w2 ⟨rfl, hk2⟩
  have hb2 := hb1.keep hk2 fun e => e
  refine ⟨_, rfl, condFa2 ⟨_, _, _, _, _, _, _, _, _, (hb2.cell 0).trans rfl, (hb2.cell 1).trans rfl, (hb2.cell 2).trans rfl, CallR.mono (config_ok (hset.no (hk1.no hk2))) ?_⟩⟩
  rintro v w3 ⟨af, cf, at_, ct, ap, cp, rfl, hk3, hset3⟩
  have kk3 := (hk1.no hk2).no hk3
  obtain ⟨ef, hef⟩ := hset3.ef
  obtain ⟨et, het⟩ := hset3.et
  have q1 := hset3.lf
  have q2 := hset3.lt
  refine ⟨_, _, _, _, _, _, _, _, _, rfl, CallR.mono (kernNew_ok hef het hset3.pp (by omega) (by omega)) ?_⟩
  rintro v w4 ⟨hk4, ⟨hne, rfl⟩ | ⟨hck, gk, L4, rfl, h4, hL4⟩⟩
  · exact ⟨_, _, rfl, lnum_to ⟨_, rfl, condT (by simpa using hne) ⟨rfl, kk3.no hk4⟩⟩⟩
  refine ⟨_, _, rfl, lnum_to ⟨_, rfl, condFa2 (condFa2 ?_)⟩⟩
  have hL : ∀ z, L4.own z ≠ none → W.heap.size ≤ z := fun z hz => by have := hL4 z hz; have := kk3.size; omega
  have k4' := kk3.no hk4
  obtain ⟨I, hI⟩ : ∃ I : List Value → World → Prop, I = fun vs w' => ∃ (i : Nat) (s : AK) (L : KL), vs = [.int .i64 (i : Int)] ∧ i ≤ l4 ∧ s.next ≤ 1 + 2 * (i : Int) ∧ s.c0 ≤ (i : Int) ∧ s.c1 ≤ (i : Int) ∧ KernO w' gk s L ∧ (∀ z, L.own z ≠ none → W.heap.size ≤ z) ∧ Kept No W w' := ⟨_, rfl⟩
  obtain ⟨mu, hmu⟩ : ∃ mu : List Value → World → Nat, mu = fun vs _ => l4 - ix vs := ⟨_, rfl⟩
  refine ⟨I, mu, by rw [hI]; exact ⟨0, _, L4, rfl, by omega, by rw [(AK.new_is _ _ _).2.2.2.1]; omega, by rw [(AK.new_is _ _ _).2.2.2.2.2.1]; omega, by rw [(AK.new_is _ _ _).2.2.2.2.2.2]; omega, h4, hL, k4'⟩, ?_⟩
  intro _ n23 w6 hInv
  rw [hI] at hInv
  obtain ⟨i, s, L, hvs, hi, hnx, hc0, hc1, h6, hLW, k6⟩ := hInv
  simp only [List.cons.injEq, Value.int.injEq, true_and, and_true] at hvs
  subst hvs
  refine condP (fun hlt => ?_) (fun hge => ?_)
  · have hil : i < xs.length := by rw [hst.1]; omega
    obtain ⟨q, haq, hx⟩ := (hst.no k6).2 i hil
    refine ⟨fun _ w' => ∃ (s : AK) (L : KL), s.next ≤ 1 + 2 * ((i : Int) + 1) ∧ s.c0 ≤ (i : Int) + 1 ∧ s.c1 ≤ (i : Int) + 1 ∧ KernO w' gk s L ∧ (∀ z, L.own z ≠ none → W.heap.size ≤ z) ∧ Kept No W w', ?_, ?_⟩
    · refine ⟨⟨by omega, by omega⟩, nnE2 haq ⟨_, _, _, _, _, _, _, _, by rw [Int.toNat_natCast]; exact hx.e0, by rw [Int.toNat_natCast]; exact hx.e1, by rw [Int.toNat_natCast]; exact hx.e2, by rw [Int.toNat_natCast]; exact hx.e3, by rw [Int.toNat_natCast]; exact hx.e4, by rw [Int.toNat_natCast]; exact hx.e5, ?_⟩⟩
      refine newSix fun w13 hb13 hk13 => ⟨_, (hb13.cell 0).trans rfl, ?_⟩
      have h13 := h6.no hk13
      have k13 := k6.no hk13
      have hz13 := k13.size
      have fin : ∀ {w' : World} {s' : AK} {L' : KL}, KernO w' gk s' L' → KStep w13 w' L L' → s'.next ≤ 1 + 2 * ((i : Int) + 1) → s'.c0 ≤ (i : Int) + 1 → s'.c1 ≤ (i : Int) + 1 → ∃ (s : AK) (L : KL), s.next ≤ 1 + 2 * ((i : Int) + 1) ∧ s.c0 ≤ (i : Int) + 1 ∧ s.c1 ≤ (i : Int) + 1 ∧ KernO w' gk s L ∧ (∀ z, L.own z ≠ none → W.heap.size ≤ z) ∧ Kept No W w' := by
        intro w' s' L' hK st b1 b2 b3
        refine ⟨s', L', b1, b2, b3, hK, fun z hz => ?_, k13.trans st.kept fun y hy e => by have := hLW y e; omega⟩
        rcases st.grew z hz with e | e
        · exact hLW z e
        · omega
      have hl4b : l4 * 72 ≤ 140737488351232 := s3
      refine condI (fun _ => ⟨_, (hb13.cell 1).trans rfl, _, (hb13.cell 2).trans rfl, CallR.mono (kernOpen_ok h13 _ _ (by omega)) ?_⟩) (fun _ => condI (fun _ => CallR.mono (kernPipe_ok h13 (by omega)) ?_) (fun _ => condI (fun _ => ⟨_, (hb13.cell 2).trans rfl, _, (hb13.cell 3).trans rfl, CallR.mono (kernRead_ok h13 _ _ (by omega)) ?_⟩) (fun _ => condI (fun _ => ⟨_, (hb13.cell 2).trans rfl, _, _, _, (hb13.cell 5).trans rfl, CallR.mono (kernWrite_ok h13 _ (hx.rd.keep hk13 fun _ _ _ e => e) ?_ (by omega)) ?_⟩) (fun _ => condI (fun _ => ⟨_, (hb13.cell 2).trans rfl, CallR.mono (kernKeep_ok h13 _) ?_⟩) (fun _ => condI (fun _ => ⟨_, (hb13.cell 2).trans rfl, CallR.mono (kernDrop_ok h13 _) ?_⟩) (fun _ => fin h13 (KStep.refl _ _) (by omega) (by omega) (by omega)))))))
      · rintro v w14 ⟨rfl, L', h', st⟩
        obtain ⟨o1, o2, o3, o4⟩ := AK.open_cs s xs[i].nm xs[i].a
        exact ⟨_, _, rfl, fin h' st (by omega) (by omega) (by omega)⟩
      · rintro v w14 ⟨rfl, L', h', st⟩
        obtain ⟨o1, o2, o3, o4⟩ := AK.pipe_cs s
        exact ⟨_, _, _, rfl, fin h' st (by omega) (by omega) (by omega)⟩
      · rintro v w14 ⟨a, l, c, L', rfl, _, _, h', st, _⟩
        obtain ⟨o1, o2, o3, o4, _⟩ := AK.read_cs s xs[i].a xs[i].b
        exact ⟨_, _, _, _, rfl, fin h' st (by omega) (by omega) (by omega)⟩
      · intro hne k hk
        obtain ⟨_, _, hx0⟩ := hst.2 i hil
        have hlt := RdS.old hx0.rd (fun e => hne (By_inj (b := []) e)) k hk
        cases ho : L.own k with
        | none => rfl
        | some t => have := hLW k (by rw [ho]; simp); omega
      · rintro v w14 ⟨rfl, L', h', st⟩
        obtain ⟨o1, o2, o3, o4, _⟩ := AK.write_cs s xs[i].a xs[i].bs
        exact ⟨_, _, rfl, fin h' st (by omega) (by omega) (by omega)⟩
      · rintro v w14 ⟨rfl, L', h', st⟩
        obtain ⟨o1, o2, o3⟩ := AK.keep_cs s xs[i].a
        exact ⟨_, rfl, fin h' st (by omega) (by omega) (by omega)⟩
      · rintro v w14 ⟨rfl, L', h', st⟩
        obtain ⟨o1, o2, o3⟩ := AK.drop_cs s xs[i].a
        exact ⟨_, rfl, fin h' st (by omega) (by omega) (by omega)⟩
    · rintro _ w20 ⟨s', L', b1, b2, b3, b4, b5, b6⟩
      refine ⟨⟨by omega, by omega⟩, ?_, ?_⟩
      · rw [hI]; exact ⟨i + 1, s', L', rfl, by omega, by omega, by omega, by omega, b4, b5, b6⟩
      · rw [hmu]; simp only [ix]; omega
  · obtain ⟨b1, b2, b3⟩ := cutI n6 5000 (by omega) (by omega)
    refine ⟨by decide, b1, by decide, ⟨by omega, by omega⟩, ?_⟩
    obtain ⟨n, hn⟩ : ∃ n : Nat, (n : Int) = (1 : Int) + Int.tmod (Int.tmod n6 5000 + 5000) 5000 := ⟨((1 : Int) + Int.tmod (Int.tmod n6 5000 + 5000) 5000).toNat, by omega⟩
    rw [← hn]
    have hn1 : 1 ≤ n := by omega
    have hn2 : n ≤ 5000 := by omega
    refine CallR.mono (canread_ok h6 d) ?_
    rintro v w21 ⟨rfl, hk21⟩
    refine ⟨_, rfl, CallR.mono (canwrite_ok (h6.no hk21) d (n : Int)) ?_⟩
    rintro v w22 ⟨rfl, hk22⟩
    refine ⟨_, rfl, CallR.mono (kind_ok ((h6.no hk21).no hk22) d) ?_⟩
    rintro v w23 ⟨rfl, hk23⟩
    have h23 := ((h6.no hk21).no hk22).no hk23
    have k23 := ((k6.no hk21).no hk22).no hk23
    refine ⟨_, rfl, ?_⟩
    cases hd : s.desc d with
    | none =>
      obtain ⟨e1, e2⟩ := AK.can_none (n := (n : Int)) hd
      have e0 : s.kind d = 0 := by unfold AK.kind; rw [AK.find_none 0 hd]; exact if_pos (by decide)
      rw [e0, e1, e2]
      exact condTr2 (condTr2 ⟨rfl, k23⟩)
    | some x =>
      have ek := AK.kind_some hd
      have ekp := AK.kindN_pos (s.objs x.ob).kd
      refine condF (by rw [ek]; simp; omega) (CallR.mono (kernRead_ok h23 d (n : Int) (by omega)) ?_)
      rintro v w24 ⟨a64, l64, c64, L24, rfl, _, _, h24, st24, _⟩
      have hL24 : ∀ z, L24.own z ≠ none → W.heap.size ≤ z := fun z hz => by
        rcases st24.grew z hz with e | e
        · exact hLW z e
        · have := k23.size; omega
      have k24 : Kept No W w24 := k23.trans st24.kept fun y hy e => by have := hLW y e; omega
      refine ⟨_, _, _, _, rfl, lnum_to ⟨_, rfl, ?_⟩⟩
      have hrc := AK.read_cs s d n
      rcases AK.says_read (n := (n : Int)) hd (by omega) (by omega) with ⟨hb, hr, hcan⟩ | ⟨hb, hne, hcan⟩
      · have e65 : (s.read d n).2.1 = 65 := by rw [hr]
        have es : (s.read d n).2.2 = s := by rw [hr]
        rw [es] at h24
        rw [e65, hcan]
        refine condTr2 (condFa2 (lnum_to ⟨_, rfl, condFa2 (lnum_to ⟨_, rfl, condFa2 ?_⟩)⟩))
        refine sayTail_ok h24 hL24 k24 (by omega) hd hn1 hn2 ?_ ?_
        · intro hf
          rcases AK.says_write hd (ds := List.replicate n (0 : Int)) (by simp; omega) (by simp; omega) with ⟨_, _, e⟩ | ⟨e, _⟩
          · simpa using e
          · exact absurd e hf
        · intro ds hl hf
          rcases AK.says_write hd (ds := ds) (by omega) (by omega) with ⟨e, _⟩ | ⟨_, _, e, _⟩
          · exact absurd hf e
          · rw [hl] at e; exact e
      · have hbe : ((s.read d n).2.1 == 65) = false := by simpa using hne
        refine condF hbe (lnum_to ⟨_, rfl, condT (by simpa using hne) (lnum_to ⟨_, rfl, condF ?_ (lnum_to ⟨_, rfl, condT (by simpa using hne) ?_⟩)⟩)⟩)
        · rw [hcan]
          by_cases e : (s.read d n).2.1 = 52
          · rw [e]; rfl
          · rw [decide_eq_true e]
            have : ((s.read d n).2.1 == 52) = false := by simpa using e
            rw [this]; rfl
        · obtain ⟨x', hx', efl, eob, ekd⟩ := AK.read_desc (n := (n : Int)) hd
          refine CallR.mono (kind_ok h24 d) ?_
          rintro v w63 ⟨rfl, hk63⟩
          have ek' := AK.kind_some hx'
          refine ⟨_, rfl, condI (fun e => ⟨rfl, k24.no hk63⟩) (fun e => ?_)⟩
          have e : ¬ (s.read d n).2.2.kind d = 3 := by simpa using e
          have hnc : ((s.read d n).2.2.objs x'.ob).kd ≠ .con := fun e' => e (by rw [ek', e']; rfl)
          have hnc0 : (s.objs x.ob).kd ≠ .con := by rw [eob, ekd] at hnc; exact hnc
          refine sayTail_ok (h24.no hk63) hL24 (k24.no hk63) (by omega) hx' hn1 hn2 ?_ ?_
          · intro hf
            rw [efl] at hf
            rcases AK.says_write hd (ds := List.replicate n (0 : Int)) (by simp; omega) (by simp; omega) with ⟨_, _, e⟩ | ⟨e, _⟩
            · simpa using e
            · exact absurd e hf
          · intro ds hl hf
            have e1 : s.canWrite d n = true := by
              rw [efl] at hf
              rcases AK.says_write hd (ds := ds) (by omega) (by omega) with ⟨e, _⟩ | ⟨_, _, _, e⟩
              · exact absurd hf e
              · rw [hl] at e; exact e hnc0
            rcases AK.says_write hx' (ds := ds) (by omega) (by omega) with ⟨e, _⟩ | ⟨_, _, e, e2⟩
            · exact absurd hf e
            · rw [e1, ← e]; exact (e2 hnc).symm

end Go.Proofs.Ytkjmlbplmffekaa
