/-
  A raw call that is refused changes no file, no place, and uses up no fault but the one that refused it: the walk. Conditions: none.
-/
import Derived.Test.YtkjmlbplmffekaaGreatKaA
import Derived.Test.YtkjmlbplmffekaaGreatKeX
import Derived.Test.YtkjmlbplmffekaaGreatKeW
import Derived.Test.YtkjmlbplmffekaaGreatKfS
import Derived.Test.YtkjmlbplmffekaaGreatCf
import Derived.Test.YtkjmlbplmffekaaGreatLZr
import Derived.Test.YtkjmlbplmffekaaGreatOKernRefuses
set_option linter.unusedVariables false
namespace Go.Proofs.YtkjmlbplmffekaaGreat
open Go.Lw

/-- What a refusal leaves. -/
def Refd (s s' : AK) (e : Int) : Prop := e = 0 ∨ (e ≠ 22 ∧ e ≠ 23 ∧ s' = s) ∨ ((e = 22 ∨ e = 23) ∧ s'.ps = s.ps.drop 1 ∧ s.ps ≠ [] ∧ s'.filesV = s.filesV)

theorem AK.find_ref {s : AK} {d way : Int} : s.find d way ≠ 22 ∧ s.find d way ≠ 23 := by
  unfold AK.find
  split
  · exact ⟨by simp, by simp⟩
  · split
    · exact ⟨by simp, by simp⟩
    · exact ⟨by simp, by simp⟩

theorem metF_ref {ps : List (Int × Int)} {n : Int} (h : (metF ps n).2 ≠ 0) : ((metF ps n).2 = 22 ∨ (metF ps n).2 = 23) ∧ ps ≠ [] := by
  unfold metF at h ⊢
  cases ps with
  | nil => exact absurd rfl h
  | cons f r =>
    dsimp only at h ⊢
    by_cases e1 : f.1 = 1
    · rw [if_pos e1] at h; exact absurd rfl h
    · rw [if_neg e1] at h ⊢
      by_cases e2 : f.1 = 2
      · rw [if_pos e2]; exact ⟨.inl rfl, by simp⟩
      · rw [if_neg e2] at h ⊢
        by_cases e3 : f.1 = 3
        · rw [if_pos e3]; exact ⟨.inr rfl, by simp⟩
        · rw [if_neg e3] at h; exact absurd rfl h

theorem AK.read_refd (s : AK) (d n : Int) : Refd s (s.read d n).2.2 (s.read d n).2.1 := by
  unfold AK.read
  by_cases h1 : s.find d 1 ≠ 0
  · rw [if_pos h1]; exact .inr (.inl ⟨AK.find_ref.1, AK.find_ref.2, rfl⟩)
  rw [if_neg h1]
  by_cases h2 : n < 0 ∨ n > 1048576
  · rw [if_pos h2]; exact .inr (.inl ⟨by simp, by simp, rfl⟩)
  rw [if_neg h2]
  by_cases h3 : n = 0
  · rw [if_pos h3]; exact .inl rfl
  rw [if_neg h3]
  split
  · exact .inr (.inl ⟨by simp, by simp, rfl⟩)
  · rename_i x hx
    by_cases h4 : s.waits x = true
    · rw [if_pos h4]; exact .inr (.inl ⟨by simp, by simp, rfl⟩)
    rw [if_neg h4]
    by_cases h5 : (metF s.ps n).2 ≠ 0
    · rw [if_pos h5]
      obtain ⟨a, b⟩ := metF_ref h5
      exact .inr (.inr ⟨a, rfl, b, rfl⟩)
    · rw [if_neg h5]; exact .inl rfl

theorem AK.room_ref {s : AK} {x : AD} {n : Int} : (s.roomO x n).2 ≠ 22 ∧ (s.roomO x n).2 ≠ 23 := by
  have hd : ∀ p : Int, (roomD p n).2 ≠ 22 ∧ (roomD p n).2 ≠ 23 := fun p => by
    unfold roomD
    split
    · exact ⟨by simp, by simp⟩
    · exact ⟨by simp, by simp⟩
  unfold AK.roomO
  split
  · exact hd _
  · exact hd _
  · unfold roomC
    split
    · exact ⟨by simp, by simp⟩
    · split
      · exact ⟨by simp, by simp⟩
      · exact ⟨by simp, by simp⟩

theorem AK.write_refd (s : AK) (d : Int) (ds : List Int) : Refd s (s.write d ds).2.2 (s.write d ds).2.1 := by
  unfold AK.write
  by_cases h1 : s.find d 2 ≠ 0
  · rw [if_pos h1]; exact .inr (.inl ⟨AK.find_ref.1, AK.find_ref.2, rfl⟩)
  rw [if_neg h1]
  by_cases h2 : 1048576 < ds.length
  · rw [if_pos h2]; exact .inr (.inl ⟨by simp, by simp, rfl⟩)
  rw [if_neg h2]
  by_cases h3 : ds.length = 0
  · rw [if_pos h3]; exact .inl rfl
  rw [if_neg h3]
  split
  · exact .inr (.inl ⟨by simp, by simp, rfl⟩)
  · rename_i x hx
    by_cases h4 : (s.roomO x ds.length).2 ≠ 0
    · rw [if_pos h4]; exact .inr (.inl ⟨AK.room_ref.1, AK.room_ref.2, rfl⟩)
    rw [if_neg h4]
    by_cases h5 : (metF s.ps ds.length).2 ≠ 0
    · rw [if_pos h5]
      obtain ⟨a, b⟩ := metF_ref h5
      exact .inr (.inr ⟨a, rfl, b, rfl⟩)
    · rw [if_neg h5]; exact .inl rfl

theorem AK.open_refd (s : AK) (nm : ByteArray) (fl : Int) : Refd s (s.open_ nm fl).2.2 (s.open_ nm fl).2.1 := by
  have he : s.openE nm fl ≠ 22 ∧ s.openE nm fl ≠ 23 := by
    unfold AK.openE
    repeat' split
    all_goals exact ⟨by simp, by simp⟩
  unfold AK.open_
  by_cases h1 : s.openE nm fl ≠ 0
  · rw [if_pos h1]; exact .inr (.inl ⟨he.1, he.2, rfl⟩)
  · rw [if_neg h1]; exact .inl rfl

theorem AK.seek_refd (s : AK) (d off wh : Int) : Refd s (s.seek d off wh).2.2 (s.seek d off wh).2.1 := by
  unfold AK.seek
  by_cases h1 : s.find d 0 ≠ 0
  · rw [if_pos h1]; exact .inr (.inl ⟨AK.find_ref.1, AK.find_ref.2, rfl⟩)
  rw [if_neg h1]
  split
  · exact .inr (.inl ⟨by simp, by simp, rfl⟩)
  · split
    · by_cases h2 : wh < 0 ∨ wh > 2
      · rw [if_pos h2]; exact .inr (.inl ⟨by simp, by simp, rfl⟩)
      rw [if_neg h2]
      rename_i x _ _ _ _
      have : ∀ base : Int, Refd s (if off < -base ∨ off > 1048576 - base then ((0 : Int), (4 : Int), s) else (base + off, 0, s.setD d (base + off) x.hd)).2.2 (if off < -base ∨ off > 1048576 - base then ((0 : Int), (4 : Int), s) else (base + off, 0, s.setD d (base + off) x.hd)).2.1 := fun base => by
        by_cases h3 : off < -base ∨ off > 1048576 - base
        · rw [if_pos h3]; exact .inr (.inl ⟨by simp, by simp, rfl⟩)
        · rw [if_neg h3]; exact .inl rfl
      exact this _
    · exact .inr (.inl ⟨by simp, by simp, rfl⟩)

theorem AK.filesV_bound {w : World} {gk : Nat} {s : AK} {L : KL} (h : KernO w gk s L) : ∀ f ∈ s.filesV, f.2.length ≤ 1048576 := by
  intro f hf
  unfold AK.filesV at hf
  obtain ⟨nm, _, rfl⟩ := List.mem_map.1 hf
  show (s.bytesOf nm).length ≤ 1048576
  unfold AK.bytesOf
  split
  · rename_i g hg
    have hm := List.mem_of_find?_eq_some hg
    have hO := h.ob g.2 (h.ok.fi g hm).1
    cases ho : s.objs g.2 with
    | file bs =>
      rw [ho] at hO
      obtain ⟨_, _, _, _, _, _, hl, _⟩ := hO
      exact hl
    | term _ _ => simp [dataO]
    | pipe _ _ _ => simp [dataO]
  · simp

theorem OwnN.len_eq {w0 w : World} {a : Option Addr} {l c : Nat} {fs : List (ByteArray × List Int)} {es : List (ByteArray × Slc)} (h : OwnN w0 w a l c fs es) : l = fs.length := by
  have := h.rd.rd.1; rw [Nv_len, h.len] at this; omega

/-- Two views of the same kernel's files are the same. -/
theorem same_files {w0 w1 w : World} {gk : Nat} {s : AK} {L : KL} (hk : KernO w gk s L) {a : Option Addr} {l c : Nat} {fs : List (ByteArray × List Int)} {es : List (ByteArray × Slc)} (h : OwnN w0 w a l c s.filesV es) {a2 : Option Addr} {l2 c2 : Nat} {es2 : List (ByteArray × Slc)} (h2 : OwnN w1 w a2 l2 c2 fs es2) :
    CallR Tryz.prog 24 [.slice a l c, .slice a2 l2 c2] w fun v w' => v = .bool (decide (s.filesV = fs)) ∧ Kept No w w' := by
  have e1 := h.len_eq
  rw [AK.filesV_len] at e1
  have := hk.ok.fl
  exact sameNamed_ok h.rd h2.rd (by omega) fun f hf => by have := AK.filesV_bound hk f hf; omega

set_option maxHeartbeats 4000000 in
theorem walk_kernRefuses {W : World} {args : List Value} (h : V4 W args) : CallR Tryz.prog 4 args W fun v w' => v = .bool true ∧ Kept No W w' := by
  obtain ⟨a1, l1, c1, h1, h2, h3, h4, a2, l2, c2, g1, g2, g3, g4, a3, l3, c3, k1, k2, k3, k4, a4, l4, c4, s1, s2, s3, s4, z0, _, znm, _, z2, _, z3, _, z4, _, za, zl, zc, zs, hz1, hz2, hz3, rfl⟩ := h
  obtain ⟨fs, ts, ps, hset⟩ := setup_of_view h1 h2 h3 h4 g1 g2 g3 g4 k1 k2 k3 k4
  obtain ⟨xs, hst⟩ := steps_of_view s1 s2 s4
  have hz1 : RdB W za zl zc zs := hz1
  refine C4 ?_
  unfold L4
  intro w1 w1b
  have hb1 : Blk w1 W.heap.size #[.slice a1 l1 c1, .slice a2 l2 c2, .slice a3 l3 c3] := Blk.alloc _ _ _
  have hk1 : Kept No W w1 := Kept.alloc _ _ _
  have hb1b : Blk w1b w1.heap.size #[.int .i64 z0, .string znm, .int .i64 z2, .int .i64 z3, .int .i64 z4, .slice za zl zc] := Blk.alloc _ _ _
  have hk1b : Kept No w1 w1b := Kept.alloc _ _ _
  clear_value w1b
  clear_value w1
  refine CallR.mono alive6_ok ?_
  rintro v w2 ⟨rfl, hk2⟩
  have hb2 := (hb1.keep hk1b fun e => e).keep hk2 fun e => e
  have hbz2 := hb1b.keep hk2 fun e => e
  have hz2' := hk1.size
  refine ⟨_, rfl, condFa2 ⟨_, _, _, _, _, _, _, _, _, (hb2.cell 0).trans rfl, (hb2.cell 1).trans rfl, (hb2.cell 2).trans rfl, CallR.mono (config_ok (hset.no ((hk1.no hk1b).no hk2))) ?_⟩⟩
  rintro v w3 ⟨af, cf, at_, ct, ap, cp, rfl, hk3, hset3⟩
  have kk3 := ((hk1.no hk1b).no hk2).no hk3
  obtain ⟨ef, hef⟩ := hset3.ef
  obtain ⟨et, het⟩ := hset3.et
  have q1 := hset3.lf
  have q2 := hset3.lt
  refine ⟨_, _, _, _, _, _, _, _, _, rfl, CallR.mono (kernNew_ok hef het hset3.pp (by omega) (by omega)) ?_⟩
  rintro v w4 ⟨hk4, ⟨hne, rfl⟩ | ⟨hck, gk, L4, rfl, h4, hL4⟩⟩
  · exact ⟨_, _, rfl, lnum_to ⟨_, rfl, condT (by simpa using hne) ⟨rfl, kk3.no hk4⟩⟩⟩
  refine ⟨_, _, rfl, lnum_to ⟨_, rfl, condFa2 (condFa2 ?_)⟩⟩
  have hL : ∀ z, L4.own z ≠ none → W.heap.size ≤ z ∧ z ≠ w1.heap.size := fun z hz => by
    have e := hL4 z hz
    have e2 := hbz2.lt
    have e3 := hk3.size
    have e4 := kk3.size
    exact ⟨by omega, by omega⟩
  have k4' := kk3.no hk4
  have hbz4 := (hbz2.keep hk3 fun e => e).keep hk4 fun e => e
  obtain ⟨I, hI⟩ : ∃ I : List Value → World → Prop, I = fun vs w' => ∃ (i : Nat) (s : AK) (L : KL), vs = [.int .i64 (i : Int)] ∧ i ≤ l4 ∧ s.next ≤ 1 + 2 * (i : Int) ∧ s.c0 ≤ (i : Int) ∧ s.c1 ≤ (i : Int) ∧ KernO w' gk s L ∧ (∀ z, L.own z ≠ none → W.heap.size ≤ z ∧ z ≠ w1.heap.size) ∧ Kept No W w' ∧ Blk w' w1.heap.size #[.int .i64 z0, .string znm, .int .i64 z2, .int .i64 z3, .int .i64 z4, .slice za zl zc] := ⟨_, rfl⟩
  obtain ⟨mu, hmu⟩ : ∃ mu : List Value → World → Nat, mu = fun vs _ => l4 - ix vs := ⟨_, rfl⟩
  refine ⟨I, mu, by rw [hI]; exact ⟨0, _, L4, rfl, by omega, by rw [(AK.new_is _ _ _).2.2.2.1]; omega, by rw [(AK.new_is _ _ _).2.2.2.2.2.1]; omega, by rw [(AK.new_is _ _ _).2.2.2.2.2.2]; omega, h4, hL, k4', hbz4⟩, ?_⟩
  intro _ n23 w6 hInv
  rw [hI] at hInv
  obtain ⟨i, s, L, hvs, hi, hnx, hc0, hc1, h6, hLW, k6, hbz6⟩ := hInv
  simp only [List.cons.injEq, Value.int.injEq, true_and, and_true] at hvs
  subst hvs
  have hl4b : l4 * 72 ≤ 140737488351232 := s3
  refine condP (fun hlt => ?_) (fun hge => ?_)
  · have hil : i < xs.length := by rw [hst.1]; omega
    obtain ⟨q, haq, hx⟩ := (hst.no k6).2 i hil
    refine ⟨⟨by omega, by omega⟩, nnE2 haq ⟨_, _, _, _, _, _, _, _, by rw [Int.toNat_natCast]; exact hx.e0, by rw [Int.toNat_natCast]; exact hx.e1, by rw [Int.toNat_natCast]; exact hx.e2, by rw [Int.toNat_natCast]; exact hx.e3, by rw [Int.toNat_natCast]; exact hx.e4, by rw [Int.toNat_natCast]; exact hx.e5, ?_⟩⟩
    refine newSix fun w13 hb13 hk13 => ⟨_, (hb13.cell 0).trans rfl, ?_⟩
    have h13 := h6.no hk13
    have k13 := k6.no hk13
    have hz13 := k13.size
    have hbz13 := hbz6.keep hk13 fun e => e
    have fin : ∀ {w' : World} {s' : AK} {L' : KL}, KernO w' gk s' L' → KStep w13 w' L L' → s'.next ≤ 1 + 2 * ((i : Int) + 1) → s'.c0 ≤ (i : Int) + 1 → s'.c1 ≤ (i : Int) + 1 → inI ((i : Int) + 1) ∧ I [.int .i64 ((i : Int) + 1)] w' ∧ mu [.int .i64 ((i : Int) + 1)] w' < mu [.int .i64 (i : Int)] w6 := by
      intro w' s' L' hK st b1 b2 b3
      refine ⟨⟨by omega, by omega⟩, ?_, ?_⟩
      · rw [hI]
        refine ⟨i + 1, s', L', rfl, by omega, by omega, by omega, by omega, hK, fun z hz => ?_, k13.trans st.kept fun y hy e => by have := hLW y e; omega, hbz13.keep st.kept fun e => (hLW _ e).2 rfl⟩
        rcases st.grew z hz with e | e
        · exact hLW z e
        · exact ⟨by omega, by have := hbz13.lt; omega⟩
      · rw [hmu]; simp only [ix]; omega
    refine condI (fun _ => ⟨_, (hb13.cell 1).trans rfl, _, (hb13.cell 2).trans rfl, CallR.mono (kernOpen_ok h13 _ _ (by omega)) ?_⟩) (fun _ => condI (fun _ => CallR.mono (kernPipe_ok h13 (by omega)) ?_) (fun _ => condI (fun _ => ⟨_, (hb13.cell 2).trans rfl, _, _, _, (hb13.cell 5).trans rfl, CallR.mono (kernWrite_ok h13 _ (hx.rd.keep hk13 fun _ _ _ e => e) ?_ (by omega)) ?_⟩) (fun _ => fin h13 (KStep.refl _ _) (by omega) (by omega) (by omega))))
    · rintro v w14 ⟨rfl, L', h', st⟩
      obtain ⟨o1, o2, o3, o4⟩ := AK.open_cs s xs[i].nm xs[i].a
      exact ⟨_, _, rfl, fin h' st (by omega) (by omega) (by omega)⟩
    · rintro v w14 ⟨rfl, L', h', st⟩
      obtain ⟨o1, o2, o3, o4⟩ := AK.pipe_cs s
      exact ⟨_, _, _, rfl, fin h' st (by omega) (by omega) (by omega)⟩
    · intro hne k hk
      obtain ⟨_, _, hx0⟩ := hst.2 i hil
      have hlt := RdS.old hx0.rd (fun e => hne (By_inj (b := []) e)) k hk
      cases ho : L.own k with
      | none => rfl
      | some t => have := hLW k (by rw [ho]; simp); omega
    · rintro v w14 ⟨rfl, L', h', st⟩
      obtain ⟨o1, o2, o3, o4, _⟩ := AK.write_cs s xs[i].a xs[i].bs
      exact ⟨_, _, rfl, fin h' st (by omega) (by omega) (by omega)⟩
  · refine CallR.mono (kernFiles_ok h6) ?_
    rintro v w18 ⟨a50, l50, c50, es, rfl, hwas, hk18⟩
    refine ⟨_, _, _, rfl, CallR.mono (rest_ok (h6.no hk18)) ?_⟩
    rintro v w19 ⟨a52, c52, rfl, hrest, hk19, hfr⟩
    have h19 := (h6.no hk18).no hk19
    have hwas19 := hwas.no hk19
    have k19 := (k6.no hk18).no hk19
    have hbz19 := (hbz6.keep hk18 fun e => e).keep hk19 fun e => e
    have hzz : w6.heap.size ≤ w18.heap.size := hk18.size
    have hpl := h6.ok.ps
    refine ⟨_, _, _, rfl, fun vs w' => ∃ (e : Int) (s' : AK) (L' : KL), vs = [.int .i64 e] ∧ Refd s s' e ∧ KernO w' gk s' L' ∧ KStep w19 w' L L', ?_, ?_⟩
    · refine ⟨_, (hbz19.cell 0).trans rfl, condI (fun _ => ⟨_, (hbz19.cell 1).trans rfl, _, (hbz19.cell 2).trans rfl, CallR.mono (kernOpen_ok h19 _ _ (by omega)) ?_⟩) (fun _ => condI (fun _ => ⟨_, (hbz19.cell 2).trans rfl, _, (hbz19.cell 3).trans rfl, CallR.mono (kernRead_ok h19 _ _ (by omega)) ?_⟩) (fun _ => condI (fun _ => ⟨_, (hbz19.cell 2).trans rfl, _, _, _, (hbz19.cell 5).trans rfl, CallR.mono (kernWrite_ok h19 _ (hz1.keep k19 fun _ _ _ e => e) ?_ (by omega)) ?_⟩) (fun _ => condI (fun _ => ⟨_, (hbz19.cell 2).trans rfl, _, (hbz19.cell 3).trans rfl, _, (hbz19.cell 4).trans rfl, CallR.mono (kernSeek_ok h19 _ _ _) ?_⟩) (fun _ => ⟨0, s, L, rfl, .inl rfl, h19, KStep.refl _ _⟩))))⟩
      · rintro v w20 ⟨rfl, L', h', st⟩
        exact ⟨_, _, rfl, _, _, _, rfl, AK.open_refd _ _ _, h', st⟩
      · rintro v w20 ⟨a, l, c, L', rfl, _, _, h', st, _⟩
        exact ⟨_, _, _, _, rfl, _, _, _, rfl, AK.read_refd _ _ _, h', st⟩
      · intro hne k hk
        have hlt := RdS.old hz1 (fun e => hne (By_inj (b := []) e)) k hk
        cases ho : L.own k with
        | none => rfl
        | some t => have := hLW k (by rw [ho]; simp); omega
      · rintro v w20 ⟨rfl, L', h', st⟩
        exact ⟨_, _, rfl, _, _, _, rfl, AK.write_refd _ _ _, h', st⟩
      · rintro v w20 ⟨rfl, L', h', st⟩
        exact ⟨_, _, rfl, _, _, _, rfl, AK.seek_refd _ _ _ _, h', st⟩
    · rintro _ n77 w24 ⟨e, s', L', hvs, href, h24, st24⟩
      simp only [List.cons.injEq, Value.int.injEq, true_and, and_true] at hvs
      subst hvs
      have k24 : Kept No W w24 := k19.trans st24.kept fun y hy e => by have := hLW y e; omega
      have hnew : ∀ b, w6.heap.size ≤ b → b < w19.heap.size → ¬ (L.own b ≠ none) := fun b hb _ e => by have := h6.lt b e; omega
      have hwas24 := hwas19.keep st24.kept hnew
      have hrest24 := hrest.rd.keep st24.kept fun b _ hb e => by have := hfr b hb; have := h6.lt b e; omega
      refine lnum_to ⟨_, rfl, condI (fun _ => ⟨rfl, k24⟩) (fun hne => ?_)⟩
      have hne : n77 ≠ 0 := by simpa using hne
      refine CallR.mono (rest_ok h24) ?_
      rintro v w26 ⟨a80, c80, rfl, hleft, hk26, hfr26⟩
      have h26 := h24.no hk26
      have files : ∀ {w : World} (k : Kept No w26 w), s'.filesV = s.filesV → CallR Tryz.prog 25 [pd gk] w fun r w31 => ∃ (a : Option Addr) (l c : Nat), r = .slice a l c ∧ CallR Tryz.prog 24 [.slice a l c, .slice a50 l50 c50] w31 fun r w32 => ∃ b : Bool, r = .bool b ∧ ((.bool b : Value) = .bool true ∧ Kept No W w32) := by
        intro w k hf
        have hK := h26.no k
        refine CallR.mono (kernFiles_ok hK) ?_
        rintro v w31 ⟨a, l, c, es2, rfl, hnow, hk31⟩
        refine ⟨_, _, _, rfl, CallR.mono (same_files (hK.no hk31) hnow (((hwas24.no hk26).no k).no hk31)) ?_⟩
        rintro v w32 ⟨rfl, hk32⟩
        exact ⟨_, rfl, by rw [decide_eq_true hf], (((k24.no hk26).no k).no hk31).no hk32⟩
      refine ⟨_, _, _, rfl, lnum_to ⟨_, rfl, ?_⟩⟩
      rcases href with h0 | ⟨n1, n2, rfl⟩ | ⟨n1, hps, hpne, hfv⟩
      · exact absurd h0 hne
      · refine condF (by simpa using n1) (lnum_to ⟨_, rfl, condF (by simpa using n2) ?_⟩)
        have hl' := h26.ok.ps
        refine CallR.mono (sameFaults_ok hleft.rd (hrest24.keep hk26 fun _ _ _ e => e) (by omega)) ?_
        rintro v w33 ⟨rfl, hk33⟩
        refine ⟨_, rfl, condT (by simp) ?_⟩
        exact files hk33 rfl
      · have hlen : (((s'.ps.length : Nat) : Int) == ((s.ps.length : Nat) : Int) - 1) = true := by
          rw [hps, List.length_drop]
          have : 0 < s.ps.length := List.length_pos_iff.2 hpne
          simp; omega
        rcases n1 with rfl | rfl
        · exact condTr2 ⟨⟨by omega, by omega⟩, condT hlen (files (Kept.refl _ _) hfv)⟩
        · exact condFa2 (lnum_to ⟨_, rfl, condTr2 ⟨⟨by omega, by omega⟩, condT hlen (files (Kept.refl _ _) hfv)⟩⟩)

end Go.Proofs.YtkjmlbplmffekaaGreat
