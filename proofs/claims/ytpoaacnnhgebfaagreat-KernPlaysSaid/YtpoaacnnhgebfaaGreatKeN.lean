/-
  kern.New. Conditions: as each says.
-/
import Derived.Test.YtpoaacnnhgebfaaGreatKeK
import Derived.Test.YtpoaacnnhgebfaaGreatKeP
set_option linter.unusedVariables false
namespace Go.Proofs.YtpoaacnnhgebfaaGreat
open Go.Lw

/-- A new terminal, laid and named. -/
theorem addT_ok {w w1 : World} {gk : Nat} {s : AK} {L : KL} (h : KernO w gk s L) (k : Kept No w w1) {b : Nat} {F R : Nat → Prop} {LL : List (List Int)} {scr : List Int} (hO : TermO F R w1 b LL scr) (hF : ∀ z, F z ∨ R z → w.heap.size ≤ z)
    {nm : ByteArray} (h1 : ∀ f ∈ s.files, f.1 ≠ nm) (h2 : ∀ f ∈ s.terms, f.1 ≠ nm) (hl : s.files.length + s.terms.length < 256) :
    ∃ w2 L', (Instr.mapUpdate 113 (.map (some L.rt)) (.string nm) (pd b)).run Tryz.prog w1 = .ok () w2 ∧ KernO w2 gk (s.addT nm (.term LL scr)) L' ∧ KStep w w2 L L' ∧ Kept (· = L.rt) w1 w2 := by
  have hT : Tryz.prog.underlying 113 = some (.map 9 128) := by kernel_rfl
  have hI : Tryz.prog.underlying 9 = some .string := by kernel_rfl
  obtain ⟨hn, st⟩ := h.newStep k (R := R) (o := .term LL scr) hO (fun z hz => hF z (.inl hz)) (fun z hz => ⟨hF z (.inr hz), TermO.lt hO z (.inr hz), by
    obtain ⟨la, ll, lc, i, sa, sl, sc, raw, _, _, _, _, _, _, _, hR, _⟩ := hO
    exact hR z hz⟩)
  obtain ⟨w2, hrun, hm, hk2, hs2⟩ := update_new hT hI (hn.mt) (k := .string nm) trivial (fun x hx e => by
    obtain ⟨y, hy, rfl⟩ := List.mem_map.1 hx
    simp only [Value.string.injEq] at e
    exact h2 y hy e) (pd b)
  have hok := h.ok.addT (o := .term LL scr) rfl h1 h2 hl
  have hb : (L.addO s.nob b F R).loc s.nob = b := if_pos rfl
  obtain ⟨h3, st3⟩ := hn.mtStep (fs := s.terms ++ [(nm, s.nob)]) hk2 (by
    show MapO w2 _ .string ((s.terms ++ [(nm, s.nob)]).map fun f => (Value.string f.1, pd ((L.addO s.nob b F R).loc f.2)))
    rw [List.map_append]
    show MapO w2 _ .string (_ ++ [(Value.string nm, pd ((L.addO s.nob b F R).loc s.nob))])
    rw [hb]
    exact hm) hok
  exact ⟨w2, _, hrun, h3, st.trans st3, hk2⟩

open Classical in
noncomputable def KL.first (gk rf rt rd pg : Nat) (a : Option Addr) : KL :=
  { own := fun z => if z = gk then some .kern else if z = rf then some .mf else if z = rt then some .mt else if z = rd then some .md else if z = pg then some .plan else if inA a z then some .flts else none
    loc := fun _ => 0, dloc := fun _ => 0, rf := rf, rt := rt, rd := rd, pg := pg }

theorem KL.first_some {gk rf rt rd pg z : Nat} {a : Option Addr} (h : (KL.first gk rf rt rd pg a).own z ≠ none) : z = gk ∨ z = rf ∨ z = rt ∨ z = rd ∨ z = pg ∨ inA a z := by
  unfold KL.first at h
  dsimp only at h
  by_cases h1 : z = gk
  · exact .inl h1
  rw [if_neg h1] at h
  by_cases h2 : z = rf
  · exact .inr (.inl h2)
  rw [if_neg h2] at h
  by_cases h3 : z = rt
  · exact .inr (.inr (.inl h3))
  rw [if_neg h3] at h
  by_cases h4 : z = rd
  · exact .inr (.inr (.inr (.inl h4)))
  rw [if_neg h4] at h
  by_cases h5 : z = pg
  · exact .inr (.inr (.inr (.inr (.inl h5))))
  rw [if_neg h5] at h
  by_cases h6 : inA a z
  · exact .inr (.inr (.inr (.inr (.inr h6))))
  rw [if_neg h6] at h
  exact absurd rfl h

/-- A kernel that has nothing. -/
theorem first_ok {w : World} {gk rf rt rd pg : Nat} {a : Option Addr} {l c : Nat} {ps : List (Int × Int)} (hb : Blk w gk #[.bool true, .map (some rf), .map (some rt), .map (some rd), .int .i64 1, pd pg, .int .i64 0, .int .i64 0])
    (m1 : MapO w rf .string []) (m2 : MapO w rt .string []) (m3 : MapO w rd (.int .i64) []) (hp : PlO w pg a l c ps) (ha : ∀ b, inA a b → b < w.heap.size ∧ b ≠ gk ∧ b ≠ rf ∧ b ≠ rt ∧ b ≠ rd ∧ b ≠ pg)
    (hd : rf ≠ gk ∧ rt ≠ gk ∧ rd ≠ gk ∧ pg ≠ gk ∧ rt ≠ rf ∧ rd ≠ rf ∧ pg ≠ rf ∧ rd ≠ rt ∧ pg ≠ rt ∧ pg ≠ rd) (hl : ps.length ≤ 4096) (hm : ∀ p ∈ ps, mayP p) : KernO w gk (AK.empty ps) (KL.first gk rf rt rd pg a) := by
  obtain ⟨d1, d2, d3, d4, d5, d6, d7, d8, d9, d10⟩ := hd
  exact
    { blk := hb, mf := m1, mt := m2, md := m3
      pl := ⟨a, l, c, hp, fun b hb => by
        obtain ⟨_, e1, e2, e3, e4, e5⟩ := ha b hb
        show (if b = gk then _ else _) = _
        rw [if_neg e1, if_neg e2, if_neg e3, if_neg e4, if_neg e5, if_pos hb]⟩
      ob := fun i hi => by exact absurd hi (Nat.not_lt_zero i)
      ds := fun d hd => by cases hd
      oK := if_pos rfl
      oF := by show (KL.first gk rf rt rd pg a).own rf = _; unfold KL.first; dsimp only; rw [if_neg d1, if_pos rfl]
      oT := by show (KL.first gk rf rt rd pg a).own rt = _; unfold KL.first; dsimp only; rw [if_neg d2, if_neg d5, if_pos rfl]
      oD := by show (KL.first gk rf rt rd pg a).own rd = _; unfold KL.first; dsimp only; rw [if_neg d3, if_neg d6, if_neg d8, if_pos rfl]
      oP := by show (KL.first gk rf rt rd pg a).own pg = _; unfold KL.first; dsimp only; rw [if_neg d4, if_neg d7, if_neg d9, if_neg d10, if_pos rfl]
      od := fun d hd => by cases hd
      lt := fun z hz => by
        rcases KL.first_some hz with rfl | rfl | rfl | rfl | rfl | e
        · exact hb.lt
        · exact m1.lt
        · exact m2.lt
        · exact m3.lt
        · exact hp.blk.lt
        · exact (ha z e).1
      ok := AK.ok_empty hl hm }

namespace AK
theorem withF_ok_next {fs : List (ByteArray × List Int)} {ts : List (ByteArray × List (List Int))} {ps : List (Int × Int)} (h : CkOk fs ts ps) {i : Nat} (hi : i < fs.length) :
    (∀ f ∈ (withF (fs.take i) (empty ps)).files, f.1 ≠ fs[i].1) ∧ (∀ f ∈ (withF (fs.take i) (empty ps)).terms, f.1 ≠ fs[i].1) ∧ (withF (fs.take i) (empty ps)).files.length + (withF (fs.take i) (empty ps)).terms.length < 256 := by
  obtain ⟨h1, h2, _⟩ := withF_names (fs.take i) (empty ps)
  have hnd := h.nd
  rw [List.nodup_append] at hnd
  have hnd := hnd.1
  have h1 : (withF (fs.take i) (empty ps)).files.map (·.1) = (fs.take i).map (·.1) := by rw [h1]; rfl
  refine ⟨fun f hf e => ?_, fun f hf => by rw [h2] at hf; exact absurd hf (by simp [empty]), ?_⟩
  · have hm : fs[i].1 ∈ (fs.take i).map (·.1) := by rw [← h1, ← e]; exact List.mem_map.2 ⟨f, hf, rfl⟩
    rw [← List.take_append_drop i fs, List.map_append, List.nodup_append] at hnd
    exact hnd.2.2 _ hm _ (List.mem_map.2 ⟨fs[i], by rw [List.drop_eq_getElem_cons hi]; exact List.mem_cons_self, rfl⟩) rfl
  · have e1 := congrArg List.length h1
    rw [List.length_map, List.length_map, List.length_take] at e1
    rw [h2]
    show _ + 0 < 256
    have := h.len
    omega

theorem withT_ok_next {fs : List (ByteArray × List Int)} {ts : List (ByteArray × List (List Int))} {ps : List (Int × Int)} (h : CkOk fs ts ps) {i : Nat} (hi : i < ts.length) :
    (∀ f ∈ (withT (ts.take i) (withF fs (empty ps))).files, f.1 ≠ ts[i].1) ∧ (∀ f ∈ (withT (ts.take i) (withF fs (empty ps))).terms, f.1 ≠ ts[i].1) ∧ (withT (ts.take i) (withF fs (empty ps))).files.length + (withT (ts.take i) (withF fs (empty ps))).terms.length < 256 := by
  obtain ⟨h1, h2, _⟩ := withF_names fs (empty ps)
  obtain ⟨g1, g2, _⟩ := withT_names (ts.take i) (withF fs (empty ps))
  have hnd := h.nd
  rw [List.nodup_append] at hnd
  obtain ⟨_, hnt, hx⟩ := hnd
  have h1 : (withF fs (empty ps)).files.map (·.1) = fs.map (·.1) := by rw [h1]; rfl
  have g1 : (withT (ts.take i) (withF fs (empty ps))).terms.map (·.1) = (ts.take i).map (·.1) := by rw [g1, h2]; rfl
  refine ⟨fun f hf e => ?_, fun f hf e => ?_, ?_⟩
  · rw [g2] at hf
    have hm : ts[i].1 ∈ fs.map (·.1) := by rw [← h1, ← e]; exact List.mem_map.2 ⟨f, hf, rfl⟩
    exact hx _ hm ts[i].1 (List.mem_map.2 ⟨ts[i], List.getElem_mem hi, rfl⟩) rfl
  · have hm : ts[i].1 ∈ (ts.take i).map (·.1) := by rw [← g1, ← e]; exact List.mem_map.2 ⟨f, hf, rfl⟩
    rw [← List.take_append_drop i ts, List.map_append, List.nodup_append] at hnt
    exact hnt.2.2 _ hm _ (List.mem_map.2 ⟨ts[i], by rw [List.drop_eq_getElem_cons hi]; exact List.mem_cons_self, rfl⟩) rfl
  · have e1 := congrArg List.length h1
    have e2 := congrArg List.length g1
    rw [List.length_map, List.length_map] at e1 e2
    rw [List.length_take] at e2
    rw [g2]
    have := h.len
    omega
end AK

set_option maxHeartbeats 2000000 in
theorem kernNew_ok {w : World} {af : Option Addr} {lf cf : Nat} {fs : List (ByteArray × List Int)} {ef : List (ByteArray × Slc)} (hf : RdN RB w af lf cf fs ef) {at_ : Option Addr} {lt ct : Nat} {ts : List (ByteArray × List (List Int))} {et : List (ByteArray × Slc)} (ht : RdN RL w at_ lt ct ts et)
    {ap : Option Addr} {lp cp : Nat} {ps : List (Int × Int)} (hp : RdS 2 w ap lp cp (Fv ps)) (hlf : lf ≤ 140737488355328) (hlt : lt ≤ 140737488355328) :
    CallR Tryz.prog 8 [.agg #[.slice af lf cf, .slice at_ lt ct, .slice ap lp cp]] w fun v w' => Kept No w w' ∧ ((checkK fs ts ps ≠ 0 ∧ v = .tuple #[.pointer none, .int .i64 (checkK fs ts ps)]) ∨
      (checkK fs ts ps = 0 ∧ ∃ gk L, v = .tuple #[pd gk, .int .i64 0] ∧ KernO w' gk (AK.new fs ts ps) L ∧ ∀ z, L.own z ≠ none → w.heap.size ≤ z)) := by
  refine C8 ?_
  unfold L8
  have hfl : fs.length = lf := by have := hf.rd.1; rw [Nv_len, hf.len] at this; omega
  have htl : ts.length = lt := by have := ht.rd.1; rw [Nv_len, ht.len] at this; omega
  intro w1
  have hb1 : Blk w1 w.heap.size #[.slice af lf cf, .slice at_ lt ct, .slice ap lp cp] := Blk.alloc _ _ _
  have hk1 : Kept No w w1 := Kept.alloc _ _ _
  clear_value w1
  refine ⟨_, _, _, _, _, _, _, _, _, (hb1.cell 0).trans rfl, (hb1.cell 1).trans rfl, (hb1.cell 2).trans rfl, ?_⟩
  refine CallR.mono (kcheck_ok (hf.no (fun _ _ _ _ h k => h.no k) hk1) (ht.no (fun _ _ _ _ h k => h.no k) hk1) (hp.keep hk1 fun _ _ _ e => e) hlf hlt) ?_
  rintro v w2 ⟨rfl, hk2⟩
  have k2 := hk1.no hk2
  refine ⟨_, rfl, condN (fun hne => ⟨k2, .inl ⟨hne, rfl⟩⟩) (fun he => ?_)⟩
  have hck := AK.check_zero he
  intro w3 w4 w5 w6
  have m3 : MapO w3 w2.heap.size .string [] := MapO.new w2 _
  have hk3 : Kept No w2 w3 := Kept.alloc _ _ _
  have hs3 : w3.heap.size = w2.heap.size + 1 := by simp [w3]
  clear_value w3
  have m4 : MapO w4 w3.heap.size .string [] := MapO.new w3 _
  have hk4 : Kept No w3 w4 := Kept.alloc _ _ _
  have hs4 : w4.heap.size = w3.heap.size + 1 := by simp [w4]
  clear_value w4
  have m5 : MapO w5 w4.heap.size (.int .i64) [] := MapO.new w4 _
  have hk5 : Kept No w4 w5 := Kept.alloc _ _ _
  have hs5 : w5.heap.size = w4.heap.size + 1 := by simp [w5]
  clear_value w5
  have hb6 : Blk w6 w5.heap.size #[.bool true, .map (some w2.heap.size), .map (some w3.heap.size), .map (some w4.heap.size), .int .i64 1, .pointer none, .int .i64 0, .int .i64 0] := Blk.alloc _ _ _
  have hk6 : Kept No w5 w6 := Kept.alloc _ _ _
  have hs6 : w6.heap.size = w5.heap.size + 1 := by simp [w6]
  clear_value w6
  have k26 : Kept No w2 w6 := ((hk3.no hk4).no hk5).no hk6
  have k6 := k2.no k26
  have hc6 := (hb1.keep hk2 fun e => e).keep k26 fun e => e
  have hz1 := hb1.lt
  have hz2 := hk2.size
  refine ⟨_, _, _, (hc6.cell 2).trans rfl, CallR.mono (fnew_ok (hp.keep k6 fun _ _ _ e => e)) ?_⟩
  rintro v w7 ⟨⟨hne, _⟩ | ⟨_, pg, a', c', rfl, hpl, hpg, ha'⟩, hk7⟩
  · exact absurd hck.ck hne
  refine ⟨_, _, rfl, stC_blk (hb6.keep hk7 fun e => e) (by simp) fun w8 hb8 hk8 hs8 => ?_⟩
  have hb8 : Blk w8 w5.heap.size #[.bool true, .map (some w2.heap.size), .map (some w3.heap.size), .map (some w4.heap.size), .int .i64 1, pd pg, .int .i64 0, .int .i64 0] := hb8
  have hpglt := hpl.blk.lt
  have k8 : Kept No w w8 := (k6.no hk7).fresh hk8 fun x e => by omega
  have hc8 := (hc6.keep hk7 fun e => e).keep hk8 (by omega)
  have m38 := ((((m3.keep hk4 fun e => e).keep hk5 fun e => e).keep hk6 fun e => e).keep hk7 fun e => e).keep hk8 (by omega)
  have m48 := (((m4.keep hk5 fun e => e).keep hk6 fun e => e).keep hk7 fun e => e).keep hk8 (by omega)
  have m58 := ((m5.keep hk6 fun e => e).keep hk7 fun e => e).keep hk8 (by omega)
  have hpl8 := hpl.keep hk8 (by omega) (fun b _ hb e => by have := (ha' b hb).1; omega)
  have h8 : KernO w8 w5.heap.size (AK.empty ps) (KL.first w5.heap.size w2.heap.size w3.heap.size w4.heap.size pg a') :=
    first_ok hb8 m38 m48 m58 hpl8 (fun b hb => by have := ha' b hb; have := hpl.ne b hb; omega) ⟨by omega, by omega, by omega, by omega, by omega, by omega, by omega, by omega, by omega, by omega⟩ hck.pl hck.pm
  have hfirst : ∀ z, (KL.first w5.heap.size w2.heap.size w3.heap.size w4.heap.size pg a').own z ≠ none → w1.heap.size ≤ z := by
    intro z hz
    rcases KL.first_some hz with rfl | rfl | rfl | rfl | rfl | e
    · omega
    · omega
    · omega
    · omega
    · omega
    · have := (ha' z e).1; omega
  generalize KL.first w5.heap.size w2.heap.size w3.heap.size w4.heap.size pg a' = L0 at h8 hfirst
  generalize w5.heap.size = gk at *
  have hz8 := k8.size
  have fin : ∀ {w' : World} {L' : KL}, KStep w8 w' L0 L' → Kept No w w' ∧ (∀ z, L'.own z ≠ none → w.heap.size ≤ z) ∧ Blk w' w.heap.size #[.slice af lf cf, .slice at_ lt ct, .slice ap lp cp] := by
    intro w' L' st
    refine ⟨k8.trans st.kept fun x hx e => by have := hfirst x e; omega, fun z hz => ?_, hc8.keep st.kept fun e => by have := hfirst _ e; omega⟩
    rcases st.grew z hz with e | e
    · have := hfirst z e; omega
    · omega
  refine ⟨_, _, _, (hc8.cell 0).trans rfl, ?_⟩
  refine ⟨fun vs w' => ∃ (i : Nat) (L' : KL), vs = [.int .i64 (i : Int)] ∧ i ≤ lf ∧ KernO w' gk (AK.withF (fs.take i) (AK.empty ps)) L' ∧ KStep w8 w' L0 L',
    fun vs _ => lf - ix vs, ⟨0, L0, rfl, by omega, h8, KStep.refl _ _⟩, ?_⟩
  rintro _ n16 w9 ⟨i, L9, hvs, hi, h9, st9⟩
  simp only [List.cons.injEq, Value.int.injEq, true_and, and_true] at hvs
  subst hvs
  obtain ⟨k9, hge9, hc9⟩ := fin st9
  refine condP (fun hlt => ?_) (fun hge => ?_)
  · have hi' : i < fs.length := by omega
    obtain ⟨q, sl, haq, e1, e2, hR, _⟩ := (hf.no (fun _ _ _ _ h k => h.no k) k9).at hi'
    refine ⟨⟨by omega, by omega⟩, nnE2 haq ⟨fs[i].1, sl.1, sl.2.1, sl.2.2, by simpa using e1, by simpa using e2, ?_⟩⟩
    refine newPair fun w12 hb12 hk12 hz12 => ?_
    refine ⟨fun wS => Kept No w12 wS, Kept.drew _ _, ?_⟩
    intro w13
    have hk13 : Kept No w12 w13 := Kept.drew _ _
    clear_value w13
    have h12 := h9.no hk12
    have h13 := h12.no hk13
    refine ⟨_, fun wS hS => ((h12.no hS).blk.cell 1).trans rfl, _, fun wS hS => ((hb12.keep hS fun e => e).cell 0).trans rfl, _, _, _, fun wS hS => ((hb12.keep hS fun e => e).cell 1).trans rfl, ?_⟩
    have hR13 : RB w13 sl fs[i].2 := (hR.no hk12).no hk13
    have hfl2 := (hck.fs fs[i] (List.getElem_mem hi')).2
    have hsl : fs[i].2.length = sl.2.1 := RdB.len hR13
    refine CallR.mono (finew_ok hR13 (by omega)) ?_
    rintro v w14 (⟨hbig, _⟩ | ⟨_, b, F, rfl, hO, hk14, hF⟩)
    · omega
    obtain ⟨q1, q2, q3⟩ := AK.withF_ok_next hck hi'
    obtain ⟨w15, L15, hrun, h15, st15, _, _⟩ := addF_ok h13 hk14 hO hF (nm := fs[i].1) q1 q2 q3
    have hT : fs.take (i + 1) = fs.take i ++ [fs[i]] := by rw [List.take_add_one, List.getElem?_eq_getElem hi']; rfl
    refine ⟨_, _, rfl, hk13.no hk14, w15, hrun, ⟨by omega, by omega⟩, ⟨i + 1, L15, rfl, by omega, ?_, (st9.no hk12).trans (st15.fresh hk13)⟩, ?_⟩
    · rw [hT, AK.withF_snoc]; exact h15
    · simp only [ix]; omega
  · have hil : i = fs.length := by omega
    rw [List.take_of_length_le (by omega)] at h9
    refine ⟨_, _, _, (hc9.cell 1).trans rfl, ?_⟩
    refine ⟨fun vs w' => ∃ (j : Nat) (L' : KL), vs = [.int .i64 (j : Int)] ∧ j ≤ lt ∧ KernO w' gk (AK.withT (ts.take j) (AK.withF fs (AK.empty ps))) L' ∧ KStep w8 w' L0 L',
      fun vs _ => lt - ix vs, ⟨0, L9, rfl, by omega, h9, st9⟩, ?_⟩
    rintro _ n30 w16 ⟨j, L16', hvs, hj, h16, st16⟩
    simp only [List.cons.injEq, Value.int.injEq, true_and, and_true] at hvs
    subst hvs
    obtain ⟨k16, hge16, hc16⟩ := fin st16
    refine condP (fun hlt => ?_) (fun hge => ?_)
    · have hj' : j < ts.length := by omega
      obtain ⟨q, sl, haq, e1, e2, hR, _⟩ := (ht.no (fun _ _ _ _ h k => h.no k) k16).at hj'
      refine ⟨⟨by omega, by omega⟩, nnE2 haq ⟨ts[j].1, sl.1, sl.2.1, sl.2.2, by simpa using e1, by simpa using e2, ?_⟩⟩
      refine newPair fun w19 hb19 hk19 hz19 => ?_
      refine ⟨fun wS => Kept No w19 wS, Kept.drew _ _, ?_⟩
      intro w20
      have hk20 : Kept No w19 w20 := Kept.drew _ _
      clear_value w20
      have h19 := h16.no hk19
      have h20 := h19.no hk20
      refine ⟨_, fun wS hS => ((h19.no hS).blk.cell 2).trans rfl, _, fun wS hS => ((hb19.keep hS fun e => e).cell 0).trans rfl, _, _, _, fun wS hS => ((hb19.keep hS fun e => e).cell 1).trans rfl, ?_⟩
      have hR20 : RL w20 sl ts[j].2 := (hR.no hk19).no hk20
      have hnt := (hck.ts ts[j] (List.getElem_mem hj')).2
      refine CallR.mono (tnew_ok hR20.1 hR20.2) ?_
      rintro v w21 ⟨hk21, ⟨hne, _⟩ | ⟨_, b, F, R, rfl, hO, hFR⟩⟩
      · exact absurd hnt hne
      obtain ⟨q1, q2, q3⟩ := AK.withT_ok_next hck hj'
      obtain ⟨w22, L22, hrun, h22, st22, _⟩ := addT_ok h20 hk21 hO hFR (nm := ts[j].1) q1 q2 q3
      have hT : ts.take (j + 1) = ts.take j ++ [ts[j]] := by rw [List.take_add_one, List.getElem?_eq_getElem hj']; rfl
      refine ⟨_, _, rfl, hk20.no hk21, w22, hrun, ⟨by omega, by omega⟩, ⟨j + 1, L22, rfl, by omega, ?_, (st16.no hk19).trans (st22.fresh hk20)⟩, ?_⟩
      · rw [hT, AK.withT_snoc]; exact h22
      · simp only [ix]; omega
    · rw [List.take_of_length_le (by omega)] at h16
      exact ⟨k16, .inr ⟨he, gk, L16', rfl, h16, hge16⟩⟩

end Go.Proofs.YtpoaacnnhgebfaaGreat
