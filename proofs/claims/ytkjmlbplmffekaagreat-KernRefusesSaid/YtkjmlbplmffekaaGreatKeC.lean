/-
  What a kernel is made of, checked: the whole. Conditions: as each says.
-/
import Derived.Test.YtkjmlbplmffekaaGreatKe
import Derived.Test.YtkjmlbplmffekaaGreatFl
import Derived.Test.YtkjmlbplmffekaaGreatTe
set_option linter.unusedVariables false
namespace Go.Proofs.YtkjmlbplmffekaaGreat
open Go.Lw

theorem nnE2 {p : Option Addr} {q : Addr} {K : Addr → Prop} (h : p = some q) (hk : K q) : nn p K := by subst h; exact hk
theorem condN {a b : Int} {A B : Prop} (ha : a ≠ b → A) (hb : a = b → B) : cond (a != b) A B := condI (fun h => ha (by simpa using h)) (fun h => hb (by simpa using h))

/-- Cells of names and slices. -/
def Nv (es : List (ByteArray × Slc)) : List Value := es.flatMap fun e => [.string e.1, .slice e.2.1 e.2.2.1 e.2.2.2]

theorem Nv_len : ∀ es : List (ByteArray × Slc), (Nv es).length = es.length * 2
  | [] => rfl
  | f :: r => by
    have := Nv_len r
    show (_ :: _ :: Nv r).length = _
    simp only [List.length_cons, this]
    omega

theorem Nv_at : ∀ {es : List (ByteArray × Slc)} {i : Nat} (h : i < es.length), (Nv es)[i * 2]? = some (.string es[i].1) ∧ (Nv es)[i * 2 + 1]? = some (.slice es[i].2.1 es[i].2.2.1 es[i].2.2.2)
  | [], i, h => by simp at h
  | f :: r, 0, h => ⟨rfl, rfl⟩
  | f :: r, i + 1, h => by
    have := Nv_at (es := r) (i := i) (by simpa using h)
    rw [show (i + 1) * 2 = i * 2 + 2 by omega]
    exact this

/-- Named things: what each has is told by R. -/
structure RdN {α : Type} (R : World → Slc → α → Prop) (w : World) (a : Option Addr) (l c : Nat) (fs : List (ByteArray × α)) (es : List (ByteArray × Slc)) : Prop where
  rd : RdS 2 w a l c (Nv es)
  len : es.length = fs.length
  each : ∀ i, (h : i < es.length) → (h2 : i < fs.length) → es[i].1 = fs[i].1 ∧ R w es[i].2 fs[i].2

theorem RdN.no {α : Type} {R : World → Slc → α → Prop} (hR : ∀ w w' s x, R w s x → Kept No w w' → R w' s x) {w w' : World} {a : Option Addr} {l c : Nat} {fs : List (ByteArray × α)} {es : List (ByteArray × Slc)} (h : RdN R w a l c fs es) (k : Kept No w w') : RdN R w' a l c fs es :=
  ⟨h.rd.keep k fun _ _ _ e => e, h.len, fun i h1 h2 => ⟨(h.each i h1 h2).1, hR _ _ _ _ (h.each i h1 h2).2 k⟩⟩

theorem RdN.at {α : Type} {R : World → Slc → α → Prop} {w : World} {a : Option Addr} {l c : Nat} {fs : List (ByteArray × α)} {es : List (ByteArray × Slc)} (h : RdN R w a l c fs es) {i : Nat} (hi : i < fs.length) :
    ∃ q s, a = some q ∧ w.cell? (q.add (i * 2)) = some (.string fs[i].1) ∧ w.cell? ((q.add (i * 2)).add 1) = some (.slice s.1 s.2.1 s.2.2) ∧ R w s fs[i].2 ∧ i < l := by
  have he : i < es.length := by rw [h.len]; exact hi
  obtain ⟨e1, e2⟩ := Nv_at he
  have hl : es.length = l := by have := h.rd.1; rw [Nv_len] at this; omega
  cases ha : a with
  | none => have := RdS.isNone h.rd ha; omega
  | some q =>
    refine ⟨q, es[i].2, rfl, ?_, ?_, (h.each i he hi).2, by omega⟩
    · rw [← (h.each i he hi).1]; exact h.rd.2.2.2 q ha _ _ e1
    · rw [Lw.add_add]; exact h.rd.2.2.2 q ha _ _ e2

def RB (w : World) (s : Slc) (bs : List Int) : Prop := RdB w s.1 s.2.1 s.2.2 bs
def RL (w : World) (s : Slc) (LL : List (List Int)) : Prop := RdL (fun _ => True) w s.1 s.2.1 s.2.2 LL ∧ ∀ x ∈ LL, x.length ≤ 140737488355328

def ckFs : List (ByteArray × List Int) → List ByteArray → Int × List ByteArray
  | [], seen => (0, seen)
  | f :: r, seen => if freshK seen f.1 ≠ 0 then (freshK seen f.1, seen) else if 1048576 < f.2.length then (5, seen ++ [f.1]) else ckFs r (seen ++ [f.1])

def ckTs : List (ByteArray × List (List Int)) → List ByteArray → Int × List ByteArray
  | [], seen => (0, seen)
  | f :: r, seen => if freshK seen f.1 ≠ 0 then (freshK seen f.1, seen) else if newT f.2 ≠ 0 then (newT f.2, seen ++ [f.1]) else ckTs r (seen ++ [f.1])

def checkK (fs : List (ByteArray × List Int)) (ts : List (ByteArray × List (List Int))) (ps : List (Int × Int)) : Int :=
  if 256 < fs.length + ts.length then 3 else if (ckFs fs []).1 ≠ 0 then (ckFs fs []).1 else if (ckTs ts (ckFs fs []).2).1 ≠ 0 then (ckTs ts (ckFs fs []).2).1 else ckF ps

theorem ckFs_cons {f : ByteArray × List Int} {r : List (ByteArray × List Int)} {seen : List ByteArray} : ckFs (f :: r) seen = if freshK seen f.1 ≠ 0 then (freshK seen f.1, seen) else if 1048576 < f.2.length then (5, seen ++ [f.1]) else ckFs r (seen ++ [f.1]) := rfl
theorem ckTs_cons {f : ByteArray × List (List Int)} {r : List (ByteArray × List (List Int))} {seen : List ByteArray} : ckTs (f :: r) seen = if freshK seen f.1 ≠ 0 then (freshK seen f.1, seen) else if newT f.2 ≠ 0 then (newT f.2, seen ++ [f.1]) else ckTs r (seen ++ [f.1]) := rfl

theorem RB.no {w w' : World} {s : Slc} {bs : List Int} (h : RB w s bs) (k : Kept No w w') : RB w' s bs := RdB.keep h k fun _ _ _ e => e
theorem RL.no {w w' : World} {s : Slc} {LL : List (List Int)} (h : RL w s LL) (k : Kept No w w') : RL w' s LL := ⟨RdL.keep h.1 k fun _ _ e => e, h.2⟩

/-- A pair's cells, filled. -/
theorem newPair {w : World} {e : TypeId} {v0 v1 u0 u1 : Value} {K : World → Prop} (hk : ∀ w', Blk w' w.heap.size #[v0, v1] → Kept No w w' → w.heap.size < w'.heap.size → K w') :
    stC (Addr.mk w.heap.size 0 none) v0 (w.alloc (.cells #[u0, u1] e)) fun w1 => stC (Addr.mk w.heap.size 1 none) v1 w1 K := by
  have hb : Blk (w.alloc (.cells #[u0, u1] e)) w.heap.size #[u0, u1] := Blk.alloc _ _ _
  have hk1 : Kept No w (w.alloc (.cells #[u0, u1] e)) := Kept.alloc _ _ _
  refine stC_blk hb (by simp) fun w2 h2 k2 s2 => stC_blk h2 (by simp) fun w3 h3 k3 s3 => ?_
  have h3' : Blk w3 w.heap.size #[v0, v1] := by simpa using h3
  exact hk w3 h3' ((hk1.fresh k2 (fun x e => by omega)).fresh k3 (fun x e => by omega)) h3'.lt

set_option maxHeartbeats 1000000 in
theorem kcheck_ok {w : World} {af : Option Addr} {lf cf : Nat} {fs : List (ByteArray × List Int)} {ef : List (ByteArray × Slc)} (hf : RdN RB w af lf cf fs ef) {at_ : Option Addr} {lt ct : Nat} {ts : List (ByteArray × List (List Int))} {et : List (ByteArray × Slc)} (ht : RdN RL w at_ lt ct ts et)
    {ap : Option Addr} {lp cp : Nat} {ps : List (Int × Int)} (hp : RdS 2 w ap lp cp (Fv ps)) (hlf : lf ≤ 140737488355328) (hlt : lt ≤ 140737488355328) :
    CallR Tryz.prog 31 [.agg #[.slice af lf cf, .slice at_ lt ct, .slice ap lp cp]] w fun v w' => v = .int .i64 (checkK fs ts ps) ∧ Kept No w w' := by
  refine C31 ?_
  unfold L31
  have hfl : fs.length = lf := by have := hf.rd.1; rw [Nv_len, hf.len] at this; omega
  have htl : ts.length = lt := by have := ht.rd.1; rw [Nv_len, ht.len] at this; omega
  intro w1
  have hb1 : Blk w1 w.heap.size #[.slice af lf cf, .slice at_ lt ct, .slice ap lp cp] := Blk.alloc _ _ _
  have hk1 : Kept No w w1 := Kept.alloc _ _ _
  clear_value w1
  refine ⟨_, _, _, (hb1.cell 0).trans rfl, _, _, _, (hb1.cell 1).trans rfl, ⟨by omega, by omega⟩, condP (fun hgt => ⟨by unfold checkK; rw [if_pos (by omega)], hk1⟩) (fun hle => ?_)⟩
  intro w2 w3
  have hm2 : MapO w2 w1.heap.size .string (seenM []) := MapO.new w1 _
  have hk2 : Kept No w1 w2 := Kept.alloc _ _ _
  clear_value w2
  have hbS : Blk w3 w2.heap.size #[.map none] := Blk.alloc _ _ _
  have hk3 : Kept No w2 w3 := Kept.alloc _ _ _
  clear_value w3
  have hz1 := hb1.lt
  have hz2 := hm2.lt
  have hz3 := hbS.lt
  refine stC_blk hbS (by simp) fun w4 hbS4 hk4 _ => ?_
  have hbS4 : Blk w4 w2.heap.size #[.map (some w1.heap.size)] := by simpa using hbS4
  have hm4 : MapO w4 w1.heap.size .string (seenM []) := (hm2.keep hk3 fun e => e).keep hk4 (by omega)
  have hb4 : Blk w4 w.heap.size #[.slice af lf cf, .slice at_ lt ct, .slice ap lp cp] := ((hb1.keep hk2 fun e => e).keep hk3 fun e => e).keep hk4 (by omega)
  have k4 : Kept No w w4 := ((hk1.no hk2).no hk3).fresh hk4 (fun x e => by omega)
  have hgr : w2.heap.size ≠ w1.heap.size := by omega
  have nok : checkK fs ts ps = if (ckFs fs []).1 ≠ 0 then (ckFs fs []).1 else if (ckTs ts (ckFs fs []).2).1 ≠ 0 then (ckTs ts (ckFs fs []).2).1 else ckF ps := by unfold checkK; rw [if_neg (by omega)]
  rw [nok]
  refine ⟨_, _, _, (hb4.cell 0).trans rfl, ?_⟩
  refine ⟨fun vs w' => ∃ (i : Nat) (seen : List ByteArray), vs = [.int .i64 (i : Int)] ∧ i ≤ lf ∧ ckFs fs [] = ckFs (fs.drop i) seen ∧ MapO w' w1.heap.size .string (seenM seen) ∧ Blk w' w2.heap.size #[.map (some w1.heap.size)] ∧ Blk w' w.heap.size #[.slice af lf cf, .slice at_ lt ct, .slice ap lp cp] ∧ Kept No w w' ∧ w4.heap.size ≤ w'.heap.size,
    fun vs _ => lf - ix vs, ⟨0, [], rfl, by omega, rfl, hm4, hbS4, hb4, k4, Nat.le_refl _⟩, ?_⟩
  intro _ n9 w5 hI
  obtain ⟨i, seen, hvs, hi, hck, hm5, hbS5, hb5, k5, hz5⟩ := hI
  simp only [List.cons.injEq, Value.int.injEq, true_and, and_true] at hvs
  subst hvs
  have hz4 : w3.heap.size ≤ w4.heap.size := hk4.size
  refine condP (fun hlt => ?_) (fun hge => ?_)
  · have hi' : i < fs.length := by omega
    obtain ⟨q, sl, haq, e1, e2, hR, _⟩ := (hf.no (fun _ _ _ _ h k => h.no k) k5).at hi'
    rw [List.drop_eq_getElem_cons hi', ckFs_cons] at hck
    refine ⟨⟨by omega, by omega⟩, nnE2 haq ⟨fs[i].1, sl.1, sl.2.1, sl.2.2, by simpa using e1, by simpa using e2, ?_⟩⟩
    refine newPair fun w8 hb8 hk8 hz8 => ⟨_, (hb8.cell 0).trans rfl, 106, #[], _, rfl, by kernel_rfl, ?_⟩
    have k8 := k5.no hk8
    refine CallR.mono (fresh_ok (hbS5.keep hk8 fun e => e) (hm5.keep hk8 fun e => e) hgr fs[i].1) ?_
    rintro v w9 ⟨rfl, hm9, hk9⟩
    have k9 : Kept No w w9 := k8.fresh hk9 (fun x e => by omega)
    refine ⟨_, rfl, condN (fun hne => ?_) (fun he => ?_)⟩
    · rw [if_pos hne] at hck
      refine ⟨?_, k9⟩
      rw [hck, if_pos hne]
    · rw [if_neg (by omega)] at hck
      refine ⟨_, _, _, ((hb8.keep hk9 (by omega)).cell 1).trans rfl, ?_⟩
      have hsl : fs[i].2.length = sl.2.1 := RdB.len hR
      refine condP (fun hbig => ?_) (fun hsm => ?_)
      · rw [if_pos (by omega)] at hck
        refine ⟨?_, k9⟩
        rw [hck, if_pos (by dsimp only; omega)]
      · rw [if_neg (by omega)] at hck
        have hz9 : w8.heap.size ≤ w9.heap.size := hk9.size
        refine ⟨⟨by omega, by omega⟩, ⟨i + 1, seen ++ [fs[i].1], rfl, by omega, hck, hm9 he, (hbS5.keep hk8 fun e => e).keep hk9 (by omega), (hb5.keep hk8 fun e => e).keep hk9 (by omega), k9, by omega⟩, ?_⟩
        simp only [ix]; omega
  · have hil : i = fs.length := by omega
    rw [List.drop_of_length_le (by omega)] at hck
    have hck : ckFs fs [] = (0, seen) := hck
    rw [hck, if_neg (by dsimp only; omega)]
    refine ⟨_, _, _, (hb5.cell 1).trans rfl, ?_⟩
    refine ⟨fun vs w' => ∃ (j : Nat) (seen2 : List ByteArray), vs = [.int .i64 (j : Int)] ∧ j ≤ lt ∧ ckTs ts seen = ckTs (ts.drop j) seen2 ∧ MapO w' w1.heap.size .string (seenM seen2) ∧ Blk w' w2.heap.size #[.map (some w1.heap.size)] ∧ Blk w' w.heap.size #[.slice af lf cf, .slice at_ lt ct, .slice ap lp cp] ∧ Kept No w w' ∧ w4.heap.size ≤ w'.heap.size,
      fun vs _ => lt - ix vs, ⟨0, seen, rfl, by omega, rfl, hm5, hbS5, hb5, k5, hz5⟩, ?_⟩
    intro _ n23 w10 hI
    obtain ⟨j, seen2, hvs, hj, hct, hm10, hbS10, hb10, k10, hz10⟩ := hI
    simp only [List.cons.injEq, Value.int.injEq, true_and, and_true] at hvs
    subst hvs
    refine condP (fun hlt => ?_) (fun hge => ?_)
    · have hj' : j < ts.length := by omega
      obtain ⟨q, sl, haq, e1, e2, hR, _⟩ := ht.at hj'
      have e1 := k10.cell e1 (fun e => e)
      have e2 := k10.cell e2 (fun e => e)
      rw [List.drop_eq_getElem_cons hj', ckTs_cons] at hct
      refine ⟨⟨by omega, by omega⟩, nnE2 haq ⟨ts[j].1, sl.1, sl.2.1, sl.2.2, by simpa using e1, by simpa using e2, ?_⟩⟩
      refine newPair fun w13 hb13 hk13 hz13 => ⟨_, (hb13.cell 0).trans rfl, 106, #[], _, rfl, by kernel_rfl, ?_⟩
      have k13 := k10.no hk13
      refine CallR.mono (fresh_ok (hbS10.keep hk13 fun e => e) (hm10.keep hk13 fun e => e) hgr ts[j].1) ?_
      rintro v w14 ⟨rfl, hm14, hk14⟩
      have k14 : Kept No w w14 := k13.fresh hk14 (fun x e => by omega)
      refine ⟨_, rfl, condN (fun hne => ?_) (fun he => ?_)⟩
      · rw [if_pos hne] at hct
        refine ⟨?_, k14⟩
        rw [hct, if_pos hne]
      · rw [if_neg (by omega)] at hct
        refine ⟨_, _, _, ((hb13.keep hk14 (by omega)).cell 1).trans rfl, ?_⟩
        have hR' : RL w14 sl ts[j].2 := hR.no k14
        refine CallR.mono (tnew_ok hR'.1 hR'.2) ?_
        rintro v w15 ⟨hk15, ⟨hne, rfl⟩ | ⟨he0, b, F, R, rfl, _, _⟩⟩
        · rw [if_pos hne] at hct
          refine ⟨_, _, rfl, condT (by simpa using hne) ⟨?_, k14.no hk15⟩⟩
          rw [hct, if_pos hne]
        · rw [if_neg (by omega)] at hct
          have hz14 : w13.heap.size ≤ w14.heap.size := hk14.size
          have hz15 : w14.heap.size ≤ w15.heap.size := hk15.size
          refine ⟨_, _, rfl, condF rfl ⟨⟨by omega, by omega⟩, ⟨j + 1, seen2 ++ [ts[j].1], rfl, by omega, hct, (hm14 he).keep hk15 (fun e => e), ((hbS10.keep hk13 fun e => e).keep hk14 (by omega)).keep hk15 (fun e => e), ((hb10.keep hk13 fun e => e).keep hk14 (by omega)).keep hk15 (fun e => e), k14.no hk15, by omega⟩, ?_⟩⟩
          simp only [ix]; omega
    · rw [List.drop_of_length_le (by omega)] at hct
      have hct : ckTs ts seen = (0, seen2) := hct
      rw [hct, if_neg (by dsimp only; omega)]
      refine ⟨_, _, _, (hb10.cell 2).trans rfl, CallR.mono (fcheck_ok (hp.keep k10 fun _ _ _ e => e)) ?_⟩
      rintro v w16 ⟨⟨n, rfl⟩, hk16⟩
      exact ⟨_, _, rfl, rfl, k10.no hk16⟩

end Go.Proofs.YtkjmlbplmffekaaGreat
