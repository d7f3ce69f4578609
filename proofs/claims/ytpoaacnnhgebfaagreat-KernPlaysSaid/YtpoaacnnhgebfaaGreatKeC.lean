/-
  What a kernel is made of, checked: the whole. Conditions: as each says.
  What a description is of: a file, a terminal or a pipe: its methods by name. Conditions: as each says.
  A file's description: what its methods do. Conditions: as each says.
  A terminal's and a pipe's description: what their methods do; whether a read would wait. Conditions: as each says.
-/
import Derived.Test.YtpoaacnnhgebfaaGreatKe
import Derived.Test.YtpoaacnnhgebfaaGreatFl
import Derived.Test.YtpoaacnnhgebfaaGreatTe
import Derived.Test.YtpoaacnnhgebfaaGreatFi
import Derived.Test.YtpoaacnnhgebfaaGreatKp
import Derived.FollowTie
set_option linter.unusedVariables false
namespace Go.Proofs.YtpoaacnnhgebfaaGreat
open Go.Lw

theorem nnE2 {p : Option Addr} {q : Addr} {K : Addr → Prop} (h : p = some q) (hk : K q) : nn p K := by subst h; exact hk
theorem condN {a b : Int} {A B : Prop} (ha : a ≠ b → A) (hb : a = b → B) : cond (a != b) A B := condI (fun h => ha (by simpa using h)) (fun h => hb (by simpa using h))

/-- Cells of names and slices. -/
def Nv (es : List (ByteArray × Slc)) : List Value := es.flatMap fun e => [.string e.1, .slice e.2.1 e.2.2.1 e.2.2.2]

theorem Nv_len : ∀ es : List (ByteArray × Slc), (Nv es).length = es.length * 2
  | [] => rfl
  | f :: r => by
    have := Nv_len r
    show (_ :: _ :: Nv r).length = _
    simp only [List.length_cons, this]
    omega

theorem Nv_at : ∀ {es : List (ByteArray × Slc)} {i : Nat} (h : i < es.length), (Nv es)[i * 2]? = some (.string es[i].1) ∧ (Nv es)[i * 2 + 1]? = some (.slice es[i].2.1 es[i].2.2.1 es[i].2.2.2)
  | [], i, h => by simp at h
  | f :: r, 0, h => ⟨rfl, rfl⟩
  | f :: r, i + 1, h => by
    have := Nv_at (es := r) (i := i) (by simpa using h)
    rw [show (i + 1) * 2 = i * 2 + 2 by omega]
    exact this

/-- Named things: what each has is told by R. -/
structure RdN {α : Type} (R : World → Slc → α → Prop) (w : World) (a : Option Addr) (l c : Nat) (fs : List (ByteArray × α)) (es : List (ByteArray × Slc)) : Prop where
  rd : RdS 2 w a l c (Nv es)
  len : es.length = fs.length
  each : ∀ i, (h : i < es.length) → (h2 : i < fs.length) → es[i].1 = fs[i].1 ∧ R w es[i].2 fs[i].2

theorem RdN.no {α : Type} {R : World → Slc → α → Prop} (hR : ∀ w w' s x, R w s x → Kept No w w' → R w' s x) {w w' : World} {a : Option Addr} {l c : Nat} {fs : List (ByteArray × α)} {es : List (ByteArray × Slc)} (h : RdN R w a l c fs es) (k : Kept No w w') : RdN R w' a l c fs es :=
  ⟨h.rd.keep k fun _ _ _ e => e, h.len, fun i h1 h2 => ⟨(h.each i h1 h2).1, hR _ _ _ _ (h.each i h1 h2).2 k⟩⟩

theorem RdN.at {α : Type} {R : World → Slc → α → Prop} {w : World} {a : Option Addr} {l c : Nat} {fs : List (ByteArray × α)} {es : List (ByteArray × Slc)} (h : RdN R w a l c fs es) {i : Nat} (hi : i < fs.length) :
    ∃ q s, a = some q ∧ w.cell? (q.add (i * 2)) = some (.string fs[i].1) ∧ w.cell? ((q.add (i * 2)).add 1) = some (.slice s.1 s.2.1 s.2.2) ∧ R w s fs[i].2 ∧ i < l := by
  have he : i < es.length := by rw [h.len]; exact hi
  obtain ⟨e1, e2⟩ := Nv_at he
  have hl : es.length = l := by have := h.rd.1; rw [Nv_len] at this; omega
  cases ha : a with
  | none => have := RdS.isNone h.rd ha; omega
  | some q =>
    refine ⟨q, es[i].2, rfl, ?_, ?_, (h.each i he hi).2, by omega⟩
    · rw [← (h.each i he hi).1]; exact h.rd.2.2.2 q ha _ _ e1
    · rw [Lw.add_add]; exact h.rd.2.2.2 q ha _ _ e2

def RB (w : World) (s : Slc) (bs : List Int) : Prop := RdB w s.1 s.2.1 s.2.2 bs
def RL (w : World) (s : Slc) (LL : List (List Int)) : Prop := RdL (fun _ => True) w s.1 s.2.1 s.2.2 LL ∧ ∀ x ∈ LL, x.length ≤ 140737488355328

def ckFs : List (ByteArray × List Int) → List ByteArray → Int × List ByteArray
  | [], seen => (0, seen)
  | f :: r, seen => if freshK seen f.1 ≠ 0 then (freshK seen f.1, seen) else if 1048576 < f.2.length then (5, seen ++ [f.1]) else ckFs r (seen ++ [f.1])

def ckTs : List (ByteArray × List (List Int)) → List ByteArray → Int × List ByteArray
  | [], seen => (0, seen)
  | f :: r, seen => if freshK seen f.1 ≠ 0 then (freshK seen f.1, seen) else if newT f.2 ≠ 0 then (newT f.2, seen ++ [f.1]) else ckTs r (seen ++ [f.1])

def checkK (fs : List (ByteArray × List Int)) (ts : List (ByteArray × List (List Int))) (ps : List (Int × Int)) : Int :=
  if 256 < fs.length + ts.length then 3 else if (ckFs fs []).1 ≠ 0 then (ckFs fs []).1 else if (ckTs ts (ckFs fs []).2).1 ≠ 0 then (ckTs ts (ckFs fs []).2).1 else ckF ps

theorem ckFs_cons {f : ByteArray × List Int} {r : List (ByteArray × List Int)} {seen : List ByteArray} : ckFs (f :: r) seen = if freshK seen f.1 ≠ 0 then (freshK seen f.1, seen) else if 1048576 < f.2.length then (5, seen ++ [f.1]) else ckFs r (seen ++ [f.1]) := rfl
theorem ckTs_cons {f : ByteArray × List (List Int)} {r : List (ByteArray × List (List Int))} {seen : List ByteArray} : ckTs (f :: r) seen = if freshK seen f.1 ≠ 0 then (freshK seen f.1, seen) else if newT f.2 ≠ 0 then (newT f.2, seen ++ [f.1]) else ckTs r (seen ++ [f.1]) := rfl

theorem RB.no {w w' : World} {s : Slc} {bs : List Int} (h : RB w s bs) (k : Kept No w w') : RB w' s bs := RdB.keep h k fun _ _ _ e => e
theorem RL.no {w w' : World} {s : Slc} {LL : List (List Int)} (h : RL w s LL) (k : Kept No w w') : RL w' s LL := ⟨RdL.keep h.1 k fun _ _ e => e, h.2⟩

/-- A pair's cells, filled. -/
theorem newPair {w : World} {e : TypeId} {v0 v1 u0 u1 : Value} {K : World → Prop} (hk : ∀ w', Blk w' w.heap.size #[v0, v1] → Kept No w w' → w.heap.size < w'.heap.size → K w') :
    stC (Addr.mk w.heap.size 0 none) v0 (w.alloc (.cells #[u0, u1] e)) fun w1 => stC (Addr.mk w.heap.size 1 none) v1 w1 K := by
  have hb : Blk (w.alloc (.cells #[u0, u1] e)) w.heap.size #[u0, u1] := Blk.alloc _ _ _
  have hk1 : Kept No w (w.alloc (.cells #[u0, u1] e)) := Kept.alloc _ _ _
  refine stC_blk hb (by simp) fun w2 h2 k2 s2 => stC_blk h2 (by simp) fun w3 h3 k3 s3 => ?_
  have h3' : Blk w3 w.heap.size #[v0, v1] := by simpa using h3
  exact hk w3 h3' ((hk1.fresh k2 (fun x e => by omega)).fresh k3 (fun x e => by omega)) h3'.lt

set_option maxHeartbeats 1000000 in
theorem kcheck_ok {w : World} {af : Option Addr} {lf cf : Nat} {fs : List (ByteArray × List Int)} {ef : List (ByteArray × Slc)} (hf : RdN RB w af lf cf fs ef) {at_ : Option Addr} {lt ct : Nat} {ts : List (ByteArray × List (List Int))} {et : List (ByteArray × Slc)} (ht : RdN RL w at_ lt ct ts et)
    {ap : Option Addr} {lp cp : Nat} {ps : List (Int × Int)} (hp : RdS 2 w ap lp cp (Fv ps)) (hlf : lf ≤ 140737488355328) (hlt : lt ≤ 140737488355328) :
    CallR Tryz.prog 12 [.agg #[.slice af lf cf, .slice at_ lt ct, .slice ap lp cp]] w fun v w' => v = .int .i64 (checkK fs ts ps) ∧ Kept No w w' := by
  refine C12 ?_
  unfold L12
  have hfl : fs.length = lf := by have := hf.rd.1; rw [Nv_len, hf.len] at this; omega
  have htl : ts.length = lt := by have := ht.rd.1; rw [Nv_len, ht.len] at this; omega
  intro w1
  have hb1 : Blk w1 w.heap.size #[.slice af lf cf, .slice at_ lt ct, .slice ap lp cp] := Blk.alloc _ _ _
  have hk1 : Kept No w w1 := Kept.alloc _ _ _
  clear_value w1
  refine ⟨_, _, _, (hb1.cell 0).trans rfl, _, _, _, (hb1.cell 1).trans rfl, ⟨by omega, by omega⟩, condP (fun hgt => ⟨by unfold checkK; rw [if_pos (by omega)], hk1⟩) (fun hle => ?_)⟩
  intro w2 w3
  have hm2 : MapO w2 w1.heap.size .string (seenM []) := MapO.new w1 _
  have hk2 : Kept No w1 w2 := Kept.alloc _ _ _
  clear_value w2
  have hbS : Blk w3 w2.heap.size #[.map none] := Blk.alloc _ _ _
  have hk3 : Kept No w2 w3 := Kept.alloc _ _ _
  clear_value w3
  have hz1 := hb1.lt
  have hz2 := hm2.lt
  have hz3 := hbS.lt
  refine stC_blk hbS (by simp) fun w4 hbS4 hk4 _ => ?_
  have hbS4 : Blk w4 w2.heap.size #[.map (some w1.heap.size)] := by simpa using hbS4
  have hm4 : MapO w4 w1.heap.size .string (seenM []) := (hm2.keep hk3 fun e => e).keep hk4 (by omega)
  have hb4 : Blk w4 w.heap.size #[.slice af lf cf, .slice at_ lt ct, .slice ap lp cp] := ((hb1.keep hk2 fun e => e).keep hk3 fun e => e).keep hk4 (by omega)
  have k4 : Kept No w w4 := ((hk1.no hk2).no hk3).fresh hk4 (fun x e => by omega)
  have hgr : w2.heap.size ≠ w1.heap.size := by omega
  have nok : checkK fs ts ps = if (ckFs fs []).1 ≠ 0 then (ckFs fs []).1 else if (ckTs ts (ckFs fs []).2).1 ≠ 0 then (ckTs ts (ckFs fs []).2).1 else ckF ps := by unfold checkK; rw [if_neg (by omega)]
  rw [nok]
  refine ⟨_, _, _, (hb4.cell 0).trans rfl, ?_⟩
  refine ⟨fun vs w' => ∃ (i : Nat) (seen : List ByteArray), vs = [.int .i64 (i : Int)] ∧ i ≤ lf ∧ ckFs fs [] = ckFs (fs.drop i) seen ∧ MapO w' w1.heap.size .string (seenM seen) ∧ Blk w' w2.heap.size #[.map (some w1.heap.size)] ∧ Blk w' w.heap.size #[.slice af lf cf, .slice at_ lt ct, .slice ap lp cp] ∧ Kept No w w' ∧ w4.heap.size ≤ w'.heap.size,
    fun vs _ => lf - ix vs, ⟨0, [], rfl, by omega, rfl, hm4, hbS4, hb4, k4, Nat.le_refl _⟩, ?_⟩
  intro _ n9 w5 hI
  obtain ⟨i, seen, hvs, hi, hck, hm5, hbS5, hb5, k5, hz5⟩ := hI
  simp only [List.cons.injEq, Value.int.injEq, true_and, and_true] at hvs
  subst hvs
  have hz4 : w3.heap.size ≤ w4.heap.size := hk4.size
  refine condP (fun hlt => ?_) (fun hge => ?_)
  · have hi' : i < fs.length := by omega
    obtain ⟨q, sl, haq, e1, e2, hR, _⟩ := (hf.no (fun _ _ _ _ h k => h.no k) k5).at hi'
    rw [List.drop_eq_getElem_cons hi', ckFs_cons] at hck
    refine ⟨⟨by omega, by omega⟩, nnE2 haq ⟨fs[i].1, sl.1, sl.2.1, sl.2.2, by simpa using e1, by simpa using e2, ?_⟩⟩
    refine newPair fun w8 hb8 hk8 hz8 => ⟨_, (hb8.cell 0).trans rfl, 61, #[], _, rfl, by kernel_rfl, ?_⟩
    have k8 := k5.no hk8
    refine CallR.mono (fresh_ok (hbS5.keep hk8 fun e => e) (hm5.keep hk8 fun e => e) hgr fs[i].1) ?_
    rintro v w9 ⟨rfl, hm9, hk9⟩
    have k9 : Kept No w w9 := k8.fresh hk9 (fun x e => by omega)
    refine ⟨_, rfl, condN (fun hne => ?_) (fun he => ?_)⟩
    · rw [if_pos hne] at hck
      refine ⟨?_, k9⟩
      rw [hck, if_pos hne]
    · rw [if_neg (by omega)] at hck
      refine ⟨_, _, _, ((hb8.keep hk9 (by omega)).cell 1).trans rfl, ?_⟩
      have hsl : fs[i].2.length = sl.2.1 := RdB.len hR
      refine condP (fun hbig => ?_) (fun hsm => ?_)
      · rw [if_pos (by omega)] at hck
        refine ⟨?_, k9⟩
        rw [hck, if_pos (by dsimp only; omega)]
      · rw [if_neg (by omega)] at hck
        have hz9 : w8.heap.size ≤ w9.heap.size := hk9.size
        refine ⟨⟨by omega, by omega⟩, ⟨i + 1, seen ++ [fs[i].1], rfl, by omega, hck, hm9 he, (hbS5.keep hk8 fun e => e).keep hk9 (by omega), (hb5.keep hk8 fun e => e).keep hk9 (by omega), k9, by omega⟩, ?_⟩
        simp only [ix]; omega
  · have hil : i = fs.length := by omega
    rw [List.drop_of_length_le (by omega)] at hck
    have hck : ckFs fs [] = (0, seen) := hck
    rw [hck, if_neg (by dsimp only; omega)]
    refine ⟨_, _, _, (hb5.cell 1).trans rfl, ?_⟩
    refine ⟨fun vs w' => ∃ (j : Nat) (seen2 : List ByteArray), vs = [.int .i64 (j : Int)] ∧ j ≤ lt ∧ ckTs ts seen = ckTs (ts.drop j) seen2 ∧ MapO w' w1.heap.size .string (seenM seen2) ∧ Blk w' w2.heap.size #[.map (some w1.heap.size)] ∧ Blk w' w.heap.size #[.slice af lf cf, .slice at_ lt ct, .slice ap lp cp] ∧ Kept No w w' ∧ w4.heap.size ≤ w'.heap.size,
      fun vs _ => lt - ix vs, ⟨0, seen, rfl, by omega, rfl, hm5, hbS5, hb5, k5, hz5⟩, ?_⟩
    intro _ n23 w10 hI
    obtain ⟨j, seen2, hvs, hj, hct, hm10, hbS10, hb10, k10, hz10⟩ := hI
    simp only [List.cons.injEq, Value.int.injEq, true_and, and_true] at hvs
    subst hvs
    refine condP (fun hlt => ?_) (fun hge => ?_)
    · have hj' : j < ts.length := by omega
      obtain ⟨q, sl, haq, e1, e2, hR, _⟩ := ht.at hj'
      have e1 := k10.cell e1 (fun e => e)
      have e2 := k10.cell e2 (fun e => e)
      rw [List.drop_eq_getElem_cons hj', ckTs_cons] at hct
      refine ⟨⟨by omega, by omega⟩, nnE2 haq ⟨ts[j].1, sl.1, sl.2.1, sl.2.2, by simpa using e1, by simpa using e2, ?_⟩⟩
      refine newPair fun w13 hb13 hk13 hz13 => ⟨_, (hb13.cell 0).trans rfl, 61, #[], _, rfl, by kernel_rfl, ?_⟩
      have k13 := k10.no hk13
      refine CallR.mono (fresh_ok (hbS10.keep hk13 fun e => e) (hm10.keep hk13 fun e => e) hgr ts[j].1) ?_
      rintro v w14 ⟨rfl, hm14, hk14⟩
      have k14 : Kept No w w14 := k13.fresh hk14 (fun x e => by omega)
      refine ⟨_, rfl, condN (fun hne => ?_) (fun he => ?_)⟩
      · rw [if_pos hne] at hct
        refine ⟨?_, k14⟩
        rw [hct, if_pos hne]
      · rw [if_neg (by omega)] at hct
        refine ⟨_, _, _, ((hb13.keep hk14 (by omega)).cell 1).trans rfl, ?_⟩
        have hR' : RL w14 sl ts[j].2 := hR.no k14
        refine CallR.mono (tnew_ok hR'.1 hR'.2) ?_
        rintro v w15 ⟨hk15, ⟨hne, rfl⟩ | ⟨he0, b, F, R, rfl, _, _⟩⟩
        · rw [if_pos hne] at hct
          refine ⟨_, _, rfl, condT (by simpa using hne) ⟨?_, k14.no hk15⟩⟩
          rw [hct, if_pos hne]
        · rw [if_neg (by omega)] at hct
          have hz14 : w13.heap.size ≤ w14.heap.size := hk14.size
          have hz15 : w14.heap.size ≤ w15.heap.size := hk15.size
          refine ⟨_, _, rfl, condF rfl ⟨⟨by omega, by omega⟩, ⟨j + 1, seen2 ++ [ts[j].1], rfl, by omega, hct, (hm14 he).keep hk15 (fun e => e), ((hbS10.keep hk13 fun e => e).keep hk14 (by omega)).keep hk15 (fun e => e), ((hb10.keep hk13 fun e => e).keep hk14 (by omega)).keep hk15 (fun e => e), k14.no hk15, by omega⟩, ?_⟩⟩
          simp only [ix]; omega
    · rw [List.drop_of_length_le (by omega)] at hct
      have hct : ckTs ts seen = (0, seen2) := hct
      rw [hct, if_neg (by dsimp only; omega)]
      refine ⟨_, _, _, (hb10.cell 2).trans rfl, CallR.mono (fcheck_ok (hp.keep k10 fun _ _ _ e => e)) ?_⟩
      rintro v w16 ⟨⟨n, rfl⟩, hk16⟩
      exact ⟨_, _, rfl, rfl, k10.no hk16⟩

end Go.Proofs.YtpoaacnnhgebfaaGreat

namespace Go.Proofs.YtpoaacnnhgebfaaGreat
open Go.Lw

/-- Of what kind a description is. -/
inductive TK | disk | scr | con
  deriving DecidableEq

def TK.ty : TK → TypeId
  | .disk => 209
  | .scr => 207
  | .con => 194

/-- The interface's value. -/
def tv (k : TK) (b : Nat) : Value := .iface k.ty (.agg #[.pointer (some ⟨b, 0, none⟩)])

theorem call_of {P : Program} {t : TypeId} {name : String} {f : FuncId} (hm : ∀ recv w, (Go.method (P.types.size + Made.depth) t recv name).run P w = .ok (f, recv) w) (hb : bodyB P f = true) (u : Value) (args : Array Value) (w : World) :
    (callMethod (.iface t u) name args).run P w = .ok (.enter f (#[u] ++ args)) w := by
  rcases callMethod_tie P w t u name args with ⟨f', r, w', h1, h2⟩ | ⟨h, w', h1, _⟩
  · rw [hm] at h1
    cases h1
    exact h2.trans (bodyB_run hb _ _)
  · rw [hm] at h1
    cases h1

def readF : TK → FuncId
  | .disk => 275
  | .scr => 270
  | .con => 261
def roomF : TK → FuncId
  | .disk => 276
  | .scr => 271
  | .con => 262
def wrF : TK → FuncId
  | .disk => 277
  | .scr => 272
  | .con => 263
def dropF : TK → FuncId
  | .disk => 273
  | .scr => 268
  | .con => 259
def kindF : TK → FuncId
  | .disk => 274
  | .scr => 269
  | .con => 260

theorem tv_read (k : TK) (b : Nat) (args : Array Value) (w : World) : (callMethod (tv k b) "millrace/kern.read" args).run Tryz.prog w = .ok (.enter (readF k) (#[.agg #[.pointer (some ⟨b, 0, none⟩)]] ++ args)) w := by
  cases k
  · exact call_of (by intro recv w; kernel_rfl) (by kernel_rfl) _ _ _
  · exact call_of (by intro recv w; kernel_rfl) (by kernel_rfl) _ _ _
  · exact call_of (by intro recv w; kernel_rfl) (by kernel_rfl) _ _ _
theorem tv_room (k : TK) (b : Nat) (args : Array Value) (w : World) : (callMethod (tv k b) "millrace/kern.room" args).run Tryz.prog w = .ok (.enter (roomF k) (#[.agg #[.pointer (some ⟨b, 0, none⟩)]] ++ args)) w := by
  cases k
  · exact call_of (by intro recv w; kernel_rfl) (by kernel_rfl) _ _ _
  · exact call_of (by intro recv w; kernel_rfl) (by kernel_rfl) _ _ _
  · exact call_of (by intro recv w; kernel_rfl) (by kernel_rfl) _ _ _
theorem tv_write (k : TK) (b : Nat) (args : Array Value) (w : World) : (callMethod (tv k b) "millrace/kern.write" args).run Tryz.prog w = .ok (.enter (wrF k) (#[.agg #[.pointer (some ⟨b, 0, none⟩)]] ++ args)) w := by
  cases k
  · exact call_of (by intro recv w; kernel_rfl) (by kernel_rfl) _ _ _
  · exact call_of (by intro recv w; kernel_rfl) (by kernel_rfl) _ _ _
  · exact call_of (by intro recv w; kernel_rfl) (by kernel_rfl) _ _ _
theorem tv_drop (k : TK) (b : Nat) (args : Array Value) (w : World) : (callMethod (tv k b) "millrace/kern.drop" args).run Tryz.prog w = .ok (.enter (dropF k) (#[.agg #[.pointer (some ⟨b, 0, none⟩)]] ++ args)) w := by
  cases k
  · exact call_of (by intro recv w; kernel_rfl) (by kernel_rfl) _ _ _
  · exact call_of (by intro recv w; kernel_rfl) (by kernel_rfl) _ _ _
  · exact call_of (by intro recv w; kernel_rfl) (by kernel_rfl) _ _ _
theorem tv_kind (k : TK) (b : Nat) (args : Array Value) (w : World) : (callMethod (tv k b) "millrace/kern.kind" args).run Tryz.prog w = .ok (.enter (kindF k) (#[.agg #[.pointer (some ⟨b, 0, none⟩)]] ++ args)) w := by
  cases k
  · exact call_of (by intro recv w; kernel_rfl) (by kernel_rfl) _ _ _
  · exact call_of (by intro recv w; kernel_rfl) (by kernel_rfl) _ _ _
  · exact call_of (by intro recv w; kernel_rfl) (by kernel_rfl) _ _ _

/-- Is it a pipe's end? -/
theorem tv_con (k : TK) (b : Nat) (w : World) : (Instr.typeAssert (tv k b) 262 194 true).run Tryz.prog w = .ok (if k = .con then .tuple #[.agg #[.pointer (some ⟨b, 0, none⟩)], .bool true] else .tuple #[.agg #[.pointer none], .bool false]) w := by
  cases k
  · kernel_rfl
  · kernel_rfl
  · kernel_rfl
/-- Is it a file? -/
theorem tv_disk (k : TK) (b : Nat) (w : World) : (Instr.typeAssert (tv k b) 262 209 true).run Tryz.prog w = .ok (if k = .disk then .tuple #[.agg #[.pointer (some ⟨b, 0, none⟩)], .bool true] else .tuple #[.agg #[.pointer none], .bool false]) w := by
  cases k
  · kernel_rfl
  · kernel_rfl
  · kernel_rfl

end Go.Proofs.YtpoaacnnhgebfaaGreat

namespace Go.Proofs.YtpoaacnnhgebfaaGreat
open Go.Lw

def DsO (w : World) (bd : Nat) (k : TK) (b : Nat) (fl at_ hd : Int) : Prop := Blk w bd #[tv k b, .int .i64 fl, .int .i64 at_, .int .i64 hd]

/-- The bits that both have. -/
def bitI (n m : Int) : Int := IntKind.wrap .i64 ↑(BitVec.ofInt (IntKind.bits .i64) n &&& BitVec.ofInt (IntKind.bits .i64) m).toNat

def placeF (fl at_ : Int) (bs : List Int) : Int := if bitI fl 4 ≠ 0 then (bs.length : Int) else at_

theorem place_ok {F : Nat → Prop} {w : World} {b bd : Nat} {bs : List Int} {fl at_ hd : Int} (h : FileO F w b bs) (hd' : DsO w bd .disk b fl at_ hd) :
    CallR Tryz.prog 279 [.agg #[.pointer (some ⟨b, 0, none⟩)], .pointer (some ⟨bd, 0, none⟩)] w fun v w' => v = .int .i64 (placeF fl at_ bs) ∧ Kept No w w' := by
  refine C279 ?_
  unfold L279
  intro w1
  have hb1 : Blk w1 w.heap.size #[.pointer (some ⟨b, 0, none⟩)] := Blk.alloc _ _ _
  have hk1 : Kept No w w1 := Kept.alloc _ _ _
  clear_value w1
  have hd1 : Blk w1 bd #[tv .disk b, .int .i64 fl, .int .i64 at_, .int .i64 hd] := Blk.keep hd' hk1 (fun e => e)
  have h1 := h.keep hk1 (fun _ _ e => e)
  refine nnI ⟨_, hd1.at (i := 1) rfl, condI (fun hb => ⟨_, (hb1.cell 0).trans rfl, CallR.mono (size_ok h1) ?_⟩) (fun hb => nnI ⟨_, hd1.at (i := 2) rfl, ?_⟩)⟩
  · rintro v w2 ⟨rfl, rfl⟩
    refine ⟨_, rfl, ?_, hk1⟩
    unfold placeF
    rw [if_pos (by simpa [bitI] using hb)]
  · refine ⟨?_, hk1⟩
    unfold placeF
    rw [if_neg (by simpa [bitI] using hb)]

theorem dread_ok {F : Nat → Prop} {w : World} {b bd : Nat} {bs : List Int} {fl hd n : Int} {k : Nat} (h : FileO F w b bs) (hd' : DsO w bd .disk b fl (k : Int) hd) (hk : k ≤ 1048576) (hn1 : 0 ≤ n) (hn2 : n ≤ 1048576) :
    CallR Tryz.prog 275 [.agg #[.pointer (some ⟨b, 0, none⟩)], .pointer (some ⟨bd, 0, none⟩), .int .i64 n] w fun v w' => ∃ a' c', v = .slice a' (piece bs k n).length c' ∧ OB w' a' (piece bs k n).length c' (piece bs k n) ∧ Fresh w a' ∧
      DsO w' bd .disk b fl ((k + (piece bs k n).length : Nat) : Int) hd ∧ Kept (· = bd) w w' := by
  refine C275 ?_
  unfold L275
  intro w1
  have hb1 : Blk w1 w.heap.size #[.pointer (some ⟨b, 0, none⟩)] := Blk.alloc _ _ _
  have hk1 : Kept No w w1 := Kept.alloc _ _ _
  clear_value w1
  intro w2
  have hb2 : Blk w2 w.heap.size #[.pointer (some ⟨b, 0, none⟩)] := hb1.drew
  have hk2 : Kept No w w2 := hk1.no (Kept.drew _ _)
  clear_value w2
  have hd2 : Blk w2 bd #[tv .disk b, .int .i64 fl, .int .i64 (k : Int), .int .i64 hd] := Blk.keep hd' hk2 (fun e => e)
  have h2 := h.keep hk2 (fun _ _ e => e)
  have hbd := Blk.lt hd'
  have hlen := h.len
  refine ⟨_, (hb2.cell 0).trans rfl, nnI ⟨_, hd2.at (i := 2) rfl, CallR.mono (readAt_ok h2 (k : Int) n) ?_⟩⟩
  rintro v w3 ⟨a', c', cs, e, rfl, ho, hf, hk3, hok, _⟩
  obtain ⟨rfl, rfl⟩ := hok (by unfold okN; simp; omega) (by unfold okN; simp; omega)
  have hd3 := hd2.keep hk3 (fun e => e)
  have hpl : (piece bs (k : Int) n).length ≤ 1048576 := by unfold piece; rw [List.length_take, List.length_drop]; omega
  have hlt := ho.lt
  have hz2 := hk2.size
  refine ⟨_, _, _, _, rfl, nnI ⟨_, hd3.at (i := 2) rfl, ⟨by omega, by omega⟩, nnI (stC_at hd3 (i := 2) (by simp) fun w4 hd4 hk4 hs4 => ?_)⟩⟩
  refine ⟨a', c', rfl, ho.keep hk4 (fun x hx e => by have := hf x hx; omega), fun x hx => by have := hf x hx; omega, ?_, ?_⟩
  · show Blk w4 bd _
    have : (((k + (piece bs (k : Int) n).length : Nat)) : Int) = (k : Int) + ((piece bs (k : Int) n).length : Int) := by omega
    rw [this]
    simpa using hd4
  · exact ((hk2.no hk3).mono fun _ _ e => e.elim).trans hk4 fun _ _ e => e

def roomD (p n : Int) : Int × Int := if 1048576 - p > 0 then (mn n (1048576 - p), 0) else (0, 31)

theorem droom_ok {F : Nat → Prop} {w : World} {b bd : Nat} {bs : List Int} {fl at_ hd n : Int} (h : FileO F w b bs) (hd' : DsO w bd .disk b fl at_ hd) (h0 : 0 ≤ at_) (h1 : at_ ≤ 1048576) :
    CallR Tryz.prog 276 [.agg #[.pointer (some ⟨b, 0, none⟩)], .pointer (some ⟨bd, 0, none⟩), .int .i64 n] w fun v w' => v = .tuple #[.int .i64 (roomD (placeF fl at_ bs) n).1, .int .i64 (roomD (placeF fl at_ bs) n).2] ∧ Kept No w w' := by
  refine C276 ?_
  unfold L276
  intro w1
  have hb1 : Blk w1 w.heap.size #[.pointer (some ⟨b, 0, none⟩)] := Blk.alloc _ _ _
  have hk1 : Kept No w w1 := Kept.alloc _ _ _
  clear_value w1
  have hd1 : DsO w1 bd .disk b fl at_ hd := Blk.keep hd' hk1 (fun e => e)
  have hf1 := h.keep hk1 (fun _ _ e => e)
  have hlen := h.len
  refine ⟨_, (hb1.cell 0).trans rfl, CallR.mono (place_ok hf1 hd1) ?_⟩
  rintro v w2 ⟨rfl, hk2⟩
  have hp : 0 ≤ placeF fl at_ bs ∧ placeF fl at_ bs ≤ 1048576 := by
    unfold placeF
    split <;> omega
  refine ⟨_, rfl, ⟨by omega, by omega⟩, condP (fun hr => ⟨?_, hk1.no hk2⟩) (fun hr => ⟨?_, hk1.no hk2⟩)⟩
  · unfold roomD; rw [if_pos hr]
  · unfold roomD; rw [if_neg hr]

theorem dwrite_ok {F : Nat → Prop} {w : World} {b bd : Nat} {bs : List Int} {fl at_ hd most : Int} {a : Option Addr} {l c : Nat} {ds : List Int} (h : FileO F w b bs) (hd' : DsO w bd .disk b fl at_ hd) (h0 : 0 ≤ at_) (h1 : at_ ≤ 1048576)
    (hr : RdB w a l c ds) (hl : l ≤ 140737488355328) (hap : ∀ k, inA a k → ¬ F k ∧ k ≠ bd) (hbF : ¬ F bd) (hm : 0 ≤ most) :
    CallR Tryz.prog 277 [.agg #[.pointer (some ⟨b, 0, none⟩)], .pointer (some ⟨bd, 0, none⟩), .slice a l c, .int .i64 most] w fun v w' => v = .int .i64 ((min l most.toNat : Nat) : Int) ∧
      (∃ F', FileO F' w' b (writeF bs (placeF fl at_ bs) (ds.take (min l most.toNat))).2 ∧ Grew F w F') ∧ DsO w' bd .disk b fl (placeF fl at_ bs + ((min l most.toNat : Nat) : Int)) hd ∧ Kept (fun z => F z ∨ z = bd) w w' := by
  refine C277 ?_
  unfold L277
  have hcl : l ≤ c := hr.2.1
  have hmn : mn (((l : Nat) : Int)) most = ((min l most.toNat : Nat) : Int) := by unfold mn; omega
  rw [hmn]
  have htn : Int.toNat ((min l most.toNat : Nat) : Int) = min l most.toNat := by omega
  rw [htn]
  intro w1
  have hb1 : Blk w1 w.heap.size #[.pointer (some ⟨b, 0, none⟩)] := Blk.alloc _ _ _
  have hk1 : Kept No w w1 := Kept.alloc _ _ _
  clear_value w1
  have hd1 : DsO w1 bd .disk b fl at_ hd := Blk.keep hd' hk1 (fun e => e)
  have hf1 := h.keep hk1 (fun _ _ e => e)
  have hlen := h.len
  have hbd := Blk.lt hd'
  have hflt := h.lt
  have hp : 0 ≤ placeF fl at_ bs ∧ placeF fl at_ bs ≤ 1048576 := by
    unfold placeF
    split <;> omega
  refine ⟨⟨by omega, by omega⟩, _, (hb1.cell 0).trans rfl, CallR.mono (place_ok hf1 hd1) ?_⟩
  rintro v w2 ⟨rfl, hk2⟩
  have hd2 : Blk w2 bd #[tv .disk b, .int .i64 fl, .int .i64 at_, .int .i64 hd] := Blk.keep hd1 hk2 (fun e => e)
  have hb2 := hb1.keep hk2 (fun e => e)
  have k2 := hk1.no hk2
  refine ⟨_, rfl, nnI (stC_at hd2 (i := 2) (by simp) fun w3 hd3 hk3 hs3 => ?_)⟩
  have hd3 : Blk w3 bd #[tv .disk b, .int .i64 fl, .int .i64 (placeF fl at_ bs), .int .i64 hd] := by simpa using hd3
  have hb3 := hb2.keep hk3 (by omega)
  have k3 : Kept (fun z => F z ∨ z = bd) w w3 := (k2.mono fun _ _ e => e.elim).trans hk3 fun _ _ e => .inr e
  have hf3 := (h.keep k2 (fun _ _ e => e)).keep hk3 (fun x hx e => hbF (by rw [← e]; exact hx))
  have hr3 := (hr.keep k2 (fun _ _ _ e => e)).keep hk3 (fun x _ hx e => (hap x hx).2 e)
  intro w4
  have hd4 : Blk w4 bd #[tv .disk b, .int .i64 fl, .int .i64 (placeF fl at_ bs), .int .i64 hd] := hd3.drew
  have hb4 : Blk w4 w.heap.size #[.pointer (some ⟨b, 0, none⟩)] := hb3.drew
  have hf4 : FileO F w4 b bs := hf3.keep (Kept.drew No _) (fun _ _ e => e)
  have hr4 : RdB w4 a l c ds := hr3.keep (Kept.drew No _) (fun _ _ _ e => e)
  have k4 : Kept (fun z => F z ∨ z = bd) w w4 := k3.no (Kept.drew _ _)
  clear_value w4
  have hz4 := k4.size
  refine ⟨_, (hb4.cell 0).trans rfl, nnI ⟨_, hd4.at (i := 2) rfl, CallR.mono (writeAt_ok hf4 (placeF fl at_ bs) (hr4.to (min l most.toNat) (by omega)) (by omega) (fun _ x hx => (hap x hx).1)) ?_⟩⟩
  rintro v w5 ⟨rfl, F', hf5, hg5, hk5⟩
  have hd5 := hd4.keep hk5 hbF
  have hk05 : Kept (fun z => F z ∨ z = bd) w w5 := k4.trans hk5 fun _ _ e => .inl e
  refine ⟨_, rfl, nnI ⟨_, hd5.at (i := 2) rfl, ⟨by omega, by omega⟩, nnI (stC_at hd5 (i := 2) (by simp) fun w6 hd6 hk6 hs6 => ?_)⟩⟩
  have hbF' : ¬ F' bd := fun e => by
    rcases hg5 bd e with e | e
    · exact hbF e
    · omega
  refine ⟨rfl, ⟨F', hf5.keep hk6 (fun x hx e => hbF' (by rw [← e]; exact hx)), fun x hx => ?_⟩, by show Blk w6 bd _; simpa using hd6, hk05.trans hk6 fun _ _ e => .inr e⟩
  rcases hg5 x hx with e | e
  · exact .inl e
  · right; omega

end Go.Proofs.YtpoaacnnhgebfaaGreat

namespace Go.Proofs.YtpoaacnnhgebfaaGreat
open Go.Lw

theorem condTr2 {A B : Prop} (h : A) : cond true A B := h
theorem condFa2 {A B : Prop} (h : B) : cond false A B := h

abbrev ag (b : Nat) : Value := .agg #[.pointer (some ⟨b, 0, none⟩)]
abbrev pd (b : Nat) : Value := .pointer (some ⟨b, 0, none⟩)

theorem sread_ok {F R : Nat → Prop} {w : World} {b bd : Nat} {LL : List (List Int)} {scr : List Int} (h : TermO F R w b LL scr) (n : Int) :
    CallR Tryz.prog 270 [ag b, pd bd, .int .i64 n] w fun v w' => ∃ a' c', v = .slice a' (readT n LL).2.1.length c' ∧ OB w' a' (readT n LL).2.1.length c' (readT n LL).2.1 ∧ Fresh w a' ∧ Kept (· = b) w w' ∧ TermO F R w' b (readT n LL).2.2 scr := by
  refine C270 ?_
  unfold L270
  intro w1
  have hb1 : Blk w1 w.heap.size #[.pointer (some ⟨b, 0, none⟩)] := Blk.alloc _ _ _
  have hk1 : Kept No w w1 := Kept.alloc _ _ _
  clear_value w1
  have hz := hk1.size
  refine ⟨_, (hb1.cell 0).trans rfl, CallR.mono (tread_ok (h.keep hk1 (fun _ _ e => e) (fun _ _ e => e)) n) ?_⟩
  rintro v w2 ⟨a', c', rfl, ho, hf, hk2, ht⟩
  exact ⟨_, _, _, _, rfl, a', c', rfl, ho, fun x hx => by have := hf x hx; omega, (hk1.mono fun _ _ e => e.elim).trans hk2 fun _ _ e => e, ht⟩

theorem sroom_ok {F R : Nat → Prop} {w : World} {b bd : Nat} {LL : List (List Int)} {scr : List Int} (h : TermO F R w b LL scr) (n : Int) :
    CallR Tryz.prog 271 [ag b, pd bd, .int .i64 n] w fun v w' => v = .tuple #[.int .i64 (roomD (scr.length : Int) n).1, .int .i64 (roomD (scr.length : Int) n).2] ∧ Kept No w w' := by
  refine C271 ?_
  unfold L271
  intro w1
  have hb1 : Blk w1 w.heap.size #[.pointer (some ⟨b, 0, none⟩)] := Blk.alloc _ _ _
  have hk1 : Kept No w w1 := Kept.alloc _ _ _
  clear_value w1
  have hs := h.scr
  refine ⟨_, (hb1.cell 0).trans rfl, CallR.mono (tscreen_ok (h.keep hk1 (fun _ _ e => e) (fun _ _ e => e))) ?_⟩
  rintro v w2 ⟨a', c', rfl, _, _, hk2⟩
  refine ⟨_, _, _, rfl, ⟨by omega, by omega⟩, condP (fun hr => ⟨?_, hk1.no hk2⟩) (fun hr => ⟨?_, hk1.no hk2⟩)⟩
  · unfold roomD; rw [if_pos hr]
  · unfold roomD; rw [if_neg hr]

theorem swrite_ok {F R : Nat → Prop} {w : World} {b bd : Nat} {LL : List (List Int)} {scr : List Int} (h : TermO F R w b LL scr) {a : Option Addr} {l c : Nat} {ds : List Int} (hr : RdB w a l c ds) (hl : l ≤ 140737488355328) {most : Int} (hm : 0 ≤ most) :
    CallR Tryz.prog 272 [ag b, pd bd, .slice a l c, .int .i64 most] w fun v w' => v = .int .i64 ((min l most.toNat : Nat) : Int) ∧ ∃ F', TermO F' R w' b LL (writeT (ds.take (min l most.toNat)) scr).2 ∧ (∀ k, F' k → F k ∨ w.heap.size ≤ k) ∧ Kept F w w' := by
  refine C272 ?_
  unfold L272
  have hcl : l ≤ c := hr.2.1
  have hmn : mn (((l : Nat) : Int)) most = ((min l most.toNat : Nat) : Int) := by unfold mn; omega
  rw [hmn]
  have htn : Int.toNat ((min l most.toNat : Nat) : Int) = min l most.toNat := by omega
  rw [htn]
  intro w1
  have hb1 : Blk w1 w.heap.size #[.pointer (some ⟨b, 0, none⟩)] := Blk.alloc _ _ _
  have hk1 : Kept No w w1 := Kept.alloc _ _ _
  clear_value w1
  have hz := hk1.size
  refine ⟨⟨by omega, by omega⟩, _, (hb1.cell 0).trans rfl, CallR.mono (twrite_ok (h.keep hk1 (fun _ _ e => e) (fun _ _ e => e)) ((hr.keep hk1 fun _ _ _ e => e).to (min l most.toNat) (by omega)) (by omega)) ?_⟩
  rintro v w2 ⟨rfl, F', ht, hg, hk2⟩
  exact ⟨_, rfl, rfl, F', ht, fun x hx => by
    rcases hg x hx with e | e
    · exact .inl e
    · right; omega, (hk1.mono fun _ _ e => e.elim).trans hk2 fun _ _ e => e⟩

theorem cread_ok' {w : World} {b bd : Nat} {bs : List Int} {e0 e1 : Nat} (h : PipeO w b bs e0 e1) (n : Int) :
    CallR Tryz.prog 261 [ag b, pd bd, .int .i64 n] w fun v w' => ∃ a l c, v = .slice a l c ∧ OB w' a l c (readP n bs e0 e1).1 ∧ Fresh w a ∧ PipeO w' b (readP n bs e0 e1).2.2 e0 e1 ∧ Kept (· = b) w w' := by
  refine C261 ?_
  unfold L261
  intro w1
  have hb1 : Blk w1 w.heap.size #[.pointer (some ⟨b, 0, none⟩)] := Blk.alloc _ _ _
  have hk1 : Kept No w w1 := Kept.alloc _ _ _
  clear_value w1
  have hz := hk1.size
  refine ⟨_, (hb1.cell 0).trans rfl, CallR.mono (kread_ok (h.keep hk1 (fun e => e)) n) ?_⟩
  rintro v w2 ⟨a, l, c, rfl, ho, hf, hp, hk2⟩
  exact ⟨_, _, _, _, rfl, a, l, c, rfl, ho, fun x hx => by have := hf x hx; omega, hp, (hk1.mono fun _ _ e => e.elim).trans hk2 fun _ _ e => e⟩

/-- Room in a pipe, by the kernel: nobody reads; it would wait; all. -/
def roomC (n : Int) (bs : List Int) (e0 e1 : Nat) : Int × Int := if e0 = 0 then (0, 53) else if canWP n bs e0 e1 = false then (0, 52) else (n, 0)

theorem croom_ok {w : World} {b bd : Nat} {bs : List Int} {e0 e1 : Nat} (h : PipeO w b bs e0 e1) (n : Int) :
    CallR Tryz.prog 262 [ag b, pd bd, .int .i64 n] w fun v w' => v = .tuple #[.int .i64 (roomC n bs e0 e1).1, .int .i64 (roomC n bs e0 e1).2] ∧ Kept No w w' := by
  refine C262 ?_
  unfold L262
  intro w1
  have hb1 : Blk w1 w.heap.size #[.pointer (some ⟨b, 0, none⟩)] := Blk.alloc _ _ _
  have hk1 : Kept No w w1 := Kept.alloc _ _ _
  clear_value w1
  refine ⟨_, (hb1.cell 0).trans rfl, kends_to (h.keep hk1 (fun e => e)) fun nd => ?_⟩
  have hk2 : Kept No w (w1.drewN nd) := hk1.no (Kept.drewN _ _ _)
  have hb2 : Blk (w1.drewN nd) w.heap.size #[.pointer (some ⟨b, 0, none⟩)] := hb1.drewN nd
  generalize w1.drewN nd = w2 at hk2 hb2 ⊢
  refine ⟨_, _, rfl, condI (fun he => ⟨?_, hk2⟩) (fun he => ⟨_, (hb2.cell 0).trans rfl, kcanw_to (h.keep hk2 (fun e => e)) n ⟨_, rfl, condI (fun hc => ⟨?_, hk2⟩) (fun hc => ⟨?_, hk2⟩)⟩⟩)⟩
  · have : e0 = 0 := by simpa using he
    unfold roomC; rw [if_pos this]
  · have : ¬ e0 = 0 := by simpa using he
    unfold roomC; rw [if_neg this, if_pos (notT hc)]
  · have : ¬ e0 = 0 := by simpa using he
    unfold roomC; rw [if_neg this, if_neg (by rw [notF hc]; simp)]

theorem cwrite_ok' {w : World} {b bd : Nat} {bs : List Int} {e0 e1 : Nat} (h : PipeO w b bs e0 e1) {a : Option Addr} {l c : Nat} {ds : List Int} (hd : RdB w a l c ds) (hab : ds ≠ [] → ¬ inA a b) (most : Int) :
    CallR Tryz.prog 263 [ag b, pd bd, .slice a l c, .int .i64 most] w fun v w' => v = .int .i64 (writeP ds most bs e0 e1).1 ∧ PipeO w' b (writeP ds most bs e0 e1).2.2 e0 e1 ∧ Kept (· = b) w w' := by
  refine C263 ?_
  unfold L263
  intro w1
  have hb1 : Blk w1 w.heap.size #[.pointer (some ⟨b, 0, none⟩)] := Blk.alloc _ _ _
  have hk1 : Kept No w w1 := Kept.alloc _ _ _
  clear_value w1
  refine ⟨_, (hb1.cell 0).trans rfl, CallR.mono (kwrite_ok (h.keep hk1 (fun e => e)) (hd.keep hk1 fun _ _ _ e => e) hab hd.2.1 most) ?_⟩
  rintro v w2 ⟨rfl, hp, hk2⟩
  exact ⟨_, _, rfl, rfl, hp, (hk1.mono fun _ _ e => e.elim).trans hk2 fun _ _ e => e⟩

theorem cdrop_ok {w : World} {b bd : Nat} {bs : List Int} {e0 e1 : Nat} {k : TK} {o : Nat} {fl at_ hd : Int} (h : PipeO w b bs e0 e1) (hds : DsO w bd k o fl at_ hd) :
    CallR Tryz.prog 259 [ag b, pd bd] w fun v w' => v = .tuple #[] ∧ PipeO w' b bs (leaveP (bitI fl 2 != 0) e0 e1).2.1 (leaveP (bitI fl 2 != 0) e0 e1).2.2 ∧ Kept (· = b) w w' := by
  refine C259 ?_
  unfold L259
  intro w1
  have hb1 : Blk w1 w.heap.size #[.pointer (some ⟨b, 0, none⟩)] := Blk.alloc _ _ _
  have hk1 : Kept No w w1 := Kept.alloc _ _ _
  clear_value w1
  intro w2
  have hb2 : Blk w2 w.heap.size #[.pointer (some ⟨b, 0, none⟩)] := hb1.drew
  have hk2 : Kept No w w2 := hk1.no (Kept.drew _ _)
  clear_value w2
  have hd2 : Blk w2 bd #[tv k o, .int .i64 fl, .int .i64 at_, .int .i64 hd] := Blk.keep hds hk2 (fun e => e)
  refine ⟨_, (hb2.cell 0).trans rfl, nnI ⟨_, hd2.at (i := 1) rfl, CallR.mono (kleave_ok (h.keep hk2 (fun e => e)) _) ?_⟩⟩
  rintro v w3 ⟨rfl, hp, hk3⟩
  exact ⟨_, rfl, rfl, hp, (hk2.mono fun _ _ e => e.elim).trans hk3 fun _ _ e => e⟩

/-- Would a read wait? -/
theorem waits_ok {w : World} {bd : Nat} {k : TK} {b : Nat} {fl at_ hd : Int} (h : DsO w bd k b fl at_ hd) {bs : List Int} {e0 e1 : Nat} (hp : k = .con → PipeO w b bs e0 e1) :
    CallR Tryz.prog 166 [pd bd] w fun v w' => v = .bool (if k = .con then !canRP bs e0 e1 else false) ∧ Kept No w w' := by
  refine C166 ?_
  unfold L166
  refine nnI ⟨_, Blk.at0 h rfl, ?_⟩
  by_cases hk : k = .con
  · have ht := tv_con k b w
    rw [if_pos hk] at ht
    refine ⟨_, _, _, ht, ?_⟩
    intro w2
    have hb2 : Blk w2 w.heap.size #[.pointer none] := Blk.alloc _ _ _
    have hk2 : Kept No w w2 := Kept.alloc _ _ _
    clear_value w2
    refine stC_blk hb2 (by simp) fun w3 hb3 hk3 _ => condTr2 ?_
    have hb3 : Blk w3 w.heap.size #[.pointer (some ⟨b, 0, none⟩)] := by simpa using hb3
    have k3 : Kept No w w3 := hk2.fresh hk3 (fun x e => by omega)
    refine ⟨_, (hb3.cell 0).trans rfl, kcanr_to ((hp hk).keep k3 (fun e => e)) ⟨_, rfl, ?_, k3⟩⟩
    rw [if_pos hk]
  · have ht := tv_con k b w
    rw [if_neg hk] at ht
    refine ⟨_, _, _, ht, ?_⟩
    intro w2
    have hb2 : Blk w2 w.heap.size #[.pointer none] := Blk.alloc _ _ _
    have hk2 : Kept No w w2 := Kept.alloc _ _ _
    clear_value w2
    refine stC_blk hb2 (by simp) fun w3 hb3 hk3 _ => condFa2 ⟨?_, hk2.fresh hk3 (fun x e => by omega)⟩
    rw [if_neg hk]

end Go.Proofs.YtpoaacnnhgebfaaGreat
