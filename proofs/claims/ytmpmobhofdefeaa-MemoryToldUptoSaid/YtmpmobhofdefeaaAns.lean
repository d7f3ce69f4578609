/-
  Answers of a stream of one's own in memory; a store into a slice of wide elements. Conditions: none.
-/
import Derived.Test.YtmpmobhofdefeaaLay
import Derived.Test.YtmpmobhofdefeaaLl
set_option linter.unusedVariables false
namespace Go.Proofs.Ytmpmobhofdefeaa
open Go.Lw

theorem stC_sloN {sz : Nat} {w : World} {a : Option Addr} {l c : Nat} {xs : List Value} (hs : SlO sz w a l c xs) {q : Addr} (hq : a = some q) {j : Nat} (hj : j < l * sz) {v : Value} {K : World → Prop}
    (hk : ∀ w', SlO sz w' a l c (xs.set j v) → Kept (inA a) w w' → w'.heap.size = w.heap.size → K w') : stC (q.add j) v w K := by
  rcases hs.2 with ⟨rfl, _, _⟩ | ⟨g, off, cur, rfl, hb, hlc, hcs, htk⟩
  · cases hq
  · cases hq
    rw [add_none]
    have hcl : l * sz ≤ c * sz := Nat.mul_le_mul_right _ hlc
    refine stC_blk hb (by omega) fun w' hb' hk' hsz => hk w' ⟨by rw [List.length_set, hs.1], .inr ⟨g, off, _, rfl, hb', hlc, by simpa using hcs, ?_⟩⟩ (hk'.mono fun b _ h => (inA_some _ _ _ _).2 h) hsz
    rw [← htk]
    apply List.ext_getElem?
    intro k
    simp only [Array.toList_setIfInBounds, List.getElem?_take, List.getElem?_drop, List.getElem?_set, List.length_take, List.length_drop, Array.length_toList]
    have hm : min (l * sz) (cur.size - off) = l * sz := by omega
    by_cases hkl : k < l * sz
    · by_cases hjk : j = k
      · subst hjk
        simp [hkl, hm, show off + j < cur.size by omega]
      · simp [hjk]
    · have : ¬ j = k := by omega
      simp [hkl, this]

/-- The cells of answers. -/
def ansC : List (Slc × Int) → List Value
  | [] => []
  | e :: es => slv e.1 :: .int .i64 e.2 :: ansC es

theorem ansC_len (es : List (Slc × Int)) : (ansC es).length = es.length * 2 := by
  induction es with
  | nil => rfl
  | cons e es ih => simp only [ansC, List.length_cons, ih]; omega
theorem ansC_app (es fs : List (Slc × Int)) : ansC (es ++ fs) = ansC es ++ ansC fs := by
  induction es with
  | nil => rfl
  | cons e es ih => simp only [ansC, List.cons_append, ih]
theorem ansC_one (es : List (Slc × Int)) : ∀ u ∈ ansC es, u.oneCell' = true := by
  induction es with
  | nil => intro u hu; cases hu
  | cons e es ih =>
    intro u hu
    simp only [ansC, List.mem_cons] at hu
    rcases hu with rfl | rfl | hu
    · rfl
    · rfl
    · exact ih u hu
theorem ansC_drop (es : List (Slc × Int)) (i : Nat) : ansC (es.drop i) = (ansC es).drop (i * 2) := by
  induction es generalizing i with
  | nil => simp [ansC]
  | cons e es ih =>
    cases i with
    | zero => simp
    | succ i => rw [List.drop_succ_cons, ih, show (i + 1) * 2 = i * 2 + 2 by omega]; simp [ansC]
theorem ansC_get (es : List (Slc × Int)) (i : Nat) (e : Slc × Int) (h : es[i]? = some e) : (ansC es)[i * 2]? = some (slv e.1) ∧ (ansC es)[i * 2 + 1]? = some (.int .i64 e.2) := by
  induction es generalizing i with
  | nil => simp at h
  | cons f es ih =>
    cases i with
    | zero => simp at h; subst h; simp [ansC]
    | succ i =>
      simp at h
      have := ih i h
      rw [show (i + 1) * 2 = i * 2 + 2 by omega]
      simpa [ansC] using this
theorem ansC_set (es : List (Slc × Int)) (e : Slc × Int) (s : Slc) : (ansC (e :: es)).set 0 (slv s) = ansC ((s, e.2) :: es) := by simp [ansC]

/-- Which answers these are. -/
def AnsR (R : Nat → Prop) (w : World) (es : List (Slc × Int)) (rs : List (List Int × Int)) : Prop :=
  es.length = rs.length ∧ ∀ (i : Nat) (e : Slc × Int) (r : List Int × Int), es[i]? = some e → rs[i]? = some r → RdB w e.1.1 e.1.2.1 e.1.2.2 r.1 ∧ e.2 = r.2 ∧ (r.1 ≠ [] → ∀ k, inA e.1.1 k → R k)

theorem AnsR.keep {R S : Nat → Prop} {w w' : World} {es : List (Slc × Int)} {rs : List (List Int × Int)} (h : AnsR R w es rs) (k : Kept S w w') (hn : ∀ x, R x → ¬ S x) : AnsR R w' es rs :=
  ⟨h.1, fun i e r he hr => by
    obtain ⟨h1, h2, h3⟩ := h.2 i e r he hr
    exact ⟨h1.keep0 k (fun hne b hb => hn b (h3 hne b hb)), h2, h3⟩⟩
theorem AnsR.mono {R R' : Nat → Prop} {w : World} {es : List (Slc × Int)} {rs : List (List Int × Int)} (h : AnsR R w es rs) (hr : ∀ x, R x → R' x) : AnsR R' w es rs :=
  ⟨h.1, fun i e r he hr' => ⟨(h.2 i e r he hr').1, (h.2 i e r he hr').2.1, fun hne k hk => hr k ((h.2 i e r he hr').2.2 hne k hk)⟩⟩
theorem AnsR.nil (R : Nat → Prop) (w : World) : AnsR R w [] [] := ⟨rfl, fun i e r he => by simp at he⟩
theorem AnsR.tail {R : Nat → Prop} {w : World} {e : Slc × Int} {es : List (Slc × Int)} {r : List Int × Int} {rs : List (List Int × Int)} (h : AnsR R w (e :: es) (r :: rs)) : AnsR R w es rs :=
  ⟨by simpa using h.1, fun i x y hx hy => h.2 (i + 1) x y (by simpa using hx) (by simpa using hy)⟩
theorem AnsR.cons {R : Nat → Prop} {w : World} {e : Slc × Int} {es : List (Slc × Int)} {r : List Int × Int} {rs : List (List Int × Int)} (h : AnsR R w es rs) (h1 : RdB w e.1.1 e.1.2.1 e.1.2.2 r.1) (h2 : e.2 = r.2) (h3 : r.1 ≠ [] → ∀ k, inA e.1.1 k → R k) : AnsR R w (e :: es) (r :: rs) :=
  ⟨by simp [h.1], fun i x y hx hy => by
    cases i with
    | zero => simp at hx hy; subst hx hy; exact ⟨h1, h2, h3⟩
    | succ i => exact h.2 i x y (by simpa using hx) (by simpa using hy)⟩
theorem AnsR.snoc {R : Nat → Prop} {w : World} {e : Slc × Int} {es : List (Slc × Int)} {r : List Int × Int} {rs : List (List Int × Int)} (h : AnsR R w es rs) (h1 : RdB w e.1.1 e.1.2.1 e.1.2.2 r.1) (h2 : e.2 = r.2) (h3 : r.1 ≠ [] → ∀ k, inA e.1.1 k → R k) : AnsR R w (es ++ [e]) (rs ++ [r]) :=
  ⟨by simp [h.1], fun i x y hx hy => by
    by_cases hi : i < es.length
    · rw [List.getElem?_append_left hi] at hx
      rw [List.getElem?_append_left (by rw [← h.1]; exact hi)] at hy
      exact h.2 i x y hx hy
    · rw [List.getElem?_append_right (by omega)] at hx
      rw [List.getElem?_append_right (by have := h.1; omega)] at hy
      have e0 : i - es.length = 0 := by
        rcases Nat.eq_zero_or_pos (i - es.length) with h0 | h0
        · exact h0
        · rw [List.getElem?_eq_none (by simp; omega)] at hx; cases hx
      rw [e0] at hx
      rw [← h.1, e0] at hy
      simp at hx hy; subst hx hy; exact ⟨h1, h2, h3⟩⟩

/-- Answers that are read; R: the memory that they lie in. -/
def RdA (R : Nat → Prop) (w : World) (a : Option Addr) (l c : Nat) (rs : List (List Int × Int)) : Prop :=
  ∃ es, RdS 2 w a l c (ansC es) ∧ AnsR R w es rs ∧ (l ≠ 0 → ∀ k, inA a k → R k)

theorem RdA.len {R : Nat → Prop} {w : World} {a : Option Addr} {l c : Nat} {rs : List (List Int × Int)} (h : RdA R w a l c rs) : rs.length = l := by
  obtain ⟨es, h1, h2, _⟩ := h
  have := h1.1
  rw [ansC_len] at this
  have := h2.1; omega
theorem RdA.keep {R S : Nat → Prop} {w w' : World} {a : Option Addr} {l c : Nat} {rs : List (List Int × Int)} (h : RdA R w a l c rs) (k : Kept S w w') (hn : ∀ x, R x → ¬ S x) : RdA R w' a l c rs := by
  have hl := h.len
  obtain ⟨es, h1, h2, h3⟩ := h
  refine ⟨es, h1.keep0 k (fun hne b hb => hn b (h3 (fun e => hne ?_) b hb)), h2.keep k hn, h3⟩
  apply List.eq_nil_of_length_eq_zero
  rw [ansC_len]; have := h2.1; omega
theorem RdA.get {R : Nat → Prop} {w : World} {a : Option Addr} {l c : Nat} {rs : List (List Int × Int)} (h : RdA R w a l c rs) {i : Nat} (hi : i < rs.length) :
    ∃ (q : Addr) (e : Slc), a = some q ∧ w.cell? (q.add (i * 2)) = some (.slice e.1 e.2.1 e.2.2) ∧ w.cell? ((q.add (i * 2)).add 1) = some (.int .i64 rs[i].2) ∧ RdB w e.1 e.2.1 e.2.2 rs[i].1 ∧ (rs[i].1 ≠ [] → ∀ k, inA e.1 k → R k) := by
  have hl := h.len
  obtain ⟨es, h1, h2, h3⟩ := h
  have hie : i < es.length := by have := h2.1; omega
  cases a with
  | none =>
    have := (RdS.isNone h1 rfl).1
    omega
  | some q =>
    obtain ⟨g1, g2⟩ := ansC_get es i es[i] (by simp)
    obtain ⟨k1, k2, k3⟩ := h2.2 i es[i] rs[i] (by simp) (by simp)
    refine ⟨q, es[i].1, rfl, h1.2.2.2 q rfl _ _ g1, ?_, k1, k3⟩
    rw [Lw.add_add, ← k2]
    exact h1.2.2.2 q rfl _ _ g2

end Go.Proofs.Ytmpmobhofdefeaa
