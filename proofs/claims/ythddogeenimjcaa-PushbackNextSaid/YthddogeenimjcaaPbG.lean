/-
  Bytes put back together, and one by one. Conditions: none.
-/
import Derived.Test.YthddogeenimjcaaPbF
set_option linter.unusedVariables false
namespace Go.Proofs.Ythddogeenimjcaa
open Go.Lw

/-- What refuses, whatever is put back. -/
def errP (p : Pu) : Int := if begP p ≠ 0 then begP p else if p.r = false then 65 else if p.d = 2 then 112 else 0

theorem ung_err {p : Pu} (h : errP p ≠ 0) (bs : List Int) : ungP p bs = (p, errP p) := by
  unfold errP at h ⊢
  unfold ungP
  by_cases h1 : begP p ≠ 0
  · rw [if_pos h1, if_pos h1]
  · rw [if_neg h1, if_neg h1]
    rw [if_neg h1] at h
    by_cases h2 : p.r = false
    · rw [if_pos h2, if_pos h2]
    · rw [if_neg h2, if_neg h2]
      rw [if_neg h2] at h
      by_cases h3 : p.d = 2
      · rw [if_pos h3, if_pos h3]
      · rw [if_neg h3] at h
        exact absurd rfl h

theorem errP_no {p : Pu} (h : errP p = 0) : begP p = 0 ∧ p.r = true ∧ p.d ≠ 2 := by
  unfold errP at h
  by_cases h1 : begP p ≠ 0
  · rw [if_pos h1] at h; exact absurd h h1
  · rw [if_neg h1] at h
    by_cases h2 : p.r = false
    · rw [if_pos h2] at h; omega
    · rw [if_neg h2] at h
      by_cases h3 : p.d = 2
      · rw [if_pos h3] at h; omega
      · exact ⟨by omega, by simpa using h2, h3⟩

theorem ung_good {p : Pu} (h : errP p = 0) (bs : List Int) : ungP p bs = if 8 < p.k.length + bs.length then (p, 31) else if bs.length = 0 then (p, 0) else ({ p with k := p.k ++ bs.reverse, d := 1, e := false }, 0) := by
  obtain ⟨h1, h2, h3⟩ := errP_no h
  unfold ungP
  rw [if_neg (by omega), if_neg (by rw [h2]; simp), if_neg h3]

theorem ung_len0 {p : Pu} {bs : List Int} (h : bs.length = 0) : (ungP p bs).1 = p := by
  by_cases he : errP p = 0
  · rw [ung_good he]
    split
    · rfl
    · rfl
  · rw [ung_err he]

theorem ung_no {p : Pu} {bs : List Int} (h : (ungP p bs).2 ≠ 0) : (ungP p bs).1 = p := by
  by_cases he : errP p = 0
  · rw [ung_good he] at h ⊢
    split
    · rfl
    · rename_i h8
      rw [if_neg h8] at h
      split
      · rfl
      · rename_i h9
        rw [if_neg h9] at h
        exact absurd rfl h
  · rw [ung_err he]

def midP (p : Pu) (bs : List Int) (j : Nat) : Pu := if j = 0 then p else { p with k := p.k ++ bs.reverse.take j, d := 1, e := false }

theorem midP_k {p : Pu} {bs : List Int} {j : Nat} (h : j ≤ bs.length) : (midP p bs j).k = p.k ++ bs.reverse.take j := by
  unfold midP
  split
  · rename_i h; subst h; simp
  · rfl

theorem begP_0 {p : Pu} : begP p = 0 ↔ ckP p ∧ p.c = false := by
  unfold begP
  by_cases h : ckP p
  · rw [if_pos h]
    cases p.c <;> simp [h]
  · rw [if_neg h]; simp [h]

theorem mid_good {p : Pu} {bs : List Int} {j : Nat} (h : errP p = 0) (hj : j ≤ bs.length) (h8 : p.k.length + j ≤ 8) : errP (midP p bs j) = 0 := by
  unfold midP
  split
  · exact h
  obtain ⟨h1, h2, h3⟩ := errP_no h
  obtain ⟨hc, hcl⟩ := begP_0.1 h1
  have hb : begP { p with k := p.k ++ bs.reverse.take j, d := 1, e := false } = 0 := by
    refine begP_0.2 ⟨?_, hcl⟩
    unfold ckP ckV at hc ⊢
    obtain ⟨c1, c2, c3, c4, c5, c6, c7, c8, c9, c10, c11, c12, c13, c14⟩ := hc
    have hl : (p.k ++ bs.reverse.take j).length = p.k.length + j := by rw [List.length_append, List.length_take, List.length_reverse]; omega
    refine ⟨c1, c2, c3, c4, .inr (.inl rfl), c6, c7, c8, by dsimp only; omega, fun _ => h2, fun e => ?_, fun _ => c12 h3, fun e => absurd rfl e, fun e => ?_⟩
    · dsimp only at e; omega
    · dsimp only at e; rw [hcl] at e; cases e
  unfold errP
  rw [if_neg (by omega), if_neg (by rw [show ({ p with k := p.k ++ bs.reverse.take j, d := 1, e := false } : Pu).r = p.r from rfl, h2]; simp), if_neg (by dsimp only; omega)]

/-- One by one, from the last to the first, as long as none is refused. -/
def seqP (p : Pu) (bs : List Int) : Nat → Pu × Int
  | 0 => (p, 0)
  | j + 1 => if (seqP p bs j).2 = 0 then ungP (seqP p bs j).1 [bs.getD (bs.length - 1 - j) 0] else seqP p bs j

theorem rev_takeD {bs : List Int} {j : Nat} (h : j < bs.length) : bs.reverse.take (j + 1) = bs.reverse.take j ++ [bs.getD (bs.length - 1 - j) 0] := by
  rw [rev_take h, List.getD_eq_getElem?_getD, List.getElem?_eq_getElem (by omega)]
  rfl

theorem seq_good {p : Pu} {bs : List Int} (h : errP p = 0) : ∀ j, j ≤ bs.length → p.k.length + j ≤ 8 → seqP p bs j = (midP p bs j, 0)
  | 0, _, _ => rfl
  | j + 1, hj, h8 => by
    have ih := seq_good (bs := bs) h j (by omega) (by omega)
    unfold seqP
    rw [ih, if_pos rfl, ung_good (mid_good (bs := bs) (j := j) h (by omega) (by omega))]
    have hkl : (midP p bs j).k.length = p.k.length + j := by
      rw [midP_k (bs := bs) (j := j) (by omega), List.length_append, List.length_take, List.length_reverse]; omega
    rw [hkl, if_neg (by simp; omega), if_neg (by simp)]
    have hk := midP_k (p := p) (bs := bs) (j := j) (by omega)
    have e1 : midP p bs (j + 1) = { p with k := p.k ++ bs.reverse.take (j + 1), d := 1, e := false } := by unfold midP; rw [if_neg (by omega)]
    rw [e1, rev_takeD (by omega), ← List.append_assoc, ← hk]
    unfold midP
    split <;> rfl

theorem seq_full {p : Pu} {bs : List Int} (h : errP p = 0) (hk : p.k.length ≤ 8) : ∀ j, j ≤ bs.length → 8 < p.k.length + j → (seqP p bs j).2 = 31
  | 0, _, h8 => by omega
  | j + 1, hj, h8 => by
    by_cases hc : 8 < p.k.length + j
    · have ih := seq_full (bs := bs) h hk j (by omega) hc
      unfold seqP
      rw [if_neg (by omega)]
      exact ih
    · have ih := seq_good h j (by omega : j ≤ bs.length) (by omega)
      unfold seqP
      rw [ih, if_pos rfl, ung_good (mid_good (bs := bs) (j := j) h (by omega) (by omega))]
      have hkl : (midP p bs j).k.length = p.k.length + j := by
        rw [midP_k (bs := bs) (j := j) (by omega), List.length_append, List.length_take, List.length_reverse]; omega
      rw [hkl, if_pos (by simp; omega)]

theorem seq_err {p : Pu} {bs : List Int} (h : errP p ≠ 0) : ∀ j, 1 ≤ j → seqP p bs j = (p, errP p)
  | 0, h1 => by omega
  | 1, _ => by
    unfold seqP
    rw [show seqP p bs 0 = (p, 0) from rfl, if_pos rfl, ung_err h]
  | j + 2, _ => by
    have ih := seq_err h (j + 1) (by omega) (bs := bs)
    rw [seqP, ih, if_neg h]

theorem seq_spec {p : Pu} {bs : List Int} {j : Nat} (hb : bs.length ≠ 0) (hj : j ≤ bs.length) (hex : j = bs.length ∨ (seqP p bs j).2 ≠ 0) :
    ((ungP p bs).2 ≠ 0 → (seqP p bs j).2 = (ungP p bs).2) ∧ ((ungP p bs).2 = 0 → seqP p bs j = ungP p bs) := by
  by_cases he : errP p = 0
  · have hk8 : p.k.length ≤ 8 := (ck8 (begP_ck (errP_no he).1)).1
    rw [ung_good he]
    by_cases h8 : 8 < p.k.length + bs.length
    · rw [if_pos h8]
      refine ⟨fun _ => ?_, fun h => absurd h (by dsimp only; omega)⟩
      by_cases hc : 8 < p.k.length + j
      · exact seq_full he hk8 j hj hc
      · have := seq_good he j hj (by omega)
        rw [this] at hex
        rcases hex with e | e
        · omega
        · exact absurd rfl e
    · rw [if_neg h8, if_neg hb]
      refine ⟨fun h => absurd rfl h, fun _ => ?_⟩
      have := seq_good he j hj (by omega)
      rw [this] at hex ⊢
      rcases hex with e | e
      · subst e
        unfold midP
        rw [if_neg hb, List.take_of_length_le (by rw [List.length_reverse]; omega)]
      · exact absurd rfl e
  · rw [ung_err he]
    have h1 : 1 ≤ j := by
      rcases hex with e | e
      · omega
      · cases j with
        | zero => exact absurd rfl e
        | succ j => omega
    rw [seq_err he j h1]
    exact ⟨fun _ => rfl, fun _ => rfl⟩

theorem seq_bd {p : Pu} {bs : List Int} (h : Bd p) : ∀ j, Bd (seqP p bs j).1
  | 0 => h
  | j + 1 => by
    have ih := seq_bd h j (bs := bs)
    unfold seqP
    split
    · exact ungP_bd ih
    · exact ih

end Go.Proofs.Ythddogeenimjcaa
