/-
  Bytes that are laid at a place: plain words; and a copy into a part of a slice that is owned. Conditions: none.
-/
import Derived.Test.YtpoaacnnhgebfaaGreatBas
set_option linter.unusedVariables false
namespace Go.Proofs.YtpoaacnnhgebfaaGreat
open Go.Lw

/-- All of F' is of F or new. -/
def Grew (F : Nat → Prop) (w : World) (F' : Nat → Prop) : Prop := ∀ k, F' k → F k ∨ w.heap.size ≤ k
theorem Grew.same {F : Nat → Prop} {w : World} : Grew F w F := fun _ h => .inl h

def grown (bs : List Int) (n : Nat) : List Int := bs ++ List.replicate (n - bs.length) 0

def piece (bs : List Int) (off n : Int) : List Int := (bs.drop off.toNat).take n.toNat

/-- Bytes laid at a place. -/
def lay (bs : List Int) (off : Nat) (ds : List Int) : List Int := over (grown bs (off + ds.length)) ds off

theorem over_get {α : Type} (xs ys : List α) (i k : Nat) (h : i + ys.length ≤ xs.length) : (over xs ys i)[k]? = if k < i then xs[k]? else if k < i + ys.length then ys[k - i]? else xs[k]? := by
  unfold over
  have hl : (xs.take i).length = i := by rw [List.length_take]; omega
  by_cases h1 : k < i
  · rw [if_pos h1, List.getElem?_append_left (by omega), List.getElem?_take, if_pos h1]
  · rw [if_neg h1, List.getElem?_append_right (by omega), hl]
    by_cases h2 : k < i + ys.length
    · rw [if_pos h2, List.getElem?_append_left (by omega)]
    · rw [if_neg h2, List.getElem?_append_right (by omega), List.getElem?_drop]
      congr 1; omega

theorem over_window {α : Type} (xs ys : List α) (o l i : Nat) (h : o + l ≤ xs.length) (hy : i + ys.length ≤ l) : ((over xs ys (o + i)).drop o).take l = over ((xs.drop o).take l) ys i := by
  apply List.ext_getElem?
  intro k
  rw [over_get _ _ _ _ (by rw [List.length_take, List.length_drop]; omega), List.getElem?_take, List.getElem?_take, List.getElem?_drop, List.getElem?_drop, over_get _ _ _ _ (by omega)]
  by_cases hk : k < l
  · rw [if_pos hk, if_pos hk]
    by_cases h1 : k < i
    · rw [if_pos h1, if_pos (by omega)]
    · rw [if_neg h1, if_neg (by omega)]
      by_cases h2 : k < i + ys.length
      · rw [if_pos h2, if_pos (by omega)]; congr 1; omega
      · rw [if_neg h2, if_neg (by omega)]
  · rw [if_neg hk, if_neg hk, if_neg (by omega), if_neg (by omega)]

theorem By_over (a b : List Int) (i : Nat) : By (over a b i) = over (By a) (By b) i := by
  unfold over; rw [By_append, By_append, By_take, By_drop, By_length]

theorem grown_len (bs : List Int) (n : Nat) : (grown bs n).length = max bs.length n := by simp [grown]; omega
theorem grown_getD (bs : List Int) (n k : Nat) : (grown bs n).getD k 0 = bs.getD k 0 := by
  unfold grown
  simp only [List.getD_eq_getElem?_getD, List.getElem?_append, List.getElem?_replicate]
  by_cases h : k < bs.length
  · rw [if_pos h]
  · rw [if_neg h, List.getElem?_eq_none (by omega)]
    split <;> rfl
theorem lay_len (bs : List Int) (o : Nat) (ds : List Int) : (lay bs o ds).length = max bs.length (o + ds.length) := by
  unfold lay; rw [over_length _ _ _ (by rw [grown_len]; omega), grown_len]
theorem lay_getD (bs : List Int) (o : Nat) (ds : List Int) (k : Nat) : (lay bs o ds).getD k 0 = if o ≤ k ∧ k < o + ds.length then ds.getD (k - o) 0 else bs.getD k 0 := by
  unfold lay
  rw [List.getD_eq_getElem?_getD, over_get _ _ _ _ (by rw [grown_len]; omega)]
  by_cases h1 : k < o
  · rw [if_pos h1, if_neg (by omega), ← List.getD_eq_getElem?_getD, grown_getD]
  · rw [if_neg h1]
    by_cases h2 : k < o + ds.length
    · rw [if_pos h2, if_pos ⟨by omega, h2⟩, ← List.getD_eq_getElem?_getD]
    · rw [if_neg h2, if_neg (by omega), ← List.getD_eq_getElem?_getD, grown_getD]

theorem Grew.trans {F F' F'' : Nat → Prop} {w w' : World} (h : Grew F w F') (k : Grew F' w' F'') (hs : w.heap.size ≤ w'.heap.size) : Grew F w F'' := fun x hx => by
  rcases k x hx with h1 | h1
  · exact h x h1
  · right; omega

/-- Two steps of one thing that grows. -/
theorem Kept.grew {F F' : Nat → Prop} {a b c : World} (h : Kept F a b) (g : Grew F a F') (k : Kept F' b c) : Kept F a c :=
  h.trans k fun x hx hf => by
    rcases g x hf with h1 | h1
    · exact h1
    · omega

theorem copy_at {w : World} {a : Option Addr} {l c : Nat} {bs : List Int} (ho : OB w a l c bs) {off : Nat} {a2 : Option Addr} {l2 c2 : Nat} {ds : List Int} (hd : RdB w a2 l2 c2 ds) (hle : off + l2 ≤ l) :
    ∃ w', (Builtin.copy_ #[40, 40] 3 #[.slice (adv a off c 1) (l - off) (c - off), .slice a2 l2 c2]).run Tryz.prog w = .ok (.int .i64 (l2 : Int)) w' ∧ OB w' a l c (over bs ds off) ∧ Kept (inA a) w w' ∧ w'.heap.size = w.heap.size := by
  have hlen := ho.len
  have hlen2 := hd.len
  have hsub : SlO 1 w (adv a off c 1) (l - off) (c - off) (By (bs.drop off)) := OB.from ho off (by omega)
  obtain ⟨w4, hrun, hs4, hk4, hsz4, hcur⟩ := run_copy_own (P := Tryz.prog) (t := 40) (t2 := 40) (ty := 3) (by kernel_rfl : slTyB Tryz.prog 40 1 1 = true) hsub hd (By_one ds)
  have hmin : min l2 (l - off) = l2 := by omega
  rw [hmin] at hrun hcur
  refine ⟨w4, hrun, ?_, hk4.mono (fun x _ e => inA_adv.1 e), hsz4⟩
  by_cases hl0 : l2 = 0
  · have hd0 : ds = [] := List.eq_nil_of_length_eq_zero (by omega)
    subst hd0
    have hov : over bs [] off = bs := by simp [over]
    rw [hov]
    rw [hmin, hl0] at hs4
    simp only [Nat.zero_mul, List.take_zero] at hs4
    rcases ho.2 with ⟨rfl, rfl, rfl⟩ | ⟨g, o, cur, rfl, hgb, hlc, hcs, htk⟩
    · exact ⟨ho.1, .inl ⟨rfl, rfl, rfl⟩⟩
    · by_cases hc : c = off
      · subst hc
        have hadv : adv (some ⟨g, o, none⟩) c c 1 = some ⟨g, o, none⟩ := by simp [adv]
        have hb4 := hcur g o cur hadv hgb
        have e : (over cur.toList ((By []).take (l2 * 1)) o).toArray = cur := by apply Array.ext'; simp [over, By]
        rw [e] at hb4
        exact ⟨ho.1, .inr ⟨g, o, cur, rfl, hb4, hlc, hcs, htk⟩⟩
      · have hadv : adv (some ⟨g, o, none⟩) off c 1 = some ⟨g, o + off, none⟩ := by
          rw [adv_map _ _ _ _ (by omega)]; simp [add_none]
        have hb4 := hcur g (o + off) cur hadv hgb
        have e : (over cur.toList ((By []).take (l2 * 1)) (o + off)).toArray = cur := by apply Array.ext'; simp [over, By]
        rw [e] at hb4
        exact ⟨ho.1, .inr ⟨g, o, cur, rfl, hb4, hlc, hcs, htk⟩⟩
  · rcases ho.2 with ⟨rfl, rfl, rfl⟩ | ⟨g, o, cur, rfl, hgb, hlc, hcs, htk⟩
    · exfalso; omega
    · have hadv : adv (some ⟨g, o, none⟩) off c 1 = some ⟨g, o + off, none⟩ := by
        rw [adv_map _ _ _ _ (by omega)]; simp [add_none]
      have hb4 := hcur g (o + off) cur hadv hgb
      rw [Nat.mul_one, List.take_of_length_le (by simp; omega)] at hb4
      refine ⟨?_, .inr ⟨g, o, _, rfl, hb4, hlc, ?_, ?_⟩⟩
      · rw [By_length, Nat.mul_one, over_length _ _ _ (by omega)]; omega
      · simp only [List.size_toArray]
        rw [over_length _ _ _ (by simp; omega)]
        simpa using hcs
      · rw [By_over, ← htk, Nat.mul_one]
        exact over_window _ _ o l off (by simp; omega) (by simp; omega)

end Go.Proofs.YtpoaacnnhgebfaaGreat
