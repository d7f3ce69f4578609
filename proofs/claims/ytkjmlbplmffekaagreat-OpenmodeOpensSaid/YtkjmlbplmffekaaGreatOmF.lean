/-
  What a text that is a mode's is, and its flags: plain words. Conditions: none.
-/
import Derived.Test.YtkjmlbplmffekaaGreatOmD
import Derived.Test.YtkjmlbplmffekaaGreatKeG
set_option linter.unusedVariables false
namespace Go.Proofs.YtkjmlbplmffekaaGreat
open Go.Lw

theorem goM_ends {s : ByteArray} : ∀ (n i : Nat) (m : Md), ((goM s n i m).2.1 = 0 → (goM s n i m).2.2 = (s.size : Int)) ∧ ((goM s n i m).2.1 ≠ 0 → (goM s n i m).1 = Md.no)
  | 0, i, m => ⟨fun _ => rfl, fun h => absurd rfl h⟩
  | n + 1, i, m => by
    unfold goM
    split
    · exact ⟨fun h => by simp at h, fun _ => rfl⟩
    · split
      · exact goM_ends n (i + 1) _
      · exact ⟨fun h => by simp at h, fun _ => rfl⟩

theorem parse_ends (s : ByteArray) : ((parseM s).2.1 = 0 → (parseM s).2.2 = (s.size : Int)) ∧ ((parseM s).2.1 ≠ 0 → (parseM s).1 = Md.no) := by
  unfold parseM
  split
  · exact ⟨fun h => by simp at h, fun _ => rfl⟩
  · split
    · exact goM_ends _ _ _
    · exact ⟨fun h => by simp at h, fun _ => rfl⟩

theorem print_fits {m : Md} (h : (printM m).2 = 0) : parseM (printM m).1 = (m, 0, ((printM m).1.size : Int)) := by
  have key : ∀ c, fitsM c m = true → parseM (txtJ c m 4) = (m, 0, ((txtJ c m 4).size : Int)) := fun c hc => by
    unfold fitsM at hc
    simp only [Bool.and_eq_true, decide_eq_true_eq] at hc
    have h1 := (parse_ends (txtJ c m 4)).1 hc.1
    exact Prod.ext hc.2 (Prod.ext hc.1 h1)
  unfold printM at h ⊢
  by_cases h1 : fitsM 114 m = true
  · rw [if_pos h1]; exact key _ h1
  · rw [if_neg h1] at h ⊢
    by_cases h2 : fitsM 119 m = true
    · rw [if_pos h2]; exact key _ h2
    · rw [if_neg h2] at h ⊢
      by_cases h3 : fitsM 97 m = true
      · rw [if_pos h3]; exact key _ h3
      · rw [if_neg h3] at h; simp at h

def mkM (f : Int) (l0 l1 l2 l3 : Bool) : Md := ⟨decide (f = 114) || l0, decide (f ≠ 114) || l0, decide (f = 97), decide (f ≠ 114), decide (f = 119), l2, l1, l3⟩
def mkF (f : Int) (fl : Nat → Bool) : Md := mkM f (fl 0) (fl 1) (fl 2) (fl 3)
def upd1 (fl : Nat → Bool) (j : Nat) : Nat → Bool := fun i => if i = j then true else fl i
def cntF (fl : Nat → Bool) : Nat := (fl 0).toNat + (fl 1).toNat + (fl 2).toNat + (fl 3).toNat

theorem upd1_cnt {fl : Nat → Bool} {j : Nat} (hj : j < 4) (h : fl j = false) : cntF (upd1 fl j) = cntF fl + 1 := by
  match j, hj with
  | 0, _ => simp [cntF, upd1, h]; omega
  | 1, _ => simp [cntF, upd1, h]; omega
  | 2, _ => simp [cntF, upd1, h]; omega
  | 3, _ => simp [cntF, upd1, h]

theorem setM_inv {f c : Int} {fl : Nat → Bool} {m' : Md} (h : setM (mkF f fl) c f = some m') : ∃ j, j < 4 ∧ c = lc j ∧ (j = 2 → f = 119) ∧ m' = mkF f (upd1 fl j) := by
  unfold setM at h
  split at h
  · rename_i hc
    simp only [Option.some.injEq] at h
    subst h
    exact ⟨0, by omega, hc, fun e => by omega, by simp [mkF, mkM, upd1]⟩
  · split at h
    · rename_i hc
      simp only [Option.some.injEq] at h
      subst h
      exact ⟨1, by omega, hc, fun e => by omega, by simp [mkF, mkM, upd1]⟩
    · split at h
      · rename_i hc
        simp only [Option.some.injEq] at h
        subst h
        exact ⟨2, by omega, hc.1, fun _ => hc.2, by simp [mkF, mkM, upd1]⟩
      · split at h
        · rename_i hc
          simp only [Option.some.injEq] at h
          subst h
          exact ⟨3, by omega, hc, fun e => by omega, by simp [mkF, mkM, upd1]⟩
        · cases h

theorem goM_inv {s : ByteArray} : ∀ (n i : Nat) (fl : Nat → Bool), n = s.size - i → 1 ≤ i → i ≤ s.size → i = 1 + cntF fl →
    (∀ j, j < 4 → fl j = true → ∃ k : Nat, 1 ≤ k ∧ k < i ∧ byteAt s k = lc j) → (∀ k : Nat, 1 ≤ k → k < i → ∃ j, j < 4 ∧ byteAt s k = lc j ∧ fl j = true) → (fl 2 = true → byteAt s 0 = 119) →
    (goM s n i (mkF (byteAt s 0) fl)).2.1 = 0 →
    ∃ fl', (goM s n i (mkF (byteAt s 0) fl)).1 = mkF (byteAt s 0) fl' ∧ s.size = 1 + cntF fl' ∧ (∀ k : Nat, 1 ≤ k → k < s.size → ∃ j, j < 4 ∧ byteAt s k = lc j ∧ fl' j = true) ∧ (fl' 2 = true → byteAt s 0 = 119)
  | 0, i, fl, hn, h1, h2, hc, hf, hk, hx, h0 => by
    have : i = s.size := by omega
    subst this
    exact ⟨fl, rfl, hc, hk, hx⟩
  | n + 1, i, fl, hn, h1, h2, hc, hf, hk, hx, h0 => by
    unfold goM at h0 ⊢
    by_cases hd : dup s i
    · rw [if_pos hd] at h0; simp at h0
    · rw [if_neg hd] at h0 ⊢
      cases hs : setM (mkF (byteAt s 0) fl) (byteAt s i) (byteAt s 0) with
      | none => rw [hs] at h0; simp at h0
      | some m' =>
        rw [hs] at h0
        simp only at h0 ⊢
        obtain ⟨j, hj, hcj, hx2, rfl⟩ := setM_inv hs
        have hfree : fl j = false := by
          cases h : fl j with
          | false => rfl
          | true =>
            obtain ⟨k, hk1, hk2, hk3⟩ := hf j hj h
            exact absurd ⟨k, hk1, hk2, by rw [hk3, hcj]⟩ hd
        refine goM_inv n (i + 1) (upd1 fl j) (by omega) (by omega) (by omega) (by rw [upd1_cnt hj hfree]; omega) (fun j' hj' h => ?_) (fun k hk1 hk2 => ?_) (fun h => ?_) h0
        · by_cases e : j' = j
          · subst e; exact ⟨i, h1, by omega, hcj⟩
          · have : fl j' = true := by unfold upd1 at h; rw [if_neg e] at h; exact h
            obtain ⟨k, a, b, c⟩ := hf j' hj' this
            exact ⟨k, a, by omega, c⟩
        · by_cases e : k = i
          · subst e; exact ⟨j, hj, hcj, by unfold upd1; rw [if_pos rfl]⟩
          · obtain ⟨j', a, b, c⟩ := hk k hk1 (by omega)
            exact ⟨j', a, b, by unfold upd1; split; rfl; exact c⟩
        · by_cases e : 2 = j
          · exact hx2 e.symm
          · exact hx (by unfold upd1 at h; rw [if_neg e] at h; exact h)

/-- What a mode's flags say. -/
def flagsOk (m : Md) : Bool := decide ((printM m).2 = 0) && AK.flagged (flI m 6) && ((bitI (flI m 6) 32 != 0) == m.x) && ((bitI (flI m 6) 8 != 0) == m.c) && ((bitI (flI m 6) 16 != 0) == m.t) && ((bitI (flI m 6) 1 == 1) == m.r) && ((bitI (flI m 6) 2 == 2) == m.w)

theorem modes_flags : ∀ p : Fin 3, ∀ l0 l1 l2 l3 : Bool, (l2 = true → p.val = 1) → flagsOk (mkM (cAt p.val) l0 l1 l2 l3) = true := by
  decide +kernel

theorem parse_flags {s : ByteArray} (h : (parseM s).2.1 = 0) : flagsOk (parseM s).1 = true := by
  have hne : ¬ s.size = 0 := fun e => by unfold parseM at h; rw [if_pos e] at h; simp at h
  cases hf : firstM (byteAt s 0) with
  | none => unfold parseM at h; rw [if_neg hne, hf] at h; simp at h
  | some m0 =>
    have hp : parseM s = goM s (s.size - 1) 1 m0 := by unfold parseM; rw [if_neg hne, hf]
    have hc : ∃ p : Fin 3, byteAt s 0 = cAt p.val ∧ m0 = mkF (byteAt s 0) (fun _ => false) := by
      unfold firstM at hf
      split at hf
      · rename_i e; cases hf; exact ⟨0, e, by rw [e]; rfl⟩
      · split at hf
        · rename_i e; cases hf; exact ⟨1, e, by rw [e]; rfl⟩
        · split at hf
          · rename_i e; cases hf; exact ⟨2, e, by rw [e]; rfl⟩
          · cases hf
    obtain ⟨p, hpc, rfl⟩ := hc
    rw [hp] at h
    obtain ⟨fl, he, hsz, hall, hx⟩ := goM_inv (s.size - 1) 1 (fun _ => false) rfl (Nat.le_refl _) (by omega) rfl (fun j _ h => by cases h) (fun k h1 h2 => by omega) (fun h => by cases h) h
    rw [hp, he]
    have hp1 : fl 2 = true → p.val = 1 := fun h => by
      have e := hx h
      rw [hpc] at e
      match p, e with
      | ⟨0, _⟩, e => simp [cAt] at e
      | ⟨1, _⟩, _ => rfl
      | ⟨2, _⟩, e => simp [cAt] at e
    have hb := modes_flags p (fl 0) (fl 1) (fl 2) (fl 3) hp1
    have hmk : mkF (byteAt s 0) fl = mkM (cAt p.val) (fl 0) (fl 1) (fl 2) (fl 3) := by rw [hpc]; rfl
    rw [hmk]
    exact hb

end Go.Proofs.YtkjmlbplmffekaaGreat
