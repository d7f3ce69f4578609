/-
  Plain words for the laws of memories. Conditions: as each says.
-/
import Derived.Test.YtmpmobhofdefeaaMemE
set_option linter.unusedVariables false
namespace Go.Proofs.Ytmpmobhofdefeaa
open Go.Lw

theorem lay_end (bs ds : List Int) : lay bs bs.length ds = bs ++ ds := by
  refine ext_getD (by rw [lay_len, List.length_append]; omega) fun k hk => ?_
  rw [lay_getD]
  simp only [List.getD_eq_getElem?_getD]
  by_cases h : k < bs.length
  · rw [if_neg (by omega), List.getElem?_append_left h]
  · rw [List.getElem?_append_right (by omega)]
    by_cases h2 : k < bs.length + ds.length
    · rw [if_pos ⟨by omega, h2⟩]
    · rw [if_neg (by omega), List.getElem?_eq_none (by omega), List.getElem?_eq_none (by omega)]

theorem MNew.eq {w w' : World} {e : Int} {bs : List Int} {room : Nat} {v : Value} (h : MNew w e bs room v w') : ∃ p, v = .tuple #[.pointer p, .int .i64 e] ∧ Kept No w w' := by
  rcases h with ⟨_, h, hk⟩ | ⟨he, b, F, h, _, hk, _⟩
  · exact ⟨_, h, hk⟩
  · subst he; exact ⟨_, h, hk⟩
theorem CNew.eq {w w' : World} {e : Int} {rs : List (List Int × Int)} {ws : List Int} {v : Value} (h : CNew w e rs ws v w') : ∃ p, v = .tuple #[.pointer p, .int .i64 e] ∧ Kept No w w' := by
  rcases h with ⟨_, h, hk⟩ | ⟨he, b, F, h, _, hk, _⟩
  · exact ⟨_, h, hk⟩
  · subst he; exact ⟨_, h, hk⟩

end Go.Proofs.Ytmpmobhofdefeaa
