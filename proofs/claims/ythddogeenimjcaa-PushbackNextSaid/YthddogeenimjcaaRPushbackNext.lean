/-
  The row of PushbackNext. Conditions: none.
-/
import Derived.Test.YthddogeenimjcaaRows
import Derived.Test.YthddogeenimjcaaJf
import Derived.Test.YthddogeenimjcaaOPushbackNext
import Derived.Test.YthddogeenimjcaaWPushbackNext
set_option maxRecDepth 100000
namespace Go.Proofs.Ythddogeenimjcaa.pushbackNext
open Go.Lw Go.ChangeShapes Go.WideShapes Go.RowKit

theorem lifted (os : Os) (started : os.Started) (H : Type) (enc : TypeId × Value → H) :
    ReturnsInHanded {} Try.checked os 6 .any (Rows.pushbackNextSpec.pre6 enc Try.prog Try.f6 Rows.pushbackNextRow.domain false) (Rows.pushbackNextSpec.post enc Try.prog Try.f6 false true false false) := by
  refine returnsInHanded_of_change_sized (C := Try.checked) (by kernel_rfl) started (by kernel_rfl) Try.func6
    (ChangeSpec.witness6 (enc := enc) (C := Try.checked) false ⟨#[], #[.slice none 0 0, .int .i64 0, .int .i64 0, .slice none 0 0], []⟩ 8 (by kernel_rfl) (by kernel_rfl) (by kernel_rfl) (by kernel_rfl)) ?_
  intro W base args ds gs before hval hW _ hsz _
  exact law_contract (P := Try.prog) (fn := Try.f6) (s := Rows.pushbackNextSpec) (ts := [22, 3, 3, 22]) rfl (by kernel_rfl) (by kernel_rfl) (by kernel_rfl) (tb := 4) rfl Try.underlying4 rfl
    (fun ds h => by match ds, h with | [x0, x1, x2, x3], _ => rfl) (fun W args h => walk_pushbackNext (O6 h)) W base args ds gs before hval hW hsz

theorem iPlace : Try.prog.inPlace 6 = Rows.pushbackNextRow.inPlace := by kernel_rfl
theorem iUnf : Try.prog.unfollowed 6 = Rows.pushbackNextRow.unfollowed := by kernel_rfl
theorem iRec : Try.prog.recurses 6 = Rows.pushbackNextRow.recurses := by kernel_rfl
theorem iVars : Try.prog.varsNamed 6 = Rows.pushbackNextRow.named := by kernel_rfl
theorem closed : joinedFacts Try.prog 6 Try.f6 Rows.pushbackNextSpec Rows.pushbackNextRow = true := by
  unfold joinedFacts
  rw [jLaid, jMaps, jKeys, jHeard, jEnter, jLift, jMake, iPlace, iUnf, iRec, iVars]
  kernel_rfl

theorem proved : Rows.PushbackNextSaid :=
  OpenClaim.holds_of_wide 6 Try.f6 rfl rfl rfl rfl rfl rfl rfl ⟨rfl, rfl, rfl, rfl, rfl⟩ rfl rfl rfl rfl rfl (by kernel_rfl) Try.func6 closed
    (of_decide_eq_true (by kernel_rfl)) (by unfold Func.isWrapper; first | (rw [if_pos (by decide +kernel)]; kernel_rfl) | (rw [if_neg (by decide +kernel)]; exact ⟨rfl, rfl⟩))
    (fun os started H enc _ => lifted os started H enc)
end Go.Proofs.Ythddogeenimjcaa.pushbackNext
