/-
  The row of PushbackOne. Conditions: none.
-/
import Derived.Test.YthddogeenimjcaaRows
import Derived.Test.YthddogeenimjcaaJf
import Derived.Test.YthddogeenimjcaaOPushbackOne
import Derived.Test.YthddogeenimjcaaWPushbackOne
set_option maxRecDepth 100000
namespace Go.Proofs.Ythddogeenimjcaa.pushbackOne
open Go.Lw Go.ChangeShapes Go.WideShapes Go.RowKit

theorem lifted (os : Os) (started : os.Started) (H : Type) (enc : TypeId × Value → H) :
    ReturnsInHanded {} Try.checked os 4 .any (Rows.pushbackOneSpec.pre6 enc Try.prog Try.f4 Rows.pushbackOneRow.domain false) (Rows.pushbackOneSpec.post enc Try.prog Try.f4 false true false false) := by
  refine returnsInHanded_of_change_sized (C := Try.checked) (by kernel_rfl) started (by kernel_rfl) Try.func4
    (ChangeSpec.witness6 (enc := enc) (C := Try.checked) false ⟨#[], #[.agg #[.bool false, .bool false, .int .i64 0, .int .i64 0, .slice none 0 0, .slice none 0 0, .slice none 0 0, .int .i64 0, .bool false, .bool false, .bool false], .slice none 0 0], []⟩ 8 (by kernel_rfl) (by kernel_rfl) (by kernel_rfl) (by kernel_rfl)) ?_
  intro W base args ds gs before hval hW _ hsz _
  exact law_contract (P := Try.prog) (fn := Try.f4) (s := Rows.pushbackOneSpec) (ts := [24, 22]) rfl (by kernel_rfl) (by kernel_rfl) (by kernel_rfl) (tb := 4) rfl Try.underlying4 rfl
    (fun ds h => by match ds, h with | [x0, x1], _ => rfl) (fun W args h => walk_pushbackOne (O4 h)) W base args ds gs before hval hW hsz

theorem iPlace : Try.prog.inPlace 4 = Rows.pushbackOneRow.inPlace := by kernel_rfl
theorem iUnf : Try.prog.unfollowed 4 = Rows.pushbackOneRow.unfollowed := by kernel_rfl
theorem iRec : Try.prog.recurses 4 = Rows.pushbackOneRow.recurses := by kernel_rfl
theorem iVars : Try.prog.varsNamed 4 = Rows.pushbackOneRow.named := by kernel_rfl
theorem closed : joinedFacts Try.prog 4 Try.f4 Rows.pushbackOneSpec Rows.pushbackOneRow = true := by
  unfold joinedFacts
  rw [jLaid, jMaps, jKeys, jHeard, jEnter, jLift, jMake, iPlace, iUnf, iRec, iVars]
  kernel_rfl

theorem proved : Rows.PushbackOneSaid :=
  OpenClaim.holds_of_wide 4 Try.f4 rfl rfl rfl rfl rfl rfl rfl ⟨rfl, rfl, rfl, rfl, rfl⟩ rfl rfl rfl rfl rfl (by kernel_rfl) Try.func4 closed
    (of_decide_eq_true (by kernel_rfl)) (by unfold Func.isWrapper; first | (rw [if_pos (by decide +kernel)]; kernel_rfl) | (rw [if_neg (by decide +kernel)]; exact ⟨rfl, rfl⟩))
    (fun os started H enc _ => lifted os started H enc)
end Go.Proofs.Ythddogeenimjcaa.pushbackOne
