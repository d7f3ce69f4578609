/-
  The row of PushbackOwn. Conditions: none.
-/
import Derived.Test.YthddogeenimjcaaRows
import Derived.Test.YthddogeenimjcaaJf
import Derived.Test.YthddogeenimjcaaOPushbackOwn
import Derived.Test.YthddogeenimjcaaWPushbackOwn
set_option maxRecDepth 100000
namespace Go.Proofs.Ythddogeenimjcaa.pushbackOwn
open Go.Lw Go.ChangeShapes Go.WideShapes Go.RowKit

theorem lifted (os : Os) (started : os.Started) (H : Type) (enc : TypeId × Value → H) :
    ReturnsInHanded {} Try.checked os 5 .any (Rows.pushbackOwnSpec.pre6 enc Try.prog Try.f5 Rows.pushbackOwnRow.domain false) (Rows.pushbackOwnSpec.post enc Try.prog Try.f5 false true false false) := by
  refine returnsInHanded_of_change_sized (C := Try.checked) (by kernel_rfl) started (by kernel_rfl) Try.func5
    (ChangeSpec.witness6 (enc := enc) (C := Try.checked) false ⟨#[], #[.agg #[.bool false, .bool false, .int .i64 0, .int .i64 0, .slice none 0 0, .slice none 0 0, .slice none 0 0, .int .i64 0, .bool false, .bool false, .bool false], .slice none 0 0], []⟩ 8 (by kernel_rfl) (by kernel_rfl) (by kernel_rfl) (by kernel_rfl)) ?_
  intro W base args ds gs before hval hW _ hsz _
  exact law_contract (P := Try.prog) (fn := Try.f5) (s := Rows.pushbackOwnSpec) (ts := [24, 22]) rfl (by kernel_rfl) (by kernel_rfl) (by kernel_rfl) (tb := 4) rfl Try.underlying4 rfl
    (fun ds h => by match ds, h with | [x0, x1], _ => rfl) (fun W args h => walk_pushbackOwn (O5 h)) W base args ds gs before hval hW hsz

theorem iPlace : Try.prog.inPlace 5 = Rows.pushbackOwnRow.inPlace := by kernel_rfl
theorem iUnf : Try.prog.unfollowed 5 = Rows.pushbackOwnRow.unfollowed := by kernel_rfl
theorem iRec : Try.prog.recurses 5 = Rows.pushbackOwnRow.recurses := by kernel_rfl
theorem iVars : Try.prog.varsNamed 5 = Rows.pushbackOwnRow.named := by kernel_rfl
theorem closed : joinedFacts Try.prog 5 Try.f5 Rows.pushbackOwnSpec Rows.pushbackOwnRow = true := by
  unfold joinedFacts
  rw [jLaid, jMaps, jKeys, jHeard, jEnter, jLift, jMake, iPlace, iUnf, iRec, iVars]
  kernel_rfl

theorem proved : Rows.PushbackOwnSaid :=
  OpenClaim.holds_of_wide 5 Try.f5 rfl rfl rfl rfl rfl rfl rfl ⟨rfl, rfl, rfl, rfl, rfl⟩ rfl rfl rfl rfl rfl (by kernel_rfl) Try.func5 closed
    (of_decide_eq_true (by kernel_rfl)) (by unfold Func.isWrapper; first | (rw [if_pos (by decide +kernel)]; kernel_rfl) | (rw [if_neg (by decide +kernel)]; exact ⟨rfl, rfl⟩))
    (fun os started H enc _ => lifted os started H enc)
end Go.Proofs.Ythddogeenimjcaa.pushbackOwn
