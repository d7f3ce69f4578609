/-
  The row of OpenmodeOpens. Conditions: none.
-/
import Derived.Test.YtkjmlbplmffekaaGreatRows
import Derived.Test.YtkjmlbplmffekaaGreatJf
import Derived.Test.YtkjmlbplmffekaaGreatOOpenmodeOpens
import Derived.Test.YtkjmlbplmffekaaGreatWOpenmodeOpens
set_option maxRecDepth 100000
namespace Go.Proofs.YtkjmlbplmffekaaGreat.openmodeOpens
open Go.Lw Go.ChangeShapes Go.WideShapes Go.RowKit

theorem lifted (os : Os) (started : os.Started) (H : Type) (enc : TypeId × Value → H) :
    ReturnsInHanded {} Tryz.checked os 10 .any (Rows.openmodeOpensSpec.pre6 enc Tryz.prog Tryz.f10 Rows.openmodeOpensRow.domain false) (Rows.openmodeOpensSpec.post enc Tryz.prog Tryz.f10 false true false false) := by
  refine returnsInHanded_of_change_sized (C := Tryz.checked) (by kernel_rfl) started (by kernel_rfl) Tryz.func10
    (ChangeSpec.witness6 (enc := enc) (C := Tryz.checked) false ⟨#[], #[.string .empty, .bool false, .slice none 0 0], []⟩ 8 (by kernel_rfl) (by kernel_rfl) (by kernel_rfl) (by kernel_rfl)) ?_
  intro W base args ds gs before hval hW _ hsz _
  exact law_contract (P := Tryz.prog) (fn := Tryz.f10) (s := Rows.openmodeOpensSpec) (ts := [9, 4, 32]) rfl (by kernel_rfl) (by kernel_rfl) (by kernel_rfl) (tb := 4) rfl Tryz.underlying4 rfl
    (fun ds h => by match ds, h with | [x0, x1, x2], _ => rfl) (fun W args h => walk_openmodeOpens (O10 h)) W base args ds gs before hval hW hsz

theorem iPlace : Tryz.prog.inPlace 10 = Rows.openmodeOpensRow.inPlace := by kernel_rfl
theorem iUnf : Tryz.prog.unfollowed 10 = Rows.openmodeOpensRow.unfollowed := by kernel_rfl
theorem iRec : Tryz.prog.recurses 10 = Rows.openmodeOpensRow.recurses := by kernel_rfl
theorem iVars : Tryz.prog.varsNamed 10 = Rows.openmodeOpensRow.named := by kernel_rfl
theorem closed : joinedFacts Tryz.prog 10 Tryz.f10 Rows.openmodeOpensSpec Rows.openmodeOpensRow = true := by
  unfold joinedFacts
  rw [jLaid, jMaps, jKeys, jHeard, jEnter, jLift, jMake, iPlace, iUnf, iRec, iVars]
  kernel_rfl

theorem proved : Rows.OpenmodeOpensSaid :=
  OpenClaim.holds_of_wide 10 Tryz.f10 rfl rfl rfl rfl rfl rfl rfl ⟨rfl, rfl, rfl, rfl, rfl⟩ rfl rfl rfl rfl rfl (by kernel_rfl) Tryz.func10 closed
    (of_decide_eq_true (by kernel_rfl)) (by unfold Func.isWrapper; first | (rw [if_pos (by decide +kernel)]; kernel_rfl) | (rw [if_neg (by decide +kernel)]; exact ⟨rfl, rfl⟩))
    (fun os started H enc _ => lifted os started H enc)
end Go.Proofs.YtkjmlbplmffekaaGreat.openmodeOpens
