/-
  The row of KernOwn. Conditions: none.
-/
import Derived.Test.YtkjmlbplmffekaaGreatRows
import Derived.Test.YtkjmlbplmffekaaGreatJf
import Derived.Test.YtkjmlbplmffekaaGreatOKernOwn
import Derived.Test.YtkjmlbplmffekaaGreatWKernOwn
set_option maxRecDepth 100000
namespace Go.Proofs.YtkjmlbplmffekaaGreat.kernOwn
open Go.Lw Go.ChangeShapes Go.WideShapes Go.RowKit

theorem lifted (os : Os) (started : os.Started) (H : Type) (enc : TypeId × Value → H) :
    ReturnsInHanded {} Tryz.checked os 6 .any (Rows.kernOwnSpec.pre6 enc Tryz.prog Tryz.f6 Rows.kernOwnRow.domain false) (Rows.kernOwnSpec.post enc Tryz.prog Tryz.f6 false true false false) := by
  refine returnsInHanded_of_change_sized (C := Tryz.checked) (by kernel_rfl) started (by kernel_rfl) Tryz.func6
    (ChangeSpec.witness6 (enc := enc) (C := Tryz.checked) false ⟨#[], #[.agg #[.slice none 0 0, .slice none 0 0, .slice none 0 0]], []⟩ 8 (by kernel_rfl) (by kernel_rfl) (by kernel_rfl) (by kernel_rfl)) ?_
  intro W base args ds gs before hval hW _ hsz _
  exact law_contract (P := Tryz.prog) (fn := Tryz.f6) (s := Rows.kernOwnSpec) (ts := [26]) rfl (by kernel_rfl) (by kernel_rfl) (by kernel_rfl) (tb := 4) rfl Tryz.underlying4 rfl
    (fun ds h => by match ds, h with | [x0], _ => rfl) (fun W args h => walk_kernOwn (O6 h)) W base args ds gs before hval hW hsz

theorem iPlace : Tryz.prog.inPlace 6 = Rows.kernOwnRow.inPlace := by kernel_rfl
theorem iUnf : Tryz.prog.unfollowed 6 = Rows.kernOwnRow.unfollowed := by kernel_rfl
theorem iRec : Tryz.prog.recurses 6 = Rows.kernOwnRow.recurses := by kernel_rfl
theorem iVars : Tryz.prog.varsNamed 6 = Rows.kernOwnRow.named := by kernel_rfl
theorem closed : joinedFacts Tryz.prog 6 Tryz.f6 Rows.kernOwnSpec Rows.kernOwnRow = true := by
  unfold joinedFacts
  rw [jLaid, jMaps, jKeys, jHeard, jEnter, jLift, jMake, iPlace, iUnf, iRec, iVars]
  kernel_rfl

theorem proved : Rows.KernOwnSaid :=
  OpenClaim.holds_of_wide 6 Tryz.f6 rfl rfl rfl rfl rfl rfl rfl ⟨rfl, rfl, rfl, rfl, rfl⟩ rfl rfl rfl rfl rfl (by kernel_rfl) Tryz.func6 closed
    (of_decide_eq_true (by kernel_rfl)) (by unfold Func.isWrapper; first | (rw [if_pos (by decide +kernel)]; kernel_rfl) | (rw [if_neg (by decide +kernel)]; exact ⟨rfl, rfl⟩))
    (fun os started H enc _ => lifted os started H enc)
end Go.Proofs.YtkjmlbplmffekaaGreat.kernOwn
