/-
  The row of FdtableNobody. Conditions: none.
-/
import Derived.Test.YtkjmlbplmffekaaGreatRows
import Derived.Test.YtkjmlbplmffekaaGreatJf
import Derived.Test.YtkjmlbplmffekaaGreatOFdtableNobody
import Derived.Test.YtkjmlbplmffekaaGreatWFdtableNobody
set_option maxRecDepth 100000
namespace Go.Proofs.YtkjmlbplmffekaaGreat.fdtableNobody
open Go.Lw Go.ChangeShapes Go.WideShapes Go.RowKit

theorem lifted (os : Os) (started : os.Started) (H : Type) (enc : TypeId × Value → H) :
    ReturnsInHanded {} Tryz.checked os 7 .any (Rows.fdtableNobodySpec.pre6 enc Tryz.prog Tryz.f7 Rows.fdtableNobodyRow.domain false) (Rows.fdtableNobodySpec.post enc Tryz.prog Tryz.f7 false true false false) := by
  refine returnsInHanded_of_change_sized (C := Tryz.checked) (by kernel_rfl) started (by kernel_rfl) Tryz.func7
    (ChangeSpec.witness6 (enc := enc) (C := Tryz.checked) false ⟨#[], #[.agg #[.slice none 0 0, .slice none 0 0, .slice none 0 0], .slice none 0 0, .agg #[.int .i64 0, .string .empty, .int .i64 0, .int .i64 0, .int .i64 0, .bool false, .slice none 0 0]], []⟩ 8 (by kernel_rfl) (by kernel_rfl) (by kernel_rfl) (by kernel_rfl)) ?_
  intro W base args ds gs before hval hW _ hsz _
  exact law_contract (P := Tryz.prog) (fn := Tryz.f7) (s := Rows.fdtableNobodySpec) (ts := [26, 86, 88]) rfl (by kernel_rfl) (by kernel_rfl) (by kernel_rfl) (tb := 4) rfl Tryz.underlying4 rfl
    (fun ds h => by match ds, h with | [x0, x1, x2], _ => rfl) (fun W args h => walk_fdtableNobody (O7 h)) W base args ds gs before hval hW hsz

theorem iPlace : Tryz.prog.inPlace 7 = Rows.fdtableNobodyRow.inPlace := by kernel_rfl
theorem iUnf : Tryz.prog.unfollowed 7 = Rows.fdtableNobodyRow.unfollowed := by kernel_rfl
theorem iRec : Tryz.prog.recurses 7 = Rows.fdtableNobodyRow.recurses := by kernel_rfl
theorem iVars : Tryz.prog.varsNamed 7 = Rows.fdtableNobodyRow.named := by kernel_rfl
theorem closed : joinedFacts Tryz.prog 7 Tryz.f7 Rows.fdtableNobodySpec Rows.fdtableNobodyRow = true := by
  unfold joinedFacts
  rw [jLaid, jMaps, jKeys, jHeard, jEnter, jLift, jMake, iPlace, iUnf, iRec, iVars]
  kernel_rfl

theorem proved : Rows.FdtableNobodySaid :=
  OpenClaim.holds_of_wide 7 Tryz.f7 rfl rfl rfl rfl rfl rfl rfl ⟨rfl, rfl, rfl, rfl, rfl⟩ rfl rfl rfl rfl rfl (by kernel_rfl) Tryz.func7 closed
    (of_decide_eq_true (by kernel_rfl)) (by unfold Func.isWrapper; first | (rw [if_pos (by decide +kernel)]; kernel_rfl) | (rw [if_neg (by decide +kernel)]; exact ⟨rfl, rfl⟩))
    (fun os started H enc _ => lifted os started H enc)
end Go.Proofs.YtkjmlbplmffekaaGreat.fdtableNobody
