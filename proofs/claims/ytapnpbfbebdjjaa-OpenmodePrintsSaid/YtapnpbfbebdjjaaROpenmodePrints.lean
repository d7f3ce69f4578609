/-
  The row of OpenmodePrints. Conditions: none.
-/
import Derived.Test.YtapnpbfbebdjjaaRows
import Derived.Test.YtapnpbfbebdjjaaOOpenmodePrints
import Derived.Test.YtapnpbfbebdjjaaWOpenmodePrints
set_option maxRecDepth 100000
namespace Go.Proofs.Ytapnpbfbebdjjaa.openmodePrints
open Go.Lw Go.ChangeShapes Go.WideShapes Go.RowKit

theorem lifted (os : Os) (started : os.Started) (H : Type) (enc : TypeId × Value → H) :
    ReturnsInHanded {} Try.checked os 11 .any (Rows.openmodePrintsSpec.pre6 enc Try.prog Try.f11 Rows.openmodePrintsRow.domain false) (Rows.openmodePrintsSpec.post enc Try.prog Try.f11 false true false false) := by
  refine returnsInHanded_of_change_sized (C := Try.checked) (by kernel_rfl) started (by kernel_rfl) Try.func11
    (ChangeSpec.witness6 (enc := enc) (C := Try.checked) false ⟨#[], #[.agg #[.bool false, .bool false, .bool false, .bool false, .bool false, .bool false, .bool false, .bool false]], []⟩ 8 (by kernel_rfl) (by kernel_rfl) (by kernel_rfl) (by kernel_rfl)) ?_
  intro W base args ds gs before hval hW _ hsz _
  exact law_contract (P := Try.prog) (fn := Try.f11) (s := Rows.openmodePrintsSpec) (ts := [40]) rfl (by kernel_rfl) (by kernel_rfl) (by kernel_rfl) (tb := 4) rfl Try.underlying4 rfl
    (fun ds h => by match ds, h with | [x0], _ => rfl) (fun W args h => walk_openmodePrints (O11 h)) W base args ds gs before hval hW hsz

theorem proved : Rows.OpenmodePrintsSaid :=
  OpenClaim.holds_of_wide 11 Try.f11 rfl rfl rfl rfl rfl rfl rfl ⟨rfl, rfl, rfl, rfl, rfl⟩ rfl rfl rfl rfl rfl (by kernel_rfl) Try.func11 (by kernel_rfl)
    (of_decide_eq_true (by kernel_rfl)) (by unfold Func.isWrapper; first | (rw [if_pos (by decide +kernel)]; kernel_rfl) | (rw [if_neg (by decide +kernel)]; exact ⟨rfl, rfl⟩))
    (fun os started H enc _ => lifted os started H enc)
end Go.Proofs.Ytapnpbfbebdjjaa.openmodePrints
