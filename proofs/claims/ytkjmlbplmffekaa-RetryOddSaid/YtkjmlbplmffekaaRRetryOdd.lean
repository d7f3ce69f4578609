/-
  The row of RetryOdd. Conditions: none.
-/
import Derived.Test.YtkjmlbplmffekaaRows
import Derived.Test.YtkjmlbplmffekaaORetryOdd
import Derived.Test.YtkjmlbplmffekaaWRetryOdd
set_option maxRecDepth 100000
namespace Go.Proofs.Ytkjmlbplmffekaa.retryOdd
open Go.Lw Go.ChangeShapes Go.WideShapes Go.RowKit

theorem lifted (os : Os) (started : os.Started) (H : Type) (enc : TypeId × Value → H) :
    ReturnsInHanded {} Try.checked os 5 .any (Rows.retryOddSpec.pre6 enc Try.prog Try.f5 Rows.retryOddRow.domain false) (Rows.retryOddSpec.post enc Try.prog Try.f5 false true false false) := by
  refine returnsInHanded_of_change_sized (C := Try.checked) (by kernel_rfl) started (by kernel_rfl) Try.func5
    (ChangeSpec.witness6 (enc := enc) (C := Try.checked) false ⟨#[], #[.slice none 0 0, .slice none 0 0, .int .i64 0, .int .i64 0], []⟩ 8 (by kernel_rfl) (by kernel_rfl) (by kernel_rfl) (by kernel_rfl)) ?_
  intro W base args ds gs before hval hW _ hsz _
  exact law_contract (P := Try.prog) (fn := Try.f5) (s := Rows.retryOddSpec) (ts := [56, 56, 30, 3]) rfl (by kernel_rfl) (by kernel_rfl) (by kernel_rfl) (tb := 4) rfl Try.underlying4 rfl
    (fun ds h => by match ds, h with | [x0, x1, x2, x3], _ => rfl) (fun W args h => walk_retryOdd (O5 h)) W base args ds gs before hval hW hsz

theorem proved : Rows.RetryOddSaid :=
  OpenClaim.holds_of_wide 5 Try.f5 rfl rfl rfl rfl rfl rfl rfl ⟨rfl, rfl, rfl, rfl, rfl⟩ rfl rfl rfl rfl rfl (by kernel_rfl) Try.func5 (by kernel_rfl)
    (of_decide_eq_true (by kernel_rfl)) (by unfold Func.isWrapper; first | (rw [if_pos (by decide +kernel)]; kernel_rfl) | (rw [if_neg (by decide +kernel)]; exact ⟨rfl, rfl⟩))
    (fun os started H enc _ => lifted os started H enc)
end Go.Proofs.Ytkjmlbplmffekaa.retryOdd
