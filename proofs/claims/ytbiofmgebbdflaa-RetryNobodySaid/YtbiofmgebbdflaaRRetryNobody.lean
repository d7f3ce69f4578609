/-
  The row of RetryNobody. Conditions: none.
-/
import Derived.Test.YtbiofmgebbdflaaRows
import Derived.Test.YtbiofmgebbdflaaORetryNobody
import Derived.Test.YtbiofmgebbdflaaWRetryNobody
set_option maxRecDepth 100000
namespace Go.Proofs.Ytbiofmgebbdflaa.retryNobody
open Go.Lw Go.ChangeShapes Go.WideShapes Go.RowKit

theorem lifted (os : Os) (started : os.Started) (H : Type) (enc : TypeId × Value → H) :
    ReturnsInHanded {} Try.checked os 12 .any (Rows.retryNobodySpec.pre6 enc Try.prog Try.f12 Rows.retryNobodyRow.domain false) (Rows.retryNobodySpec.post enc Try.prog Try.f12 false true false false) := by
  refine returnsInHanded_of_change_sized (C := Try.checked) (by kernel_rfl) started (by kernel_rfl) Try.func12
    (ChangeSpec.witness6 (enc := enc) (C := Try.checked) false ⟨#[], #[.int .i64 0, .slice none 0 0], []⟩ 8 (by kernel_rfl) (by kernel_rfl) (by kernel_rfl) (by kernel_rfl)) ?_
  intro W base args ds gs before hval hW _ hsz _
  exact law_contract (P := Try.prog) (fn := Try.f12) (s := Rows.retryNobodySpec) (ts := [3, 36]) rfl (by kernel_rfl) (by kernel_rfl) (by kernel_rfl) (tb := 4) rfl Try.underlying4 rfl
    (fun ds h => by match ds, h with | [x0, x1], _ => rfl) (fun W args h => walk_retryNobody (O12 h)) W base args ds gs before hval hW hsz

theorem proved : Rows.RetryNobodySaid :=
  OpenClaim.holds_of_wide 12 Try.f12 rfl rfl rfl rfl rfl rfl rfl ⟨rfl, rfl, rfl, rfl, rfl⟩ rfl rfl rfl rfl rfl (by kernel_rfl) Try.func12 (by kernel_rfl)
    (of_decide_eq_true (by kernel_rfl)) (by unfold Func.isWrapper; first | (rw [if_pos (by decide +kernel)]; kernel_rfl) | (rw [if_neg (by decide +kernel)]; exact ⟨rfl, rfl⟩))
    (fun os started H enc _ => lifted os started H enc)
end Go.Proofs.Ytbiofmgebbdflaa.retryNobody
