/-
  The row of MemoryOwn. Conditions: none.
-/
import Derived.Test.YtmpmobhofdefeaaRows
import Derived.Test.YtmpmobhofdefeaaOMemoryOwn
import Derived.Test.YtmpmobhofdefeaaWMemoryOwn
set_option maxRecDepth 100000
namespace Go.Proofs.Ytmpmobhofdefeaa.memoryOwn
open Go.Lw Go.ChangeShapes Go.WideShapes Go.RowKit

theorem lifted (os : Os) (started : os.Started) (H : Type) (enc : TypeId × Value → H) :
    ReturnsInHanded {} Try.checked os 15 .any (Rows.memoryOwnSpec.pre6 enc Try.prog Try.f15 Rows.memoryOwnRow.domain false) (Rows.memoryOwnSpec.post enc Try.prog Try.f15 false true false false) := by
  refine returnsInHanded_of_change_sized (C := Try.checked) (by kernel_rfl) started (by kernel_rfl) Try.func15
    (ChangeSpec.witness6 (enc := enc) (C := Try.checked) false ⟨#[], #[.slice none 0 0], []⟩ 8 (by kernel_rfl) (by kernel_rfl) (by kernel_rfl) (by kernel_rfl)) ?_
  intro W base args ds gs before hval hW _ hsz _
  exact law_contract (P := Try.prog) (fn := Try.f15) (s := Rows.memoryOwnSpec) (ts := [26]) rfl (by kernel_rfl) (by kernel_rfl) (by kernel_rfl) (tb := 4) rfl Try.underlying4 rfl
    (fun ds h => by match ds, h with | [x0], _ => rfl) (fun W args h => walk_memoryOwn (O15 h)) W base args ds gs before hval hW hsz

theorem proved : Rows.MemoryOwnSaid :=
  OpenClaim.holds_of_wide 15 Try.f15 rfl rfl rfl rfl rfl rfl rfl ⟨rfl, rfl, rfl, rfl, rfl⟩ rfl rfl rfl rfl rfl (by kernel_rfl) Try.func15 (by kernel_rfl)
    (of_decide_eq_true (by kernel_rfl)) (by unfold Func.isWrapper; first | (rw [if_pos (by decide +kernel)]; kernel_rfl) | (rw [if_neg (by decide +kernel)]; exact ⟨rfl, rfl⟩))
    (fun os started H enc _ => lifted os started H enc)
end Go.Proofs.Ytmpmobhofdefeaa.memoryOwn
