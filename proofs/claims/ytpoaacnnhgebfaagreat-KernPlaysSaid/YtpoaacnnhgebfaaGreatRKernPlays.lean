/-
  The row of KernPlays. Conditions: none.
-/
import Derived.Test.YtpoaacnnhgebfaaGreatRows
import Derived.Test.YtpoaacnnhgebfaaGreatJf
import Derived.Test.YtpoaacnnhgebfaaGreatOKernPlays
import Derived.Test.YtpoaacnnhgebfaaGreatWKernPlays
set_option maxRecDepth 100000
namespace Go.Proofs.YtpoaacnnhgebfaaGreat.kernPlays
open Go.Lw Go.ChangeShapes Go.WideShapes Go.RowKit

theorem lifted (os : Os) (started : os.Started) (H : Type) (enc : TypeId × Value → H) :
    ReturnsInHanded {} Tryz.checked os 3 .any (Rows.kernPlaysSpec.pre6 enc Tryz.prog Tryz.f3 Rows.kernPlaysRow.domain false) (Rows.kernPlaysSpec.post enc Tryz.prog Tryz.f3 false true false false) := by
  refine returnsInHanded_of_change_sized (C := Tryz.checked) (by kernel_rfl) started (by kernel_rfl) Tryz.func3
    (ChangeSpec.witness6 (enc := enc) (C := Tryz.checked) false ⟨#[], #[.agg #[.slice none 0 0, .slice none 0 0, .slice none 0 0], .slice none 0 0], []⟩ 8 (by kernel_rfl) (by kernel_rfl) (by kernel_rfl) (by kernel_rfl)) ?_
  intro W base args ds gs before hval hW _ hsz _
  exact law_contract (P := Tryz.prog) (fn := Tryz.f3) (s := Rows.kernPlaysSpec) (ts := [26, 27]) rfl (by kernel_rfl) (by kernel_rfl) (by kernel_rfl) (tb := 4) rfl Tryz.underlying4 rfl
    (fun ds h => by match ds, h with | [x0, x1], _ => rfl) (fun W args h => walk_kernPlays (O3 h)) W base args ds gs before hval hW hsz

theorem iPlace : Tryz.prog.inPlace 3 = Rows.kernPlaysRow.inPlace := by kernel_rfl
theorem iUnf : Tryz.prog.unfollowed 3 = Rows.kernPlaysRow.unfollowed := by kernel_rfl
theorem iRec : Tryz.prog.recurses 3 = Rows.kernPlaysRow.recurses := by kernel_rfl
theorem iVars : Tryz.prog.varsNamed 3 = Rows.kernPlaysRow.named := by kernel_rfl
theorem closed : joinedFacts Tryz.prog 3 Tryz.f3 Rows.kernPlaysSpec Rows.kernPlaysRow = true := by
  unfold joinedFacts
  rw [jLaid, jMaps, jKeys, jHeard, jEnter, jLift, jMake, iPlace, iUnf, iRec, iVars]
  kernel_rfl

theorem proved : Rows.KernPlaysSaid :=
  OpenClaim.holds_of_wide 3 Tryz.f3 rfl rfl rfl rfl rfl rfl rfl ⟨rfl, rfl, rfl, rfl, rfl⟩ rfl rfl rfl rfl rfl (by kernel_rfl) Tryz.func3 closed
    (of_decide_eq_true (by kernel_rfl)) (by unfold Func.isWrapper; first | (rw [if_pos (by decide +kernel)]; kernel_rfl) | (rw [if_neg (by decide +kernel)]; exact ⟨rfl, rfl⟩))
    (fun os started H enc _ => lifted os started H enc)
end Go.Proofs.YtpoaacnnhgebfaaGreat.kernPlays
