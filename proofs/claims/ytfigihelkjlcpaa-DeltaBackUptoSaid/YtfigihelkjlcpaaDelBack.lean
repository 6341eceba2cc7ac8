/- DeltaBack answers true and leaves its arguments as they were, for every page and delta whose arguments are together of bulk at most 1048576 (DeltaBackUptoSaid); no other condition. -/
import Derived.Test.YtfigihelkjlcpaaDelBackP
section
open Go Go.Eng Go.W
namespace Go.Proofs.Ytfigihelkjlcpaa
open Go.ChangeShapes Go.WideShapes Go.ChangeAt Go.RowKit
set_option maxRecDepth 100000 in
theorem back_lifted (os : Os) (started : os.Started) (H : Type) (enc : TypeId × Value → H) (F : Stop.Interp) :
    ReturnsInHanded {} Try.checked os 7 .any ((Rows.OpenSpec.upto Rows.deltaBackSpec).pre6 enc Try.prog Try.f7 Rows.deltaBackUptoRow.domain false) (((Rows.OpenSpec.upto Rows.deltaBackSpec).at F).post enc Try.prog Try.f7 false true false false) := by
  refine returnsInHanded_of_cond (C := Try.checked) (s := Rows.OpenSpec.upto Rows.deltaBackSpec) (k := Rows.uptoSmall) rfl (by kernel_rfl) started (by kernel_rfl) Try.func7
    (OpenSpec.witness (enc := enc) (C := Try.checked) (s := Rows.OpenSpec.upto Rows.deltaBackSpec) (k := Rows.uptoSmall) rfl false ⟨#[], #[zPage, zDelta], []⟩ 8 (by kernel_rfl) (by kernel_rfl) (by kernel_rfl)
      (x := ([rPage H, rDelta H], [], [])) (by kernel_rfl) rfl (by kernel_rfl)) ?_
  intro W base args ds gs before hval hW _ hk _
  exact pd_contract2 (s := Rows.deltaBackSpec) (by rw [Try.params7]) rfl rfl (fun _ _ => rfl) back_con hW hk
theorem deltaBack_holds : Rows.DeltaBackUptoSaid :=
  OpenClaim.holds_of_cond 7 Try.f7 rfl rfl rfl rfl rfl rfl rfl ⟨rfl, rfl, rfl, rfl, rfl⟩ rfl rfl rfl rfl rfl (by kernel_rfl) Try.func7 (by kernel_rfl)
    (of_decide_eq_true (by kernel_rfl)) (by unfold Func.isWrapper; first | (rw [if_pos (by decide +kernel)]; kernel_rfl) | (rw [if_neg (by decide +kernel)]; exact ⟨rfl, rfl⟩))
    (fun os started H enc _ F => back_lifted os started H enc F)
end Go.Proofs.Ytfigihelkjlcpaa
end
