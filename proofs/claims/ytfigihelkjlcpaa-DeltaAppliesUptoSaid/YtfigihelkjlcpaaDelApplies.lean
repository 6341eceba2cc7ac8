/- DeltaApplies answers true and leaves its arguments as they were, for every page and delta whose arguments are together of bulk at most 1048576 (DeltaAppliesUptoSaid); no other condition. -/
import Derived.Test.YtfigihelkjlcpaaDelMore
section
open Go Go.Eng Go.W
namespace Go.Proofs.Ytfigihelkjlcpaa
open Go.ChangeShapes Go.WideShapes Go.ChangeAt Go.RowKit
set_option maxRecDepth 100000 in
theorem applies_lifted (os : Os) (started : os.Started) (H : Type) (enc : TypeId × Value → H) (F : Stop.Interp) :
    ReturnsInHanded {} Try.checked os 6 .any ((Rows.OpenSpec.upto Rows.deltaAppliesSpec).pre6 enc Try.prog Try.f6 Rows.deltaAppliesUptoRow.domain false) (((Rows.OpenSpec.upto Rows.deltaAppliesSpec).at F).post enc Try.prog Try.f6 false true false false) := by
  refine returnsInHanded_of_cond (C := Try.checked) (s := Rows.OpenSpec.upto Rows.deltaAppliesSpec) (k := Rows.uptoSmall) rfl (by kernel_rfl) started (by kernel_rfl) Try.func6
    (OpenSpec.witness (enc := enc) (C := Try.checked) (s := Rows.OpenSpec.upto Rows.deltaAppliesSpec) (k := Rows.uptoSmall) rfl false ⟨#[], #[zPage, zDelta], []⟩ 8 (by kernel_rfl) (by kernel_rfl) (by kernel_rfl)
      (x := ([rPage H, rDelta H], [], [])) (by kernel_rfl) rfl (by kernel_rfl)) ?_
  intro W base args ds gs before hval hW _ hk _
  exact pd_contract (s := Rows.deltaAppliesSpec) (by rw [Try.params6]) rfl rfl (fun _ _ => rfl) applies_law hW hk
theorem deltaApplies_holds : Rows.DeltaAppliesUptoSaid :=
  OpenClaim.holds_of_cond 6 Try.f6 rfl rfl rfl rfl rfl rfl rfl ⟨rfl, rfl, rfl, rfl, rfl⟩ rfl rfl rfl rfl rfl (by kernel_rfl) Try.func6 (by kernel_rfl)
    (of_decide_eq_true (by kernel_rfl)) (by unfold Func.isWrapper; first | (rw [if_pos (by decide +kernel)]; kernel_rfl) | (rw [if_neg (by decide +kernel)]; exact ⟨rfl, rfl⟩))
    (fun os started H enc _ F => applies_lifted os started H enc F)
end Go.Proofs.Ytfigihelkjlcpaa
end
