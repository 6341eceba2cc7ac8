/- DeltaSplits answers true and leaves its arguments as they were, for every page and cut whose arguments are together of bulk at most 1048576 (DeltaSplitsUptoSaid); no other condition. -/
import Derived.Test.YtfigihelkjlcpaaDelSplitsP
section
open Go Go.Eng Go.W
namespace Go.Proofs.Ytfigihelkjlcpaa
open Go.ChangeShapes Go.WideShapes Go.ChangeAt Go.RowKit
set_option maxRecDepth 100000 in
theorem splits_lifted (os : Os) (started : os.Started) (H : Type) (enc : TypeId × Value → H) (F : Stop.Interp) :
    ReturnsInHanded {} Try.checked os 3 .any ((Rows.OpenSpec.upto Rows.deltaSplitsSpec).pre6 enc Try.prog Try.f3 Rows.deltaSplitsUptoRow.domain false) (((Rows.OpenSpec.upto Rows.deltaSplitsSpec).at F).post enc Try.prog Try.f3 false true false false) := by
  refine returnsInHanded_of_cond (C := Try.checked) (s := Rows.OpenSpec.upto Rows.deltaSplitsSpec) (k := Rows.uptoSmall) rfl (by kernel_rfl) started (by kernel_rfl) Try.func3
    (OpenSpec.witness (enc := enc) (C := Try.checked) (s := Rows.OpenSpec.upto Rows.deltaSplitsSpec) (k := Rows.uptoSmall) rfl false ⟨#[], #[zPage, zCut], []⟩ 8 (by kernel_rfl) (by kernel_rfl) (by kernel_rfl)
      (x := ([rPage H, rCut H], [], [])) (by kernel_rfl) rfl (by kernel_rfl)) ?_
  intro W base args ds gs before hval hW _ hk _
  exact pq_contract (s := Rows.deltaSplitsSpec) (by rw [Try.params3]) rfl rfl (fun _ _ => rfl) splits_con hW hk
theorem deltaSplits_holds : Rows.DeltaSplitsUptoSaid :=
  OpenClaim.holds_of_cond 3 Try.f3 rfl rfl rfl rfl rfl rfl rfl ⟨rfl, rfl, rfl, rfl, rfl⟩ rfl rfl rfl rfl rfl (by kernel_rfl) Try.func3 (by kernel_rfl)
    (of_decide_eq_true (by kernel_rfl)) (by unfold Func.isWrapper; first | (rw [if_pos (by decide +kernel)]; kernel_rfl) | (rw [if_neg (by decide +kernel)]; exact ⟨rfl, rfl⟩))
    (fun os started H enc _ F => splits_lifted os started H enc F)
end Go.Proofs.Ytfigihelkjlcpaa
end
