/- DeltaOwn answers true and leaves its arguments as they were, for every page and list of deltas whose arguments are together of bulk at most 1048576 (DeltaOwnUptoSaid); no other condition. -/
import Derived.Test.YtfigihelkjlcpaaDelOwnP
section
open Go Go.Eng Go.W
namespace Go.Proofs.Ytfigihelkjlcpaa
open Go.ChangeShapes Go.WideShapes Go.ChangeAt Go.RowKit
set_option maxRecDepth 100000 in
theorem own_lifted (os : Os) (started : os.Started) (H : Type) (enc : TypeId × Value → H) (F : Stop.Interp) :
    ReturnsInHanded {} Try.checked os 5 .any ((Rows.OpenSpec.upto Rows.deltaOwnSpec).pre6 enc Try.prog Try.f5 Rows.deltaOwnUptoRow.domain false) (((Rows.OpenSpec.upto Rows.deltaOwnSpec).at F).post enc Try.prog Try.f5 false true false false) := by
  refine returnsInHanded_of_cond (C := Try.checked) (s := Rows.OpenSpec.upto Rows.deltaOwnSpec) (k := Rows.uptoSmall) rfl (by kernel_rfl) started (by kernel_rfl) Try.func5
    (OpenSpec.witness (enc := enc) (C := Try.checked) (s := Rows.OpenSpec.upto Rows.deltaOwnSpec) (k := Rows.uptoSmall) rfl false ⟨#[], #[zPage, .slice none 0 0], []⟩ 8 (by kernel_rfl) (by kernel_rfl) (by kernel_rfl)
      (x := ([rPage H, .nil], [], [])) (by kernel_rfl) rfl (by kernel_rfl)) ?_
  intro W base args ds gs before hval hW _ hk _
  exact pl_contract (s := Rows.deltaOwnSpec) Try.params5 rfl rfl (fun _ _ => rfl) own_con hW hk hval
theorem deltaOwn_holds : Rows.DeltaOwnUptoSaid :=
  OpenClaim.holds_of_cond 5 Try.f5 rfl rfl rfl rfl rfl rfl rfl ⟨rfl, rfl, rfl, rfl, rfl⟩ rfl rfl rfl rfl rfl (by kernel_rfl) Try.func5 (by kernel_rfl)
    (of_decide_eq_true (by kernel_rfl)) (by unfold Func.isWrapper; first | (rw [if_pos (by decide +kernel)]; kernel_rfl) | (rw [if_neg (by decide +kernel)]; exact ⟨rfl, rfl⟩))
    (fun os started H enc _ F => own_lifted os started H enc F)
end Go.Proofs.Ytfigihelkjlcpaa
end
