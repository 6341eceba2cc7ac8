/- DeltaSame answers true and leaves its arguments as they were, for every two deltas whose arguments are together of bulk at most 1048576 (DeltaSameUptoSaid); no other condition. -/
import Derived.Test.YtfigihelkjlcpaaDelRead
section
open Go Go.Eng
namespace Go.Proofs.Ytfigihelkjlcpaa
open Go.ChangeShapes Go.WideShapes Go.ChangeAt Go.RowKit Go.W
theorem own : ownKnob Try.prog.godebug = none := by kernel_rfl
theorem small_le {H : Type} {l : List (DataW H)} (hk : Rows.uptoSmall H l = true) : bulkA l ≤ 1048576 := of_decide_eq_true hk
theorem atNo (W : World) : At no no W := ⟨fun _ h => h, fun _ h => h.elim⟩
theorem par_de (t : TypeId) (h : t ∈ [32, 32]) : Try.prog.readableRec t = true ∧ t < Try.prog.types.size := by
  have : t = 32 := by simpa using h
  subst this
  exact ⟨by kernel_rfl, of_decide_eq_true (by kernel_rfl)⟩
set_option maxRecDepth 100000 in
theorem same_contract (H : Type) (enc : TypeId × Value → H) (W : World) (args : Array Value) (ds gs : List (DataW H)) (before : List MemPlace)
    (hW : DataW.Whole enc Try.prog Try.f4.params.toList Rows.deltaSameSpec.vars false W args.toList ds gs before) (hk : Rows.uptoSmall H (ds ++ gs) = true) :
    Calls Try.prog 4 args W fun e W' => ∃ v, e = .returned v ∧ Rows.deltaSameSpec.post enc Try.prog Try.f4 false true false false W args v W' := by
  have hW' := hW
  obtain ⟨p, q, hA, hV, rfl, hfz, hnd⟩ := hW
  have hb := small_le hk
  rw [Try.params4] at hA
  obtain ⟨v0, vs0, d0, ds0, p0, q0, hargs, rfl, rfl, h0, r0⟩ := trodAll_cons hA
  obtain ⟨v1, vs1, d1, ds1, p1, q1, rfl, rfl, rfl, h1, r1⟩ := trodAll_cons r0
  obtain ⟨rfl, rfl, rfl⟩ := trodAll_nil r1
  obtain ⟨rfl, rfl⟩ := trodVars_none hV
  obtain ⟨fu0, h0⟩ := h0
  obtain ⟨fu1, h1⟩ := h1
  obtain ⟨x, rfl, hx, bx⟩ := open_de h0
  obtain ⟨y, rfl, hy, by_⟩ := open_de h1
  simp only [List.append_nil, bulkA_cons, bulkA_nil] at hb
  have ha : args = #[.agg x.cells.toArray, .agg y.cells.toArray] := by cases args; simp_all
  have hl : ∀ n : Nat, n + 1 ≤ 1048576 → n ≤ lim := fun n h => by unfold lim; omega
  have hc := dsame_law x y (hl _ (by simp only at bx; omega)) (hl _ (by simp only at by_; omega)) no no W Lay.none [.agg x.cells.toArray, .agg y.cells.toArray] (by
    simp only [RelL]
    refine ⟨_, _, rfl, upD hx ?_, _, _, rfl, upD hy ?_, rfl⟩
    · exact (x.d.shape.to Lay.none ⟨no, no, W⟩ (.v x.sl) x.sl rfl)
    · exact (y.d.shape.to Lay.none ⟨no, no, W⟩ (.v y.sl) y.sl rfl)) (atNo W) ⟨hx, hy⟩
  rw [ha]
  refine hc.mono fun e W' he => ⟨_, he.1, ?_⟩
  rw [← ha]
  exact law_post rfl hW' (fun _ => rfl) rfl (by rw [Try.params4]; exact par_de) he.2
abbrev zPg : Value := .agg #[.bool false, .string .empty, .string .empty, .int .i64 0, .slice none 0 0]
abbrev zDe : Value := .agg #[.int .i64 0, .string .empty, .int .i64 0, .int .i64 0, .int .i64 0, .string .empty, .int .i64 0, .bool false, .string .empty, .string .empty, .int .i64 0, .slice none 0 0]
abbrev rEn (H : Type) : DataW H := .agg [.lit (.string []), .agg [.lit (.int .i64 0), .lit (.int .i64 0)], .lit (.int .i64 0)]
abbrev rPg (H : Type) : DataW H := .agg [.lit (.bool false), .lit (.string []), .lit (.string []), .lit (.int .i64 0), .nil]
abbrev rDe (H : Type) : DataW H := .agg [.lit (.int .i64 0), rEn H, .lit (.string []), .lit (.int .i64 0), rPg H]
set_option maxRecDepth 100000 in
theorem same_lifted (os : Os) (started : os.Started) (H : Type) (enc : TypeId × Value → H) (F : Stop.Interp) :
    ReturnsInHanded {} Try.checked os 4 .any ((Rows.OpenSpec.upto Rows.deltaSameSpec).pre6 enc Try.prog Try.f4 Rows.deltaSameUptoRow.domain false) (((Rows.OpenSpec.upto Rows.deltaSameSpec).at F).post enc Try.prog Try.f4 false true false false) := by
  refine returnsInHanded_of_cond (C := Try.checked) (s := Rows.OpenSpec.upto Rows.deltaSameSpec) (k := Rows.uptoSmall) rfl own started (by kernel_rfl) Try.func4
    (OpenSpec.witness (enc := enc) (C := Try.checked) (s := Rows.OpenSpec.upto Rows.deltaSameSpec) (k := Rows.uptoSmall) rfl false ⟨#[], #[zDe, zDe], []⟩ 8 (by kernel_rfl) (by kernel_rfl) (by kernel_rfl)
      (x := ([rDe H, rDe H], [], [])) (by kernel_rfl) rfl (by kernel_rfl)) ?_
  intro W base args ds gs before hval hW _ hk _
  exact same_contract H enc W args ds gs before hW hk
theorem deltaSame_holds : Rows.DeltaSameUptoSaid :=
  OpenClaim.holds_of_cond 4 Try.f4 rfl rfl rfl rfl rfl rfl rfl ⟨rfl, rfl, rfl, rfl, rfl⟩ rfl rfl rfl rfl rfl (by kernel_rfl) Try.func4 (by kernel_rfl)
    (of_decide_eq_true (by kernel_rfl)) (by unfold Func.isWrapper; first | (rw [if_pos (by decide +kernel)]; kernel_rfl) | (rw [if_neg (by decide +kernel)]; exact ⟨rfl, rfl⟩))
    (fun os started H enc _ F => same_lifted os started H enc F)
end Go.Proofs.Ytfigihelkjlcpaa
end
