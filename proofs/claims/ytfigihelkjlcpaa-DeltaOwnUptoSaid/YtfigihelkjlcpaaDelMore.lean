/- Lemmas for the proof of a law of the seat Ytfigihelkjlcpaa: an own evaluator of the model's programs, contracts of functions. -/
import Derived.Test.YtfigihelkjlcpaaDelP3
import Derived.Test.YtfigihelkjlcpaaDelRead
section
open Go Go.Eng
namespace Go.W
theorem bl_irrefl : ∀ l : List UInt8, Op.bytesLess l l = false
  | [] => rfl
  | a :: x => by simp [Op.bytesLess, bl_irrefl x]
theorem bl_trans : ∀ {a b c : List UInt8}, Op.bytesLess a b = true → Op.bytesLess b c = true → Op.bytesLess a c = true
  | [], [], _, h, _ => by simp [Op.bytesLess] at h
  | _ :: _, [], _, h, _ => by simp [Op.bytesLess] at h
  | [], y :: b, [], _, h => by simp [Op.bytesLess] at h
  | [], y :: b, z :: c, _, _ => rfl
  | x :: a, y :: b, [], _, h => by simp [Op.bytesLess] at h
  | x :: a, y :: b, z :: c, h1, h2 => by
    simp only [Op.bytesLess, Bool.or_eq_true, decide_eq_true_eq, Bool.and_eq_true, beq_iff_eq] at h1 h2 ⊢
    rcases h1 with h1 | ⟨rfl, h1⟩
    · rcases h2 with h2 | ⟨rfl, h2⟩
      · exact .inl (UInt8.lt_trans h1 h2)
      · exact .inl h1
    · rcases h2 with h2 | ⟨rfl, h2⟩
      · exact .inl h2
      · exact .inr ⟨rfl, bl_trans h1 h2⟩
theorem bl_total : ∀ {a b : List UInt8}, Op.bytesLess a b = false → a ≠ b → Op.bytesLess b a = true
  | [], [], _, h => absurd rfl h
  | [], y :: b, h, _ => by simp [Op.bytesLess] at h
  | x :: a, [], _, _ => rfl
  | x :: a, y :: b, h, hne => by
    simp only [Op.bytesLess, Bool.or_eq_false_iff, decide_eq_false_iff_not, Bool.and_eq_false_iff, beq_eq_false_iff_ne] at h
    simp only [Op.bytesLess, Bool.or_eq_true, decide_eq_true_eq, Bool.and_eq_true, beq_iff_eq]
    obtain ⟨h1, h2⟩ := h
    by_cases hxy : x = y
    · subst hxy
      rcases h2 with h2 | h2
      · exact absurd rfl h2
      · exact .inr ⟨rfl, bl_total h2 (fun e => hne (by rw [e]))⟩
    · left
      rw [UInt8.not_lt] at h1
      exact UInt8.lt_of_le_of_ne h1 (fun e => hxy e.symm)
theorem sLt_irrefl (a : Str) : sLt a a = false := bl_irrefl _
theorem sLt_trans {a b c : Str} (h : sLt a b = true) (h' : sLt b c = true) : sLt a c = true := bl_trans h h'
theorem sLt_total {a b : Str} (h : sLt a b = false) (h' : sEq a b = false) : sLt b a = true := bl_total h (by unfold sEq at h'; simpa using h')
theorem sLt_asymm {a b : Str} (h : sLt a b = true) : sLt b a = false := by
  cases hb : sLt b a with
  | false => rfl
  | true => have := sLt_trans h hb; rw [sLt_irrefl] at this; cases this
theorem sEq_eq {a b : Str} : sEq a b = true ↔ a.toList = b.toList := by unfold sEq; simp
theorem sLt_congrL {a b c : Str} (h : sEq a b = true) : sLt a c = sLt b c := by unfold sLt; rw [sEq_eq.1 h]
theorem sLt_congrR {a b c : Str} (h : sEq a b = true) : sLt c a = sLt c b := by unfold sLt; rw [sEq_eq.1 h]
theorem sEq_congrL {a b c : Str} (h : sEq a b = true) : sEq a c = sEq b c := by unfold sEq; rw [sEq_eq.1 h]
theorem sEq_symm {a b : Str} (h : sEq a b = true) : sEq b a = true := by rw [sEq_comm]; exact h
theorem sLt_ne {a b : Str} (h : sLt a b = true) : sEq a b = false := by
  cases hb : sEq a b with
  | false => rfl
  | true => rw [sLt_congrL hb, sLt_irrefl] at h; cases h
theorem has_congr {p : Pg} {a b : Str} (h : sEq a b = true) : Pg.has p a = Pg.has p b := by
  unfold Pg.has inR
  rw [sLt_congrL h, sLt_congrL h]
/-- x ≤ key -/
theorem le_lt {x k s : Str} (h : (sLt x k || sEq x k) = true) (h' : sLt k s = true) : sLt x s = true := by
  rcases Bool.or_eq_true_iff.1 h with h | h
  · exact sLt_trans h h'
  · rw [sLt_congrL h]; exact h'
end Go.W
end

section
open Go Go.Eng
namespace Go.W
theorem goH {B : Anc} {n : Nat} {c : Code} {A : Anc} {env : Env} {hp : List Chunk} {K : Kont} (hp' : List Chunk) (e : hp = hp') (h : vcStep P ctx B DS.nil n c A env hp' K) : SndS P B DS.nil n c A env hp K := by
  subst e; exact go_ h
theorem undo_right (p : Pg) (d : De) : (undoP p d).1.right.list = [] := by
  unfold undoP
  cases undoBad p d with
  | true => rfl
  | false =>
    cases Nat.blt (fIx (fun x => sEq x.key (undoKey d)) p.list) p.list.length <;> rfl
theorem De.shapeNil (x : De) (h : x.right.list = []) : Con P 19 [x.svL (.v (.slice none 0 0)), x.svL (.v (.slice none 0 0))] (.bool true) := by
  have := Con.arg (rdsame_con x x none none 0 0 (by rw [h]; exact Nat.zero_le _)) (args := [x.svL (.v (.slice none 0 0)), x.svL (.v (.slice none 0 0))]) (fun β A vals hr => rel2_up hr (fun _ hy => De.up_nil h hy) (fun _ hy => De.up_nil h hy))
  rw [De.eq_refl] at this
  exact this
abbrev bxP (p : Pg) (a : Option Addr) (c : Nat) : Chunk := .box 24 (pgCells p (.ext a p.list.length c 4 (entE p.list)))
abbrev bxD (d : De) (s : SV) : Chunk := .box 32 [.v (.int .i64 d.kind), .v (.string d.entry.key), .v (.int .i64 d.entry.slot), .v (.int .i64 d.entry.gen), .v (.int .i64 d.entry.child), .v (.string d.key), .v (.int .i64 d.page), .v (.bool d.right.leaf), .v (.string d.right.low), .v (.string d.right.high), .v (.int .i64 d.right.right), s]
abbrev exD (d : De) (b : Option Addr) (e : Nat) : SV := .ext b d.right.list.length e 4 (entE d.right.list)
theorem applies_law (p : Pg) (d : De) (a b : Option Addr) (c e : Nat) (hl : p.list.length + d.right.list.length + 1 ≤ lim) :
    ConP P 6 [p.sv a c, d.sv b e] (Two p d a b c e) (.bool true) := by
  refine con_ofP (args := [p.sv a c, d.sv b e]) (Pre := Two p d a b c e) ctx_ok Proofs.Try.func6 rfl (R := ValR (.bool true)) rfl rfl fun A hat hpre => vcStep_sound ctx_ok tb_all _ _ _ _ _ ?_
  conv => whnf
  repeat (refine go_ ?_; conv => whnf)
  refine ⟨rfl, conR_ext (apply13_con p d a b c e hl) ((Pg.apply p d).1.shapeT (Pg.apply p d).2) (fun A' hl' => hpre.later hl') (fun A2 a2 c2 hA2 hs2 => ?_)⟩
  conv => whnf
  refine goH [bxP p a c, bxD d (exD d b e), bxP (Pg.apply p d).1 a2 c2] rfl ?_
  conv => whnf
  refine ⟨rfl, conE_ext (rapply_con p d a b c e hl) ((Pg.apply p d).1.shapeT (Pg.apply p d).2) (fun A' hl' => trivial) (fun A3 a3 c3 hA3 hO3 hn3 hs3 => ?_)⟩
  have hp3 := (hpre.later hA2).later hA3
  conv => whnf
  refine goH [bxP p a c, bxD d (exD d b e), bxP (Pg.apply p d).1 a2 c2, bxP (Pg.apply p d).1 a3 c3] rfl ?_
  conv => whnf
  refine ⟨rfl, conP_vc (undo_con p d a b c e hl) (fun A' hl' => hp3.later hl') ?_⟩
  conv => whnf
  refine goH [bxP p a c, bxD d (exD d b e), bxP (Pg.apply p d).1 a2 c2, bxP (Pg.apply p d).1 a3 c3, bxD (undoP p d).1 (.v (.slice none 0 0))] rfl ?_
  conv => whnf
  refine ⟨rfl, conP_vc (rundo_con p d a b c e hl) (fun A' hl' => hp3.later hl') ?_⟩
  conv => whnf
  refine goH [bxP p a c, bxD d (exD d b e), bxP (Pg.apply p d).1 a2 c2, bxP (Pg.apply p d).1 a3 c3, bxD (undoP p d).1 (.v (.slice none 0 0)), bxD (undoP p d).1 (.v (.slice none 0 0))] rfl ?_
  conv => whnf
  refine .one none (by kernel_rfl) ?_
  conv => whnf
  refine ⟨rfl, con_vc live_con ?_⟩
  conv => whnf
  refine ⟨rfl, gcon_vc (dcheck_con d b e (by omega)) ?_⟩
  conv => whnf
  refine ⟨rfl, gcon_vc (rdcheck_con d b e (by omega)) ?_⟩
  conv => whnf
  have hq : (p.apply d).1.list.length ≤ lim := by have := apply_len p d; omega
  refine ⟨rfl, gcon_vc (rsame_con (p.apply d).1 (p.apply d).1 a2 a3 c2 c3 hq) ?_⟩
  rw [Pg.eq_refl]
  conv => whnf
  refine ⟨rfl, gcon_vc (De.shapeNil (undoP p d).1 (undo_right p d)) ?_⟩
  conv => whnf
  repeat (refine go_ ?_; conv => whnf)
  refine ret_con rfl ?_
  simp
  rfl
end Go.W
end

section
open Go Go.Eng
namespace Go.W
open Go.ChangeShapes Go.WideShapes Go.ChangeAt Go.RowKit
theorem upP {β : Lay} {A : Anc} {p : Pg} {a : Option Addr} {c : Nat} (hn : p.list.length ≤ c) (hs : SliceAt A a p.list.length 4 (entE p.list)) : (p.sv a c).Rel β A (p.val (.slice a p.list.length c)) := by
  simp only [Pg.sv, Pg.val, SV.Rel, RelL]
  exact ⟨_, rfl, _, _, rfl, rfl, _, _, rfl, rfl, _, _, rfl, rfl, _, _, rfl, rfl, _, _, rfl, ⟨rfl, hn, hs⟩, rfl⟩
theorem bulk_le {H : Type} {l : List (DataW H)} (hk : Proofs.Ytfigihelkjlcpaa.Rows.uptoSmall H l = true) : bulkA l ≤ 1048576 := of_decide_eq_true hk
theorem at_no (W : World) : At no no W := ⟨fun _ h => h, fun _ h => h.elim⟩
theorem le_lim {n : Nat} (h : n ≤ 1048576) : n ≤ lim := by unfold lim; omega
abbrev zPage : Value := .agg #[.bool false, .string .empty, .string .empty, .int .i64 0, .slice none 0 0]
abbrev zDelta : Value := .agg #[.int .i64 0, .string .empty, .int .i64 0, .int .i64 0, .int .i64 0, .string .empty, .int .i64 0, .bool false, .string .empty, .string .empty, .int .i64 0, .slice none 0 0]
abbrev zCut : Value := .agg #[.string .empty, .int .i64 0, .string .empty]
abbrev rEnt (H : Type) : DataW H := .agg [.lit (.string []), .agg [.lit (.int .i64 0), .lit (.int .i64 0)], .lit (.int .i64 0)]
abbrev rPage (H : Type) : DataW H := .agg [.lit (.bool false), .lit (.string []), .lit (.string []), .lit (.int .i64 0), .nil]
abbrev rDelta (H : Type) : DataW H := .agg [.lit (.int .i64 0), rEnt H, .lit (.string []), .lit (.int .i64 0), rPage H]
abbrev rCut (H : Type) : DataW H := .agg [.lit (.string []), .lit (.int .i64 0), .lit (.string [])]
section
variable {H : Type} {enc : TypeId × Value → H} {W : World}
/-- a page and a delta, as they are read -/
theorem open_pd {args : List Value} {ds : List (DataW H)} {ps : List MemPlace} (hA : DataW.TrodAll enc P W 0 (fun _ => true) true [24, 32] args ds ps) (hb : bulkA ds ≤ 1048576) :
    ∃ (p : Pg) (d : De) (a b : Option Addr) (c e : Nat), RelL Lay.none ⟨no, no, W⟩ [p.sv a c, d.sv b e] args ∧ Two p d a b c e ⟨no, no, W⟩ ∧ p.list.length + d.right.list.length + 1 ≤ lim ∧ ∃ x y, ds = [x, y] := by
  obtain ⟨v0, vs0, d0, ds0, p0, q0, rfl, rfl, rfl, h0, r0⟩ := trodAll_cons hA
  obtain ⟨v1, vs1, d1, ds1, p1, q1, rfl, rfl, rfl, h1, r1⟩ := trodAll_cons r0
  obtain ⟨rfl, rfl, rfl⟩ := trodAll_nil r1
  obtain ⟨fu0, h0⟩ := h0
  obtain ⟨fu1, h1⟩ := h1
  obtain ⟨p, a, c, rfl, hp1, hp2, bx⟩ := open_pg h0
  obtain ⟨y, rfl, hy, by_⟩ := open_de h1
  simp only [bulkA_cons, bulkA_nil] at hb
  simp only at bx by_
  refine ⟨p, y.d, a, y.a, c, y.c, ?_, ⟨⟨hp2, hp1⟩, hy⟩, le_lim (by omega), _, _, rfl⟩
  simp only [RelL]
  refine ⟨_, _, rfl, upP hp1 hp2, _, _, rfl, upD hy ?_, rfl⟩
  exact (y.d.shape.to Lay.none ⟨no, no, W⟩ (.v y.sl) y.sl rfl)
theorem par_pd (t : TypeId) (h : t ∈ [24, 32]) : P.readableRec t = true ∧ t < P.types.size := by
  have : t = 24 ∨ t = 32 := by simpa using h
  rcases this with rfl | rfl
  · exact ⟨by kernel_rfl, of_decide_eq_true (by kernel_rfl)⟩
  · exact ⟨by kernel_rfl, of_decide_eq_true (by kernel_rfl)⟩
/-- a law of a page and a delta: true, and all as it was -/
theorem pd_contract {n : Nat} {f : Func} {s : ChangeSpec} (hpar : f.params.toList = [24, 32]) (hres : f.resultTypes = #[4]) (hv : s.vars = [])
    (hfn : ∀ x y : DataW H, s.fn H [x, y] = { results := [.lit (.bool true)], args := [x, y] })
    (law : ∀ (p : Pg) (d : De) (a b : Option Addr) (c e : Nat), p.list.length + d.right.list.length + 1 ≤ lim → ConP P n [p.sv a c, d.sv b e] (Two p d a b c e) (.bool true))
    {args : Array Value} {ds gs : List (DataW H)} {before : List MemPlace} (hW : DataW.Whole enc P f.params.toList s.vars false W args.toList ds gs before) (hk : Proofs.Ytfigihelkjlcpaa.Rows.uptoSmall H (ds ++ gs) = true) :
    Calls P n args W fun e W' => ∃ v, e = .returned v ∧ s.post enc P f false true false false W args v W' := by
  have hW' := hW
  obtain ⟨p, q, hA, hV, rfl, hfz, hnd⟩ := hW
  have hb := bulk_le hk
  rw [hpar] at hA
  rw [hv] at hV
  obtain ⟨rfl, rfl⟩ := trodVars_none hV
  rw [List.append_nil] at hb
  obtain ⟨p, d, a, b, c, e, h1, h2, h3, x, y, rfl⟩ := open_pd hA hb
  refine Calls.mono (law p d a b c e h3 no no W Lay.none _ h1 (at_no W) h2) fun e W' he => ⟨_, he.1, ?_⟩
  exact law_post hv hW' (fun _ => by rw [List.append_nil]; exact hfn x y) hres (by rw [hpar]; exact par_pd) he.2
end
end Go.W
end
