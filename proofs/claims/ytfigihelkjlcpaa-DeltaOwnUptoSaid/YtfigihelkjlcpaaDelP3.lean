/- Lemmas for the proof of a law of the seat Ytfigihelkjlcpaa: an own evaluator of the model's programs, contracts of functions. -/
import Derived.Test.YtfigihelkjlcpaaDelP2
import Derived.Recover
import Derived.Tactics
import Derived.KernelRfl
section
open Go Go.Eng
namespace Go.W
theorem fold1_idle (p q : Addr) (w : World) : CallsD P 51 #[.pointer (some p), .pointer (some q)] .returning w fun e u' w' => e = .returned (.tuple #[]) ∧ u' = .returning ∧ w' = w := by
  refine callsD_of_wpS Proofs.Try.func51 rfl fun c₀ cs hu => ?_
  apply wpS_seq
  apply wpS_region
  simp [wpOpsS, go_sem, recoverD, hu, Proofs.Try.ntmps51, Exit.thenS]
  apply wpS_seq
  apply wpS_region
  simp [wpOpsS, go_sem, Exit.thenS]
  refine wpS_cond (t := false) (by simp [Act.eval, Array.replicate]) ?_
  refine wpS_of_wp (wp_skip ?_)
  cases c₀
  simp_all [bodyPostS, results, Proofs.Try.results51]
/-- a layout of two boxes -/
def Lay.two (b4 b5 : Nat) : Lay := ⟨2, fun l => bif Nat.beq l 0 then ⟨b4, false, 0⟩ else ⟨b5, false, 0⟩⟩
def okV (e : Int) : List PanicEntry := [{ v := .iface 119 (.agg #[.int .i64 e]), recovered := true }]
def ctx3 : Ctx := ⟨tb, eqT, fnB, ldB, none, 3⟩
theorem ctx3_ok : CtxOK P ctx3 := ⟨fn_ok, mixed_ok, tb_ok, eqT_ok⟩
theorem allTb3 : ∀ fs, allTb ctx3 fs = allTb ctx fs
  | [] => rfl
  | (_, t) :: r => by
    simp only [allTb]
    rw [allTb3 r]
    rfl
theorem tb_all3 : TbAll ctx3 := fun t fs s b z ht => by rw [allTb3]; exact tb_all t fs s b z ht
theorem go3_ {B : Anc} {ds : DS} {n : Nat} {c : Code} {A : Anc} {env : Env} {hp : List Chunk} {K : Kont} (hm0 : ds.lay.m ≤ 3) (h : vcStep P ctx3 B ds n c A env hp K) : SndS P B ds n c A env hp K := ⟨vcStep_sound0 ctx3_ok tb_all3 hm0 _ _ _ _ _ h⟩
theorem fold1_catch (e : Int) (b4 b5 : Nat) (hne : b4 ≠ b5) (w : World) (y1 y2 y3 y4 y5 z : Value) (h4 : w.heap[b4]? = some (.cells #[y1, y2, y3, y4, y5] 24 (0, 0))) (h5 : w.heap[b5]? = some (.cells #[z] 33 (0, 0))) :
    CallsD P 51 #[.pointer (some ⟨b4, 0, none⟩), .pointer (some ⟨b5, 0, none⟩)] (.panicking (failV e)) w fun r u' w' => r = .returned (.tuple #[]) ∧ u' = .panicking (okV e) ∧
      w'.heap[b4]? = some (.cells #[.bool false, .string s0, .string s0, .int .i64 0, .slice none 0 0] 24 (0, 0)) ∧ w'.heap[b5]? = some (.cells #[.int .i64 e] 33 (0, 0)) ∧ Stp (fun g => g = b4 ∨ g = b5) w w' := by
  refine callsD_of_wpS Proofs.Try.func51 rfl fun c₀ cs hu => ?_
  apply wpS_seq
  apply wpS_region
  simp [wpOpsS, go_sem, recoverD, hu, Proofs.Try.ntmps51, Exit.thenS, failV]
  have hlt4 : b4 < w.heap.size := (Array.getElem?_eq_some_iff.1 h4).1
  have hlt5 : b5 < w.heap.size := (Array.getElem?_eq_some_iff.1 h5).1
  have two : ∀ (l : Nat) (ch : Chunk), [Chunk.box 24 [.v y1, .v y2, .v y3, .v y4, .v y5], .box 33 [.v z]][l]? = some ch → (l = 0 ∧ ch = .box 24 [.v y1, .v y2, .v y3, .v y4, .v y5]) ∨ (l = 1 ∧ ch = .box 33 [.v z]) := fun l ch h => by
    match l with
    | 0 => simp at h; exact .inl ⟨rfl, h.symm⟩
    | 1 => simp at h; exact .inr ⟨rfl, h.symm⟩
    | l + 2 => simp at h
  have hc0 := Conc.start (β := Lay.two b4 b5) (lay := Lay.two b4 b5) ⟨fun g => g = b4 ∨ g = b5, fun _ => False, w⟩ ⟨fun g => g = b4 ∨ g = b5, fun _ => False, w⟩ (hp := [.box 24 [.v y1, .v y2, .v y3, .v y4, .v y5], .box 33 [.v z]]) (Lay.le.refl _) {
      m := rfl
      hpr := fun l ch hl => by
        rcases two l ch hl with ⟨rfl, rfl⟩ | ⟨rfl, rfl⟩
        · exact ⟨[y1, y2, y3, y4, y5], RelL.vs [y1, y2, y3, y4, y5], h4⟩
        · exact ⟨[z], RelL.vs [z], h5⟩
      own := fun l ch hl _ => by
        rcases two l ch hl with ⟨rfl, rfl⟩ | ⟨rfl, rfl⟩
        · exact ⟨.inl rfl, fun h => h⟩
        · exact ⟨.inr rfl, fun h => h⟩
      inj := fun l l' ch ch' hl hl' _ _ hb => by
        rcases two l ch hl with ⟨rfl, rfl⟩ | ⟨rfl, rfl⟩ <;> rcases two l' ch' hl' with ⟨rfl, rfl⟩ | ⟨rfl, rfl⟩
        · rfl
        · exact absurd hb hne
        · exact absurd hb.symm hne
        · rfl
      MO := fun _ h => h.elim
      OS := fun g hg => by rcases hg with rfl | rfl; exact hlt4; exact hlt5 } rfl (fun _ h => h.elim) (fun _ h => h) (fun l ch hl _ => by
        rcases two l ch hl with ⟨rfl, rfl⟩ | ⟨rfl, rfl⟩
        · exact .inl rfl
        · exact .inr rfl) (args := [.loc 0 0, .loc 1 0]) (vals := [.pointer (some ⟨b4, 0, none⟩), .pointer (some ⟨b5, 0, none⟩)]) (n := 9) (by
        simp only [RelL, SV.Rel]
        exact ⟨_, _, rfl, ⟨Nat.zero_lt_two, rfl⟩, _, _, rfl, ⟨Nat.one_lt_two, rfl⟩, rfl⟩) (by simp)
  have hc1 := hc0.put (gs := []) (p := []) (d := some 3) (s := .v (.iface 119 (.agg #[.int .i64 e]))) (y := .iface 119 (.agg #[.int .i64 e])) (fun t e he q hq => by rw [(argE_get _ 0 t e he).1] at hq; cases hq) (by simp) rfl (fun _ => by simp [SV.Rel]) (fun h => absurd (holdsP_nil _) h)
  have hg1 : GsOK [] ((ofL (argE 0 [SV.loc 0 0, SV.loc 1 0])).put (some 3) [] (.v (.iface 119 (.agg #[.int .i64 e])))) := GsOK.put (fun t e he q hq => by rw [(argE_get _ 0 t e he).1] at hq; cases hq) (by simp) _ _
  have hc2 := hc1.put (gs := []) (p := []) (d := some 2) (s := .v (.iface 119 (.agg #[.int .i64 e]))) (y := .iface 119 (.agg #[.int .i64 e])) hg1 (by simp) rfl (fun _ => by simp [SV.Rel]) (fun h => absurd (holdsP_nil _) h)
  have hg2 := GsOK.put hg1 (p := []) (by simp) (some 2) (.v (.iface 119 (.agg #[.int .i64 e])))
  generalize ha : Act.mk _ _ = act
  generalize hA : Act.put _ _ _ = act' at hc2
  have : act = act' := by rw [← ha, ← hA]; simp [Act.put]
  subst this
  have hm : (DS.mk [] (Lay.two b4 b5)).lay.m ≤ 3 := by show 2 ≤ 3; decide
  refine wpS_of_wp (wp_mono ((go3_ (K := fun x A env hp => x = .normal ∧ hp = [.box 24 [.v (.bool false), .v (.string s0), .v (.string s0), .v (.int .i64 0), .v (.slice none 0 0)], .box 33 [.v (.int .i64 e)]]) hm ?_).h _ _ _ hc2 hg2) ?_)
  · conv => whnf
    repeat (refine go3_ hm ?_; conv => whnf)
    refine ⟨fun h1 => ?_, fun h1 => ?_⟩
    · repeat (refine go3_ hm ?_; conv => whnf)
      refine ⟨rfl, con_vc (caught_con e) ?_⟩
      conv => whnf
      exact ⟨rfl, rfl⟩
    · cases h1
  · rintro x a' w' ⟨A', env', hp', β', h1, h2, rfl, rfl⟩
    have e0 := h1.ext.at_ 0 (Nat.zero_lt_two)
    have e1 := h1.ext.at_ 1 (Nat.one_lt_two)
    refine ⟨h1.defers, .panicking (okV e), rfl, .tuple #[], by simp [results, Proofs.Try.results51], rfl, rfl, ?_, ?_, h1.bas⟩
    · obtain ⟨ys, q1, q2⟩ := h1.hpr 0 _ rfl
      rw [e0] at q2
      simp only [RelL, SV.Rel] at q1
      obtain ⟨_, _, rfl, rfl, _, _, rfl, rfl, _, _, rfl, rfl, _, _, rfl, rfl, _, _, rfl, rfl, rfl⟩ := q1
      exact q2
    · obtain ⟨ys, q1, q2⟩ := h1.hpr 1 _ rfl
      rw [e1] at q2
      simp only [RelL, SV.Rel] at q1
      obtain ⟨_, _, rfl, rfl, rfl⟩ := q1
      exact q2
end Go.W
end

section
open Go Go.Eng
namespace Go.Eng
open Go.W
/-- a delta in memory: where its page's list lies -/
structure DP where
  d : De
  a : Option Addr
  c : Nat
def De.zero : De := ⟨0, En.zero, s0, 0, Pg.zero⟩
def DP.zero : DP := ⟨De.zero, none, 0⟩
def DP.sl (x : DP) : Value := .slice x.a x.d.right.list.length x.c
def DP.cells (x : DP) : List Value := [.int .i64 x.d.kind, .string x.d.entry.key, .int .i64 x.d.entry.slot, .int .i64 x.d.entry.gen, .int .i64 x.d.entry.child, .string x.d.key, .int .i64 x.d.page, .bool x.d.right.leaf, .string x.d.right.low, .string x.d.right.high, .int .i64 x.d.right.right, x.sl]
def rowsD (l : List DP) (i : Nat) : List Value := (l.getD i DP.zero).cells
def DP.ok (x : DP) (A : Anc) : Prop := SliceAt A x.a x.d.right.list.length 4 (entE x.d.right.list) ∧ x.d.right.list.length ≤ x.c
def okD (l : List DP) (A : Anc) : Prop := ∀ i, i < l.length → (l.getD i DP.zero).ok A
theorem DP.ok.later {x : DP} {A A' : Anc} (h : x.ok A) (hl : Later A A') : x.ok A' := ⟨h.1.later hl, h.2⟩
theorem okD.later {l : List DP} {A A' : Anc} (h : okD l A) (hl : Later A A') : okD l A' := fun i hi => (h i hi).later hl
/-- a page by deltas, the newest one first -/
def Pg.fold (p : Pg) : List De → Pg × Int
  | [] => (p, 0)
  | d :: r => bif (p.fold r).2 == 0 then (p.fold r).1.apply d else p.fold r
def sizeD : List De → Nat
  | [] => 0
  | d :: r => d.right.list.length + 1 + sizeD r
theorem putL_len (l : List En) (e : En) : (putL l e).length ≤ l.length + 1 := by
  unfold putL
  cases Nat.blt (fIx (fun x => sEq x.key e.key) l) l.length with
  | true => simp; omega
  | false => simp; omega
theorem apply_len (p : Pg) (d : De) : (p.apply d).1.list.length ≤ p.list.length + (d.right.list.length + 1) := by
  unfold Pg.apply
  cases !(d.check == 0) with
  | true => simp [Pg.zero]
  | false =>
    cases d.kind == 1 with
    | true =>
      simp only [cond_true, cond_false]
      unfold Pg.puts
      cases Pg.has p d.entry.key with
      | true => have := putL_len p.list d.entry; simp [Pg.put]; omega
      | false => simp [Pg.zero]
    | false =>
      cases d.kind == 2 with
      | true =>
        simp only [cond_true, cond_false]
        unfold Pg.rems Pg.removes
        cases Pg.has p d.key with
        | false => simp [Pg.zero]
        | true =>
          cases Nat.blt (fIx (fun x => sEq x.key d.key) p.list) p.list.length with
          | true => simp [Pg.put]; omega
          | false => simp
      | false =>
        cases d.kind == 3 with
        | true =>
          simp only [cond_true, cond_false]
          cases cutBad p d with
          | true => simp [Pg.zero]
          | false =>
            have := List.length_filter_le (fun x => sLt x.key d.key) p.list
            simp only [cond_false, Pg.cuts, Pg.below]; omega
        | false =>
          cases d.kind == 4 with
          | true =>
            simp only [cond_true, cond_false]
            unfold Pg.merges
            cases mergeBad p d.right with
            | true => simp [Pg.zero]
            | false => simp
          | false => simp [Pg.zero]
theorem fold_len (p : Pg) : ∀ l, (p.fold l).1.list.length ≤ p.list.length + sizeD l
  | [] => by simp [Pg.fold, sizeD]
  | d :: r => by
    have h1 := fold_len p r
    simp only [Pg.fold, sizeD]
    cases (p.fold r).2 == 0 with
    | true => have := apply_len (p.fold r).1 d; simp only [cond_true]; omega
    | false => simp only [cond_false]; omega
theorem apply_zero (p : Pg) (d : De) (h : (p.apply d).2 ≠ 0) : (p.apply d).1 = Pg.zero := by
  revert h
  unfold Pg.apply
  cases !(d.check == 0) with
  | true => simp
  | false =>
    cases d.kind == 1 with
    | true =>
      simp only [cond_true, cond_false]
      unfold Pg.puts
      cases Pg.has p d.entry.key <;> simp
    | false =>
      cases d.kind == 2 with
      | true =>
        simp only [cond_true, cond_false]
        unfold Pg.rems
        cases Pg.has p d.key with
        | false => simp
        | true => cases Nat.blt (fIx (fun x => sEq x.key d.key) p.list) p.list.length <;> simp
      | false =>
        cases d.kind == 3 with
        | true =>
          simp only [cond_true, cond_false]
          cases cutBad p d <;> simp
        | false =>
          cases d.kind == 4 with
          | true =>
            simp only [cond_true, cond_false]
            unfold Pg.merges
            cases mergeBad p d.right <;> simp
          | false => simp
theorem fold_zero (p : Pg) : ∀ l, (p.fold l).2 ≠ 0 → (p.fold l).1 = Pg.zero
  | [], h => absurd rfl h
  | d :: r, h => by
    simp only [Pg.fold] at h ⊢
    cases hb : (p.fold r).2 == 0 with
    | true => rw [hb] at h; exact apply_zero _ _ h
    | false => rw [hb] at h; exact fold_zero p r h
theorem fold_cons (p : Pg) (d : De) (r : List De) (h : (p.fold r).2 = 0) : p.fold (d :: r) = (p.fold r).1.apply d := by
  simp only [Pg.fold, h]; rfl
theorem fold_stop (p : Pg) (d : De) (r : List De) (h : (p.fold r).2 ≠ 0) : p.fold (d :: r) = p.fold r := by
  simp only [Pg.fold]
  rw [show ((p.fold r).2 == 0) = false by simpa using h]; rfl
/-- an error further on stays -/
theorem fold_bad (p : Pg) : ∀ (l1 l2 : List De), (p.fold l2).2 ≠ 0 → p.fold (l1 ++ l2) = p.fold l2
  | [], _, _ => rfl
  | d :: r, l2, h => by
    have h1 := fold_bad p r l2 h
    rw [List.cons_append, fold_stop p d (r ++ l2) (by rw [h1]; exact h), h1]
theorem sizeD_append : ∀ (a b : List De), sizeD (a ++ b) = sizeD a + sizeD b
  | [], b => by simp [sizeD]
  | d :: r, b => by simp only [List.cons_append, sizeD, sizeD_append r b]; omega
def desOf (l : List DP) : List De := l.map (·.d)
theorem gives_apply {B A : Anc} {hp : List Chunk} {q : Pg} {x : DP} {r : Nat} (hl : nthL r hp = some (.row 30 4 q.list.length (entE q.list))) (hx : x.ok A) {X : List SV → (Anc → Prop) → Prop} (hX : ∀ a c, X [q.sv a c, x.d.sv x.a x.c] (Two q x.d a x.a c x.c)) :
    Gives B A hp [q.svL (.sl r 4 0 q.list.length), x.d.svL (.v x.sl)] X := fun O' w β vals site => by
  obtain ⟨a, c, O'', h1, h2, h3, h4, h5, h6⟩ := site_frz site hl
  have hx2 := (hx.later site.later).later h3
  refine ⟨O'', _, _, h1, h2, ?_, ⟨⟨h4, h5⟩, hx2⟩, hX a c⟩
  have hr := RelL.later h3 _ _ site.rel
  refine rel2_up hr (fun y hy => ?_) (fun y hy => ?_)
  · refine agg_last (l := [.v (.bool q.leaf), .v (.string q.low), .v (.string q.high), .v (.int .i64 q.right)]) (fun z hz => ?_) hy
    have := h6 _ _ hz
    simp only [SV.Rel]
    exact ⟨this, h5, h4⟩
  · rw [De.sv_eq]
    exact agg_last (fun z hz => raw_ext hz hx2.2 hx2.1) hy
end Go.Eng
end

section
open Go Go.Eng
namespace Go.W
/-- where Fold's run ends -/
def FoldK (B : Anc) (R : Ending → World → Prop) (e : Int) : Kont := fun x A env hp => match x with
  | .ret => match resSV ctx env hp Proofs.Try.f23.results.toList with
    | some ss => RetVC B A hp ss R
    | none => False
  | .panic ch => ch = failV e ∧ e ≠ 0 ∧ env 4 = some ⟨[], .loc 1 0⟩ ∧ env 5 = some ⟨[], .loc 2 0⟩ ∧ (∃ s1 s2 s3 s4 s5, nthL 1 hp = some (.box 24 [s1, s2, s3, s4, s5])) ∧ ∃ s6, nthL 2 hp = some (.box 33 [s6])
  | _ => False
def pgCells (p : Pg) (s : SV) : List SV := [.v (.bool p.leaf), .v (.string p.low), .v (.string p.high), .v (.int .i64 p.right), s]
theorem goF_ {B : Anc} {d : Deferred} {lay : Lay} {n : Nat} {c : Code} {A : Anc} {env : Env} {hp : List Chunk} {K : Kont} (hm0 : lay.m = 3) (h : vcStep P ctx3 B ⟨[d], lay⟩ n c A env hp K) : SndS P B ⟨[d], lay⟩ n c A env hp K := go3_ (by show lay.m ≤ 3; omega) h
abbrev foldMk (p : Pg) (l : List DP) : Value → Value := fun y => .tuple #[(p.fold (desOf l)).1.val y, .int .i64 (p.fold (desOf l)).2]
abbrev FoldPre (p : Pg) (a : Option Addr) (c : Nat) (l : List DP) (A : Anc) : Prop := (SliceAt A a p.list.length 4 (entE p.list) ∧ p.list.length ≤ c) ∧ okD l A
theorem desOf_drop (l : List DP) (j : Nat) (h : j < l.length) : desOf (l.drop j) = (l.getD j DP.zero).d :: desOf (l.drop (j + 1)) := by
  unfold desOf
  rw [List.drop_eq_getElem_cons h, List.map_cons]
  simp [h]
theorem desOf_split (l : List DP) (j : Nat) : desOf l = desOf (l.take j) ++ desOf (l.drop j) := by
  unfold desOf
  rw [← List.map_append, List.take_append_drop]
noncomputable def foldRest : Code := match Proofs.Try.f23.body with
  | some (.seq _ (.seq _ y)) => y
  | _ => .skip
theorem fold_rest (p : Pg) (l : List DP) (a aL : Option Addr) (c cL : Nat) (hl : p.list.length + sizeD (desOf l) ≤ lim) (hn : l.length ≤ lim) (A A0 : Anc) (d : Deferred) (lay : Lay) (hlay : lay.m = 3) (hpre : FoldPre p a c l A) :
    Snd P ⟨A0.M, A0.M, A0.w⟩ ⟨[d], lay⟩ 24 foldRest A (ofL [(1, .ext aL l.length cL 12 (rowsD l)), (2, .loc 0 0), (4, .loc 1 0), (5, .loc 2 0)])
      [.box 24 (pgCells p (.ext a p.list.length c 4 (entE p.list))), .box 24 (pgCells Pg.zero (.v (.slice none 0 0))), .box 33 [.v (.int .i64 0)]]
      (FoldK ⟨A0.M, A0.M, A0.w⟩ (RowR 30 4 (p.fold (desOf l)).1.list.length (entE (p.fold (desOf l)).1.list) (foldMk p l) A0.w A0.M) (p.fold (desOf l)).2) := by
  refine (goF_ hlay ?_).h
  conv => whnf
  repeat (refine goF_ hlay ?_; conv => whnf)
  have hpl : p.list.length ≤ lim := by omega
  refine ⟨rfl, conR_row (clone_con p a c hpl) p.shape (fun A' hl' => ⟨hpre.1.1.later hl', hpre.1.2⟩) fun A2 hA2 => ?_⟩
  conv => whnf
  repeat (refine goF_ hlay ?_; conv => whnf)
  have hpre2 := hpre.2.later hA2
  refine loop_i (fun m : Nat => [(1, .ext aL l.length cL 12 (rowsD l)), (4, .loc 1 0), (5, .loc 2 0), (6, .v (.int .i64 ((m : Int) - 1)))])
    (fun m => [.box 24 (pgCells p (.ext a p.list.length c 4 (entE p.list))), .box 24 (pgCells (p.fold (desOf (l.drop m))).1 (.sl 3 4 0 (p.fold (desOf (l.drop m))).1.list.length)), .box 33 [.v (.int .i64 0)], .row 30 4 (p.fold (desOf (l.drop m))).1.list.length (entE (p.fold (desOf (l.drop m))).1.list)]) (fun m => m)
    (fun m A => m ≤ l.length ∧ (p.fold (desOf (l.drop m))).2 = 0 ∧ okD l A) l.length [0, 1, 2, 3] ⟨⟨rfl, rfl, rfl, ?_, trivial⟩, ⟨⟨rfl, rfl⟩, ⟨rfl, ?_⟩, ⟨rfl, rfl⟩, ⟨rfl, rfl, ?_, ?_⟩, trivial⟩, rfl, rfl, rfl⟩ ⟨Nat.le_refl _, ?_, hpre2⟩ ?_
  · show (some ⟨[], .v (.int .i64 (IntKind.i64.wrap ((l.length : Int) - 1)))⟩ : Option Ent) = _
    unfold lim at hn
    rw [wrap_in (by omega) (by omega)]; rfl
  · rw [List.drop_length]; rfl
  · rw [List.drop_length]; rfl
  · rw [List.drop_length]; intro i _; rfl
  · rw [List.drop_length]; rfl
  rintro m A3 ⟨hm, hok, hd⟩
  repeat (refine goF_ hlay ?_; conv => whnf)
  refine ⟨fun h1 => ?_, fun h1 => ?_⟩
  · have h1 : decide (((m : Int) - 1) ≥ 0) = true := h1
    simp at h1
    cases m with
    | zero => exact absurd h1 (by simp)
    | succ j =>
    have e1 : (((j + 1 : Nat) : Int) - 1) = (j : Int) := by omega
    have hjl : j < l.length := by omega
    have hlen := fold_len p (desOf (l.drop (j + 1)))
    have hds := desOf_drop l j hjl
    have hsz : sizeD (desOf (l.drop j)) ≤ sizeD (desOf l) := by rw [desOf_split l j, sizeD_append]; omega
    rw [hds, sizeD] at hsz
    have hfc := fold_cons p (l.getD j DP.zero).d (desOf (l.drop (j + 1))) hok
    repeat (refine goF_ hlay ?_; conv => whnf)
    refine .split none 5 rfl ?_
    conv => whnf
    refine ⟨⟨by show (0 : Int) ≤ (((j + 1 : Nat) : Int) - 1); omega, by show (((j + 1 : Nat) : Int) - 1) < (l.length : Int); omega⟩, ?_⟩
    conv => whnf
    generalize hxe : l.getD (((j + 1 : Nat) : Int) - 1).toNat DP.zero = x
    have hx : x = l.getD j DP.zero := by rw [← hxe, e1]; rfl
    rw [← hx] at hsz hds hfc
    have hxo : x.ok A3 := by rw [hx]; exact hd j hjl
    have hfj : p.fold (desOf (l.drop j)) = (p.fold (desOf (l.drop (j + 1)))).1.apply x.d := by rw [hds, hfc]
    have hsize : (p.fold (desOf (l.drop (j + 1)))).1.list.length + x.d.right.list.length + 1 ≤ lim := by omega
    by_cases hbad : ((p.fold (desOf (l.drop (j + 1)))).1.apply x.d).2 = 0
    · refine ⟨rfl, conRG_row (gives_apply (q := (p.fold (desOf (l.drop (j + 1)))).1) (x := x) (r := 3) rfl hxo (fun a c => apply_con _ x.d a x.a c x.c hsize hbad)) ((p.fold (desOf (l.drop (j + 1)))).1.apply x.d).1.shape (fun A4 hA4 => ?_)⟩
      conv => whnf
      repeat (refine goF_ hlay ?_; conv => whnf)
      refine next_i j [0, 1, 2, 4] (Nat.lt_succ_self j) ⟨⟨rfl, rfl, rfl, ?_, trivial⟩, ⟨⟨rfl, rfl⟩, ⟨rfl, ?_⟩, ⟨rfl, rfl⟩, ⟨rfl, rfl, ?_, ?_⟩, trivial⟩, rfl, rfl, rfl⟩ ⟨by omega, ?_, hd.later hA4⟩
      · show (some ⟨[], .v (.int .i64 (IntKind.i64.wrap ((((j + 1 : Nat) : Int) - 1) - 1)))⟩ : Option Ent) = _
        unfold lim at hn
        rw [e1, wrap_in (by omega) (by omega)]; rfl
      · rw [hfj]; rfl
      · rw [hfj]
      · rw [hfj]; intro i _; rfl
      · rw [hfj]; exact hbad
    · refine ⟨rfl, conXG_vc (gives_apply (q := (p.fold (desOf (l.drop (j + 1)))).1) (x := x) (r := 3) rfl hxo (fun a c => apply_bad _ x.d a x.a c x.c hsize hbad)) ?_⟩
      conv => whnf
      have hfl : p.fold (desOf l) = (p.fold (desOf (l.drop (j + 1)))).1.apply x.d := by
        rw [desOf_split l j, fold_bad p _ _ (by rw [hfj]; exact hbad), hfj]
      exact ⟨by rw [hfl], by rw [hfl]; exact hbad, rfl, rfl, ⟨_, _, _, _, _, rfl⟩, _, rfl⟩
  · have h1 : decide (((m : Int) - 1) ≥ 0) = false := h1
    simp at h1
    have hm0 : m = 0 := by omega
    subst hm0
    rw [List.drop_zero] at hok
    repeat (refine goF_ hlay ?_; conv => whnf)
    have hmk : foldMk p l = fun y => .tuple #[(p.fold (desOf l)).1.val y, .int .i64 0] := by unfold foldMk; rw [hok]
    rw [hmk]
    refine ret_conR ((p.fold (desOf l)).1.shapeT 0) (l := 3) (n := (p.fold (desOf l)).1.list.length) (N := (p.fold (desOf (l.drop 0))).1.list.length) (fun _ _ _ h => two_res h) rfl (Nat.le_refl _) (fun i hi => rfl)
end Go.W
end

section
open Go Go.Eng
namespace Go.W
theorem wpList_val {Q : Exit → Act → World → Prop} {ops : Array Oper} {o : Oper} {rest : List Oper} {a : Act} {w w' : World} {v : Value} (hg : o.guard = none) (hr : (execOp a.eval o).run P w = .ok (.value v) w') (h : wpList P ops Q rest (a.put o.dst v) w') : wpList P ops Q (o :: rest) a w := by
  unfold wpList
  rw [if_pos (by simp [Region.wanted, hg])]
  left
  simp only [Oper.wp, hr, Oper.upon]
  exact h
theorem wpList_defer {Q : Exit → Act → World → Prop} {ops : Array Oper} {o : Oper} {rest : List Oper} {a : Act} {w w' : World} {d : Deferred} (hg : o.guard = none) (hr : (execOp a.eval o).run P w = .ok (.defer d) w') (h : wpList P ops Q rest ({ a with defers := d :: a.defers }.put o.dst undef) w') : wpList P ops Q (o :: rest) a w := by
  unfold wpList
  rw [if_pos (by simp [Region.wanted, hg])]
  left
  simp only [Oper.wp, hr, Oper.upon]
  exact h
theorem Conc_defer {B A : Anc} {n : Nat} {env env' : Env} {hp : List Chunk} {β : Lay} {a : Act} {w : World} (h : Conc B DS.nil n A env hp β a w) (hs : ∀ t e, env' t = some e → env t = some e) (d : Deferred) : Conc B ⟨[d], β⟩ n A env' hp β { a with defers := d :: a.defers } w where
  size := h.size
  defers := by show d :: a.defers = [d]; rw [h.defers]; rfl
  ext := Lay.le.refl β
  envr := fun t e he => h.envr t e (hs t e he)
  hpr := h.hpr
  m := h.m
  stp := h.stp
  bas := h.bas
  anc := h.anc
  own := h.own
  inj := h.inj
  MO := h.MO
  MB := h.MB
  OS := h.OS
  BM := h.BM
theorem fold_con (p : Pg) (l : List DP) (a aL : Option Addr) (c cL : Nat) (hl : p.list.length + sizeD (desOf l) ≤ lim) (hn : l.length ≤ lim) :
    ConR P 23 [p.sv a c, .ext aL l.length cL 12 (rowsD l)] (FoldPre p a c l) 30 4 (p.fold (desOf l)).1.list.length (entE (p.fold (desOf l)).1.list) (foldMk p l) := by
  intro O M w β vals hr hat hpre
  have hr0 := RelL.bare [p.sv a c, .ext aL l.length cL 12 (rowsD l)] vals rfl hr
  have hvl : vals.length = 2 := hr.length
  have hc := Conc.start (n := 24) ⟨O, M, w⟩ ⟨M, M, w⟩ (Lay.none_le _) (Start.nil hat.MO hat.OS) rfl (fun _ h => h) (fun _ h => h) (fun l ch h => by simp at h) hr0 (by omega)
  have hg : GsOK [] (ofL (argE 0 [p.sv a c, .ext aL l.length cL 12 (rowsD l)])) := fun t e he q hq => by rw [(argE_get _ 0 t e he).1] at hq; cases hq
  refine calls_of_wp_defers Proofs.Try.func23 rfl ?_
  refine wp_seq (wp_mono ((go_ (K := fun x A env hp => x = .normal ∧ A = ⟨O, M, w⟩ ∧ ∃ σ, Weak 0 σ env hp [(1, .ext aL l.length cL 12 (rowsD l)), (2, .loc 0 0), (4, .loc 1 0), (5, .loc 2 0)]
      [.box 24 (pgCells p (.ext a p.list.length c 4 (entE p.list))), .box 24 (pgCells Pg.zero (.v (.slice none 0 0))), .box 33 [.v (.int .i64 0)]]) ?_).h _ _ _ hc hg) ?_)
  · conv => whnf
    exact ⟨rfl, rfl, [0, 1, 2], ⟨rfl, rfl, rfl, rfl, trivial⟩, ⟨⟨rfl, rfl⟩, ⟨rfl, rfl⟩, ⟨rfl, rfl⟩, trivial⟩, rfl, rfl, rfl⟩
  rintro x a1 w1 ⟨A1, env1, hp1, β1, h1, h2, rfl, rfl, σ, hw⟩
  have h3 := h1.weak (Nat.zero_le _) hw
  generalize hβ : β1.cut σ _ = β2 at h3
  have hm : β2.m = 3 := h3.m
  have g4 := (h3.envr 4 ⟨[], .loc 1 0⟩ rfl).1 (holdsP_nil _)
  have g5 := (h3.envr 5 ⟨[], .loc 2 0⟩ rfl).1 (holdsP_nil _)
  simp only [SV.Rel] at g4 g5
  obtain ⟨_, g4, _, rfl⟩ := g4
  obtain ⟨_, g5, _, rfl⟩ := g5
  have e4 : a1.tmps.getD 4 undef = .pointer (some ⟨(β2.at_ 1).b, 0, none⟩) := by
    rw [Array.getD_eq_getD_getElem?, g4]; rfl
  have e5 : a1.tmps.getD 5 undef = .pointer (some ⟨(β2.at_ 2).b, 0, none⟩) := by
    rw [Array.getD_eq_getD_getElem?, g5]; rfl
  simp only [Exit.then]
  have hsz : a1.tmps.size = 24 := h3.size
  refine wp_seq (wp_region_list ?_)
  have hev4 : a1.eval (.tmp 4) = .pointer (some ⟨(β2.at_ 1).b, 0, none⟩) := e4
  have hev5 : a1.eval (.tmp 5) = .pointer (some ⟨(β2.at_ 2).b, 0, none⟩) := e5
  let fv : Value := .func (.func 51) #[] #[.pointer (some ⟨(β2.at_ 1).b, 0, none⟩), .pointer (some ⟨(β2.at_ 2).b, 0, none⟩)]
  have hp7 := h3.put (gs := []) (p := []) (d := some 7) (s := .v fv) (y := fv) (GsOK_ofL (m := 3) rfl) (by simp) rfl (fun _ => by simp [SV.Rel]) (fun h => absurd (holdsP_nil _) h)
  have hev7 : (a1.put (some 7) fv).eval (.tmp 7) = fv := by
    have := (hp7.envr 7 ⟨[], .v fv⟩ rfl).1 (holdsP_nil _)
    simp only [SV.Rel] at this
    obtain ⟨_, q, rfl⟩ := this
    show (a1.put (some 7) fv).tmps.getD 7 undef = fv
    rw [Array.getD_eq_getD_getElem?, q]; rfl
  refine wpList_val (w' := w1) (v := fv) rfl ?_ (wpList_defer (w' := w1) (d := { target := .fn (.func 51) #[.pointer (some ⟨(β2.at_ 1).b, 0, none⟩), .pointer (some ⟨(β2.at_ 2).b, 0, none⟩)], args := #[] }) rfl ?_ ?_)
  · simp [execOp, Instr.makeFunc, hev4, hev5, fv]
  · simp only [execOp, resolve, hev7, fv, Sem.run_bind]
    simp [Deferred.ofValue]
  refine wpList_nil ?_
  show Code.wp P foldRest _ _ _
  have hsub : ∀ t e, ofL [(1, .ext aL l.length cL 12 (rowsD l)), (2, .loc 0 0), (4, .loc 1 0), (5, .loc 2 0)] t = some e → (ofL [(1, .ext aL l.length cL 12 (rowsD l)), (2, .loc 0 0), (4, .loc 1 0), (5, .loc 2 0)]).put (some 7) [] (.v fv) t = some e := fun t e he => by
    simp only [Env.put]
    cases hb : Nat.beq t 7 with
    | false => exact he
    | true => rw [Nat.eq_of_beq_eq_true hb] at he; cases he
  have hc2 := Conc_defer hp7 hsub { target := .fn (.func 51) #[.pointer (some ⟨(β2.at_ 1).b, 0, none⟩), .pointer (some ⟨(β2.at_ 2).b, 0, none⟩)], args := #[] }
  refine wp_mono (fold_rest p l a aL c cL hl hn ⟨O, M, w⟩ ⟨O, M, w⟩ _ β2 hm hpre β2 _ _ hc2 (GsOK_ofL (m := 3) rfl)) ?_
  rintro x a3 w3 ⟨A3, env3, hp3, β3, k1, k2, k3⟩
  have b1 : (β3.at_ 1) = β2.at_ 1 := k1.ext.at_ 1 (by show 1 < β2.m; omega)
  have b2 : (β3.at_ 2) = β2.at_ 2 := k1.ext.at_ 2 (by show 2 < β2.m; omega)
  cases x with
  | normal => exact k3.elim
  | exit i => exact k3.elim
  | goto i => exact k3.elim
  | outgrown => exact k3.elim
  | ret =>
    simp only [FoldK] at k3
    split at k3 <;> try (exact k3.elim)
    rename_i ss hss
    obtain ⟨vs, hv1, hv2⟩ := results_run (a := a3) (fn := Proofs.Try.f23) ctx_ok k1.stp k1.envr k1.hpr hss
    have hR := k3.h _ _ _ _ (k1.site hv2)
    show Leaves P Proofs.Try.f23 a3.tmps _ a3.defers .returning w3
    rw [k1.defers]
    refine leaves_cons (f := 51) (args := #[.pointer (some ⟨(β2.at_ 1).b, 0, none⟩), .pointer (some ⟨(β2.at_ 2).b, 0, none⟩)]) (by simp) (by simp [go_sem]) ?_
    refine (fold1_idle _ _ w3).mono ?_
    rintro e u' w'' ⟨rfl, rfl, rfl⟩
    exact ⟨_, hv1, hR⟩
  | panic ch =>
    obtain ⟨rfl, hne0, q4, q5, ⟨s1, s2, s3, s4, s5, q1⟩, s6, q2⟩ := k3
    rw [nthL_eq] at q1 q2
    obtain ⟨ys, z1, z2⟩ := k1.hpr 1 _ q1
    obtain ⟨zs, z3, z4⟩ := k1.hpr 2 _ q2
    simp only [RelL] at z1 z3
    obtain ⟨y1, _, rfl, _, y2, _, rfl, _, y3, _, rfl, _, y4, _, rfl, _, y5, _, rfl, _, rfl⟩ := z1
    obtain ⟨z, _, rfl, _, rfl⟩ := z3
    rw [b1] at z2
    rw [b2] at z4
    have hne : (β2.at_ 1).b ≠ (β2.at_ 2).b := fun e => by
      have := k1.inj 1 2 _ _ q1 q2 rfl rfl (by rw [b1, b2]; exact e)
      cases this
    show Leaves P Proofs.Try.f23 a3.tmps _ a3.defers (.panicking (failV _)) w3
    rw [k1.defers]
    refine leaves_cons (f := 51) (args := #[.pointer (some ⟨(β2.at_ 1).b, 0, none⟩), .pointer (some ⟨(β2.at_ 2).b, 0, none⟩)]) (by simp) (by simp [go_sem]) ?_
    refine (fold1_catch _ _ _ hne w3 y1 y2 y3 y4 y5 z z2 z4).mono ?_
    rintro e u' w'' ⟨rfl, rfl, t1, t2, t3⟩
    show Leaves P Proofs.Try.f23 a3.tmps _ [] .returning w''
    have hz := fold_zero p (desOf l) hne0
    have hE : EnvOK β3 ⟨fun _ => False, fun _ => False, w''⟩ (ofL [(4, .loc 1 0), (5, .loc 2 0)]) a3.tmps := fun t e he => by
      have : env3 t = some e ∧ (e = ⟨[], .loc 1 0⟩ ∨ e = ⟨[], .loc 2 0⟩) := by
        simp only [ofL] at he
        cases hb : Nat.beq t 4 with
        | true => rw [hb] at he; simp at he; subst he; rw [Nat.eq_of_beq_eq_true hb]; exact ⟨q4, .inl rfl⟩
        | false =>
          rw [hb] at he
          cases hb2 : Nat.beq t 5 with
          | true => rw [hb2] at he; simp at he; subst he; rw [Nat.eq_of_beq_eq_true hb2]; exact ⟨q5, .inr rfl⟩
          | false => rw [hb2] at he; simp at he
      obtain ⟨h, h'⟩ := this
      have hh := k1.envr t e h
      rcases h' with rfl | rfl <;> exact hh
    have hH : HpRel β3 ⟨fun _ => False, fun _ => False, w''⟩ [.dead, .box 24 [.v (.bool false), .v (.string s0), .v (.string s0), .v (.int .i64 0), .v (.slice none 0 0)], .box 33 [.v (.int .i64 (p.fold (desOf l)).2)]] w'' := fun i ch hi => by
      match i with
      | 0 => simp at hi; subst hi; trivial
      | 1 =>
        simp at hi; subst hi
        exact ⟨_, RelL.vs [.bool false, .string s0, .string s0, .int .i64 0, .slice none 0 0], by rw [b1]; exact t1⟩
      | 2 =>
        simp at hi; subst hi
        exact ⟨_, RelL.vs [.int .i64 (p.fold (desOf l)).2], by rw [b2]; exact t2⟩
      | i + 3 => simp at hi
    obtain ⟨vs, hv1, hv2⟩ := results_run (a := a3) (fn := Proofs.Try.f23) (C := ctx) ctx_ok (Stp.refl _ _) hE hH rfl
    refine ⟨_, hv1, ⟨0, true, 0⟩, ⟨fun i hi => ?_, fun _ => ?_, fun hh => by simp at hh⟩, fun hh => by simp at hh, ?_, ?_⟩
    · rw [hz] at hi; simp [Pg.zero] at hi
    · rw [hz]; rfl
    · have : vs = [.agg #[.bool false, .string s0, .string s0, .int .i64 0, .slice none 0 0], .int .i64 (p.fold (desOf l)).2] := rawsA_rel rfl hv2
      rw [this]
      show _ = Ending.returned (.tuple #[(p.fold (desOf l)).1.val _, .int .i64 (p.fold (desOf l)).2])
      rw [hz]; rfl
    · refine k1.bas.trans t3 (fun k hk hkb => ?_)
      exfalso
      have hlt : ∀ i ch, hp3[i]? = some ch → ch.live (β3.at_ i) = true → w.heap.size ≤ (β3.at_ i).b := fun i ch hi hv => by
        obtain ⟨_, o2, o3, _⟩ := k1.own i ch hi hv
        rcases o2 with o2 | o2
        · exact o2
        · exact absurd (k1.BM _ o2) o3
      have l1 := hlt 1 _ q1 rfl
      have l2 := hlt 2 _ q2 rfl
      rw [b1] at l1
      rw [b2] at l2
      simp only at hk
      rcases hkb with rfl | rfl <;> omega
end Go.W
end

section
open Go Go.Eng
namespace Go.Eng
theorem snd_weak {P : Program} {B A : Anc} {n : Nat} {c : Code} {env : Env} {hp hp' : List Chunk} {l : List (Nat × SV)} {σ : List Nat} {K : Kont} (hw : Weak 0 σ env hp l hp') (h : SndS P B DS.nil n c A (ofL l) hp' K) : SndS P B DS.nil n c A env hp K :=
  ⟨fun _ a w hc _ => h.h _ a w (hc.weak (Nat.zero_le _) hw) (GsOK_ofL hw.e)⟩
/-- at a return: a list that can be read -/
theorem ret_conExt {A : Anc} {hp : List Chunk} {O M : Nat → Prop} {w0 : World} {mk : Value → Value} {mkS : SV → SV} (hs : Shape mkS mk) {ss : List SV} {a : Option Addr} {c k n : Nat} {els : Nat → List Value} (hss : ∀ β A vals, RelL β A ss vals → (mkS (.ext a n c k els)).Rel β A (retV vals)) (hO : ∀ k, O k → A.O k) :
    RetVC ⟨M, M, w0⟩ A hp ss (fun e w' => ∃ a c, n ≤ c ∧ SliceAt ⟨O, M, w'⟩ a n k els ∧ e = .returned (mk (.slice a n c)) ∧ Stp M w0 w') := by
  refine ⟨fun O' w β vals site => ?_⟩
  obtain ⟨z, hz, e⟩ := hs.back _ _ _ _ (hss _ _ _ site.rel)
  simp only [SV.Rel] at hz
  obtain ⟨rfl, h1, h2⟩ := hz
  refine ⟨a, c, h1, fun i hi => ?_, by rw [e], site.bas⟩
  obtain ⟨p, hp, q1, q2, q3, q4⟩ := h2 i hi
  exact ⟨p, hp, q1, fun hh => q2 (site.O1 _ (hO _ hh)), q3, q4⟩
theorem ret_conExt0 {A : Anc} {hp : List Chunk} {O M : Nat → Prop} {w0 : World} {mk : Value → Value} {mkS : SV → SV} (hs : Shape mkS mk) {ss : List SV} {k n : Nat} {els : Nat → List Value} (hss : ∀ β A vals, RelL β A ss vals → (mkS (.v (.slice none 0 0))).Rel β A (retV vals)) (hn : n = 0) :
    RetVC ⟨M, M, w0⟩ A hp ss (fun e w' => ∃ a c, n ≤ c ∧ SliceAt ⟨O, M, w'⟩ a n k els ∧ e = .returned (mk (.slice a n c)) ∧ Stp M w0 w') := by
  subst hn
  refine ⟨fun O' w β vals site => ?_⟩
  obtain ⟨z, hz, e⟩ := hs.back _ _ _ _ (hss _ _ _ site.rel)
  simp only [SV.Rel] at hz
  subst hz
  exact ⟨none, 0, Nat.le_refl _, fun i hi => absurd hi (Nat.not_lt_zero i), by rw [e], site.bas⟩
/-- what a function that answers with a readable list leaves behind -/
def ExtR (O : Nat → Prop) (n k : Nat) (els : Nat → List Value) (mk : Value → Value) : World → (Nat → Prop) → Ending → World → Prop := fun w M e w' =>
  ∃ a c, n ≤ c ∧ SliceAt ⟨O, M, w'⟩ a n k els ∧ e = .returned (mk (.slice a n c)) ∧ Stp M w w'
theorem conE_of {P : Program} {C : Ctx} (hC : CtxOK P C) {f : Nat} {fn : Func} {c : Code} (hf : P.funcs[f]? = some fn) (hb : fn.body = some c) {args : List SV} {Pre : Anc → Prop} {n k : Nat} {els : Nat → List Value} {mk : Value → Value} (hl : ltL 0 args = true) (hn : Nat.ble (lenL args) fn.ntmps = true)
    (h : ∀ A : Anc, At A.O A.M A.w → Pre A → Snd P ⟨A.M, A.M, A.w⟩ DS.nil fn.ntmps c A (ofL (argE 0 args)) [] (fnK C ⟨A.M, A.M, A.w⟩ fn.results.toList (ExtR A.O n k els mk A.w A.M))) : ConE P f args Pre n k els mk :=
  fun O M w β vals hr hat hp => calls_plain hC hf hb ⟨O, M, w⟩ hat.MO hat.OS (RelL.bare args vals hl hr) (by rw [hr.length, ← lenL_eq]; exact Nat.le_of_ble_eq_true hn) (h ⟨O, M, w⟩ hat hp)
end Go.Eng
namespace Go.W
theorem upD {β : Lay} {A : Anc} {x : DP} (h : x.ok A) {y : Value} (hy : (x.d.svL (.v x.sl)).Rel β A y) : (x.d.sv x.a x.c).Rel β A y := by
  rw [De.sv_eq]
  exact agg_last (fun z hz => raw_ext hz h.2 h.1) hy
theorem ConE.arg {f : Nat} {args args' : List SV} {Pre Pre' : Anc → Prop} {k n : Nat} {els : Nat → List Value} {mk : Value → Value} (h : ConE P f args' Pre' n k els mk) (hup : ∀ β A vals, RelL β A args vals → Pre A → RelL β A args' vals) (hp : ∀ A, Pre A → Pre' A) : ConE P f args Pre n k els mk :=
  fun O M w β vals hr hat hpre => h O M w β vals (hup _ _ _ hr hpre) hat (hp _ hpre)
theorem rapply_dp (p : Pg) (x : DP) (a : Option Addr) (c : Nat) (hl : p.list.length + x.d.right.list.length + 1 ≤ lim) :
    ConE P 25 [p.sv a c, x.d.svL (.v x.sl)] x.ok (Pg.apply p x.d).1.list.length 4 (entE (Pg.apply p x.d).1.list) (appMk p x.d) :=
  ConE.arg (rapply_con p x.d a x.a c x.c hl) (fun _ _ _ h hx => rel2_up h (fun _ h => h) (fun _ h => upD hx h)) (fun _ _ => trivial)
theorem rfold_con (p : Pg) (l : List DP) (a aL : Option Addr) (c cL : Nat) (hl : p.list.length + sizeD (desOf l) ≤ lim) (hn : l.length ≤ lim) :
    ConE P 66 [p.sv a c, .ext aL l.length cL 12 (rowsD l)] (FoldPre p a c l) (p.fold (desOf l)).1.list.length 4 (entE (p.fold (desOf l)).1.list) (foldMk p l) := by
  refine conE_of (args := [p.sv a c, .ext aL l.length cL 12 (rowsD l)]) ctx_ok Proofs.Try.func66 rfl rfl rfl fun A hat hpre => vcStep_sound ctx_ok tb_all _ _ _ _ _ ?_
  conv => whnf
  repeat (refine go_ ?_; conv => whnf)
  refine loop_i (fun x : Nat × Option Addr × Nat => [(1, .ext aL l.length cL 12 (rowsD l)), (4, .loc 1 0), (6, .loc 2 0), (7, .v (.int .i64 ((x.1 : Int) - 1)))])
    (fun x => [.box 24 (pgCells p (.ext a p.list.length c 4 (entE p.list))), .box 24 (pgCells Pg.zero (.v (.slice none 0 0))), .box 24 (pgCells (p.fold (desOf (l.drop x.1))).1 (.ext x.2.1 (p.fold (desOf (l.drop x.1))).1.list.length x.2.2 4 (entE (p.fold (desOf (l.drop x.1))).1.list)))]) (fun x => x.1)
    (fun x A' => x.1 ≤ l.length ∧ (p.fold (desOf (l.drop x.1))).2 = 0 ∧ okD l A' ∧ ∀ k, A.O k → A'.O k) (l.length, a, c) [0, 1, 2] ⟨⟨rfl, rfl, rfl, ?_, trivial⟩, ⟨⟨rfl, rfl⟩, ⟨rfl, rfl⟩, ⟨rfl, ?_⟩, trivial⟩, rfl, rfl, rfl⟩ ⟨Nat.le_refl _, ?_, hpre.2, fun _ h => h⟩ ?_
  · show (some ⟨[], .v (.int .i64 (IntKind.i64.wrap ((l.length : Int) - 1)))⟩ : Option Ent) = _
    unfold lim at hn
    rw [wrap_in (by omega) (by omega)]; rfl
  · show _ = renL _ (pgCells (p.fold (desOf (l.drop l.length))).1 _)
    rw [List.drop_length]; rfl
  · show (p.fold (desOf (l.drop l.length))).2 = 0
    rw [List.drop_length]; rfl
  rintro ⟨m, am, cm⟩ A3 ⟨hm, hok, hd, hO⟩
  have hm : m ≤ l.length := hm
  have hok : (p.fold (desOf (l.drop m))).2 = 0 := hok
  repeat (refine go_ ?_; conv => whnf)
  refine ⟨fun h1 => ?_, fun h1 => ?_⟩
  · have h1 : decide (((m : Int) - 1) ≥ 0) = true := h1
    simp at h1
    cases m with
    | zero => exact absurd h1 (by simp)
    | succ j =>
    have e1 : (((j + 1 : Nat) : Int) - 1) = (j : Int) := by omega
    have hjl : j < l.length := by omega
    have hlen := fold_len p (desOf (l.drop (j + 1)))
    have hds := desOf_drop l j hjl
    have hsz : sizeD (desOf (l.drop j)) ≤ sizeD (desOf l) := by rw [desOf_split l j, sizeD_append]; omega
    rw [hds, sizeD] at hsz
    have hfc := fold_cons p (l.getD j DP.zero).d (desOf (l.drop (j + 1))) hok
    repeat (refine go_ ?_; conv => whnf)
    refine .two (some [3]) 11 5 9 [0, 1, 2, 3, 4, 5, 6, 7, 8, 9, 10] [0, 1, 2, 3, 4, 9, 5, 6, 7, 8, 10] rfl rfl ?_ ?_
    · conv => whnf
      refine ⟨⟨by show (0 : Int) ≤ (((j + 1 : Nat) : Int) - 1); omega, by show (((j + 1 : Nat) : Int) - 1) < (l.length : Int); omega⟩, ?_⟩
      conv => whnf
      generalize hxe : l.getD (((j + 1 : Nat) : Int) - 1).toNat DP.zero = x
      have hx : x = l.getD j DP.zero := by rw [← hxe, e1]; rfl
      rw [← hx] at hsz hds hfc
      have hxo : x.ok A3 := by rw [hx]; exact hd j hjl
      have hfj : p.fold (desOf (l.drop j)) = (p.fold (desOf (l.drop (j + 1)))).1.apply x.d := by rw [hds, hfc]
      have hsize : (p.fold (desOf (l.drop (j + 1)))).1.list.length + x.d.right.list.length + 1 ≤ lim := by omega
      refine ⟨rfl, conE_ext (rapply_dp (p.fold (desOf (l.drop (j + 1)))).1 x am cm hsize) (((p.fold (desOf (l.drop (j + 1)))).1.apply x.d).1.shapeT ((p.fold (desOf (l.drop (j + 1)))).1.apply x.d).2) (fun A' hl' => hxo.later hl') (fun A4 a4 c4 hA4 hO4 hn4 hs4 => ?_)⟩
      conv => whnf
      repeat (refine go_ ?_; conv => whnf)
      refine ⟨fun h2 => ?_, fun h2 => ?_⟩
      · have h2 : (!(((p.fold (desOf (l.drop (j + 1)))).1.apply x.d).2 == 0)) = true := h2
        have hbad := eqz h2
        have hfl : p.fold (desOf l) = (p.fold (desOf (l.drop (j + 1)))).1.apply x.d := by
          rw [desOf_split l j, fold_bad p _ _ (by rw [hfj]; exact hbad), hfj]
        have hz := apply_zero _ _ hbad
        have hmk : foldMk p l = fun y => .tuple #[Pg.zero.val y, .int .i64 ((p.fold (desOf (l.drop (j + 1)))).1.apply x.d).2] := by unfold foldMk; rw [hfl, hz]
        rw [hmk, hfl, hz]
        repeat (refine go_ ?_; conv => whnf)
        exact ret_conExt0 (Pg.zero.shapeT ((p.fold (desOf (l.drop (j + 1)))).1.apply x.d).2) (fun _ _ _ h => two_res h) rfl
      · have h2 : (!(((p.fold (desOf (l.drop (j + 1)))).1.apply x.d).2 == 0)) = false := h2
        have hgood := eqz' h2
        repeat (refine go_ ?_; conv => whnf)
        refine next_i (j, a4, c4) [0, 1, 2] (Nat.lt_succ_self j) ⟨⟨rfl, rfl, rfl, ?_, trivial⟩, ⟨⟨rfl, rfl⟩, ⟨rfl, rfl⟩, ⟨rfl, ?_⟩, trivial⟩, rfl, rfl, rfl⟩ ⟨by show j ≤ l.length; omega, by show (p.fold (desOf (l.drop j))).2 = 0; rw [hfj]; exact hgood, hd.later hA4, fun k hk => hO4 k (hO k hk)⟩
        · show (some ⟨[], .v (.int .i64 (IntKind.i64.wrap ((((j + 1 : Nat) : Int) - 1) - 1)))⟩ : Option Ent) = _
          unfold lim at hn
          rw [e1, wrap_in (by omega) (by omega)]; rfl
        · show _ = renL _ (pgCells (p.fold (desOf (l.drop j))).1 (.ext a4 (p.fold (desOf (l.drop j))).1.list.length c4 4 (entE (p.fold (desOf (l.drop j))).1.list)))
          rw [hfj]; rfl
    · conv => whnf
      refine ⟨⟨by show (0 : Int) ≤ (((j + 1 : Nat) : Int) - 1); omega, by show (((j + 1 : Nat) : Int) - 1) < (l.length : Int); omega⟩, ?_⟩
      conv => whnf
      generalize hxe : l.getD (((j + 1 : Nat) : Int) - 1).toNat DP.zero = x
      have hx : x = l.getD j DP.zero := by rw [← hxe, e1]; rfl
      rw [← hx] at hsz hds hfc
      have hxo : x.ok A3 := by rw [hx]; exact hd j hjl
      have hfj : p.fold (desOf (l.drop j)) = (p.fold (desOf (l.drop (j + 1)))).1.apply x.d := by rw [hds, hfc]
      have hsize : (p.fold (desOf (l.drop (j + 1)))).1.list.length + x.d.right.list.length + 1 ≤ lim := by omega
      refine ⟨rfl, conE_ext (rapply_dp (p.fold (desOf (l.drop (j + 1)))).1 x am cm hsize) (((p.fold (desOf (l.drop (j + 1)))).1.apply x.d).1.shapeT ((p.fold (desOf (l.drop (j + 1)))).1.apply x.d).2) (fun A' hl' => hxo.later hl') (fun A4 a4 c4 hA4 hO4 hn4 hs4 => ?_)⟩
      conv => whnf
      repeat (refine go_ ?_; conv => whnf)
      refine ⟨fun h2 => ?_, fun h2 => ?_⟩
      · have h2 : (!(((p.fold (desOf (l.drop (j + 1)))).1.apply x.d).2 == 0)) = true := h2
        have hbad := eqz h2
        have hfl : p.fold (desOf l) = (p.fold (desOf (l.drop (j + 1)))).1.apply x.d := by
          rw [desOf_split l j, fold_bad p _ _ (by rw [hfj]; exact hbad), hfj]
        have hz := apply_zero _ _ hbad
        have hmk : foldMk p l = fun y => .tuple #[Pg.zero.val y, .int .i64 ((p.fold (desOf (l.drop (j + 1)))).1.apply x.d).2] := by unfold foldMk; rw [hfl, hz]
        rw [hmk, hfl, hz]
        repeat (refine go_ ?_; conv => whnf)
        exact ret_conExt0 (Pg.zero.shapeT ((p.fold (desOf (l.drop (j + 1)))).1.apply x.d).2) (fun _ _ _ h => two_res h) rfl
      · have h2 : (!(((p.fold (desOf (l.drop (j + 1)))).1.apply x.d).2 == 0)) = false := h2
        have hgood := eqz' h2
        repeat (refine go_ ?_; conv => whnf)
        refine next_i (j, a4, c4) [0, 1, 2] (Nat.lt_succ_self j) ⟨⟨rfl, rfl, rfl, ?_, trivial⟩, ⟨⟨rfl, rfl⟩, ⟨rfl, rfl⟩, ⟨rfl, ?_⟩, trivial⟩, rfl, rfl, rfl⟩ ⟨by show j ≤ l.length; omega, by show (p.fold (desOf (l.drop j))).2 = 0; rw [hfj]; exact hgood, hd.later hA4, fun k hk => hO4 k (hO k hk)⟩
        · show (some ⟨[], .v (.int .i64 (IntKind.i64.wrap ((((j + 1 : Nat) : Int) - 1) - 1)))⟩ : Option Ent) = _
          unfold lim at hn
          rw [e1, wrap_in (by omega) (by omega)]; rfl
        · show _ = renL _ (pgCells (p.fold (desOf (l.drop j))).1 (.ext a4 (p.fold (desOf (l.drop j))).1.list.length c4 4 (entE (p.fold (desOf (l.drop j))).1.list)))
          rw [hfj]; rfl
  · have h1 : decide (((m : Int) - 1) ≥ 0) = false := h1
    simp at h1
    have hm0 : m = 0 := by omega
    subst hm0
    rw [List.drop_zero] at hok
    have hmk : foldMk p l = fun y => .tuple #[(p.fold (desOf l)).1.val y, .int .i64 0] := by unfold foldMk; rw [hok]
    rw [hmk]
    repeat (refine go_ ?_; conv => whnf)
    exact ret_conExt ((p.fold (desOf l)).1.shapeT 0) (fun _ _ _ h => two_res h) hO
end Go.W
end

section
open Go Go.Eng
namespace Go.Eng
open Go.W
/-- what a chain says of a key -/
structure Sp where
  entry : En
  found : Bool
  go : Int
def Sp.zero : Sp := ⟨En.zero, false, 0⟩
def Sp.val (x : Sp) : Value := .agg #[.string x.entry.key, .int .i64 x.entry.slot, .int .i64 x.entry.gen, .int .i64 x.entry.child, .bool x.found, .int .i64 x.go]
def spR (x : Sp × Int) : Value := .tuple #[x.1.val, .int .i64 x.2]
def goneB : List De → Bool
  | [] => false
  | d :: _ => d.kind == 5 && d.check == 0
def headPage : List De → Int
  | [] => 0
  | d :: _ => d.page
/-- what a page says of a key -/
def Pg.look (q : Pg) (key : Str) : Sp × Int :=
  bif sLt key q.low then (Sp.zero, 73)
  else bif !Pg.has q key then (bif q.right == 0 then (Sp.zero, 73) else (⟨En.zero, false, q.right⟩, 0))
  else bif q.leaf then (⟨(Pg.find q key).1, (Pg.find q key).2, 0⟩, 0)
  else bif !(Pg.find q key).2 then (Sp.zero, 73)
  else (⟨(Pg.find q key).1, true, (Pg.find q key).1.child⟩, 0)
def lookP (p : Pg) (key : Str) (l : List De) : Sp × Int :=
  bif goneB l then (⟨En.zero, false, headPage l⟩, 0)
  else bif !((p.fold l).2 == 0) then (Sp.zero, (p.fold l).2)
  else (p.fold l).1.look key
end Go.Eng
namespace Go.W
def goneR (l : List De) : Value := .tuple #[.int .i64 (bif goneB l then headPage l else 0), .bool (goneB l)]
end Go.W
namespace Go.Eng
theorem gconP_vc {P : Program} {B A : Anc} {hp : List Chunk} {f : Nat} {args : List SV} {Pre : Anc → Prop} {r : Value} {env : Env} {p : List (Nat × Bool)} {T : Prop} {K : SV → Anc → Prop} (h : ConP P f args Pre r) (hpre : ∀ A', Later A A' → Pre A') (k : K (.v r) A) : GCallVC P B A hp f args (guardP env p) T K :=
  .ex r (guardP_mk fun O' w β vals site => h O' A.M w β vals site.rel ⟨site.MO, site.OS⟩ (hpre _ site.later)) k
theorem DP.zero_ok (A : Anc) : DP.zero.ok A := ⟨fun i hi => absurd hi (Nat.not_lt_zero i), Nat.le_refl _⟩
theorem okD_at {l : List DP} {A : Anc} (h : okD l A) (i : Nat) : (l.getD i DP.zero).ok A := by
  by_cases hi : i < l.length
  · exact h i hi
  · rw [List.getD_eq_getElem?_getD, List.getElem?_eq_none (by omega)]; exact DP.zero_ok A
theorem ConP.arg {P : Program} {f : Nat} {args args' : List SV} {Pre Pre' : Anc → Prop} {r : Value} (h : ConP P f args' Pre' r) (hup : ∀ β A vals, RelL β A args vals → Pre A → RelL β A args' vals) (hp : ∀ A, Pre A → Pre' A) : ConP P f args Pre r :=
  fun O M w β vals hr hat hpre => h O M w β vals (hup _ _ _ hr hpre) hat (hp _ hpre)
theorem Con.toP {P : Program} {f : Nat} {args : List SV} {r : Value} (h : Con P f args r) (Pre : Anc → Prop) : ConP P f args Pre r := fun O M w β vals hr hat _ => h O M w β vals hr hat
end Go.Eng
namespace Go.W
theorem rel1_up {β : Lay} {A : Anc} {s1 s1' : SV} {vals : List Value} (h : RelL β A [s1] vals) (h1 : ∀ y, s1.Rel β A y → s1'.Rel β A y) : RelL β A [s1'] vals := by
  simp only [RelL] at h ⊢
  obtain ⟨y1, t1, rfl, g1, rfl⟩ := h
  exact ⟨y1, _, rfl, h1 _ g1, rfl⟩
theorem rdcheck_dp (x : DP) (hl : x.d.right.list.length ≤ lim) : ConP P 29 [x.d.svL (.v x.sl)] x.ok (.int .i64 x.d.check) :=
  ((rdcheck_con x.d x.a x.c hl).toP _).arg (fun _ _ _ h hx => rel1_up h (fun _ h => upD hx h)) (fun _ h => h)
theorem dcheck_dp (x : DP) (hl : x.d.right.list.length ≤ lim) : ConP P 28 [x.d.svL (.v x.sl)] x.ok (.int .i64 x.d.check) :=
  ((dcheck_con x.d x.a x.c hl).toP _).arg (fun _ _ _ h hx => rel1_up h (fun _ h => upD hx h)) (fun _ h => h)
theorem size_at {l : List DP} (i : Nat) (h : sizeD (desOf l) ≤ lim) : (l.getD i DP.zero).d.right.list.length ≤ lim := by
  by_cases hi : i < l.length
  · have h1 := desOf_split l i
    have h2 := desOf_drop l i hi
    rw [h2] at h1
    have h3 : sizeD (desOf l) = sizeD (desOf (l.take i)) + sizeD ((l.getD i DP.zero).d :: desOf (l.drop (i + 1))) := by rw [← sizeD_append, ← h1]
    simp only [sizeD] at h3
    omega
  · rw [List.getD_eq_getElem?_getD, List.getElem?_eq_none (by omega)]; simp [DP.zero, De.zero, Pg.zero]
theorem gone_eq (l : List DP) : goneB (desOf l) = (!((l.length : Int) == 0) && ((l.getD 0 DP.zero).d.kind == 5 && (l.getD 0 DP.zero).d.check == 0)) := by
  cases l with
  | nil => rfl
  | cons x r =>
    have : ((((x :: r).length : Nat) : Int) == 0) = false := by simp; omega
    rw [this]; rfl
theorem head_eq (l : List DP) (h : goneB (desOf l) = true) : headPage (desOf l) = (l.getD 0 DP.zero).d.page := by
  cases l with
  | nil => cases h
  | cons x r => rfl
theorem gone_con (l : List DP) (aL : Option Addr) (cL : Nat) (hl : sizeD (desOf l) ≤ lim) : ConP P 65 [.ext aL l.length cL 12 (rowsD l)] (okD l) (goneR (desOf l)) := by
  refine con_ofP (args := [.ext aL l.length cL 12 (rowsD l)]) (Pre := okD l) ctx_ok Proofs.Try.func65 rfl (R := ValR (goneR (desOf l))) rfl rfl fun A hat hpre => vcStep_sound ctx_ok tb_all _ _ _ _ _ ?_
  have hg := gone_eq l
  conv => whnf
  repeat (refine go_ ?_; conv => whnf)
  refine ⟨?_, ?_⟩
  · conv => whnf
    intro g1
    have g1 : ((l.length : Int) == 0) = false := g1
    show 0 ≤ (0 : Int) ∧ (0 : Int) < (l.length : Int)
    simp at g1
    have := List.length_pos_iff.2 g1
    omega
  conv => whnf
  refine ⟨?_, ?_⟩
  · conv => whnf
    intro g1
    have g1 : (bif ((l.length : Int) == 0) then true else !((l.getD 0 DP.zero).d.kind == 5)) = false := g1
    show 0 ≤ (0 : Int) ∧ (0 : Int) < (l.length : Int)
    have g1 : ((l.length : Int) == 0) = false := by
      cases h : ((l.length : Int) == 0) with
      | false => rfl
      | true => rw [h] at g1; cases g1
    simp at g1
    have := List.length_pos_iff.2 g1
    omega
  conv => whnf
  refine ⟨rfl, gconP_vc (rdcheck_dp (l.getD 0 DP.zero) (size_at 0 hl)) (fun A' hl' => (okD_at hpre 0).later hl') ?_⟩
  conv => whnf
  repeat (refine go_ ?_; conv => whnf)
  refine ⟨fun h1 => ?_, fun h1 => ?_⟩
  · have h1 : (bif bif ((l.length : Int) == 0) then true else !((l.getD 0 DP.zero).d.kind == 5) then true else !((l.getD 0 DP.zero).d.check == 0)) = true := h1
    have hgf : goneB (desOf l) = false := by
      rw [hg]; revert h1
      generalize ((l.length : Int) == 0) = z1
      generalize ((l.getD 0 DP.zero).d.kind == 5) = z2
      generalize ((l.getD 0 DP.zero).d.check == 0) = z3
      cases z1 <;> cases z2 <;> cases z3 <;> simp
    repeat (refine go_ ?_; conv => whnf)
    refine ret_con rfl ?_
    unfold goneR
    rw [hgf]; rfl
  · have h1 : (bif bif ((l.length : Int) == 0) then true else !((l.getD 0 DP.zero).d.kind == 5) then true else !((l.getD 0 DP.zero).d.check == 0)) = false := h1
    have hgt : goneB (desOf l) = true ∧ ((l.length : Int) == 0) = false := by
      rw [hg]; revert h1
      generalize ((l.length : Int) == 0) = z1
      generalize ((l.getD 0 DP.zero).d.kind == 5) = z2
      generalize ((l.getD 0 DP.zero).d.check == 0) = z3
      cases z1 <;> cases z2 <;> cases z3 <;> simp
    repeat (refine go_ ?_; conv => whnf)
    refine ⟨⟨by omega, ?_⟩, ?_⟩
    · have := hgt.2
      simp at this
      have := List.length_pos_iff.2 this
      omega
    conv => whnf
    repeat (refine go_ ?_; conv => whnf)
    refine ret_con rfl ?_
    unfold goneR
    rw [hgt.1, head_eq l hgt.1]; rfl
end Go.W
end

section
open Go Go.Eng
namespace Go.W
theorem look_low {q : Pg} {key : Str} (h : sLt key q.low = true) : q.look key = (Sp.zero, 73) := by unfold Pg.look; simp only [h, cond_true]
theorem look_out0 {q : Pg} {key : Str} (h : sLt key q.low = false) (h1 : (!Pg.has q key) = true) (h2 : (q.right == 0) = true) : q.look key = (Sp.zero, 73) := by unfold Pg.look; simp only [h, h1, h2, cond_true, cond_false]
theorem look_out1 {q : Pg} {key : Str} (h : sLt key q.low = false) (h1 : (!Pg.has q key) = true) (h2 : (q.right == 0) = false) : q.look key = (⟨En.zero, false, q.right⟩, 0) := by unfold Pg.look; simp only [h, h1, h2, cond_true, cond_false]
theorem look_leaf {q : Pg} {key : Str} (h : sLt key q.low = false) (h1 : (!Pg.has q key) = false) (h2 : q.leaf = true) : q.look key = (⟨(Pg.find q key).1, (Pg.find q key).2, 0⟩, 0) := by unfold Pg.look; simp only [h, h1, h2, cond_true, cond_false]
theorem look_none {q : Pg} {key : Str} (h : sLt key q.low = false) (h1 : (!Pg.has q key) = false) (h2 : q.leaf = false) (h3 : (!(Pg.find q key).2) = true) : q.look key = (Sp.zero, 73) := by unfold Pg.look; simp only [h, h1, h2, h3, cond_true, cond_false]
theorem look_child {q : Pg} {key : Str} (h : sLt key q.low = false) (h1 : (!Pg.has q key) = false) (h2 : q.leaf = false) (h3 : (!(Pg.find q key).2) = false) : q.look key = (⟨(Pg.find q key).1, true, (Pg.find q key).1.child⟩, 0) := by unfold Pg.look; simp only [h, h1, h2, h3, cond_false]
theorem lookP_gone {p : Pg} {key : Str} {l : List De} (h : goneB l = true) : lookP p key l = (⟨En.zero, false, headPage l⟩, 0) := by unfold lookP; rw [h]; rfl
theorem lookP_bad {p : Pg} {key : Str} {l : List De} (h : goneB l = false) (h1 : (!((p.fold l).2 == 0)) = true) : lookP p key l = (Sp.zero, (p.fold l).2) := by unfold lookP; simp only [h, h1, cond_true, cond_false]
theorem lookP_ok {p : Pg} {key : Str} {l : List De} (h : goneB l = false) (h1 : (!((p.fold l).2 == 0)) = false) : lookP p key l = (p.fold l).1.look key := by unfold lookP; simp only [h, h1, cond_false]
theorem rlook_con (p : Pg) (key : Str) (l : List DP) (a aL : Option Addr) (c cL : Nat) (hl : p.list.length + sizeD (desOf l) ≤ lim) (hn : l.length ≤ lim) :
    ConP P 37 [p.sv a c, .v (.string key), .ext aL l.length cL 12 (rowsD l)] (FoldPre p a c l) (spR (lookP p key (desOf l))) := by
  refine con_ofP (args := [p.sv a c, .v (.string key), .ext aL l.length cL 12 (rowsD l)]) (Pre := FoldPre p a c l) ctx_ok Proofs.Try.func37 rfl (R := ValR (spR (lookP p key (desOf l)))) rfl rfl fun A hat hpre => vcStep_sound ctx_ok tb_all _ _ _ _ _ ?_
  have hql := fold_len p (desOf l)
  conv => whnf
  repeat (refine go_ ?_; conv => whnf)
  refine ⟨rfl, conP_vc (gone_con l aL cL (by omega)) (fun A' hl' => hpre.2.later hl') ?_⟩
  conv => whnf
  repeat (refine go_ ?_; conv => whnf)
  refine ⟨fun h0 => ?_, fun h0 => ?_⟩
  · have h0 : goneB (desOf l) = true := h0
    rw [lookP_gone h0, h0]
    repeat (refine go_ ?_; conv => whnf)
    exact ret_con rfl rfl
  have h0 : goneB (desOf l) = false := h0
  repeat (refine go_ ?_; conv => whnf)
  refine ⟨rfl, conE_ext (rfold_con p l a aL c cL hl hn) ((p.fold (desOf l)).1.shapeT (p.fold (desOf l)).2) (fun A' hl' => ⟨⟨hpre.1.1.later hl', hpre.1.2⟩, hpre.2.later hl'⟩) (fun A2 a2 c2 hA2 hO2 hn2 hs2 => ?_)⟩
  conv => whnf
  repeat (refine go_ ?_; conv => whnf)
  refine ⟨fun h1 => ?_, fun h1 => ?_⟩
  · have h1 : (!((p.fold (desOf l)).2 == 0)) = true := h1
    rw [lookP_bad h0 h1]
    repeat (refine go_ ?_; conv => whnf)
    exact ret_con rfl rfl
  have h1 : (!((p.fold (desOf l)).2 == 0)) = false := h1
  rw [lookP_ok h0 h1]
  generalize (p.fold (desOf l)).1 = q at hql hn2 hs2
  repeat (refine go_ ?_; conv => whnf)
  refine ⟨fun h2 => ?_, fun h2 => ?_⟩
  · have h2 : sLt key q.low = true := h2
    rw [look_low h2]
    repeat (refine go_ ?_; conv => whnf)
    exact ret_con rfl rfl
  have h2 : sLt key q.low = false := h2
  repeat (refine go_ ?_; conv => whnf)
  refine ⟨rfl, con_vc (rhas_con q a2 c2 key) ?_⟩
  conv => whnf
  repeat (refine go_ ?_; conv => whnf)
  refine ⟨fun h3 => ?_, fun h3 => ?_⟩
  · have h3 : (!Pg.has q key) = true := h3
    repeat (refine go_ ?_; conv => whnf)
    refine ⟨fun h4 => ?_, fun h4 => ?_⟩
    · have h4 : (q.right == 0) = true := h4
      rw [look_out0 h2 h3 h4]
      repeat (refine go_ ?_; conv => whnf)
      exact ret_con rfl rfl
    · have h4 : (q.right == 0) = false := h4
      rw [look_out1 h2 h3 h4]
      repeat (refine go_ ?_; conv => whnf)
      exact ret_con rfl rfl
  have h3 : (!Pg.has q key) = false := h3
  repeat (refine go_ ?_; conv => whnf)
  refine ⟨rfl, con_vc (rfind_con q key a2 c2 (by omega)) ?_⟩
  conv => whnf
  repeat (refine go_ ?_; conv => whnf)
  refine ⟨fun h4 => ?_, fun h4 => ?_⟩
  · have h4 : q.leaf = true := h4
    rw [look_leaf h2 h3 h4]
    repeat (refine go_ ?_; conv => whnf)
    exact ret_con rfl rfl
  have h4 : q.leaf = false := h4
  repeat (refine go_ ?_; conv => whnf)
  refine ⟨fun h5 => ?_, fun h5 => ?_⟩
  · have h5 : (!(Pg.find q key).2) = true := h5
    rw [look_none h2 h3 h4 h5]
    repeat (refine go_ ?_; conv => whnf)
    exact ret_con rfl rfl
  · have h5 : (!(Pg.find q key).2) = false := h5
    rw [look_child h2 h3 h4 h5]
    repeat (refine go_ ?_; conv => whnf)
    exact ret_con rfl rfl
end Go.W
end

section
open Go Go.Eng
namespace Go.W
theorem look_con (p : Pg) (key : Str) (l : List DP) (a aL : Option Addr) (c cL : Nat) (hl : p.list.length + sizeD (desOf l) ≤ lim) (hn : l.length ≤ lim) :
    ConP P 16 [p.sv a c, .v (.string key), .ext aL l.length cL 12 (rowsD l)] (FoldPre p a c l) (spR (lookP p key (desOf l))) := by
  refine con_ofP (args := [p.sv a c, .v (.string key), .ext aL l.length cL 12 (rowsD l)]) (Pre := FoldPre p a c l) ctx_ok Proofs.Try.func16 rfl (R := ValR (spR (lookP p key (desOf l)))) rfl rfl fun A hat hpre => vcStep_sound ctx_ok tb_all _ _ _ _ _ ?_
  have hql := fold_len p (desOf l)
  have hg := gone_eq l
  conv => whnf
  repeat (refine go_ ?_; conv => whnf)
  refine loop_i (fun _ : Nat => [(1, .v (.string key)), (2, .ext aL l.length cL 12 (rowsD l)), (3, .loc 0 0), (6, .loc 1 0), (15, .ext aL l.length cL 12 (rowsD l)), (16, .v (.int .i64 l.length)), (17, .v (.int .i64 0))])
    (fun _ => [.box 24 (pgCells p (.ext a p.list.length c 4 (entE p.list))), .box 39 [.v (.string s0), .v (.int .i64 0), .v (.int .i64 0), .v (.int .i64 0), .v (.bool false), .v (.int .i64 0)]]) (fun i => i)
    (fun _ A' => FoldPre p a c l A') 0 [0, 1] ⟨⟨rfl, rfl, rfl, rfl, rfl, rfl, rfl, trivial⟩, ⟨⟨rfl, rfl⟩, ⟨rfl, rfl⟩, trivial⟩, rfl, rfl, rfl⟩ hpre ?_
  rintro _ A1 hpre
  repeat (refine go_ ?_; conv => whnf)
  refine ⟨fun h1 => ?_, fun h1 => ?_⟩
  · have h1 : decide ((0 : Int) < (l.length : Int)) = true := h1
    have hlen : ((l.length : Int) == 0) = false := by simp at h1; simp; intro e; simp [e] at h1
    simp at h1
    repeat (refine go_ ?_; conv => whnf)
    refine ⟨⟨by omega, by omega⟩, ?_⟩
    conv => whnf
    repeat (refine go_ ?_; conv => whnf)
    refine ⟨rfl, gconP_vc (dcheck_dp (l.getD 0 DP.zero) (size_at 0 (by omega))) (fun A' hl' => (okD_at hpre.2 0).later hl') ?_⟩
    conv => whnf
    repeat (refine go_ ?_; conv => whnf)
    refine ⟨fun h0 => ?_, fun h0 => ?_⟩
    · have h0 : (bif (l.getD 0 DP.zero).d.kind == 5 then (l.getD 0 DP.zero).d.check == 0 else false) = true := h0
      have h0 : goneB (desOf l) = true := by
        rw [hg, hlen]; revert h0
        generalize ((l.getD 0 DP.zero).d.kind == 5) = z2
        generalize ((l.getD 0 DP.zero).d.check == 0) = z3
        cases z2 <;> cases z3 <;> simp
      rw [lookP_gone h0, head_eq l h0]
      repeat (refine go_ ?_; conv => whnf)
      exact ret_con rfl rfl
    have h0 : (bif (l.getD 0 DP.zero).d.kind == 5 then (l.getD 0 DP.zero).d.check == 0 else false) = false := h0
    have h0 : goneB (desOf l) = false := by
      rw [hg, hlen]; revert h0
      generalize ((l.getD 0 DP.zero).d.kind == 5) = z2
      generalize ((l.getD 0 DP.zero).d.check == 0) = z3
      cases z2 <;> cases z3 <;> simp
    repeat (refine go_ ?_; conv => whnf)
    refine ⟨rfl, conR_ext (fold_con p l a aL c cL hl hn) ((p.fold (desOf l)).1.shapeT (p.fold (desOf l)).2) (fun A' hl' => ⟨⟨hpre.1.1.later hl', hpre.1.2⟩, hpre.2.later hl'⟩) (fun A2 a2 c2 hA2 hs2 => ?_)⟩
    conv => whnf
    repeat (refine go_ ?_; conv => whnf)
    refine ⟨fun h1 => ?_, fun h1 => ?_⟩
    · have h1 : (!((p.fold (desOf l)).2 == 0)) = true := h1
      rw [lookP_bad h0 h1]
      repeat (refine go_ ?_; conv => whnf)
      exact ret_con rfl rfl
    have h1 : (!((p.fold (desOf l)).2 == 0)) = false := h1
    rw [lookP_ok h0 h1]
    generalize (p.fold (desOf l)).1 = q at hql hs2
    repeat (refine go_ ?_; conv => whnf)
    refine ⟨fun h2 => ?_, fun h2 => ?_⟩
    · have h2 : sLt key q.low = true := h2
      rw [look_low h2]
      repeat (refine go_ ?_; conv => whnf)
      exact ret_con rfl rfl
    have h2 : sLt key q.low = false := h2
    repeat (refine go_ ?_; conv => whnf)
    refine ⟨rfl, con_vc (has_con q a2 c2 key) ?_⟩
    conv => whnf
    repeat (refine go_ ?_; conv => whnf)
    refine ⟨fun h3 => ?_, fun h3 => ?_⟩
    · have h3 : (!Pg.has q key) = true := h3
      repeat (refine go_ ?_; conv => whnf)
      refine ⟨fun h4 => ?_, fun h4 => ?_⟩
      · have h4 : (q.right == 0) = true := h4
        rw [look_out0 h2 h3 h4]
        repeat (refine go_ ?_; conv => whnf)
        exact ret_con rfl rfl
      · have h4 : (q.right == 0) = false := h4
        rw [look_out1 h2 h3 h4]
        repeat (refine go_ ?_; conv => whnf)
        exact ret_con rfl rfl
    have h3 : (!Pg.has q key) = false := h3
    repeat (refine go_ ?_; conv => whnf)
    refine ⟨rfl, con_vc (find_con q key a2 c2 (by omega)) ?_⟩
    conv => whnf
    repeat (refine go_ ?_; conv => whnf)
    refine ⟨fun h4 => ?_, fun h4 => ?_⟩
    · have h4 : q.leaf = false := by have h4 : (!q.leaf) = true := h4; simpa using h4
      repeat (refine go_ ?_; conv => whnf)
      refine ⟨fun h5 => ?_, fun h5 => ?_⟩
      · have h5 : (!(Pg.find q key).2) = true := h5
        rw [look_none h2 h3 h4 h5]
        repeat (refine go_ ?_; conv => whnf)
        exact ret_con rfl rfl
      · have h5 : (!(Pg.find q key).2) = false := h5
        rw [look_child h2 h3 h4 h5]
        repeat (refine go_ ?_; conv => whnf)
        refine ret_con rfl ?_
        have h5 : (Pg.find q key).2 = true := by simpa using h5
        show spR (⟨(Pg.find q key).1, (Pg.find q key).2, (Pg.find q key).1.child⟩, 0) = _
        rw [h5]
    · have h4 : q.leaf = true := by have h4 : (!q.leaf) = false := h4; simpa using h4
      rw [look_leaf h2 h3 h4]
      repeat (refine go_ ?_; conv => whnf)
      exact ret_con rfl rfl
  · have h0 : goneB (desOf l) = false := by
      have h1 : decide ((0 : Int) < (l.length : Int)) = false := h1
      have hlen : ((l.length : Int) == 0) = true := by simp at h1; simp [h1]
      rw [hg, hlen]; rfl
    repeat (refine go_ ?_; conv => whnf)
    refine ⟨rfl, conR_ext (fold_con p l a aL c cL hl hn) ((p.fold (desOf l)).1.shapeT (p.fold (desOf l)).2) (fun A' hl' => ⟨⟨hpre.1.1.later hl', hpre.1.2⟩, hpre.2.later hl'⟩) (fun A2 a2 c2 hA2 hs2 => ?_)⟩
    conv => whnf
    repeat (refine go_ ?_; conv => whnf)
    refine ⟨fun h1 => ?_, fun h1 => ?_⟩
    · have h1 : (!((p.fold (desOf l)).2 == 0)) = true := h1
      rw [lookP_bad h0 h1]
      repeat (refine go_ ?_; conv => whnf)
      exact ret_con rfl rfl
    have h1 : (!((p.fold (desOf l)).2 == 0)) = false := h1
    rw [lookP_ok h0 h1]
    generalize (p.fold (desOf l)).1 = q at hql hs2
    repeat (refine go_ ?_; conv => whnf)
    refine ⟨fun h2 => ?_, fun h2 => ?_⟩
    · have h2 : sLt key q.low = true := h2
      rw [look_low h2]
      repeat (refine go_ ?_; conv => whnf)
      exact ret_con rfl rfl
    have h2 : sLt key q.low = false := h2
    repeat (refine go_ ?_; conv => whnf)
    refine ⟨rfl, con_vc (has_con q a2 c2 key) ?_⟩
    conv => whnf
    repeat (refine go_ ?_; conv => whnf)
    refine ⟨fun h3 => ?_, fun h3 => ?_⟩
    · have h3 : (!Pg.has q key) = true := h3
      repeat (refine go_ ?_; conv => whnf)
      refine ⟨fun h4 => ?_, fun h4 => ?_⟩
      · have h4 : (q.right == 0) = true := h4
        rw [look_out0 h2 h3 h4]
        repeat (refine go_ ?_; conv => whnf)
        exact ret_con rfl rfl
      · have h4 : (q.right == 0) = false := h4
        rw [look_out1 h2 h3 h4]
        repeat (refine go_ ?_; conv => whnf)
        exact ret_con rfl rfl
    have h3 : (!Pg.has q key) = false := h3
    repeat (refine go_ ?_; conv => whnf)
    refine ⟨rfl, con_vc (find_con q key a2 c2 (by omega)) ?_⟩
    conv => whnf
    repeat (refine go_ ?_; conv => whnf)
    refine ⟨fun h4 => ?_, fun h4 => ?_⟩
    · have h4 : q.leaf = false := by have h4 : (!q.leaf) = true := h4; simpa using h4
      repeat (refine go_ ?_; conv => whnf)
      refine ⟨fun h5 => ?_, fun h5 => ?_⟩
      · have h5 : (!(Pg.find q key).2) = true := h5
        rw [look_none h2 h3 h4 h5]
        repeat (refine go_ ?_; conv => whnf)
        exact ret_con rfl rfl
      · have h5 : (!(Pg.find q key).2) = false := h5
        rw [look_child h2 h3 h4 h5]
        repeat (refine go_ ?_; conv => whnf)
        refine ret_con rfl ?_
        have h5 : (Pg.find q key).2 = true := by simpa using h5
        show spR (⟨(Pg.find q key).1, (Pg.find q key).2, (Pg.find q key).1.child⟩, 0) = _
        rw [h5]
    · have h4 : q.leaf = true := by have h4 : (!q.leaf) = false := h4; simpa using h4
      rw [look_leaf h2 h3 h4]
      repeat (refine go_ ?_; conv => whnf)
      exact ret_con rfl rfl
end Go.W
end

section
open Go Go.Eng
namespace Go.Eng
open Go.W
theorem ConR.argP {P : Program} {f : Nat} {args args' : List SV} {Pre Pre' : Anc → Prop} {t k n : Nat} {els : Nat → List Value} {mk : Value → Value} (h : ConR P f args' Pre' t k n els mk) (hup : ∀ β A vals, RelL β A args vals → Pre A → RelL β A args' vals) (hp : ∀ A, Pre A → Pre' A) : ConR P f args Pre t k n els mk :=
  fun O M w β vals hr hat hpre => h O M w β vals (hup _ _ _ hr hpre) hat (hp _ hpre)
theorem tab_rows (l : List DP) : ∀ i, i < l.length → tabE (l.map DP.cells) i = rowsD l i := by
  induction l with
  | nil => intro i hi; simp at hi
  | cons x r ih =>
    intro i hi
    cases i with
    | zero => rfl
    | succ i => exact ih i (by simpa using hi)
end Go.Eng
namespace Go.W
theorem fold_tab (p : Pg) (l : List DP) (a aL : Option Addr) (c cL : Nat) (hl : p.list.length + sizeD (desOf l) ≤ lim) (hn : l.length ≤ lim) :
    ConR P 23 [p.sv a c, .ext aL l.length cL 12 (tabE (l.map DP.cells))] (FoldPre p a c l) 30 4 (p.fold (desOf l)).1.list.length (entE (p.fold (desOf l)).1.list) (foldMk p l) :=
  (fold_con p l a aL c cL hl hn).argP (fun _ _ _ h _ => rel2_up h (fun _ h => h) (fun _ h => ext_congr (tab_rows l) h)) (fun _ h => h)
theorem look_tab (p : Pg) (key : Str) (l : List DP) (a aL : Option Addr) (c cL : Nat) (hl : p.list.length + sizeD (desOf l) ≤ lim) (hn : l.length ≤ lim) :
    ConP P 16 [p.sv a c, .v (.string key), .ext aL l.length cL 12 (tabE (l.map DP.cells))] (FoldPre p a c l) (spR (lookP p key (desOf l))) :=
  (look_con p key l a aL c cL hl hn).arg (fun β A vals h _ => by
    simp only [RelL] at h ⊢
    obtain ⟨y1, t1, rfl, g1, y2, t2, rfl, g2, y3, t3, rfl, g3, rfl⟩ := h
    exact ⟨y1, _, rfl, g1, y2, _, rfl, g2, y3, _, rfl, ext_congr (tab_rows l) g3, rfl⟩) (fun A h => h)
theorem fold_one (p : Pg) (d : De) : p.fold [d] = p.apply d := rfl
theorem okD_one {x : DP} {A : Anc} (h : x.ok A) : okD [x] A := fun i hi => by
  have : i = 0 := by simpa using hi
  subst this; exact h
theorem apply13_con (p : Pg) (d : De) (a b : Option Addr) (c e : Nat) (hl : p.list.length + d.right.list.length + 1 ≤ lim) :
    ConR P 13 [p.sv a c, d.sv b e] (Two p d a b c e) 30 4 (Pg.apply p d).1.list.length (entE (Pg.apply p d).1.list) (appMk p d) := by
  refine con_ofP (args := [p.sv a c, d.sv b e]) (Pre := Two p d a b c e) ctx_ok Proofs.Try.func13 rfl (R := RowR 30 4 (Pg.apply p d).1.list.length (entE (Pg.apply p d).1.list) (appMk p d)) rfl rfl fun A hat hpre => vcStep_sound ctx_ok tb_all _ _ _ _ _ ?_
  conv => whnf
  repeat (refine go_ ?_; conv => whnf)
  refine ⟨fun A1 q hA1 hq => ?_⟩
  conv => whnf
  have hf := fold_tab p [⟨d, b, e⟩] a (some q) c 1 (by simp only [desOf, List.map_cons, List.map_nil, sizeD]; omega) (by simp [lim])
  refine ⟨rfl, conR_row (hf : ConR P 23 [p.sv a c, .ext (some q) 1 1 12 (tabE [(⟨d, b, e⟩ : DP).cells])] _ 30 4 (Pg.apply p d).1.list.length (entE (Pg.apply p d).1.list) (appMk p d)) ((Pg.apply p d).1.shapeT (Pg.apply p d).2) (fun A' hl' => ⟨⟨(hpre.1.1.later hA1).later hl', hpre.1.2⟩, okD_one ⟨(hpre.2.1.later hA1).later hl', hpre.2.2⟩⟩) (fun A2 hA2 => ?_)⟩
  conv => whnf
  repeat (refine go_ ?_; conv => whnf)
  exact ret_conR ((Pg.apply p d).1.shapeT (Pg.apply p d).2) (l := 3) (fun _ _ _ h => two_res h) rfl (Nat.le_refl _) (fun i hi => rfl)
def undoKey (d : De) : Str := bif d.kind == 1 then d.entry.key else d.key
def undoBad (p : Pg) (d : De) : Bool := !((p.apply d).2 == 0) || (!(d.kind == 1) && !(d.kind == 2))
def undoP (p : Pg) (d : De) : De × Bool :=
  bif undoBad p d then (De.zero, false)
  else bif Nat.blt (fIx (fun x => sEq x.key (undoKey d)) p.list) p.list.length then (⟨1, p.list.getD (fIx (fun x => sEq x.key (undoKey d)) p.list) En.zero, s0, 0, Pg.zero⟩, true)
  else (⟨2, En.zero, undoKey d, 0, Pg.zero⟩, true)
def undoR (x : De × Bool) : Value := .tuple #[x.1.val (.slice none 0 0), .bool x.2]
theorem undo_bad {p : Pg} {d : De} (h : undoBad p d = true) : undoP p d = (De.zero, false) := by unfold undoP; rw [h]; rfl
theorem undo_yes {p : Pg} {d : De} {i : Nat} (h : undoBad p d = false) (hi : fIx (fun x => sEq x.key (undoKey d)) p.list = i) (hlt : i < p.list.length) : undoP p d = (⟨1, p.list.getD i En.zero, s0, 0, Pg.zero⟩, true) := by
  unfold undoP; rw [h, hi, blt_yes hlt]; rfl
theorem undo_no {p : Pg} {d : De} (h : undoBad p d = false) (hi : fIx (fun x => sEq x.key (undoKey d)) p.list = p.list.length) : undoP p d = (⟨2, En.zero, undoKey d, 0, Pg.zero⟩, true) := by
  unfold undoP; rw [h, hi, blt_no (Nat.lt_irrefl _)]; rfl
end Go.W
end

section
open Go Go.Eng
namespace Go.W
theorem undo_con (p : Pg) (d : De) (a b : Option Addr) (c e : Nat) (hl : p.list.length + d.right.list.length + 1 ≤ lim) :
    ConP P 26 [p.sv a c, d.sv b e] (Two p d a b c e) (undoR (undoP p d)) := by
  refine con_ofP (args := [p.sv a c, d.sv b e]) (Pre := Two p d a b c e) ctx_ok Proofs.Try.func26 rfl (R := ValR (undoR (undoP p d))) rfl rfl fun A hat hpre => vcStep_sound ctx_ok tb_all _ _ _ _ _ ?_
  conv => whnf
  repeat (refine go_ ?_; conv => whnf)
  refine ⟨rfl, conR_ext (apply13_con p d a b c e hl) ((Pg.apply p d).1.shapeT (Pg.apply p d).2) (fun A' hl' => hpre.later hl') (fun A2 a2 c2 hA2 hs2 => ?_)⟩
  conv => whnf
  repeat (refine go_ ?_; conv => whnf)
  refine ⟨fun h1 => ?_, fun h1 => ?_⟩
  · have h1 : (bif !((Pg.apply p d).2 == 0) then true else bif !(d.kind == 1) then !(d.kind == 2) else false) = true := h1
    have hb : undoBad p d = true := by
      unfold undoBad; revert h1
      cases !((Pg.apply p d).2 == 0) <;> cases !(d.kind == 1) <;> simp
    rw [undo_bad hb]
    repeat (refine go_ ?_; conv => whnf)
    exact ret_con rfl rfl
  have h1 : (bif !((Pg.apply p d).2 == 0) then true else bif !(d.kind == 1) then !(d.kind == 2) else false) = false := h1
  have hb : undoBad p d = false := by
    unfold undoBad; revert h1
    cases !((Pg.apply p d).2 == 0) <;> cases !(d.kind == 1) <;> simp
  repeat (refine go_ ?_; conv => whnf)
  refine ⟨fun hk => ?_, fun hk => ?_⟩
  · have hk : d.entry.key = undoKey d := by have hk : (d.kind == 1) = true := hk; unfold undoKey; rw [hk]; rfl
    repeat (refine go_ ?_; conv => whnf)
    refine loop_i (fun i : Nat => [(4, .loc 2 0), (8, .v (.string (undoKey d))), (39, .ext a p.list.length c 4 (entE p.list)), (40, .v (.int .i64 p.list.length)), (41, .v (.int .i64 i))])
      (fun _ => [.box 24 (pgCells p (.ext a p.list.length c 4 (entE p.list))), .box 32 [.v (.int .i64 d.kind), .v (.string d.entry.key), .v (.int .i64 d.entry.slot), .v (.int .i64 d.entry.gen), .v (.int .i64 d.entry.child), .v (.string d.key), .v (.int .i64 d.page), .v (.bool d.right.leaf), .v (.string d.right.low), .v (.string d.right.high), .v (.int .i64 d.right.right), .ext b d.right.list.length e 4 (entE d.right.list)], .box 32 [.v (.int .i64 0), .v (.string s0), .v (.int .i64 0), .v (.int .i64 0), .v (.int .i64 0), .v (.string s0), .v (.int .i64 0), .v (.bool false), .v (.string s0), .v (.string s0), .v (.int .i64 0), .v (.slice none 0 0)]]) (fun i => p.list.length - i)
      (fun i _ => i ≤ p.list.length ∧ ∀ j, j < i → sEq (p.list.getD j En.zero).key (undoKey d) = false) 0 [0, 1, 2] ⟨⟨rfl, by rw [← hk]; rfl, rfl, rfl, rfl, trivial⟩, ⟨⟨rfl, rfl⟩, ⟨rfl, rfl⟩, ⟨rfl, rfl⟩, trivial⟩, rfl, rfl, rfl⟩ ⟨Nat.zero_le _, fun j hj => by omega⟩ ?_
    rintro i A3 ⟨hi, hno⟩
    repeat (refine go_ ?_; conv => whnf)
    refine ⟨fun h2 => ?_, fun h2 => ?_⟩
    · have h2 : i < p.list.length := lt_of_dec h2
      repeat (refine go_ ?_; conv => whnf)
      refine ⟨⟨by omega, by omega⟩, ?_⟩
      conv => whnf
      repeat (refine go_ ?_; conv => whnf)
      refine ⟨fun h3 => ?_, fun h3 => ?_⟩
      · have h3 : sEq (p.list.getD i En.zero).key (undoKey d) = true := h3
        have hx := fIx_is (fun x => sEq x.key (undoKey d)) p.list i hi hno (fun _ => h3)
        rw [undo_yes hb hx h2]
        repeat (refine go_ ?_; conv => whnf)
        exact ret_con rfl rfl
      · have h3 : sEq (p.list.getD i En.zero).key (undoKey d) = false := h3
        repeat (refine go_ ?_; conv => whnf)
        refine next_i (i + 1) [0, 1, 2] (by omega) ⟨⟨rfl, rfl, rfl, rfl, ?_, trivial⟩, ⟨⟨rfl, rfl⟩, ⟨rfl, rfl⟩, ⟨rfl, rfl⟩, trivial⟩, rfl, rfl, rfl⟩ ⟨h2, fun j hj => ?_⟩
        · exact w_succ i (by unfold lim at hl; omega)
        · rcases Nat.lt_or_ge j i with h | h
          · exact hno j h
          · have : j = i := by omega
            subst this; exact h3
    · have h2 : p.list.length ≤ i := ge_of_dec h2
      have hx := fIx_is (fun x => sEq x.key (undoKey d)) p.list i hi hno (fun h => by omega)
      have hin : i = p.list.length := by omega
      subst hin
      rw [undo_no hb hx]
      repeat (refine go_ ?_; conv => whnf)
      exact ret_con rfl rfl
  · have hk : d.key = undoKey d := by have hk : (d.kind == 1) = false := hk; unfold undoKey; rw [hk]; rfl
    repeat (refine go_ ?_; conv => whnf)
    refine loop_i (fun i : Nat => [(4, .loc 2 0), (8, .v (.string (undoKey d))), (39, .ext a p.list.length c 4 (entE p.list)), (40, .v (.int .i64 p.list.length)), (41, .v (.int .i64 i))])
      (fun _ => [.box 24 (pgCells p (.ext a p.list.length c 4 (entE p.list))), .box 32 [.v (.int .i64 d.kind), .v (.string d.entry.key), .v (.int .i64 d.entry.slot), .v (.int .i64 d.entry.gen), .v (.int .i64 d.entry.child), .v (.string d.key), .v (.int .i64 d.page), .v (.bool d.right.leaf), .v (.string d.right.low), .v (.string d.right.high), .v (.int .i64 d.right.right), .ext b d.right.list.length e 4 (entE d.right.list)], .box 32 [.v (.int .i64 0), .v (.string s0), .v (.int .i64 0), .v (.int .i64 0), .v (.int .i64 0), .v (.string s0), .v (.int .i64 0), .v (.bool false), .v (.string s0), .v (.string s0), .v (.int .i64 0), .v (.slice none 0 0)]]) (fun i => p.list.length - i)
      (fun i _ => i ≤ p.list.length ∧ ∀ j, j < i → sEq (p.list.getD j En.zero).key (undoKey d) = false) 0 [0, 1, 2] ⟨⟨rfl, by rw [← hk]; rfl, rfl, rfl, rfl, trivial⟩, ⟨⟨rfl, rfl⟩, ⟨rfl, rfl⟩, ⟨rfl, rfl⟩, trivial⟩, rfl, rfl, rfl⟩ ⟨Nat.zero_le _, fun j hj => by omega⟩ ?_
    rintro i A3 ⟨hi, hno⟩
    repeat (refine go_ ?_; conv => whnf)
    refine ⟨fun h2 => ?_, fun h2 => ?_⟩
    · have h2 : i < p.list.length := lt_of_dec h2
      repeat (refine go_ ?_; conv => whnf)
      refine ⟨⟨by omega, by omega⟩, ?_⟩
      conv => whnf
      repeat (refine go_ ?_; conv => whnf)
      refine ⟨fun h3 => ?_, fun h3 => ?_⟩
      · have h3 : sEq (p.list.getD i En.zero).key (undoKey d) = true := h3
        have hx := fIx_is (fun x => sEq x.key (undoKey d)) p.list i hi hno (fun _ => h3)
        rw [undo_yes hb hx h2]
        repeat (refine go_ ?_; conv => whnf)
        exact ret_con rfl rfl
      · have h3 : sEq (p.list.getD i En.zero).key (undoKey d) = false := h3
        repeat (refine go_ ?_; conv => whnf)
        refine next_i (i + 1) [0, 1, 2] (by omega) ⟨⟨rfl, rfl, rfl, rfl, ?_, trivial⟩, ⟨⟨rfl, rfl⟩, ⟨rfl, rfl⟩, ⟨rfl, rfl⟩, trivial⟩, rfl, rfl, rfl⟩ ⟨h2, fun j hj => ?_⟩
        · exact w_succ i (by unfold lim at hl; omega)
        · rcases Nat.lt_or_ge j i with h | h
          · exact hno j h
          · have : j = i := by omega
            subst this; exact h3
    · have h2 : p.list.length ≤ i := ge_of_dec h2
      have hx := fIx_is (fun x => sEq x.key (undoKey d)) p.list i hi hno (fun h => by omega)
      have hin : i = p.list.length := by omega
      subst hin
      rw [undo_no hb hx]
      repeat (refine go_ ?_; conv => whnf)
      exact ret_con rfl rfl
theorem rundo_con (p : Pg) (d : De) (a b : Option Addr) (c e : Nat) (hl : p.list.length + d.right.list.length + 1 ≤ lim) :
    ConP P 27 [p.sv a c, d.sv b e] (Two p d a b c e) (undoR (undoP p d)) := by
  refine con_ofP (args := [p.sv a c, d.sv b e]) (Pre := Two p d a b c e) ctx_ok Proofs.Try.func27 rfl (R := ValR (undoR (undoP p d))) rfl rfl fun A hat hpre => vcStep_sound ctx_ok tb_all _ _ _ _ _ ?_
  conv => whnf
  repeat (refine go_ ?_; conv => whnf)
  refine ⟨rfl, conE_ext (rapply_con p d a b c e hl) ((Pg.apply p d).1.shapeT (Pg.apply p d).2) (fun A' hl' => trivial) (fun A2 a2 c2 hA2 hO2 hn2 hs2 => ?_)⟩
  conv => whnf
  repeat (refine go_ ?_; conv => whnf)
  refine ⟨fun h1 => ?_, fun h1 => ?_⟩
  · have h1 : (!((Pg.apply p d).2 == 0)) = true := h1
    have hb : undoBad p d = true := by
      unfold undoBad; rw [h1]; rfl
    rw [undo_bad hb]
    repeat (refine go_ ?_; conv => whnf)
    exact ret_con rfl rfl
  have h1 : (!((Pg.apply p d).2 == 0)) = false := h1
  repeat (refine go_ ?_; conv => whnf)
  refine ⟨fun hk => ?_, fun hk => ?_⟩
  · have hk1 : (d.kind == 1) = true := hk
    have hk : d.entry.key = undoKey d := by unfold undoKey; rw [hk1]; rfl
    have hb : undoBad p d = false := by
      unfold undoBad; rw [h1, hk1]; rfl
    repeat (refine go_ ?_; conv => whnf)
    refine loop_i (fun i : Nat => [(2, .loc 0 0), (4, .loc 2 0), (8, .v (.string (undoKey d))), (9, .v (.int .i64 i))])
      (fun _ => [.box 24 (pgCells p (.ext a p.list.length c 4 (entE p.list))), .box 32 [.v (.int .i64 d.kind), .v (.string d.entry.key), .v (.int .i64 d.entry.slot), .v (.int .i64 d.entry.gen), .v (.int .i64 d.entry.child), .v (.string d.key), .v (.int .i64 d.page), .v (.bool d.right.leaf), .v (.string d.right.low), .v (.string d.right.high), .v (.int .i64 d.right.right), .ext b d.right.list.length e 4 (entE d.right.list)], .box 32 [.v (.int .i64 0), .v (.string s0), .v (.int .i64 0), .v (.int .i64 0), .v (.int .i64 0), .v (.string s0), .v (.int .i64 0), .v (.bool false), .v (.string s0), .v (.string s0), .v (.int .i64 0), .v (.slice none 0 0)]]) (fun i => p.list.length - i)
      (fun i _ => i ≤ p.list.length ∧ ∀ j, j < i → sEq (p.list.getD j En.zero).key (undoKey d) = false) 0 [0, 1, 2] ⟨⟨rfl, rfl, by rw [← hk]; rfl, rfl, trivial⟩, ⟨⟨rfl, rfl⟩, ⟨rfl, rfl⟩, ⟨rfl, rfl⟩, trivial⟩, rfl, rfl, rfl⟩ ⟨Nat.zero_le _, fun j hj => by omega⟩ ?_
    rintro i A3 ⟨hi, hno⟩
    repeat (refine go_ ?_; conv => whnf)
    refine ⟨fun h2 => ?_, fun h2 => ?_⟩
    · have h2 : i < p.list.length := lt_of_dec h2
      repeat (refine go_ ?_; conv => whnf)
      refine ⟨⟨by omega, by omega⟩, ?_⟩
      conv => whnf
      repeat (refine go_ ?_; conv => whnf)
      refine ⟨fun h3 => ?_, fun h3 => ?_⟩
      · have h3 : sEq (p.list.getD i En.zero).key (undoKey d) = true := h3
        have hx := fIx_is (fun x => sEq x.key (undoKey d)) p.list i hi hno (fun _ => h3)
        rw [undo_yes hb hx h2]
        repeat (refine go_ ?_; conv => whnf)
        refine ⟨⟨by omega, by omega⟩, ?_⟩
        conv => whnf
        repeat (refine go_ ?_; conv => whnf)
        exact ret_con rfl rfl
      · have h3 : sEq (p.list.getD i En.zero).key (undoKey d) = false := h3
        repeat (refine go_ ?_; conv => whnf)
        refine next_i (i + 1) [0, 1, 2] (by omega) ⟨⟨rfl, rfl, rfl, ?_, trivial⟩, ⟨⟨rfl, rfl⟩, ⟨rfl, rfl⟩, ⟨rfl, rfl⟩, trivial⟩, rfl, rfl, rfl⟩ ⟨h2, fun j hj => ?_⟩
        · exact w_succ i (by unfold lim at hl; omega)
        · rcases Nat.lt_or_ge j i with h | h
          · exact hno j h
          · have : j = i := by omega
            subst this; exact h3
    · have h2 : p.list.length ≤ i := ge_of_dec h2
      have hx := fIx_is (fun x => sEq x.key (undoKey d)) p.list i hi hno (fun h => by omega)
      have hin : i = p.list.length := by omega
      subst hin
      rw [undo_no hb hx]
      repeat (refine go_ ?_; conv => whnf)
      exact ret_con rfl rfl
  · have hk1 : (d.kind == 1) = false := hk
    have hk : d.key = undoKey d := by unfold undoKey; rw [hk1]; rfl
    repeat (refine go_ ?_; conv => whnf)
    refine ⟨fun hk2 => ?_, fun hk2 => ?_⟩
    · have hk2 : (!(d.kind == 2)) = true := hk2
      have hb : undoBad p d = true := by
        unfold undoBad; rw [h1, hk1, hk2]; rfl
      rw [undo_bad hb]
      repeat (refine go_ ?_; conv => whnf)
      exact ret_con rfl rfl
    have hk2 : (!(d.kind == 2)) = false := hk2
    have hb : undoBad p d = false := by
      unfold undoBad; rw [h1, hk1, hk2]; rfl
    repeat (refine go_ ?_; conv => whnf)
    refine loop_i (fun i : Nat => [(2, .loc 0 0), (4, .loc 2 0), (8, .v (.string (undoKey d))), (9, .v (.int .i64 i))])
      (fun _ => [.box 24 (pgCells p (.ext a p.list.length c 4 (entE p.list))), .box 32 [.v (.int .i64 d.kind), .v (.string d.entry.key), .v (.int .i64 d.entry.slot), .v (.int .i64 d.entry.gen), .v (.int .i64 d.entry.child), .v (.string d.key), .v (.int .i64 d.page), .v (.bool d.right.leaf), .v (.string d.right.low), .v (.string d.right.high), .v (.int .i64 d.right.right), .ext b d.right.list.length e 4 (entE d.right.list)], .box 32 [.v (.int .i64 0), .v (.string s0), .v (.int .i64 0), .v (.int .i64 0), .v (.int .i64 0), .v (.string s0), .v (.int .i64 0), .v (.bool false), .v (.string s0), .v (.string s0), .v (.int .i64 0), .v (.slice none 0 0)]]) (fun i => p.list.length - i)
      (fun i _ => i ≤ p.list.length ∧ ∀ j, j < i → sEq (p.list.getD j En.zero).key (undoKey d) = false) 0 [0, 1, 2] ⟨⟨rfl, rfl, by rw [← hk]; rfl, rfl, trivial⟩, ⟨⟨rfl, rfl⟩, ⟨rfl, rfl⟩, ⟨rfl, rfl⟩, trivial⟩, rfl, rfl, rfl⟩ ⟨Nat.zero_le _, fun j hj => by omega⟩ ?_
    rintro i A3 ⟨hi, hno⟩
    repeat (refine go_ ?_; conv => whnf)
    refine ⟨fun h2 => ?_, fun h2 => ?_⟩
    · have h2 : i < p.list.length := lt_of_dec h2
      repeat (refine go_ ?_; conv => whnf)
      refine ⟨⟨by omega, by omega⟩, ?_⟩
      conv => whnf
      repeat (refine go_ ?_; conv => whnf)
      refine ⟨fun h3 => ?_, fun h3 => ?_⟩
      · have h3 : sEq (p.list.getD i En.zero).key (undoKey d) = true := h3
        have hx := fIx_is (fun x => sEq x.key (undoKey d)) p.list i hi hno (fun _ => h3)
        rw [undo_yes hb hx h2]
        repeat (refine go_ ?_; conv => whnf)
        refine ⟨⟨by omega, by omega⟩, ?_⟩
        conv => whnf
        repeat (refine go_ ?_; conv => whnf)
        exact ret_con rfl rfl
      · have h3 : sEq (p.list.getD i En.zero).key (undoKey d) = false := h3
        repeat (refine go_ ?_; conv => whnf)
        refine next_i (i + 1) [0, 1, 2] (by omega) ⟨⟨rfl, rfl, rfl, ?_, trivial⟩, ⟨⟨rfl, rfl⟩, ⟨rfl, rfl⟩, ⟨rfl, rfl⟩, trivial⟩, rfl, rfl, rfl⟩ ⟨h2, fun j hj => ?_⟩
        · exact w_succ i (by unfold lim at hl; omega)
        · rcases Nat.lt_or_ge j i with h | h
          · exact hno j h
          · have : j = i := by omega
            subst this; exact h3
    · have h2 : p.list.length ≤ i := ge_of_dec h2
      have hx := fIx_is (fun x => sEq x.key (undoKey d)) p.list i hi hno (fun h => by omega)
      have hin : i = p.list.length := by omega
      subst hin
      rw [undo_no hb hx]
      repeat (refine go_ ?_; conv => whnf)
      exact ret_con rfl rfl
end Go.W
end

section
open Go Go.Eng
namespace Go.W
def kA : Str := ⟨#[97]⟩
def kB : Str := ⟨#[98]⟩
def kC : Str := ⟨#[99]⟩
def liveP : Pg := ⟨true, s0, s0, 0, [⟨kA, 0, 0, 0⟩]⟩
def liveD : List DP := [⟨⟨3, En.zero, kB, 4, Pg.zero⟩, none, 0⟩, ⟨⟨1, ⟨kC, 0, 0, 0⟩, s0, 0, Pg.zero⟩, none, 0⟩]
theorem live_c : lookP liveP kC (desOf liveD) = (⟨En.zero, false, 4⟩, 0) := by kernel_rfl
theorem live_a : lookP liveP kA (desOf liveD) = (⟨⟨kA, 0, 0, 0⟩, true, 0⟩, 0) := by kernel_rfl
theorem live_ok (A : Anc) : okD liveD A := fun i hi => by
  match i, hi with
  | 0, _ => exact ⟨fun j hj => absurd hj (Nat.not_lt_zero j), Nat.le_refl _⟩
  | 1, _ => exact ⟨fun j hj => absurd hj (Nat.not_lt_zero j), Nat.le_refl _⟩
theorem live_look (key : Str) (q q2 : Addr) : ConP P 16 [liveP.svL (.ext (some q) 1 1 4 (tabE [[.string kA, .int .i64 0, .int .i64 0, .int .i64 0]])), .v (.string key), .ext (some q2) 2 2 12 (tabE (liveD.map DP.cells))]
    (fun A => SliceAt A (some q) 1 4 (entE liveP.list)) (spR (lookP liveP key (desOf liveD))) :=
  (look_tab liveP key liveD (some q) (some q2) 1 2 (by decide) (by decide)).arg (fun β A vals h _ => by
    simp only [RelL] at h ⊢
    obtain ⟨y1, t1, rfl, g1, y2, t2, rfl, g2, y3, t3, rfl, g3, rfl⟩ := h
    refine ⟨y1, _, rfl, ?_, y2, _, rfl, g2, y3, _, rfl, g3, rfl⟩
    exact agg_last (l := [.v (.bool true), .v (.string s0), .v (.string s0), .v (.int .i64 0)]) (fun y hy => ext_congr (fun i hi => by
      have hi : i < 1 := hi
      have : i = 0 := by omega
      subst this; rfl) hy) g1) (fun A h => ⟨⟨h, Nat.le_refl _⟩, live_ok A⟩)
theorem live_con : Con P 15 [] (.bool true) := by
  refine con_of (args := []) ctx_ok Proofs.Try.func15 rfl (R := fun w M e w' => e = .returned (.bool true) ∧ Stp M w w') rfl rfl fun A hat => vcStep_sound ctx_ok tb_all _ _ _ _ _ ?_
  conv => whnf
  repeat (refine go_ ?_; conv => whnf)
  refine ⟨fun A1 q hA1 hq => ?_⟩
  conv => whnf
  repeat (refine go_ ?_; conv => whnf)
  refine ⟨fun A2 q2 hA2 hq2 => ?_⟩
  have hq : SliceAt A2 (some q) 1 4 (entE liveP.list) := SliceAt.congr (hq.later hA2) (fun i hi => by
    have : i = 0 := by omega
    subst this; rfl)
  conv => whnf
  repeat (refine go_ ?_; conv => whnf)
  have h1 := live_look kC q q2
  have h2 := live_look kA q q2
  rw [live_c] at h1
  rw [live_a] at h2
  refine ⟨rfl, conP_vc h1 (fun A' hl => hq.later hl) ?_⟩
  conv => whnf
  repeat (refine go_ ?_; conv => whnf)
  refine ⟨rfl, conP_vc h2 (fun A' hl => hq.later hl) ?_⟩
  conv => whnf
  repeat (refine go_ ?_; conv => whnf)
  refine ret_con rfl ?_
  kernel_rfl
end Go.W
end

section
open Go Go.Eng
namespace Go.Eng
theorem sEq_refl (a : Str) : sEq a a = true := by unfold sEq; simp
theorem En.eq_refl (x : En) : x.eq x = true := by
  show (sEq x.key x.key && (x.slot == x.slot && (x.gen == x.gen && (x.child == x.child && true)))) = true
  rw [sEq_refl]; simp
theorem entsEq_refl : ∀ l, entsEq l l = true
  | [] => rfl
  | x :: r => by simp only [entsEq]; rw [En.eq_refl, entsEq_refl]; rfl
theorem Pg.eq_refl (p : Pg) : p.eq p = true := by
  unfold Pg.eq
  rw [sEq_refl, sEq_refl, entsEq_refl]; simp
theorem De.eq_refl (x : De) : x.eq x = true := by
  unfold De.eq
  rw [En.eq_refl, sEq_refl, Pg.eq_refl]; simp
end Go.Eng
namespace Go.W
/-- two deltas whose lists can be read -/
def Two2 (x y : DP) (A : Anc) : Prop := x.ok A ∧ y.ok A
theorem dsame_law (x y : DP) (hx : x.d.right.list.length ≤ lim) (_ : y.d.right.list.length ≤ lim) : ConP P 4 [x.d.sv x.a x.c, y.d.sv y.a y.c] (Two2 x y) (.bool true) := by
  refine con_ofP (args := [x.d.sv x.a x.c, y.d.sv y.a y.c]) (Pre := Two2 x y) ctx_ok Proofs.Try.func4 rfl (R := ValR (.bool true)) rfl rfl fun A hat hpre => vcStep_sound ctx_ok tb_all _ _ _ _ _ ?_
  conv => whnf
  repeat (refine go_ ?_; conv => whnf)
  refine .one none rfl ?_
  conv => whnf
  refine ⟨rfl, con_vc live_con ?_⟩
  conv => whnf
  refine ⟨rfl, gcon_vc (dsame_con x.d y.d x.a y.a x.c y.c hx) ?_⟩
  conv => whnf
  refine ⟨rfl, gcon_vc (rdsame_con x.d y.d x.a y.a x.c y.c hx) ?_⟩
  conv => whnf
  refine ⟨rfl, gcon_vc (dsame_con x.d x.d x.a x.a x.c x.c hx) ?_⟩
  rw [De.eq_refl]
  conv => whnf
  refine ⟨rfl, .sure ⟨?_, trivial⟩ ?_⟩
  · show (bif bif true then x.d.eq y.d == x.d.eq y.d else false then true else false) = true
    simp
  refine conR_ext (dclone_con x.d x.a x.c hx) x.d.shape (fun A' hl' => ⟨(hpre.1.later hl').1, hpre.1.2⟩) (fun A2 a2 c2 hA2 hs2 => ⟨rfl, ?_⟩)
  conv => whnf
  refine ⟨rfl, gcon_vc (dsame_con x.d x.d a2 x.a c2 x.c hx) ?_⟩
  rw [De.eq_refl]
  conv => whnf
  repeat (refine go_ ?_; conv => whnf)
  refine ret_con rfl ?_
  show Value.bool (bif bif bif true then x.d.eq y.d == x.d.eq y.d else false then true else false then true else false) = _
  simp
end Go.W
end
