/- Lemmas for the proof of a law of the seat Ytfigihelkjlcpaa: an own evaluator of the model's programs, contracts of functions. -/
import Derived.Test.YtfigihelkjlcpaaDelMore
import Derived.Test.YtfigihelkjlcpaaDelBackP
section
open Go Go.Eng
namespace Go.W
def cutD (sep : Str) (id : Int) : De := ⟨3, En.zero, sep, id, Pg.zero⟩
def got : Option En → En × Bool
  | none => (En.zero, false)
  | some x => (x, true)
theorem first_got (pr : En → Bool) : ∀ l : List En, (bif Nat.blt (fIx pr l) l.length then (l.getD (fIx pr l) En.zero, true) else (En.zero, false)) = got (l.find? pr)
  | [] => rfl
  | x :: r => by
    have ih := first_got pr r
    cases h : pr x with
    | true =>
      have h0 : fIx pr (x :: r) = 0 := by simp [fIx, h]
      rw [h0, List.find?_cons_of_pos h, blt_yes (by simp)]; rfl
    | false =>
      have h0 : fIx pr (x :: r) = fIx pr r + 1 := by simp [fIx, h]
      rw [h0, List.find?_cons_of_neg (by simp [h]), ← ih]
      by_cases hb : fIx pr r < r.length
      · rw [blt_yes hb, blt_yes (by simp; omega)]; rfl
      · rw [blt_no hb, blt_no (by simp; omega)]; rfl
theorem last_got (pr : En → Bool) (p : Pg) : ∀ n, n ≤ p.list.length → fRes p (lIx pr p.list n) = got ((p.list.take n).reverse.find? pr)
  | 0, _ => rfl
  | n + 1, hn => by
    have ih := last_got pr p n (by omega)
    have e : p.list.getD n En.zero = p.list[n] := by simp [show n < p.list.length by omega]
    rw [List.take_succ_eq_append_getElem (by omega), List.reverse_append]
    show fRes p (bif pr (p.list.getD n En.zero) then n + 1 else lIx pr p.list n) = got ((p.list[n] :: (p.list.take n).reverse).find? pr)
    rw [e]
    cases h : pr p.list[n] with
    | true =>
      rw [List.find?_cons_of_pos h]
      show (p.list.getD n En.zero, true) = _
      rw [e]; rfl
    | false => rw [List.find?_cons_of_neg (by simp [h])]; exact ih
theorem find_filter {pr q : En → Bool} (h : ∀ x, pr x = true → q x = true) : ∀ l : List En, (l.filter q).find? pr = l.find? pr
  | [] => rfl
  | x :: r => by
    have ih := find_filter h r
    cases hq : q x with
    | true =>
      rw [List.filter_cons_of_pos hq]
      cases hp : pr x with
      | true => rw [List.find?_cons_of_pos hp, List.find?_cons_of_pos hp]
      | false => rw [List.find?_cons_of_neg (by simp [hp]), List.find?_cons_of_neg (by simp [hp]), ih]
    | false =>
      rw [List.filter_cons_of_neg (by simp [hq])]
      have hp : pr x = false := by
        cases hp : pr x with
        | false => rfl
        | true => rw [h x hp] at hq; cases hq
      rw [List.find?_cons_of_neg (by simp [hp]), ih]
theorem find_got (p : Pg) (key : Str) : Pg.find p key = bif p.leaf then got (p.list.find? (fun x => sEq x.key key)) else got (p.list.reverse.find? (leB key)) := by
  unfold Pg.find
  rw [first_got]
  have := last_got (leB key) p p.list.length (Nat.le_refl _)
  rw [List.take_length] at this
  rw [this]
/-- what a cut page finds of a key below the cut -/
theorem cut_find (p : Pg) (d : De) (key : Str) (hk : sLt key d.key = true) : Pg.find (p.cuts d) key = Pg.find p key := by
  rw [find_got, find_got]
  show (bif p.leaf then got ((p.list.filter (fun x => sLt x.key d.key)).find? (fun x => sEq x.key key)) else got ((p.list.filter (fun x => sLt x.key d.key)).reverse.find? (leB key))) = _
  rw [← List.filter_reverse, find_filter (fun x hx => ?_), find_filter (fun x hx => ?_)]
  · exact le_lt hx hk
  · have hx : sEq x.key key = true := hx
    show sLt x.key d.key = true
    rw [sLt_congrL hx]; exact hk
theorem cut_ok {p : Pg} {sep : Str} {id : Int} (h : (p.apply (cutD sep id)).2 = 0) : p.apply (cutD sep id) = (p.cuts (cutD sep id), 0) ∧ Pg.has p sep = true ∧ 1 ≤ id ∧ sEq sep s0 = false := by
  unfold Pg.apply at h ⊢
  have hc : ((cutD sep id).check == 0) = true := by
    cases hc : (cutD sep id).check == 0 with
    | true => rfl
    | false =>
      rw [hc] at h
      have h : (cutD sep id).check = 0 := h
      rw [h] at hc; cases hc
  have hb : (cutD sep id).badB = false := by
    cases hb : (cutD sep id).badB with
    | false => rfl
    | true =>
      rw [De.check_yes (by rw [hb]; rfl)] at hc; cases hc
  have hb : (decide (id < 1) || sEq sep s0) = false := hb
  rw [Bool.or_eq_false_iff] at hb
  rw [hc] at h ⊢
  have h : (bif cutBad p (cutD sep id) then (Pg.zero, (90 : Int)) else (p.cuts (cutD sep id), 0)).2 = 0 := h
  have hcb : cutBad p (cutD sep id) = false := by
    cases hcb : cutBad p (cutD sep id) with
    | false => rfl
    | true => rw [hcb] at h; cases h
  have hh : ((sLt sep p.low || sEq sep p.low) || !Pg.has p sep) = false := hcb
  rw [Bool.or_eq_false_iff] at hh
  refine ⟨?_, by simpa using hh.2, by have := hb.1; simp at this; omega, hb.2⟩
  show (bif cutBad p (cutD sep id) then (Pg.zero, (90 : Int)) else (p.cuts (cutD sep id), 0)) = _
  rw [hcb]; rfl
theorem cut_look {p : Pg} {sep key : Str} {id : Int} (h : (p.apply (cutD sep id)).2 = 0) : lookP p key [cutD sep id] = (p.cuts (cutD sep id)).look key := by
  have h1 := (cut_ok h).1
  have h2 : p.fold [cutD sep id] = (p.cuts (cutD sep id), 0) := h1
  unfold lookP
  rw [h2]; rfl
theorem cut_has (p : Pg) (sep key : Str) (id : Int) (hs : sEq sep s0 = false) : Pg.has (p.cuts (cutD sep id)) key = (!sLt key p.low && sLt key sep) := by
  show (!sLt key p.low && (sEq sep s0 || sLt key sep)) = _
  rw [hs, Bool.false_or]
/-- keys from the cut on are sent to the other page -/
theorem cut_far {p : Pg} {sep key : Str} {id : Int} (h : (p.apply (cutD sep id)).2 = 0) (h1 : sLt key sep = false) (h2 : sLt key p.low = false) :
    lookP p key [cutD sep id] = (⟨En.zero, false, id⟩, 0) ∧ Pg.has (p.cuts (cutD sep id)) key = false := by
  obtain ⟨_, _, hid, hs⟩ := cut_ok h
  have hh : Pg.has (p.cuts (cutD sep id)) key = false := by rw [cut_has p sep key id hs, h1, Bool.and_false]
  refine ⟨?_, hh⟩
  rw [cut_look h]
  unfold Pg.look
  rw [hh]
  show (bif sLt key p.low then (Sp.zero, (73 : Int)) else bif true then (bif id == 0 then (Sp.zero, 73) else (⟨En.zero, false, id⟩, 0)) else _) = _
  rw [h2, show (id == 0) = false by simp; omega]
  rfl
/-- keys below the cut are found as before -/
theorem cut_near {p : Pg} {sep key : Str} {id : Int} (h : (p.apply (cutD sep id)).2 = 0) (h1 : (!sLt key sep && !sLt key p.low) = false) :
    lookP p key [cutD sep id] = lookP p key [] := by
  obtain ⟨_, hsep, hid, hs⟩ := cut_ok h
  rw [cut_look h]
  have h0 : lookP p key [] = p.look key := rfl
  rw [h0]
  unfold Pg.look
  show (bif sLt key p.low then _ else _) = (bif sLt key p.low then _ else _)
  cases h2 : sLt key p.low with
  | true => rfl
  | false =>
    have h3 : sLt key sep = true := by rw [h2] at h1; simpa using h1
    have hh : Pg.has (p.cuts (cutD sep id)) key = true := by rw [cut_has p sep key id hs, h2, h3]; rfl
    have hp : Pg.has p key = true := by
      have hsep : (!sLt sep p.low && (sEq p.high s0 || sLt sep p.high)) = true := hsep
      rw [Bool.and_eq_true_iff, Bool.or_eq_true_iff] at hsep
      show (!sLt key p.low && (sEq p.high s0 || sLt key p.high)) = true
      rw [h2]
      rcases hsep.2 with hx | hx
      · rw [hx]; rfl
      · rw [sLt_trans h3 hx]; simp
    rw [hh, hp, cut_find p (cutD sep id) key h3]
    rfl
end Go.W
end

section
open Go Go.Eng
namespace Go.W
abbrev bxQ (sep : Str) (id : Int) (key : Str) : Chunk := .box 26 [.v (.string sep), .v (.int .i64 id), .v (.string key)]
abbrev bxS (x : Sp) : Chunk := .box 39 [.v (.string x.entry.key), .v (.int .i64 x.entry.slot), .v (.int .i64 x.entry.gen), .v (.int .i64 x.entry.child), .v (.bool x.found), .v (.int .i64 x.go)]
abbrev Pg.ok (p : Pg) (a : Option Addr) (c : Nat) (A : Anc) : Prop := SliceAt A a p.list.length 4 (entE p.list) ∧ p.list.length ≤ c
theorem cutD_ok (sep : Str) (id : Int) (A : Anc) : DP.ok ⟨cutD sep id, none, 0⟩ A := ⟨fun i hi => absurd hi (Nat.not_lt_zero i), Nat.le_refl _⟩
theorem cut_con (p : Pg) (sep : Str) (id : Int) (a : Option Addr) (c : Nat) (hl : p.list.length + 2 ≤ lim) :
    ConR P 13 [p.sv a c, (cutD sep id).svL (.v (.slice none 0 0))] (Pg.ok p a c) 30 4 (Pg.apply p (cutD sep id)).1.list.length (entE (Pg.apply p (cutD sep id)).1.list) (appMk p (cutD sep id)) :=
  (apply13_con p (cutD sep id) a none c 0 (by show p.list.length + 0 + 1 ≤ lim; omega)).argP (fun _ _ _ h _ => rel2_up h (fun _ h => h) (fun _ h => De.up_nil rfl h)) (fun A h => ⟨h, cutD_ok sep id A⟩)
theorem look_nil (p : Pg) (key : Str) (a : Option Addr) (c : Nat) (hl : p.list.length + 2 ≤ lim) :
    ConP P 16 [p.sv a c, .v (.string key), .v (.slice none 0 0)] (Pg.ok p a c) (spR (lookP p key [])) :=
  (look_tab p key [] a none c 0 (by show p.list.length + 0 ≤ lim; omega) (Nat.zero_le _)).arg (fun β A vals h _ => by
    simp only [RelL] at h ⊢
    obtain ⟨y1, t1, rfl, g1, y2, t2, rfl, g2, y3, t3, rfl, g3, rfl⟩ := h
    refine ⟨y1, _, rfl, g1, y2, _, rfl, g2, y3, _, rfl, ?_, rfl⟩
    simp only [SV.Rel] at g3 ⊢
    exact ⟨g3, Nat.le_refl _, fun i hi => absurd hi (Nat.not_lt_zero i)⟩) (fun A h => ⟨h, fun i hi => absurd hi (Nat.not_lt_zero i)⟩)
theorem cells_self (k : Str) (s g c : Int) (f : Bool) (o : Int) : cellsB [.string k, .int .i64 s, .int .i64 g, .int .i64 c, .bool f, .int .i64 o] [.string k, .int .i64 s, .int .i64 g, .int .i64 c, .bool f, .int .i64 o] = true := by
  show (sEq k k && (s == s && (g == g && (c == c && (f == f && (o == o && true)))))) = true
  rw [sEq_refl]; simp
theorem splits_con (p : Pg) (sep : Str) (id : Int) (key : Str) (a : Option Addr) (c : Nat) (hl : p.list.length + 2 ≤ lim) :
    ConP P 3 [p.sv a c, .agg [.v (.string sep), .v (.int .i64 id), .v (.string key)]] (Pg.ok p a c) (.bool true) := by
  refine con_ofP (args := [p.sv a c, .agg [.v (.string sep), .v (.int .i64 id), .v (.string key)]]) (Pre := Pg.ok p a c) ctx_ok Proofs.Try.func3 rfl (R := ValR (.bool true)) rfl rfl fun A hat hpre => vcStep_sound ctx_ok tb_all _ _ _ _ _ ?_
  conv => whnf
  repeat (refine go_ ?_; conv => whnf)
  refine .one none (by kernel_rfl) ?_
  conv => whnf
  repeat (refine go_ ?_; conv => whnf)
  refine ⟨rfl, conR_ext (cut_con p sep id a c hl) ((Pg.apply p (cutD sep id)).1.shapeT (Pg.apply p (cutD sep id)).2) (fun A' hl' => ⟨hpre.1.later hl', hpre.2⟩) (fun A2 a2 c2 hA2 hs2 => ?_)⟩
  conv => whnf
  refine goH [bxP p a c, bxQ sep id key, bxD (cutD sep id) (.v (.slice none 0 0)), bxP (Pg.apply p (cutD sep id)).1 a2 c2] rfl ?_
  conv => whnf
  refine ⟨rfl, gcon_vc (rcheck_con p a c (by omega)) ?_⟩
  conv => whnf
  refine ⟨rfl, gcon_vc live_con ?_⟩
  conv => whnf
  repeat (refine go_ ?_; conv => whnf)
  refine ⟨fun h1 => ?_, fun h1 => ?_⟩
  · repeat (refine go_ ?_; conv => whnf)
    refine ⟨rfl, con_vc live_con ?_⟩
    conv => whnf
    repeat (refine go_ ?_; conv => whnf)
    exact ret_con rfl rfl
  have h1 : (bif bif !((Pg.apply p (cutD sep id)).2 == 0) then true else !(checkV p == 0) then true else !true) = false := h1
  have h0 : (Pg.apply p (cutD sep id)).2 = 0 := by
    cases h : (Pg.apply p (cutD sep id)).2 == 0 with
    | true => simpa using h
    | false => rw [h] at h1; cases h1
  refine goH [bxP p a c, bxQ sep id key, bxD (cutD sep id) (.v (.slice none 0 0)), bxP (Pg.apply p (cutD sep id)).1 a2 c2] rfl ?_
  conv => whnf
  repeat (refine go_ ?_; conv => whnf)
  refine ⟨fun A3 s hA3 hs3 => ?_⟩
  have hk := look_tab p key [⟨cutD sep id, none, 0⟩] a (some s) c 1 (by show p.list.length + (0 + (0 + 1)) ≤ lim; omega) (by simp [lim])
  have hp3 : Pg.ok p a c A3 := ⟨(hpre.1.later hA2).later hA3, hpre.2⟩
  have hkp : ∀ A', Later A3 A' → FoldPre p a c [⟨cutD sep id, none, 0⟩] A' := fun A' hl' => ⟨⟨hp3.1.later hl', hp3.2⟩, okD_one (cutD_ok sep id A')⟩
  by_cases hn : (!sLt key sep && !sLt key p.low) = true
  · rw [Bool.and_eq_true_iff] at hn
    have hf := cut_far (id := id) h0 (by simpa using hn.1) (by simpa using hn.2)
    have hk : ConP P 16 [p.sv a c, .v (.string key), .ext (some s) 1 1 12 (tabE [(⟨cutD sep id, none, 0⟩ : DP).cells])] (FoldPre p a c [⟨cutD sep id, none, 0⟩]) (spR (⟨En.zero, false, id⟩, 0)) := by rw [← hf.1]; exact hk
    have hH := rhas_con (Pg.apply p (cutD sep id)).1 a2 c2 key
    rw [show Pg.has (Pg.apply p (cutD sep id)).1 key = false by rw [(cut_ok h0).1]; exact hf.2] at hH
    conv => whnf
    refine ⟨rfl, conP_vc hk hkp ?_⟩
    conv => whnf
    refine goH [bxP p a c, bxQ sep id key, bxD (cutD sep id) (.v (.slice none 0 0)), bxP (Pg.apply p (cutD sep id)).1 a2 c2, bxS ⟨En.zero, false, id⟩] rfl ?_
    conv => whnf
    repeat (refine go_ ?_; conv => whnf)
    refine ⟨fun h2 => ?_, fun h2 => ?_⟩
    · repeat (refine go_ ?_; conv => whnf)
      refine ⟨rfl, gcon_vc hH ?_⟩
      conv => whnf
      repeat (refine go_ ?_; conv => whnf)
      refine ret_con rfl ?_
      simp
      exact congrArg (fun b => retV [.bool b]) (cells_self s0 0 0 0 false id)
    · have h2 : (bif !sLt key sep then !sLt key p.low else false) = false := h2
      rw [hn.1, hn.2] at h2; cases h2
  · have hn : (!sLt key sep && !sLt key p.low) = false := by simpa using hn
    have hk : ConP P 16 [p.sv a c, .v (.string key), .ext (some s) 1 1 12 (tabE [(⟨cutD sep id, none, 0⟩ : DP).cells])] (FoldPre p a c [⟨cutD sep id, none, 0⟩]) (spR (lookP p key [])) := by rw [← cut_near (id := id) h0 hn]; exact hk
    conv => whnf
    refine ⟨rfl, conP_vc hk hkp ?_⟩
    conv => whnf
    refine goH [bxP p a c, bxQ sep id key, bxD (cutD sep id) (.v (.slice none 0 0)), bxP (Pg.apply p (cutD sep id)).1 a2 c2, bxS (lookP p key []).1] rfl ?_
    conv => whnf
    repeat (refine go_ ?_; conv => whnf)
    refine ⟨fun h2 => ?_, fun h2 => ?_⟩
    · have h2 : (bif !sLt key sep then !sLt key p.low else false) = true := h2
      have e : ∀ x y : Bool, (bif x then y else false) = (x && y) := by decide
      rw [e, hn] at h2; cases h2
    repeat (refine go_ ?_; conv => whnf)
    refine ⟨rfl, conP_vc (look_nil p key a c hl) (fun A' hl' => ⟨hp3.1.later hl', hp3.2⟩) ?_⟩
    conv => whnf
    repeat (refine go_ ?_; conv => whnf)
    refine ret_con rfl ?_
    simp
    exact congrArg (fun b => retV [.bool b]) (cells_self _ _ _ _ _ _)
end Go.W
end

section
open Go Go.Eng
namespace Go.W
open Go.ChangeShapes Go.WideShapes Go.ChangeAt Go.RowKit
section
variable {H : Type} {enc : TypeId × Value → H} {W : World}
theorem open_cut {sp : Nat → Bool} {fuel : Nat} {x : DataW H × List MemPlace} {v : Value} (h : DataW.trod enc P W 0 sp true fuel 26 v.cells.toList = some x) : ∃ (s k : Str) (i : Int), v = .agg #[.string s, .int .i64 i, .string k] := by
  obtain ⟨xs, n, _, rfl, hl0, hlen0, hf⟩ := DataW.trod_struct Proofs.Try.underlying26 h
  have hlen : xs.length = 3 := hlen0
  clear hlen0 h
  have hl : v.cells.toList.length = 3 := hl0.trans (by kernel_rfl)
  clear hl0
  have hv : ∃ cs : Array Value, v = .agg cs := by
    cases v <;> first | exact ⟨_, rfl⟩ | (simp [Value.cells] at hl)
  obtain ⟨cs, rfl⟩ := hv
  obtain ⟨cs⟩ := cs
  simp only [Value.cells] at hl hf
  obtain ⟨c0, c1, c2, rfl⟩ := len3 hl
  obtain ⟨y0, y1, y2, rfl⟩ := len3 hlen
  have h0 : DataW.trod enc P W 0 sp true n 9 (List.take (P.cellsOf 9) (List.drop 0 [c0, c1, c2])) = some y0 := hf 0 _ rfl
  have h1 : DataW.trod enc P W 0 sp true n 3 (List.take (P.cellsOf 3) (List.drop 1 [c0, c1, c2])) = some y1 := hf 1 _ rfl
  have h2 : DataW.trod enc P W 0 sp true n 9 (List.take (P.cellsOf 9) (List.drop 2 [c0, c1, c2])) = some y2 := hf 2 _ rfl
  have e9 : P.cellsOf 9 = 1 := by kernel_rfl
  have e3 : P.cellsOf 3 = 1 := by kernel_rfl
  rw [e9] at h0 h2; rw [e3] at h1
  obtain ⟨s, hs, _⟩ := DataW.trod_string Proofs.Try.underlying9 (x := y0) h0
  obtain ⟨i, hi, _⟩ := DataW.trod_int Proofs.Try.underlying3 (x := y1) h1
  obtain ⟨k, hk, _⟩ := DataW.trod_string Proofs.Try.underlying9 (x := y2) h2
  simp at hs hi hk
  exact ⟨s, k, i, by rw [hs, hi, hk]⟩
/-- a page and a cut, as they are read -/
theorem open_pq {args : List Value} {ds : List (DataW H)} {ps : List MemPlace} (hA : DataW.TrodAll enc P W 0 (fun _ => true) true [24, 26] args ds ps) (hb : bulkA ds ≤ 1048576) :
    ∃ (p : Pg) (sep : Str) (id : Int) (key : Str) (a : Option Addr) (c : Nat), RelL Lay.none ⟨no, no, W⟩ [p.sv a c, .agg [.v (.string sep), .v (.int .i64 id), .v (.string key)]] args ∧ Pg.ok p a c ⟨no, no, W⟩ ∧ p.list.length + 2 ≤ lim ∧ ∃ x y, ds = [x, y] := by
  obtain ⟨v0, vs0, d0, ds0, p0, q0, rfl, rfl, rfl, h0, r0⟩ := trodAll_cons hA
  obtain ⟨v1, vs1, d1, ds1, p1, q1, rfl, rfl, rfl, h1, r1⟩ := trodAll_cons r0
  obtain ⟨rfl, rfl, rfl⟩ := trodAll_nil r1
  obtain ⟨fu0, h0⟩ := h0
  obtain ⟨fu1, h1⟩ := h1
  obtain ⟨p, a, c, rfl, hp1, hp2, bx⟩ := open_pg h0
  obtain ⟨s, k, i, rfl⟩ := open_cut h1
  simp only [bulkA_cons, bulkA_nil] at hb
  simp only at bx
  have := bulk_pos d1
  refine ⟨p, s, i, k, a, c, ?_, ⟨hp2, hp1⟩, le_lim (by omega), _, _, rfl⟩
  simp only [RelL, SV.Rel]
  refine ⟨_, _, rfl, upP hp1 hp2, _, _, rfl, ⟨_, rfl, _, _, rfl, rfl, _, _, rfl, rfl, _, _, rfl, rfl, rfl⟩, rfl⟩
theorem par_pq (t : TypeId) (h : t ∈ [24, 26]) : P.readableRec t = true ∧ t < P.types.size := by
  have : t = 24 ∨ t = 26 := by simpa using h
  rcases this with rfl | rfl
  · exact ⟨by kernel_rfl, of_decide_eq_true (by kernel_rfl)⟩
  · exact ⟨by kernel_rfl, of_decide_eq_true (by kernel_rfl)⟩
/-- a law of a page and a cut: true, and all as it was -/
theorem pq_contract {n : Nat} {f : Func} {s : ChangeSpec} (hpar : f.params.toList = [24, 26]) (hres : f.resultTypes = #[4]) (hv : s.vars = [])
    (hfn : ∀ x y : DataW H, s.fn H [x, y] = { results := [.lit (.bool true)], args := [x, y] })
    (law : ∀ (p : Pg) (sep : Str) (id : Int) (key : Str) (a : Option Addr) (c : Nat), p.list.length + 2 ≤ lim → ConP P n [p.sv a c, .agg [.v (.string sep), .v (.int .i64 id), .v (.string key)]] (Pg.ok p a c) (.bool true))
    {args : Array Value} {ds gs : List (DataW H)} {before : List MemPlace} (hW : DataW.Whole enc P f.params.toList s.vars false W args.toList ds gs before) (hk : Proofs.Ytfigihelkjlcpaa.Rows.uptoSmall H (ds ++ gs) = true) :
    Calls P n args W fun e W' => ∃ v, e = .returned v ∧ s.post enc P f false true false false W args v W' := by
  have hW' := hW
  obtain ⟨p, q, hA, hV, rfl, hfz, hnd⟩ := hW
  have hb := bulk_le hk
  rw [hpar] at hA
  rw [hv] at hV
  obtain ⟨rfl, rfl⟩ := trodVars_none hV
  rw [List.append_nil] at hb
  obtain ⟨p, sep, id, key, a, c, h1, h2, h3, x, y, rfl⟩ := open_pq hA hb
  refine Calls.mono (law p sep id key a c h3 no no W Lay.none _ h1 (at_no W) h2) fun e W' he => ⟨_, he.1, ?_⟩
  exact law_post hv hW' (fun _ => by rw [List.append_nil]; exact hfn x y) hres (by rw [hpar]; exact par_pq) he.2
end
end Go.W
end
