/- Lemmas for the proof of a law of the seat Ytfigihelkjlcpaa: an own evaluator of the model's programs, contracts of functions. -/
import Derived.Test.YtfigihelkjlcpaaEngP4
section
open Go Go.Eng
namespace Go.W
noncomputable abbrev P := Proofs.Try.prog
def inR (lo hi key : Str) : Bool := !sLt key lo && (sEq hi s0 || sLt key hi)
theorem in_con (lo hi key : Str) : Con P 72 [.v (.agg #[.string lo, .string hi]), .v (.string key)] (.bool (inR lo hi key)) := by
  refine con_of ctx_ok Proofs.Try.func72 rfl (R := fun w M e w' => e = .returned (.bool (inR lo hi key)) ∧ Stp M w w') rfl rfl fun A hat => vcCode_sound ctx_ok tb_all _ _ _ _ _ ?_
  conv => whnf
  refine ret_con rfl ?_
  show Value.bool (bif !sLt key lo then bif sEq hi s0 then true else sLt key hi else false) = .bool (inR lo hi key)
  unfold inR
  cases sLt key lo <;> cases sEq hi s0 <;> rfl
theorem rng_con (p : Pg) (a : Option Addr) (c : Nat) : Con P 73 [p.sv a c] (.agg #[.string p.low, .string p.high]) := by
  refine con_of ctx_ok Proofs.Try.func73 rfl (R := fun w M e w' => e = .returned (.agg #[.string p.low, .string p.high]) ∧ Stp M w w') rfl rfl fun A hat => vcCode_sound ctx_ok tb_all _ _ _ _ _ ?_
  conv => whnf
  exact ret_con rfl rfl
def Pg.has (p : Pg) (key : Str) : Bool := inR p.low p.high key
theorem has_con (p : Pg) (a : Option Addr) (c : Nat) (key : Str) : Con P 46 [p.sv a c, .v (.string key)] (.bool (Pg.has p key)) := by
  refine con_of ctx_ok Proofs.Try.func46 rfl (R := fun w M e w' => e = .returned (.bool (Pg.has p key)) ∧ Stp M w w') rfl rfl fun A hat => vcCode_sound ctx_ok tb_all _ _ _ _ _ ?_
  conv => whnf
  refine ⟨rfl, con_vc (rng_con p a c) ?_⟩
  conv => whnf
  refine ⟨rfl, con_vc (in_con p.low p.high key) ?_⟩
  conv => whnf
  exact ret_con rfl rfl
theorem equal_con (x y : List En) (a b : Option Addr) (c d : Nat) (hx : x.length ≤ lim) : Con P 75 [.ext a x.length c 4 (entE x), .ext b y.length d 4 (entE y)] (.bool (entsEq x y)) := by
  refine con_of ctx_ok Proofs.Try.func75 rfl (R := fun w M e w' => e = .returned (.bool (entsEq x y)) ∧ Stp M w w') rfl rfl fun A hat => vcCode_sound ctx_ok tb_all _ _ _ _ _ ?_
  conv => whnf
  refine ⟨fun h => ?_, fun h => ?_⟩
  · conv => whnf
    refine ret_con rfl ?_
    show Value.bool false = _
    congr 1
    have hne : x.length ≠ y.length := by intro e; simp [e] at h
    cases hh : entsEq x y with
    | false => rfl
    | true => exact absurd (entsEq_len x y hh) hne
  · have hlen : x.length = y.length := by
      have : ((x.length : Int) != (y.length : Int)) = false := h
      simp at this; omega
    conv => whnf
    refine loop_i (fun i : Nat => [(0, .ext a x.length c 4 (entE x)), (1, .ext b y.length d 4 (entE y)), (12, .v (.int .i64 x.length)), (13, .v (.int .i64 i))]) (fun _ => []) (fun i => x.length - i)
      (fun i _ => i ≤ x.length ∧ ∀ j, j < i → (x.getD j En.zero).eq (y.getD j En.zero) = true) 0 [] ⟨⟨rfl, rfl, rfl, rfl, trivial⟩, trivial, rfl, rfl, rfl⟩ ⟨Nat.zero_le _, fun j hj => by omega⟩ ?_
    rintro i A' ⟨hi, hall⟩
    conv => whnf
    refine ⟨fun h1 => ?_, fun h1 => ?_⟩
    · have h1 : i < x.length := by
        exact lt_of_dec h1
      conv => whnf
      refine .one none rfl ?_
      conv => whnf
      refine ⟨⟨by omega, by omega⟩, ?_⟩
      conv => whnf
      refine ⟨⟨by omega, by omega⟩, ?_⟩
      conv => whnf
      refine ⟨fun h2 => ?_, fun h2 => ?_⟩
      · conv => whnf
        refine ret_con rfl ?_
        have h2 : (!(x.getD i En.zero).eq (y.getD i En.zero)) = true := h2
        show Value.bool false = _
        congr 1
        cases hh : entsEq x y with
        | false => rfl
        | true =>
          have := (entsEq_at x y hlen).1 hh i h1
          rw [this] at h2; cases h2
      · have h2 : (!(x.getD i En.zero).eq (y.getD i En.zero)) = false := h2
        conv => whnf
        refine next_i (i + 1) [] (by omega) ⟨⟨rfl, rfl, rfl, ?_, trivial⟩, trivial, rfl, rfl, rfl⟩ ⟨h1, fun j hj => ?_⟩
        · exact w_succ i (by unfold lim at hx; omega)
        · rcases Nat.lt_or_ge j i with h | h
          · exact hall j h
          · have : j = i := by omega
            subst this
            simpa using h2
    · have h1 : x.length ≤ i := by
        exact ge_of_dec h1
      conv => whnf
      refine ret_con rfl ?_
      show Value.bool true = _
      congr 1
      exact ((entsEq_at x y hlen).2 (fun j hj => hall j (by omega))).symm
end Go.W
end

section
open Go Go.Eng
namespace Go.W
theorem same_bif (a b c d e : Bool) : (bif bif bif bif a then b else false then c else false then d else false then e else false) = (a && b && c && d && e) := by
  cases a <;> cases b <;> cases c <;> cases d <;> cases e <;> rfl
theorem samelist_con (x y : List En) (a b : Option Addr) (c d : Nat) (hx : x.length ≤ lim) : Con P 54 [.ext a x.length c 4 (entE x), .ext b y.length d 4 (entE y)] (.bool (entsEq x y)) := by
  refine con_of ctx_ok Proofs.Try.func54 rfl (R := fun w M e w' => e = .returned (.bool (entsEq x y)) ∧ Stp M w w') rfl rfl fun A hat => vcCode_sound ctx_ok tb_all _ _ _ _ _ ?_
  conv => whnf
  refine ⟨fun h => ?_, fun h => ?_⟩
  · conv => whnf
    refine ret_con rfl ?_
    show Value.bool false = _
    congr 1
    have hne : x.length ≠ y.length := by intro e; simp [e] at h
    cases hh : entsEq x y with
    | false => rfl
    | true => exact absurd (entsEq_len x y hh) hne
  · have hlen : x.length = y.length := by
      have : ((x.length : Int) != (y.length : Int)) = false := h
      simp at this; omega
    conv => whnf
    refine loop_i (fun i : Nat => [(0, .ext a x.length c 4 (entE x)), (1, .ext b y.length d 4 (entE y)), (5, .v (.int .i64 i))]) (fun _ => []) (fun i => x.length - i)
      (fun i _ => i ≤ x.length ∧ ∀ j, j < i → (x.getD j En.zero).eq (y.getD j En.zero) = true) 0 [] ⟨⟨rfl, rfl, rfl, trivial⟩, trivial, rfl, rfl, rfl⟩ ⟨Nat.zero_le _, fun j hj => by omega⟩ ?_
    rintro i A' ⟨hi, hall⟩
    conv => whnf
    refine ⟨fun h1 => ?_, fun h1 => ?_⟩
    · have h1 : i < x.length := lt_of_dec h1
      conv => whnf
      refine .one none rfl ?_
      conv => whnf
      refine ⟨⟨by omega, by omega⟩, ?_⟩
      conv => whnf
      refine ⟨⟨by omega, by omega⟩, ?_⟩
      conv => whnf
      refine ⟨fun h2 => ?_, fun h2 => ?_⟩
      · conv => whnf
        refine ret_con rfl ?_
        have h2 : (!(x.getD i En.zero).eq (y.getD i En.zero)) = true := h2
        show Value.bool false = _
        congr 1
        cases hh : entsEq x y with
        | false => rfl
        | true =>
          have := (entsEq_at x y hlen).1 hh i h1
          rw [this] at h2; cases h2
      · have h2 : (!(x.getD i En.zero).eq (y.getD i En.zero)) = false := h2
        conv => whnf
        refine next_i (i + 1) [] (by omega) ⟨⟨rfl, rfl, ?_, trivial⟩, trivial, rfl, rfl, rfl⟩ ⟨h1, fun j hj => ?_⟩
        · exact w_succ i (by unfold lim at hx; omega)
        · rcases Nat.lt_or_ge j i with h | h
          · exact hall j h
          · have : j = i := by omega
            subst this
            simpa using h2
    · have h1 : x.length ≤ i := ge_of_dec h1
      conv => whnf
      refine ret_con rfl ?_
      show Value.bool true = _
      congr 1
      exact ((entsEq_at x y hlen).2 (fun j hj => hall j (by omega))).symm
theorem psame_con (p q : Pg) (a b : Option Addr) (c d : Nat) (hx : p.list.length ≤ lim) : Con P 49 [p.sv a c, q.sv b d] (.bool (p.eq q)) := by
  refine con_of ctx_ok Proofs.Try.func49 rfl (R := fun w M e w' => e = .returned (.bool (p.eq q)) ∧ Stp M w w') rfl rfl fun A hat => vcCode_sound ctx_ok tb_all _ _ _ _ _ ?_
  conv => whnf
  refine ⟨rfl, gcon_vc (equal_con p.list q.list a b c d hx) ?_⟩
  conv => whnf
  refine ret_con rfl ?_
  show Value.bool (bif bif bif bif p.leaf == q.leaf then sEq p.low q.low else false then sEq p.high q.high else false then p.right == q.right else false then entsEq p.list q.list else false) = _
  rw [same_bif]; rfl
theorem rsame_con (p q : Pg) (a b : Option Addr) (c d : Nat) (hx : p.list.length ≤ lim) : Con P 24 [p.sv a c, q.sv b d] (.bool (p.eq q)) := by
  refine con_of ctx_ok Proofs.Try.func24 rfl (R := fun w M e w' => e = .returned (.bool (p.eq q)) ∧ Stp M w w') rfl rfl fun A hat => vcCode_sound ctx_ok tb_all _ _ _ _ _ ?_
  conv => whnf
  refine ⟨rfl, gcon_vc (samelist_con p.list q.list a b c d hx) ?_⟩
  conv => whnf
  refine ret_con rfl ?_
  show Value.bool (bif bif bif bif p.leaf == q.leaf then sEq p.low q.low else false then sEq p.high q.high else false then p.right == q.right else false then entsEq p.list q.list else false) = _
  rw [same_bif]; rfl
theorem dsame_con (x y : De) (a b : Option Addr) (c d : Nat) (hx : x.right.list.length ≤ lim) : Con P 18 [x.sv a c, y.sv b d] (.bool (x.eq y)) := by
  refine con_of ctx_ok Proofs.Try.func18 rfl (R := fun w M e w' => e = .returned (.bool (x.eq y)) ∧ Stp M w w') rfl rfl fun A hat => vcCode_sound ctx_ok tb_all _ _ _ _ _ ?_
  conv => whnf
  refine ⟨rfl, gcon_vc (psame_con x.right y.right a b c d hx) ?_⟩
  conv => whnf
  refine ret_con rfl ?_
  show Value.bool (bif bif bif bif x.kind == y.kind then x.entry.eq y.entry else false then sEq x.key y.key else false then x.page == y.page else false then x.right.eq y.right else false) = _
  rw [same_bif]; rfl
theorem rdsame_con (x y : De) (a b : Option Addr) (c d : Nat) (hx : x.right.list.length ≤ lim) : Con P 19 [x.sv a c, y.sv b d] (.bool (x.eq y)) := by
  refine con_of ctx_ok Proofs.Try.func19 rfl (R := fun w M e w' => e = .returned (.bool (x.eq y)) ∧ Stp M w w') rfl rfl fun A hat => vcCode_sound ctx_ok tb_all _ _ _ _ _ ?_
  conv => whnf
  refine ⟨rfl, gcon_vc (rsame_con x.right y.right a b c d hx) ?_⟩
  conv => whnf
  refine ret_con rfl ?_
  show Value.bool (bif bif bif bif x.kind == y.kind then x.entry.eq y.entry else false then sEq x.key y.key else false then x.page == y.page else false then x.right.eq y.right else false) = _
  rw [same_bif]; rfl
end Go.W
end

section
open Go Go.Eng
namespace Go.W
theorem grow_con (n : Nat) (h : n ≤ lim) : ConR P 101 [.v (.slice none 0 0), .v (.int .i64 n)] (fun _ => True) 30 4 0 (fun _ => []) (fun y => y) := by
  refine con_ofP (args := [.v (.slice none 0 0), .v (.int .i64 n)]) (Pre := fun _ => True) ctx_ok Proofs.Try.func101 rfl (R := RowR 30 4 0 (fun _ => []) (fun y => y)) rfl rfl fun A hat _ => vcCode_sound ctx_ok tb_all _ _ _ _ _ ?_
  conv => whnf
  refine ⟨fun h1 => ?_, fun h1 => ?_⟩
  · exfalso
    have h1 : decide ((n : Int) < 0) = true := h1
    simp at h1; omega
  conv => whnf
  have hw : IntKind.i64.wrap ((n : Int) - IntKind.i64.wrap (((0 : Nat) : Int) - ((0 : Nat) : Int))) = (n : Int) := by
    unfold lim at h
    rw [wrap_in (z := ((0 : Nat) : Int) - ((0 : Nat) : Int)) (by omega) (by omega), wrap_in (by omega) (by omega)]; omega
  refine ⟨fun h2 => ?_, fun h2 => ?_⟩
  · have h2 : 0 < n := by
      have h2' : decide (IntKind.i64.wrap ((n : Int) - IntKind.i64.wrap (((0 : Nat) : Int) - ((0 : Nat) : Int))) > 0) = true := h2
      rw [hw] at h2'
      simp at h2'; exact h2'
    conv => whnf
    refine ⟨⟨by omega, by omega⟩, ?_⟩
    conv => whnf
    refine ⟨?_, ?_⟩
    · show 0 ≤ IntKind.i64.wrap ((n : Int) - IntKind.i64.wrap (((0 : Nat) : Int) - ((0 : Nat) : Int))) ∧ (IntKind.i64.wrap ((n : Int) - IntKind.i64.wrap (((0 : Nat) : Int) - ((0 : Nat) : Int)))).toNat * 40 ≤ 140737488355328
      rw [hw]; unfold lim at h; omega
    conv => whnf
    refine ⟨?_, ?_⟩
    · refine ⟨⟨?_, ?_⟩, ?_⟩
      · exact Int.le_refl 0
      · exact Int.natCast_nonneg _
      · exact .inl rfl
    conv => whnf
    exact ret_conR Shape.id (l := 0) (fun _ _ _ h => by
      simp only [RelL] at h
      obtain ⟨y, t, rfl, h1, rfl⟩ := h
      exact h1) rfl (Nat.zero_le _) (fun i hi => by omega)
  · conv => whnf
    exact ret_conR0 Shape.id (fun _ _ _ h => by
      simp only [RelL] at h
      obtain ⟨y, t, rfl, h1, rfl⟩ := h
      exact h1) rfl
end Go.W
end

section
open Go Go.Eng
namespace Go.W
def Parts (qs : Nat → Option Addr) (cs : Nat → Nat) (xs : Nat → List En) (n : Nat) (A : Anc) : Prop := ∀ i, i < n → SliceAt A (qs i) (xs i).length 4 (entE (xs i)) ∧ (xs i).length ≤ cs i
theorem Parts.later {qs : Nat → Option Addr} {cs : Nat → Nat} {xs : Nat → List En} {n : Nat} {A A' : Anc} (h : Parts qs cs xs n A) (hl : Later A A') : Parts qs cs xs n A' := fun i hi => ⟨(h i hi).1.later hl, (h i hi).2⟩
theorem concat_con (xs : Nat → List En) (qs : Nat → Option Addr) (cs : Nat → Nat) (n : Nat) (a : Option Addr) (c : Nat) (hlen : (cat xs n).length ≤ lim) (hn : n ≤ lim) :
    ConR P 93 [.ext a n c 1 (fun i => [.slice (qs i) (xs i).length (cs i)])] (Parts qs cs xs n) 30 4 (cat xs n).length (entE (cat xs n)) (fun y => y) := by
  refine con_ofP (args := [.ext a n c 1 (fun i => [.slice (qs i) (xs i).length (cs i)])]) (Pre := Parts qs cs xs n) ctx_ok Proofs.Try.func93 rfl (R := RowR 30 4 (cat xs n).length (entE (cat xs n)) (fun y => y)) rfl rfl fun A hat hpre => vcCode_sound ctx_ok tb_all _ _ _ _ _ ?_
  conv => whnf
  refine loop_i (fun i : Nat => [(0, .ext a n c 1 (fun i => [.slice (qs i) (xs i).length (cs i)])), (3, .v (.int .i64 (cat xs i).length)), (9, .ext a n c 1 (fun i => [.slice (qs i) (xs i).length (cs i)])), (10, .v (.int .i64 n)), (11, .v (.int .i64 i))]) (fun _ => []) (fun i => n - i)
    (fun i A => i ≤ n ∧ Parts qs cs xs n A) 0 [] ⟨⟨rfl, rfl, rfl, rfl, rfl, trivial⟩, trivial, rfl, rfl, rfl⟩ ⟨Nat.zero_le _, hpre⟩ ?_
  rintro i A1 ⟨hi, hpre⟩
  have hci : (cat xs i).length ≤ lim := Nat.le_trans (cat_mono xs hi) hlen
  conv => whnf
  refine ⟨fun h1 => ?_, fun h1 => ?_⟩
  · have h1 : i < n := lt_of_dec h1
    have hcs : (cat xs i).length + (xs i).length ≤ lim := by
      have := cat_mono xs (show i + 1 ≤ n from h1)
      simp only [cat, List.length_append] at this; omega
    conv => whnf
    refine ⟨⟨by omega, by omega⟩, ?_⟩
    conv => whnf
    refine ⟨fun h2 => ?_, fun h2 => ?_⟩
    · exfalso
      have h2 : decide (IntKind.i64.wrap (((cat xs i).length : Int) + ((xs i).length : Int)) < 0) = true := h2
      unfold lim at hcs
      rw [wrap_in (by omega) (by omega)] at h2
      simp at h2; omega
    conv => whnf
    refine next_i (i + 1) [] (by omega) ⟨⟨rfl, ?_, rfl, rfl, ?_, trivial⟩, trivial, rfl, rfl, rfl⟩ ⟨h1, hpre⟩
    · have := w_add (cat xs i).length (xs i).length (by unfold lim at hcs; omega)
      have e : ((cat xs i).length + (xs i).length : Nat) = (cat xs (i + 1)).length := by simp [cat]
      rw [e] at this
      exact this
    · exact w_succ i (by unfold lim at hn; omega)
  have h1 : n ≤ i := ge_of_dec h1
  have hin : i = n := by omega
  subst hin
  conv => whnf
  refine ⟨rfl, conR_row (grow_con (cat xs i).length hci) Shape.id (fun _ _ => trivial) fun A2 hA2 => ?_⟩
  conv => whnf
  refine loop_i (fun j : Nat => [(0, .ext a i c 1 (fun i => [.slice (qs i) (xs i).length (cs i)])), (6, .sl 0 4 0 (cat xs j).length), (25, .ext a i c 1 (fun i => [.slice (qs i) (xs i).length (cs i)])), (26, .v (.int .i64 i)), (27, .v (.int .i64 j))]) (fun j => [.row 30 4 (cat xs j).length (entE (cat xs j))]) (fun j => i - j)
    (fun j A => j ≤ i ∧ Parts qs cs xs i A) 0 [0] ⟨⟨rfl, rfl, rfl, rfl, rfl, trivial⟩, ⟨⟨rfl, rfl, rfl, fun k hk => absurd hk (Nat.not_lt_zero k)⟩, trivial⟩, rfl, rfl, rfl⟩ ⟨Nat.zero_le _, hpre.later hA2⟩ ?_
  rintro j A3 ⟨hj, hpre3⟩
  conv => whnf
  refine ⟨fun h3 => ?_, fun h3 => ?_⟩
  · have h3 : j < i := lt_of_dec h3
    have hcs : (cat xs j).length + (xs j).length ≤ lim := by
      have := cat_mono xs (show j + 1 ≤ i from h3)
      simp only [cat, List.length_append] at this; omega
    conv => whnf
    refine ⟨⟨by omega, by omega⟩, ?_⟩
    conv => whnf
    obtain ⟨p1, p2⟩ := hpre3 j h3
    refine ⟨⟨entE (xs j), p1, p2, fun k _ => ⟨rfl, entE_one _ _⟩, ?_⟩⟩
    conv => whnf
    refine ⟨⟨Nat.le_refl _, ?_⟩, ?_⟩
    · show ((cat xs j).length + (xs j).length) * 40 ≤ 140737488355328
      unfold lim at hcs; omega
    conv => whnf
    refine next_i (j + 1) [1] (by omega) ⟨⟨rfl, ?_, rfl, rfl, ?_, trivial⟩, ⟨⟨rfl, rfl, ?_, fun k hk => ?_⟩, trivial⟩, rfl, rfl, rfl⟩ ⟨h3, hpre3⟩
    · show (some ⟨[], SV.sl 1 4 0 ((cat xs j).length + (xs j).length)⟩ : Option Ent) = some ⟨[], .sl 1 4 0 (cat xs (j + 1)).length⟩
      simp [cat]
    · exact w_succ j (by unfold lim at hn; omega)
    · simp [cat]
    · exact joinE_entE (cat xs j) (xs j) k (by simp [cat] at hk; exact hk)
  · have h3 : i ≤ j := ge_of_dec h3
    have hij : j = i := by omega
    subst hij
    conv => whnf
    exact ret_conR Shape.id (l := 0) (fun _ _ _ h => by
      simp only [RelL] at h
      obtain ⟨y, t, rfl, h1, rfl⟩ := h
      exact h1) rfl (Nat.le_refl _) (fun i hi => rfl)
end Go.W
end

section
open Go Go.Eng
namespace Go.W
theorem concat_tab (ps : List Part) (a : Option Addr) (c : Nat) (hlen : (joinP ps).length ≤ lim) (hn : ps.length ≤ lim) :
    ConR P 93 [.ext a ps.length c 1 (tabE (rowsP ps))] (PartsP ps) 30 4 (joinP ps).length (entE (joinP ps)) (fun y => y) := by
  have h := concat_con (fun i => (partI ps i).2.2) (fun i => (partI ps i).1) (fun i => (partI ps i).2.1) ps.length a c (by rw [cat_join]; exact hlen) hn
  rw [cat_join] at h
  refine h.arg (fun β A vals hr _ => ?_) (fun A hp => hp)
  simp only [RelL] at hr ⊢
  obtain ⟨y, t, rfl, h1, rfl⟩ := hr
  exact ⟨y, [], rfl, ext_congr (rowsP_at ps) h1, rfl⟩
theorem with_con (p : Pg) (a0 : Option Addr) (c0 : Nat) (ps : List Part) (a : Option Addr) (c : Nat) (hlen : (joinP ps).length ≤ lim) (hn : ps.length ≤ lim) :
    ConR P 76 [p.sv a0 c0, .ext a ps.length c 1 (tabE (rowsP ps))] (PartsP ps) 30 4 (joinP ps).length (entE (joinP ps)) p.val := by
  refine con_ofP (args := [p.sv a0 c0, .ext a ps.length c 1 (tabE (rowsP ps))]) (Pre := PartsP ps) ctx_ok Proofs.Try.func76 rfl (R := RowR 30 4 (joinP ps).length (entE (joinP ps)) p.val) rfl rfl fun A hat hpre => vcCode_sound ctx_ok tb_all _ _ _ _ _ ?_
  conv => whnf
  refine ⟨rfl, conR_row (concat_tab ps a c hlen hn) Shape.id (fun A' hl => hpre.later hl) fun A2 hA2 => ?_⟩
  conv => whnf
  exact ret_conR p.shape (l := 2) (fun _ _ _ h => by
    simp only [RelL] at h
    obtain ⟨y, t, rfl, h1, rfl⟩ := h
    exact h1) rfl (Nat.le_refl _) (fun i hi => rfl)
theorem clone_con (p : Pg) (a : Option Addr) (c : Nat) (hlen : p.list.length ≤ lim) :
    ConR P 50 [p.sv a c] (fun A => SliceAt A a p.list.length 4 (entE p.list) ∧ p.list.length ≤ c) 30 4 p.list.length (entE p.list) p.val := by
  refine con_ofP (args := [p.sv a c]) (Pre := fun A => SliceAt A a p.list.length 4 (entE p.list) ∧ p.list.length ≤ c) ctx_ok Proofs.Try.func50 rfl (R := RowR 30 4 p.list.length (entE p.list) p.val) rfl rfl fun A hat hpre => vcCode_sound ctx_ok tb_all _ _ _ _ _ ?_
  conv => whnf
  refine ⟨fun A1 q hA1 hq => ?_⟩
  conv => whnf
  have hw := with_con p a c [(a, c, p.list)] (some q) 1 (by simpa [joinP] using hlen) (by simp [lim])
  rw [show joinP [(a, c, p.list)] = p.list by simp [joinP]] at hw
  refine ⟨rfl, conR_row (mkS := p.svL) hw p.shape (fun A' hl => fun i hi => ?_) fun A2 hA2 => ?_⟩
  · have : i = 0 := by simp at hi; exact hi
    subst this
    exact ⟨(hpre.1.later hA1).later hl, hpre.2⟩
  conv => whnf
  refine ret_conR p.shape (l := 2) (fun _ _ _ h => by
    simp only [RelL] at h
    obtain ⟨y, t, rfl, h1, rfl⟩ := h
    exact h1) rfl (Nat.le_refl _) (fun i hi => rfl)
end Go.W
end

section
open Go Go.Eng
namespace Go.W
theorem indexfunc_con (l : List En) (a : Option Addr) (c g : Nat) (q : Addr) (cells : List Value) (pr : En → Bool) (hg : ctx.fn g = true) (hc : ∀ e : En, Con P g [e.sv, .xptr q cells] (.bool (pr e))) (hl : l.length ≤ lim) :
    Con P 95 [.ext a l.length c 4 (entE l), .fn (.func g) [.xptr q cells]] (.int .i64 (ixV pr l)) := by
  refine con_of ctx_ok Proofs.Try.func95 rfl (R := fun w M e w' => e = .returned (.int .i64 (ixV pr l)) ∧ Stp M w w') rfl rfl fun A hat => vcCode_sound ctx_ok tb_all _ _ _ _ _ ?_
  conv => whnf
  refine loop_i (fun i : Nat => [(0, .ext a l.length c 4 (entE l)), (1, .fn (.func g) [.xptr q cells]), (7, .v (.int .i64 l.length)), (8, .v (.int .i64 i))]) (fun _ => []) (fun i => l.length - i)
      (fun i _ => i ≤ l.length ∧ ∀ j, j < i → pr (l.getD j En.zero) = false) 0 [] ⟨⟨rfl, rfl, rfl, rfl, trivial⟩, trivial, rfl, rfl, rfl⟩ ⟨Nat.zero_le _, fun j hj => by omega⟩ ?_
  rintro i A1 ⟨hi, hno⟩
  conv => whnf
  refine ⟨fun h1 => ?_, fun h1 => ?_⟩
  · have h1 : i < l.length := lt_of_dec h1
    conv => whnf
    refine ⟨⟨by omega, by omega⟩, ?_⟩
    conv => whnf
    refine ⟨hg, con_vc (hc (l.getD i En.zero)) ?_⟩
    conv => whnf
    refine ⟨fun h2 => ?_, fun h2 => ?_⟩
    · conv => whnf
      refine ret_con rfl ?_
      show Value.int .i64 (i : Int) = _
      have := fIx_is pr l i hi hno (fun _ => h2)
      rw [ixV_yes pr l (by omega), this]
    · conv => whnf
      refine next_i (i + 1) [] (by omega) ⟨⟨rfl, rfl, rfl, ?_, trivial⟩, trivial, rfl, rfl, rfl⟩ ⟨h1, fun j hj => ?_⟩
      · exact w_succ i (by unfold lim at hl; omega)
      · rcases Nat.lt_or_ge j i with h | h
        · exact hno j h
        · have : j = i := by omega
          subst this; exact h2
  · have h1 : l.length ≤ i := ge_of_dec h1
    conv => whnf
    refine ret_con rfl ?_
    show Value.int .i64 (-1 : Int) = _
    have := fIx_is pr l i hi hno (fun h => by omega)
    rw [ixV_no pr l (by omega)]
theorem at1_con (e : En) (key : Str) (q : Addr) : Con P 92 [e.sv, .xptr q [.string key]] (.bool (sEq e.key key)) := by
  refine con_of ctx_ok Proofs.Try.func92 rfl (R := fun w M e' w' => e' = .returned (.bool (sEq e.key key)) ∧ Stp M w w') rfl rfl fun A hat => vcCode_sound ctx_ok tb_all _ _ _ _ _ ?_
  conv => whnf
  exact ret_con rfl rfl
def gtB (x e : En) : Bool := !(sLt x.key e.key || sEq x.key e.key)
theorem put1_con (x e : En) (q : Addr) : Con P 94 [x.sv, .xptr q e.cells] (.bool (gtB x e)) := by
  refine con_of ctx_ok Proofs.Try.func94 rfl (R := fun w M e' w' => e' = .returned (.bool (gtB x e)) ∧ Stp M w w') rfl rfl fun A hat => vcCode_sound ctx_ok tb_all _ _ _ _ _ ?_
  conv => whnf
  exact ret_con rfl rfl
theorem index_con (p : Pg) (a : Option Addr) (c g : Nat) (q : Addr) (cells : List Value) (pr : En → Bool) (hg : ctx.fn g = true) (hc : ∀ e : En, Con P g [e.sv, .xptr q cells] (.bool (pr e))) (hl : p.list.length ≤ lim) :
    Con P 91 [p.sv a c, .fn (.func g) [.xptr q cells]] (.int .i64 (ixV pr p.list)) := by
  refine con_of ctx_ok Proofs.Try.func91 rfl (R := fun w M e w' => e = .returned (.int .i64 (ixV pr p.list)) ∧ Stp M w w') rfl rfl fun A hat => vcCode_sound ctx_ok tb_all _ _ _ _ _ ?_
  conv => whnf
  refine ⟨rfl, con_vc (indexfunc_con p.list a c g q cells pr hg hc hl) ?_⟩
  conv => whnf
  exact ret_con rfl rfl
theorem at_con (p : Pg) (a : Option Addr) (c : Nat) (key : Str) (hl : p.list.length ≤ lim) : Con P 74 [p.sv a c, .v (.string key)] (.int .i64 (ixV (fun e => sEq e.key key) p.list)) := by
  refine con_of ctx_ok Proofs.Try.func74 rfl (R := fun w M e w' => e = .returned (.int .i64 (ixV (fun e => sEq e.key key) p.list)) ∧ Stp M w w') rfl rfl fun A hat => vcCode_sound ctx_ok tb_all _ _ _ _ _ ?_
  conv => whnf
  refine ⟨rfl, con_frz 1 rfl rfl (fun q => index_con p a c 92 q [.string key] (fun e => sEq e.key key) rfl (fun e => at1_con e key q) hl) ?_⟩
  conv => whnf
  exact ret_con rfl rfl
end Go.W
end

section
open Go Go.Eng
namespace Go.W
theorem with_rows (p : Pg) (a0 : Option Addr) (c0 : Nat) (rows : List (List Value)) (ps : List Part) (a : Option Addr) (c n : Nat) (hr : rows = rowsP ps) (hn : n = ps.length) (hlen : (joinP ps).length ≤ lim) (h2 : n ≤ lim) :
    ConR P 76 [p.sv a0 c0, .ext a n c 1 (tabE rows)] (PartsP ps) 30 4 (joinP ps).length (entE (joinP ps)) p.val := by
  subst hr; subst hn; exact with_con p a0 c0 ps a c hlen h2
def putL (l : List En) (e : En) : List En :=
  bif Nat.blt (fIx (fun x => sEq x.key e.key) l) l.length then l.take (fIx (fun x => sEq x.key e.key) l) ++ (e :: l.drop (fIx (fun x => sEq x.key e.key) l + 1))
  else l.take (fIx (fun x => gtB x e) l) ++ (e :: l.drop (fIx (fun x => gtB x e) l))
def Pg.puts (p : Pg) (e : En) : Pg × Int := bif Pg.has p e.key then (p.put (putL p.list e), 0) else (Pg.zero, 73)
theorem put_con (p : Pg) (e : En) (a : Option Addr) (c : Nat) (hl : p.list.length + 1 ≤ lim) (hlc : p.list.length ≤ c) :
    ConR P 78 [p.sv a c, e.sv] (fun A => SliceAt A a p.list.length 4 (entE p.list)) 30 4 (Pg.puts p e).1.list.length (entE (Pg.puts p e).1.list) (fun y => .tuple #[(Pg.puts p e).1.val y, .int .i64 (Pg.puts p e).2]) := by
  refine con_ofP (args := [p.sv a c, e.sv]) (Pre := fun A => SliceAt A a p.list.length 4 (entE p.list)) ctx_ok Proofs.Try.func78 rfl (R := RowR 30 4 (Pg.puts p e).1.list.length (entE (Pg.puts p e).1.list) (fun y => .tuple #[(Pg.puts p e).1.val y, .int .i64 (Pg.puts p e).2])) rfl rfl fun A hat hpre => vcCode_sound ctx_ok tb_all _ _ _ _ _ ?_
  conv => whnf
  refine ⟨rfl, con_vc (has_con p a c e.key) ?_⟩
  conv => whnf
  refine ⟨fun h1 => ?_, fun h1 => ?_⟩
  · have h1 : Pg.has p e.key = false := by
      have : (!Pg.has p e.key) = true := h1
      simpa using this
    have hp : Pg.puts p e = (Pg.zero, 73) := by unfold Pg.puts; rw [h1]; rfl
    rw [hp]
    conv => whnf
    exact ret_conR0 (Pg.zero.shapeT 73) (fun _ _ _ h => two_res h) rfl
  have h1 : Pg.has p e.key = true := by
    have : (!Pg.has p e.key) = false := h1
    simpa using this
  have hp : Pg.puts p e = (p.put (putL p.list e), 0) := by unfold Pg.puts; rw [h1]; rfl
  rw [hp]
  conv => whnf
  refine ⟨fun A1 q1 hA1 hq1 => ?_⟩
  have hq1 : SliceAt A1 (some q1) 1 4 (entE [e]) := SliceAt.congr hq1 (fun i hi => by
    have : i = 0 := by omega
    subst this; rfl)
  conv => whnf
  refine ⟨rfl, con_vc (at_con p a c e.key (by omega)) ?_⟩
  by_cases hix : fIx (fun x => sEq x.key e.key) p.list < p.list.length
  · rw [ixV_yes _ _ hix]
    have hpl : putL p.list e = p.list.take (fIx (fun x => sEq x.key e.key) p.list) ++ (e :: p.list.drop (fIx (fun x => sEq x.key e.key) p.list + 1)) := by
      unfold putL
      rw [show Nat.blt (fIx (fun x => sEq x.key e.key) p.list) p.list.length = true from Nat.ble_eq_true_of_le hix]; rfl
    rw [hpl]
    generalize fIx (fun x => sEq x.key e.key) p.list = i at hix
    conv => whnf
    refine ⟨fun h2 => ?_, fun h2 => ?_⟩
    · conv => whnf
      refine .one none rfl ?_
      conv => whnf
      refine ⟨⟨⟨by omega, by omega, by omega⟩, by omega⟩, ?_⟩
      conv => whnf
      have hw : IntKind.i64.wrap ((i : Int) + 1) = ((i + 1 : Nat) : Int) := by
        unfold lim at hl
        rw [wrap_in (by omega) (by omega)]; rfl
      refine ⟨?_, ?_⟩
      · show ((0 : Int) ≤ IntKind.i64.wrap ((i : Int) + 1) ∧ IntKind.i64.wrap ((i : Int) + 1) ≤ (p.list.length : Int)) ∧ p.list.length ≤ p.list.length
        rw [hw]; omega
      conv => whnf
      refine ⟨fun A2 q2 hA2 hq2 => ?_⟩
      conv => whnf
      have hj : joinP [(cutQ a 0 i, i, cutL p.list 0 i), (some q1, 1, [e]), (cutQ a (i + 1) c, c - (i + 1), cutL p.list (i + 1) p.list.length)] = p.list.take i ++ (e :: p.list.drop (i + 1)) := by
        simp [joinP, cutL_head, cutL_tail]
      have hwr := fun (rows : List (List Value)) hr => with_rows p a c rows [(cutQ a 0 i, i, cutL p.list 0 i), (some q1, 1, [e]), (cutQ a (i + 1) c, c - (i + 1), cutL p.list (i + 1) p.list.length)] (some q2) 3 3 hr rfl (by rw [hj]; simp; omega) (by simp [lim])
      rw [hj] at hwr
      refine ⟨rfl, conR_row (mkS := p.svL) (hwr _ ?_) p.shape (fun A' hl' => ?_) fun A3 hA3 => ?_⟩
      · simp only [rowsP, hw, Int.toNat_natCast, cutL_len _ 0 i (show i ≤ p.list.length by omega), cutL_len _ (i + 1) p.list.length (Nat.le_refl _), Nat.sub_zero, cutQ]
        rfl
      · intro k hk
        match k, hk with
        | 0, _ => exact ⟨cut_at (((hpre.later hA1).later hA2).later hl') (Nat.zero_le _) (by omega) (Nat.le_refl _), by rw [show partI _ 0 = (cutQ a 0 i, i, cutL p.list 0 i) from rfl]; simp only; rw [cutL_len _ 0 i (by omega)]; omega⟩
        | 1, _ => exact ⟨(hq1.later hA2).later hl', Nat.le_refl _⟩
        | 2, _ => exact ⟨cut_at (((hpre.later hA1).later hA2).later hl') (by omega) (Nat.le_refl _) hlc, by rw [show partI _ 2 = (cutQ a (i + 1) c, c - (i + 1), cutL p.list (i + 1) p.list.length) from rfl]; simp only; rw [cutL_len _ (i + 1) p.list.length (Nat.le_refl _)]; omega⟩
      conv => whnf
      exact ret_conR ((p.put (p.list.take i ++ (e :: p.list.drop (i + 1)))).shapeT 0) (l := 3) (fun _ _ _ h => two_res h) rfl (Nat.le_refl _) (fun i hi => rfl)
    · exfalso
      have h2 : decide ((i : Int) ≥ 0) = false := h2
      simp at h2
  · rw [ixV_no _ _ hix]
    have hpl : putL p.list e = p.list.take (fIx (fun x => gtB x e) p.list) ++ (e :: p.list.drop (fIx (fun x => gtB x e) p.list)) := by
      unfold putL
      have : Nat.blt (fIx (fun x => sEq x.key e.key) p.list) p.list.length = false := by
        cases hb : Nat.blt (fIx (fun x => sEq x.key e.key) p.list) p.list.length with
        | false => rfl
        | true => exact absurd (Nat.le_of_ble_eq_true hb) hix
      rw [this]; rfl
    rw [hpl]
    conv => whnf
    refine ⟨fun h2 => ?_, fun h2 => ?_⟩
    · exfalso
      have h2 : decide ((-1 : Int) ≥ 0) = true := h2
      simp at h2
    conv => whnf
    refine ⟨rfl, con_frz 1 rfl rfl (fun q => index_con p a c 94 q e.cells (fun x => gtB x e) rfl (fun x => put1_con x e q) (by omega)) ?_⟩
    have hfl := fIx_le (fun x => gtB x e) p.list
    by_cases hiy : fIx (fun x => gtB x e) p.list < p.list.length
    · rw [ixV_yes _ _ hiy]
      generalize fIx (fun x => gtB x e) p.list = i at hiy hfl
      conv => whnf
      refine ⟨fun h3 => ?_, fun h3 => ?_⟩
      · exfalso
        have h3 : decide ((i : Int) < 0) = true := h3
        simp at h3; omega
      conv => whnf
      refine .one none rfl ?_
      conv => whnf
      refine ⟨⟨⟨by omega, by omega, by omega⟩, by omega⟩, ?_⟩
      conv => whnf
      refine ⟨⟨⟨by omega, by omega⟩, by omega⟩, ?_⟩
      conv => whnf
      refine ⟨fun A2 q2 hA2 hq2 => ?_⟩
      conv => whnf
      have hj : joinP [(cutQ a 0 i, i, cutL p.list 0 i), (some q1, 1, [e]), (cutQ a i c, c - i, cutL p.list i p.list.length)] = p.list.take i ++ (e :: p.list.drop i) := by
        simp [joinP, cutL_head, cutL_tail]
      have hwr := fun (rows : List (List Value)) hr => with_rows p a c rows [(cutQ a 0 i, i, cutL p.list 0 i), (some q1, 1, [e]), (cutQ a i c, c - i, cutL p.list i p.list.length)] (some q2) 3 3 hr rfl (by rw [hj]; simp; omega) (by simp [lim])
      rw [hj] at hwr
      refine ⟨rfl, conR_row (mkS := p.svL) (hwr _ ?_) p.shape (fun A' hl' => ?_) fun A3 hA3 => ?_⟩
      · simp only [rowsP,  Int.toNat_natCast, cutL_len _ 0 i (show i ≤ p.list.length by omega), cutL_len _ i p.list.length (Nat.le_refl _), Nat.sub_zero, cutQ]
        rfl
      · intro k hk
        match k, hk with
        | 0, _ => exact ⟨cut_at (((hpre.later hA1).later hA2).later hl') (Nat.zero_le _) (by omega) (Nat.le_refl _), by rw [show partI _ 0 = (cutQ a 0 i, i, cutL p.list 0 i) from rfl]; simp only; rw [cutL_len _ 0 i (by omega)]; omega⟩
        | 1, _ => exact ⟨(hq1.later hA2).later hl', Nat.le_refl _⟩
        | 2, _ => exact ⟨cut_at (((hpre.later hA1).later hA2).later hl') (by omega) (Nat.le_refl _) hlc, by rw [show partI _ 2 = (cutQ a i c, c - i, cutL p.list i p.list.length) from rfl]; simp only; rw [cutL_len _ i p.list.length (Nat.le_refl _)]; omega⟩
      conv => whnf
      exact ret_conR ((p.put (p.list.take i ++ (e :: p.list.drop i))).shapeT 0) (l := 3) (fun _ _ _ h => two_res h) rfl (Nat.le_refl _) (fun i hi => rfl)
    · rw [ixV_no _ _ hiy]
      have hfe : fIx (fun x => gtB x e) p.list = p.list.length := by omega
      rw [hfe]
      conv => whnf
      refine ⟨fun h3 => ?_, fun h3 => ?_⟩
      · conv => whnf
        refine .one none rfl ?_
        conv => whnf
        refine ⟨⟨⟨by omega, by omega, by omega⟩, by omega⟩, ?_⟩
        conv => whnf
        refine ⟨⟨⟨by omega, by omega⟩, by omega⟩, ?_⟩
        conv => whnf
        refine ⟨fun A2 q2 hA2 hq2 => ?_⟩
        conv => whnf
        have hj : joinP [(cutQ a 0 p.list.length, p.list.length, cutL p.list 0 p.list.length), (some q1, 1, [e]), (cutQ a p.list.length c, c - p.list.length, cutL p.list p.list.length p.list.length)] = p.list.take p.list.length ++ (e :: p.list.drop p.list.length) := by
          simp [joinP, cutL_tail]
        have hwr := fun (rows : List (List Value)) hr => with_rows p a c rows [(cutQ a 0 p.list.length, p.list.length, cutL p.list 0 p.list.length), (some q1, 1, [e]), (cutQ a p.list.length c, c - p.list.length, cutL p.list p.list.length p.list.length)] (some q2) 3 3 hr rfl (by rw [hj]; simp; omega) (by simp [lim])
        rw [hj] at hwr
        refine ⟨rfl, conR_row (mkS := p.svL) (hwr _ ?_) p.shape (fun A' hl' => ?_) fun A3 hA3 => ?_⟩
        · simp only [rowsP,  Int.toNat_natCast, cutL_len _ 0 p.list.length (show p.list.length ≤ p.list.length by omega), cutL_len _ p.list.length p.list.length (Nat.le_refl _), Nat.sub_zero, cutQ]
          rfl
        · intro k hk
          match k, hk with
          | 0, _ => exact ⟨cut_at (((hpre.later hA1).later hA2).later hl') (Nat.zero_le _) (by omega) (Nat.le_refl _), by rw [show partI _ 0 = (cutQ a 0 p.list.length, p.list.length, cutL p.list 0 p.list.length) from rfl]; simp only; rw [cutL_len _ 0 p.list.length (by omega)]; omega⟩
          | 1, _ => exact ⟨(hq1.later hA2).later hl', Nat.le_refl _⟩
          | 2, _ => exact ⟨cut_at (((hpre.later hA1).later hA2).later hl') (by omega) (Nat.le_refl _) hlc, by rw [show partI _ 2 = (cutQ a p.list.length c, c - p.list.length, cutL p.list p.list.length p.list.length) from rfl]; simp only; rw [cutL_len _ p.list.length p.list.length (Nat.le_refl _)]; omega⟩
        conv => whnf
        exact ret_conR ((p.put (p.list.take p.list.length ++ (e :: p.list.drop p.list.length))).shapeT 0) (l := 3) (fun _ _ _ h => two_res h) rfl (Nat.le_refl _) (fun i hi => rfl)
      · exfalso
        have h3 : decide ((-1 : Int) < 0) = false := h3
        simp at h3
end Go.W
end

section
open Go Go.Eng
namespace Go.W
def Pg.removes (p : Pg) (key : Str) : Pg × Int :=
  bif Nat.blt (fIx (fun x => sEq x.key key) p.list) p.list.length then (p.put (p.list.take (fIx (fun x => sEq x.key key) p.list) ++ p.list.drop (fIx (fun x => sEq x.key key) p.list + 1)), 0) else (Pg.zero, 4)
theorem remove_con (p : Pg) (key : Str) (a : Option Addr) (c : Nat) (hl : p.list.length ≤ lim) (hlc : p.list.length ≤ c) :
    ConR P 79 [p.sv a c, .v (.string key)] (fun A => SliceAt A a p.list.length 4 (entE p.list)) 30 4 (Pg.removes p key).1.list.length (entE (Pg.removes p key).1.list) (fun y => .tuple #[(Pg.removes p key).1.val y, .int .i64 (Pg.removes p key).2]) := by
  refine con_ofP (args := [p.sv a c, .v (.string key)]) (Pre := fun A => SliceAt A a p.list.length 4 (entE p.list)) ctx_ok Proofs.Try.func79 rfl (R := RowR 30 4 (Pg.removes p key).1.list.length (entE (Pg.removes p key).1.list) (fun y => .tuple #[(Pg.removes p key).1.val y, .int .i64 (Pg.removes p key).2])) rfl rfl fun A hat hpre => vcCode_sound ctx_ok tb_all _ _ _ _ _ ?_
  conv => whnf
  refine ⟨rfl, con_vc (at_con p a c key hl) ?_⟩
  by_cases hix : fIx (fun x => sEq x.key key) p.list < p.list.length
  · rw [ixV_yes _ _ hix]
    have hp : Pg.removes p key = (p.put (p.list.take (fIx (fun x => sEq x.key key) p.list) ++ p.list.drop (fIx (fun x => sEq x.key key) p.list + 1)), 0) := by
      unfold Pg.removes
      rw [show Nat.blt (fIx (fun x => sEq x.key key) p.list) p.list.length = true from Nat.ble_eq_true_of_le hix]; rfl
    rw [hp]
    generalize fIx (fun x => sEq x.key key) p.list = i at hix
    conv => whnf
    refine ⟨fun h2 => ?_, fun h2 => ?_⟩
    · exfalso
      have h2 : decide ((i : Int) < 0) = true := h2
      simp at h2; omega
    conv => whnf
    refine .one none rfl ?_
    conv => whnf
    refine ⟨⟨⟨by omega, by omega, by omega⟩, by omega⟩, ?_⟩
    conv => whnf
    have hw : IntKind.i64.wrap ((i : Int) + 1) = ((i + 1 : Nat) : Int) := by
      unfold lim at hl
      rw [wrap_in (by omega) (by omega)]; rfl
    refine ⟨?_, ?_⟩
    · show ((0 : Int) ≤ IntKind.i64.wrap ((i : Int) + 1) ∧ IntKind.i64.wrap ((i : Int) + 1) ≤ (p.list.length : Int)) ∧ p.list.length ≤ p.list.length
      rw [hw]; omega
    conv => whnf
    refine ⟨fun A2 q2 hA2 hq2 => ?_⟩
    conv => whnf
    have hj : joinP [(cutQ a 0 i, i, cutL p.list 0 i), (cutQ a (i + 1) c, c - (i + 1), cutL p.list (i + 1) p.list.length)] = p.list.take i ++ p.list.drop (i + 1) := by
      simp [joinP, cutL_head, cutL_tail]
    have hwr := fun (rows : List (List Value)) hr => with_rows p a c rows [(cutQ a 0 i, i, cutL p.list 0 i), (cutQ a (i + 1) c, c - (i + 1), cutL p.list (i + 1) p.list.length)] (some q2) 2 2 hr rfl (by rw [hj]; simp; omega) (by simp [lim])
    rw [hj] at hwr
    refine ⟨rfl, conR_row (mkS := p.svL) (hwr _ ?_) p.shape (fun A' hl' => ?_) fun A3 hA3 => ?_⟩
    · simp only [rowsP, hw, Int.toNat_natCast, cutL_len _ 0 i (show i ≤ p.list.length by omega), cutL_len _ (i + 1) p.list.length (Nat.le_refl _), Nat.sub_zero, cutQ]
    · intro k hk
      match k, hk with
      | 0, _ => exact ⟨cut_at ((hpre.later hA2).later hl') (Nat.zero_le _) (by omega) (Nat.le_refl _), by rw [show partI _ 0 = (cutQ a 0 i, i, cutL p.list 0 i) from rfl]; simp only; rw [cutL_len _ 0 i (by omega)]; omega⟩
      | 1, _ => exact ⟨cut_at ((hpre.later hA2).later hl') (by omega) (Nat.le_refl _) hlc, by rw [show partI _ 1 = (cutQ a (i + 1) c, c - (i + 1), cutL p.list (i + 1) p.list.length) from rfl]; simp only; rw [cutL_len _ (i + 1) p.list.length (Nat.le_refl _)]; omega⟩
    conv => whnf
    exact ret_conR ((p.put (p.list.take i ++ p.list.drop (i + 1))).shapeT 0) (l := 2) (fun _ _ _ h => two_res h) rfl (Nat.le_refl _) (fun i hi => rfl)
  · rw [ixV_no _ _ hix]
    have hp : Pg.removes p key = (Pg.zero, 4) := by
      unfold Pg.removes
      have : Nat.blt (fIx (fun x => sEq x.key key) p.list) p.list.length = false := by
        cases hb : Nat.blt (fIx (fun x => sEq x.key key) p.list) p.list.length with
        | false => rfl
        | true => exact absurd (Nat.le_of_ble_eq_true hb) hix
      rw [this]; rfl
    rw [hp]
    conv => whnf
    refine ⟨fun h2 => ?_, fun h2 => ?_⟩
    · conv => whnf
      exact ret_conR0 (Pg.zero.shapeT 4) (fun _ _ _ h => two_res h) rfl
    · exfalso
      have h2 : decide ((-1 : Int) < 0) = false := h2
      simp at h2
end Go.W
end

section
open Go Go.Eng
namespace Go.W
def mergeBad (p q : Pg) : Bool := bif bif !(p.leaf == q.leaf) then true else sEq p.high s0 then true else !sEq p.high q.low
def Pg.merges (p q : Pg) : Pg × Int := bif mergeBad p q then (Pg.zero, 72) else (⟨p.leaf, p.low, q.high, q.right, p.list ++ q.list⟩, 0)
theorem merge_con (p q : Pg) (a b : Option Addr) (c d : Nat) (hl : p.list.length + q.list.length ≤ lim) (hpc : p.list.length ≤ c) (hqd : q.list.length ≤ d) :
    ConR P 82 [p.sv a c, q.sv b d] (fun A => SliceAt A a p.list.length 4 (entE p.list) ∧ SliceAt A b q.list.length 4 (entE q.list)) 30 4 (Pg.merges p q).1.list.length (entE (Pg.merges p q).1.list) (fun y => .tuple #[(Pg.merges p q).1.val y, .int .i64 (Pg.merges p q).2]) := by
  refine con_ofP (args := [p.sv a c, q.sv b d]) (Pre := fun A => SliceAt A a p.list.length 4 (entE p.list) ∧ SliceAt A b q.list.length 4 (entE q.list)) ctx_ok Proofs.Try.func82 rfl (R := RowR 30 4 (Pg.merges p q).1.list.length (entE (Pg.merges p q).1.list) (fun y => .tuple #[(Pg.merges p q).1.val y, .int .i64 (Pg.merges p q).2])) rfl rfl fun A hat hpre => vcCode_sound ctx_ok tb_all _ _ _ _ _ ?_
  conv => whnf
  refine ⟨fun h1 => ?_, fun h1 => ?_⟩
  · have h1 : mergeBad p q = true := h1
    have hp : Pg.merges p q = (Pg.zero, 72) := by unfold Pg.merges; rw [h1]; rfl
    rw [hp]
    conv => whnf
    exact ret_conR0 (Pg.zero.shapeT 72) (fun _ _ _ h => two_res h) rfl
  · have h1 : mergeBad p q = false := h1
    have hp : Pg.merges p q = (⟨p.leaf, p.low, q.high, q.right, p.list ++ q.list⟩, 0) := by unfold Pg.merges; rw [h1]; rfl
    rw [hp]
    conv => whnf
    refine ⟨fun A2 q2 hA2 hq2 => ?_⟩
    conv => whnf
    have hj : joinP [(a, c, p.list), (b, d, q.list)] = p.list ++ q.list := by simp [joinP]
    have hwr := with_con p a c [(a, c, p.list), (b, d, q.list)] (some q2) 2 (by rw [hj]; simp; omega) (by simp [lim])
    rw [hj] at hwr
    refine ⟨rfl, conR_row (mkS := p.svL) hwr p.shape (fun A' hl' => ?_) fun A3 hA3 => ?_⟩
    · intro k hk
      match k, hk with
      | 0, _ => exact ⟨(hpre.1.later hA2).later hl', hpc⟩
      | 1, _ => exact ⟨(hpre.2.later hA2).later hl', hqd⟩
    conv => whnf
    refine .one (some [4]) rfl ?_
    conv => whnf
    exact ret_conR ((⟨p.leaf, p.low, q.high, q.right, p.list ++ q.list⟩ : Pg).shapeT 0) (l := 3) (fun _ _ _ h => two_res h) rfl (Nat.le_refl _) (fun i hi => rfl)
end Go.W
end

section
open Go Go.Eng
namespace Go.W
def emptyR (lo hi : Str) : Bool := !sEq hi s0 && (sLt hi lo || sEq hi lo)
theorem empty_con (lo hi : Str) : Con P 83 [.v (.agg #[.string lo, .string hi])] (.bool (emptyR lo hi)) := by
  refine con_of ctx_ok Proofs.Try.func83 rfl (R := fun w M e w' => e = .returned (.bool (emptyR lo hi)) ∧ Stp M w w') rfl rfl fun A hat => vcCode_sound ctx_ok tb_all _ _ _ _ _ ?_
  conv => whnf
  refine ret_con rfl ?_
  show Value.bool (bif !sEq hi s0 then sLt hi lo || sEq hi lo else false) = .bool (emptyR lo hi)
  unfold emptyR
  cases sEq hi s0 <;> rfl
theorem apply1_con (e : En) (d : De) (v : Value) (q : Addr) : Con P 81 [e.sv, .xptr q [.int .i64 d.kind, .string d.entry.key, .int .i64 d.entry.slot, .int .i64 d.entry.gen, .int .i64 d.entry.child, .string d.key, .int .i64 d.page, .bool d.right.leaf, .string d.right.low, .string d.right.high, .int .i64 d.right.right, v]] (.bool (!sLt e.key d.key)) := by
  refine con_of ctx_ok Proofs.Try.func81 rfl (R := fun w M e' w' => e' = .returned (.bool (!sLt e.key d.key)) ∧ Stp M w w') rfl rfl fun A hat => vcCode_sound ctx_ok tb_all _ _ _ _ _ ?_
  conv => whnf
  exact ret_con rfl rfl
theorem must_ok : Con P 77 [.v (.int .i64 0)] (.tuple #[]) := by
  refine con_of ctx_ok Proofs.Try.func77 rfl (R := fun w M e w' => e = .returned (.tuple #[]) ∧ Stp M w w') rfl rfl fun A hat => vcCode_sound ctx_ok tb_all _ _ _ _ _ ?_
  conv => whnf
  refine ⟨fun h => ?_, fun h => ?_⟩
  · exact absurd h (by decide)
  · conv => whnf
    exact ret_con rfl rfl
theorem must_bad (e : Int) (he : e ≠ 0) : ConX P 77 [.v (.int .i64 e)] [{ v := .iface 119 (.agg #[.int .i64 e]), recovered := false }] := by
  refine con_of ctx_ok Proofs.Try.func77 rfl (args := [.v (.int .i64 e)]) (R := fun w M e' w' => e' = .panicked [{ v := .iface 119 (.agg #[.int .i64 e]), recovered := false }] ∧ Stp M w w') rfl rfl fun A hat => vcCode_sound ctx_ok tb_all _ _ _ _ _ ?_
  conv => whnf
  refine ⟨fun h => ?_, fun h => ?_⟩
  · conv => whnf
    exact pan_con
  · exfalso
    have h : (!(e == 0)) = false := h
    simp at h; exact he h
theorem caught_con (e : Int) : Con P 52 [.v (.iface 119 (.agg #[.int .i64 e]))] (.int .i64 e) := by
  refine con_of ctx_ok Proofs.Try.func52 rfl (R := fun w M e' w' => e' = .returned (.int .i64 e) ∧ Stp M w w') rfl rfl fun A hat => vcCode_sound ctx_ok tb_all _ _ _ _ _ ?_
  conv => whnf
  refine ⟨fun h => ?_, fun h => ?_⟩
  · exact absurd h (by decide)
  · conv => whnf
    exact ret_con rfl rfl
end Go.W
end

section
open Go Go.Eng
namespace Go.W
def bad0 (p : Pg) : Bool := emptyR p.low p.high || (decide (p.right < 0) || (!p.leaf && (p.list.length : Int) == 0))
def keyAt (p : Pg) (i : Nat) : Str := (p.list.getD i En.zero).key
def refBad (e : En) : Bool := !cellsB [.int .i64 e.slot, .int .i64 e.gen] [.int .i64 0, .int .i64 0]
def orderBad (p : Pg) (i : Nat) : Bool := decide ((i : Int) > 0) && (sLt (keyAt p i) (keyAt p (i - 1)) || sEq (keyAt p i) (keyAt p (i - 1)))
def entryBad (p : Pg) (i : Nat) : Bool :=
  bif p.leaf then !((p.list.getD i En.zero).child == 0)
  else refBad (p.list.getD i En.zero) || (decide ((p.list.getD i En.zero).child < 1) || (((i : Int) == 0) && !sEq (keyAt p i) p.low))
def badAt (p : Pg) (i : Nat) : Bool := orderBad p i || (!Pg.has p (keyAt p i) || entryBad p i)
def badN (p : Pg) : Nat → Bool
  | 0 => bad0 p
  | n + 1 => badN p n || badAt p n
def Pg.bad (p : Pg) : Bool := badN p p.list.length
def checkV (p : Pg) : Int := bif Pg.bad p then 70 else 0
theorem go_ {B : Anc} {n : Nat} {c : Code} {A : Anc} {env : Env} {hp : List Chunk} {K : Kont} (h : vcStep P ctx B DS.nil n c A env hp K) : SndS P B DS.nil n c A env hp K := ⟨vcStep_sound ctx_ok tb_all _ _ _ _ _ h⟩
theorem order_eq {p : Pg} {i : Nat} (hl : p.list.length ≤ lim) (h1 : i < p.list.length) : (bif decide ((i : Int) > 0) then (sLt (keyAt p i) (p.list.getD (IntKind.i64.wrap ((i : Int) - 1)).toNat En.zero).key || sEq (keyAt p i) (p.list.getD (IntKind.i64.wrap ((i : Int) - 1)).toNat En.zero).key) else false) = orderBad p i := by
  unfold orderBad
  by_cases h : (i : Int) > 0
  · unfold lim at hl
    rw [wrap_in (by omega) (by omega), show ((i : Int) - 1).toNat = i - 1 by omega]
    simp only [h, decide_true, cond_true, Bool.true_and]
    rfl
  · simp only [h, decide_false, cond_false, Bool.false_and]
theorem check_con (p : Pg) (a : Option Addr) (c : Nat) (hl : p.list.length ≤ lim) : Con P 58 [p.sv a c] (.int .i64 (checkV p)) := by
  refine con_of ctx_ok Proofs.Try.func58 rfl (R := fun w M e w' => e = .returned (.int .i64 (checkV p)) ∧ Stp M w w') rfl rfl fun A hat => vcStep_sound ctx_ok tb_all _ _ _ _ _ ?_
  conv => whnf
  refine go_ ?_
  conv => whnf
  refine ⟨rfl, con_vc (rng_con p a c) ?_⟩
  conv => whnf
  refine ⟨rfl, con_vc (empty_con p.low p.high) ?_⟩
  conv => whnf
  refine go_ ?_
  conv => whnf
  refine go_ ?_
  conv => whnf
  refine loop_i (fun i : Nat => [(1, .loc 0 0), (3, .v (.bool (badN p i))), (26, .ext a p.list.length c 4 (entE p.list)), (27, .v (.int .i64 p.list.length)), (28, .v (.int .i64 i))])
    (fun _ => [.box 24 [.v (.bool p.leaf), .v (.string p.low), .v (.string p.high), .v (.int .i64 p.right), .ext a p.list.length c 4 (entE p.list)]]) (fun i => p.list.length - i)
    (fun i _ => i ≤ p.list.length) 0 [0] ⟨⟨rfl, ?_, rfl, rfl, rfl, trivial⟩, ⟨⟨rfl, rfl⟩, trivial⟩, rfl, rfl, rfl⟩ (Nat.zero_le _) ?_
  · show (some ⟨[], .v (.bool (bif bif emptyR p.low p.high then true else decide (p.right < 0) then true else bif !p.leaf then (p.list.length : Int) == 0 else false))⟩ : Option Ent) = some ⟨[], .v (.bool (bad0 p))⟩
    unfold bad0
    cases emptyR p.low p.high <;> cases decide (p.right < 0) <;> cases p.leaf <;> simp
  rintro i A1 hi
  repeat (refine go_ ?_; conv => whnf)
  refine ⟨fun h1 => ?_, fun h1 => ?_⟩
  · have h1 : i < p.list.length := lt_of_dec h1
    repeat (refine go_ ?_; conv => whnf)
    refine ⟨⟨by omega, by omega⟩, ?_⟩
    conv => whnf
    repeat (refine go_ ?_; conv => whnf)
    refine .one none rfl ?_
    conv => whnf
    refine ⟨?_, ?_⟩
    · conv => whnf
      intro g1
      have g1 : decide ((i : Int) > 0) = true := g1
      conv => whnf
      intro g2
      show 0 ≤ IntKind.i64.wrap ((i : Int) - 1) ∧ IntKind.i64.wrap ((i : Int) - 1) < (p.list.length : Int)
      simp at g1
      unfold lim at hl
      rw [wrap_in (by omega) (by omega)]; omega
    conv => whnf
    refine ⟨rfl, gcon_vc (rng_con p a c) ?_⟩
    conv => whnf
    refine ⟨rfl, gcon_vc (in_con p.low p.high (p.list.getD i En.zero).key) ?_⟩
    conv => whnf
    repeat (refine go_ ?_; conv => whnf)
    refine ⟨fun h2 => ?_, fun h2 => ?_⟩
    · repeat (refine go_ ?_; conv => whnf)
      refine next_i (i + 1) [0] (by omega) ⟨⟨rfl, ?_, rfl, rfl, ?_, trivial⟩, ⟨⟨rfl, rfl⟩, trivial⟩, rfl, rfl, rfl⟩ h1
      · have h2 : p.leaf = true := h2
        show (some ⟨[], .v (.bool (bif bif bif badN p i then true else bif decide ((i : Int) > 0) then (sLt (keyAt p i) (p.list.getD (IntKind.i64.wrap ((i : Int) - 1)).toNat En.zero).key || sEq (keyAt p i) (p.list.getD (IntKind.i64.wrap ((i : Int) - 1)).toNat En.zero).key) else false then true else !Pg.has p (keyAt p i) then true else !((p.list.getD i En.zero).child == 0)))⟩ : Option Ent) = some ⟨[], .v (.bool (badN p (i + 1)))⟩
        rw [order_eq hl h1, badN, badAt, entryBad, h2]
        cases badN p i <;> cases orderBad p i <;> cases Pg.has p (keyAt p i) <;> rfl
      · exact w_succ i (by unfold lim at hl; omega)
    · repeat (refine go_ ?_; conv => whnf)
      refine next_i (i + 1) [0] (by omega) ⟨⟨rfl, ?_, rfl, rfl, ?_, trivial⟩, ⟨⟨rfl, rfl⟩, trivial⟩, rfl, rfl, rfl⟩ h1
      · have h2 : p.leaf = false := h2
        show (some ⟨[], .v (.bool (bif bif bif bif bif badN p i then true else bif decide ((i : Int) > 0) then (sLt (keyAt p i) (p.list.getD (IntKind.i64.wrap ((i : Int) - 1)).toNat En.zero).key || sEq (keyAt p i) (p.list.getD (IntKind.i64.wrap ((i : Int) - 1)).toNat En.zero).key) else false then true else !Pg.has p (keyAt p i) then true else refBad (p.list.getD i En.zero) then true else decide ((p.list.getD i En.zero).child < 1) then true else bif ((i : Int) == 0) then !sEq (keyAt p i) p.low else false))⟩ : Option Ent) = some ⟨[], .v (.bool (badN p (i + 1)))⟩
        rw [order_eq hl h1, badN, badAt, entryBad, h2]
        cases badN p i <;> cases orderBad p i <;> cases Pg.has p (keyAt p i) <;> cases refBad (p.list.getD i En.zero) <;> cases decide ((p.list.getD i En.zero).child < 1) <;> cases ((i : Int) == 0) <;> rfl
      · exact w_succ i (by unfold lim at hl; omega)
  · have h1 : p.list.length ≤ i := ge_of_dec h1
    have hin : i = p.list.length := by omega
    subst hin
    repeat (refine go_ ?_; conv => whnf)
    refine ⟨fun h2 => ?_, fun h2 => ?_⟩
    · repeat (refine go_ ?_; conv => whnf)
      refine ret_con rfl ?_
      have h2 : Pg.bad p = true := h2
      show Value.int .i64 70 = _
      unfold checkV; rw [h2]; rfl
    · repeat (refine go_ ?_; conv => whnf)
      refine ret_con rfl ?_
      have h2 : Pg.bad p = false := h2
      show Value.int .i64 0 = _
      unfold checkV; rw [h2]; rfl
end Go.W
end

section
open Go Go.Eng
namespace Go.W
theorem rempty_con (lo hi : Str) : Con P 44 [.v (.agg #[.string lo, .string hi])] (.bool (emptyR lo hi)) := by
  refine con_of ctx_ok Proofs.Try.func44 rfl (R := fun w M e w' => e = .returned (.bool (emptyR lo hi)) ∧ Stp M w w') rfl rfl fun A hat => vcCode_sound ctx_ok tb_all _ _ _ _ _ ?_
  conv => whnf
  refine ret_con rfl ?_
  show Value.bool (bif !sEq hi s0 then sLt hi lo || sEq hi lo else false) = .bool (emptyR lo hi)
  unfold emptyR
  cases sEq hi s0 <;> rfl
theorem rin_con (lo hi key : Str) : Con P 48 [.v (.agg #[.string lo, .string hi]), .v (.string key)] (.bool (inR lo hi key)) := by
  refine con_of ctx_ok Proofs.Try.func48 rfl (R := fun w M e w' => e = .returned (.bool (inR lo hi key)) ∧ Stp M w w') rfl rfl fun A hat => vcCode_sound ctx_ok tb_all _ _ _ _ _ ?_
  conv => whnf
  refine ret_con rfl ?_
  show Value.bool (bif !sLt key lo then bif sEq hi s0 then true else sLt key hi else false) = .bool (inR lo hi key)
  unfold inR
  cases sLt key lo <;> cases sEq hi s0 <;> rfl
theorem rrng_con (p : Pg) (a : Option Addr) (c : Nat) : Con P 45 [p.sv a c] (.agg #[.string p.low, .string p.high]) := by
  refine con_of ctx_ok Proofs.Try.func45 rfl (R := fun w M e w' => e = .returned (.agg #[.string p.low, .string p.high]) ∧ Stp M w w') rfl rfl fun A hat => vcCode_sound ctx_ok tb_all _ _ _ _ _ ?_
  conv => whnf
  exact ret_con rfl rfl
theorem rhas_con (p : Pg) (a : Option Addr) (c : Nat) (key : Str) : Con P 17 [p.sv a c, .v (.string key)] (.bool (Pg.has p key)) := by
  refine con_of ctx_ok Proofs.Try.func17 rfl (R := fun w M e w' => e = .returned (.bool (Pg.has p key)) ∧ Stp M w w') rfl rfl fun A hat => vcCode_sound ctx_ok tb_all _ _ _ _ _ ?_
  conv => whnf
  refine ⟨rfl, con_vc (rrng_con p a c) ?_⟩
  conv => whnf
  refine ⟨rfl, con_vc (rin_con p.low p.high key) ?_⟩
  conv => whnf
  exact ret_con rfl rfl
theorem badN_mono {p : Pg} {i : Nat} : ∀ {n : Nat}, i ≤ n → badN p i = true → badN p n = true
  | 0, h, hb => by have : i = 0 := by omega
                   subst this; exact hb
  | n + 1, h, hb => by
    rcases Nat.lt_or_ge i (n + 1) with h1 | h1
    · simp [badN, badN_mono (n := n) (by omega) hb]
    · have : i = n + 1 := by omega
      subst this; exact hb
theorem bad_yes0 {p : Pg} (h : bad0 p = true) : checkV p = 70 := by
  have : Pg.bad p = true := badN_mono (i := 0) (Nat.zero_le _) h
  unfold checkV; rw [this]; rfl
theorem bad_yes {p : Pg} {i : Nat} (hi : i < p.list.length) (h : badAt p i = true) : checkV p = 70 := by
  have : Pg.bad p = true := badN_mono (i := i + 1) hi (by simp [badN, h])
  unfold checkV; rw [this]; rfl
theorem badN_no {p : Pg} (h0 : bad0 p = false) : ∀ {n : Nat}, (∀ j, j < n → badAt p j = false) → badN p n = false
  | 0, _ => h0
  | n + 1, h => by simp [badN, badN_no h0 (n := n) (fun j hj => h j (by omega)), h n (by omega)]
theorem bad_no {p : Pg} (h0 : bad0 p = false) (h : ∀ j, j < p.list.length → badAt p j = false) : checkV p = 0 := by
  have : Pg.bad p = false := badN_no h0 h
  unfold checkV; rw [this]; rfl
def rkind (p : Pg) (e : En) : Bool := bif p.leaf then !(e.child == 0) else refBad e || decide (e.child < 1)
theorem rcheck_con (p : Pg) (a : Option Addr) (c : Nat) (hl : p.list.length ≤ lim) : Con P 14 [p.sv a c] (.int .i64 (checkV p)) := by
  refine con_of ctx_ok Proofs.Try.func14 rfl (R := fun w M e w' => e = .returned (.int .i64 (checkV p)) ∧ Stp M w w') rfl rfl fun A hat => vcStep_sound ctx_ok tb_all _ _ _ _ _ ?_
  conv => whnf
  repeat (refine go_ ?_; conv => whnf)
  refine ⟨rfl, con_vc (rrng_con p a c) ?_⟩
  conv => whnf
  refine ⟨rfl, con_vc (rempty_con p.low p.high) ?_⟩
  conv => whnf
  repeat (refine go_ ?_; conv => whnf)
  refine ⟨fun h1 => ?_, fun h1 => ?_⟩
  · have h1 : (bif emptyR p.low p.high then true else decide (p.right < 0)) = true := h1
    repeat (refine go_ ?_; conv => whnf)
    refine ret_con rfl ?_
    show Value.int .i64 70 = _
    rw [bad_yes0]
    unfold bad0
    cases he : emptyR p.low p.high <;> simp [he] at h1 ⊢
    simp [h1]
  have h1 : (bif emptyR p.low p.high then true else decide (p.right < 0)) = false := h1
  have h1a : emptyR p.low p.high = false := by cases he : emptyR p.low p.high <;> simp [he] at h1 ⊢
  have h1b : decide (p.right < 0) = false := by rw [h1a] at h1; exact h1
  clear h1
  repeat (refine go_ ?_; conv => whnf)
  refine loop_i (fun i : Nat => [(1, .loc 0 0), (3, .v (.int .i64 i))])
    (fun _ => [.box 24 [.v (.bool p.leaf), .v (.string p.low), .v (.string p.high), .v (.int .i64 p.right), .ext a p.list.length c 4 (entE p.list)]]) (fun i => p.list.length - i)
    (fun i _ => i ≤ p.list.length ∧ ∀ j, j < i → Pg.has p (keyAt p j) = true ∧ orderBad p j = false ∧ rkind p (p.list.getD j En.zero) = false) 0 [0] ⟨⟨rfl, rfl, trivial⟩, ⟨⟨rfl, rfl⟩, trivial⟩, rfl, rfl, rfl⟩ ⟨Nat.zero_le _, fun j hj => by omega⟩ ?_
  rintro i A1 ⟨hi, hall⟩
  repeat (refine go_ ?_; conv => whnf)
  refine ⟨fun h1 => ?_, fun h1 => ?_⟩
  · have h1 : i < p.list.length := lt_of_dec h1
    repeat (refine go_ ?_; conv => whnf)
    refine ⟨⟨by omega, by omega⟩, ?_⟩
    conv => whnf
    repeat (refine go_ ?_; conv => whnf)
    refine .one none rfl ?_
    conv => whnf
    refine ⟨rfl, con_vc (rhas_con p a c (p.list.getD i En.zero).key) ?_⟩
    conv => whnf
    refine ⟨?_, ?_⟩
    · conv => whnf
      intro g1
      have g1 : decide ((i : Int) > 0) = true := g1
      conv => whnf
      intro g2
      show 0 ≤ IntKind.i64.wrap ((i : Int) - 1) ∧ IntKind.i64.wrap ((i : Int) - 1) < (p.list.length : Int)
      simp at g1
      unfold lim at hl
      rw [wrap_in (by omega) (by omega)]; omega
    conv => whnf
    repeat (refine go_ ?_; conv => whnf)
    have hne : p.list.length ≠ 0 := by omega
    refine ⟨fun h2 => ?_, fun h2 => ?_⟩
    · have h2 : (bif !Pg.has p (keyAt p i) then true else bif decide ((i : Int) > 0) then (sLt (keyAt p i) (p.list.getD (IntKind.i64.wrap ((i : Int) - 1)).toNat En.zero).key || sEq (keyAt p i) (p.list.getD (IntKind.i64.wrap ((i : Int) - 1)).toNat En.zero).key) else false) = true := h2
      rw [order_eq hl h1] at h2
      repeat (refine go_ ?_; conv => whnf)
      refine ret_con rfl ?_
      show Value.int .i64 70 = _
      rw [bad_yes h1]
      unfold badAt
      cases hh : Pg.has p (keyAt p i) <;> simp [hh] at h2 ⊢
      simp [h2]
    have h2 : (bif !Pg.has p (keyAt p i) then true else bif decide ((i : Int) > 0) then (sLt (keyAt p i) (p.list.getD (IntKind.i64.wrap ((i : Int) - 1)).toNat En.zero).key || sEq (keyAt p i) (p.list.getD (IntKind.i64.wrap ((i : Int) - 1)).toNat En.zero).key) else false) = false := h2
    rw [order_eq hl h1] at h2
    have h2a : Pg.has p (keyAt p i) = true := by cases hh : Pg.has p (keyAt p i) <;> simp [hh] at h2 ⊢
    have h2b : orderBad p i = false := by rw [h2a] at h2; exact h2
    clear h2
    repeat (refine go_ ?_; conv => whnf)
    refine ⟨fun h3 => ?_, fun h3 => ?_⟩
    · have h3 : (bif bif p.leaf then !((p.list.getD i En.zero).child == 0) else false then true else bif !p.leaf then bif refBad (p.list.getD i En.zero) then true else decide ((p.list.getD i En.zero).child < 1) else false) = true := h3
      repeat (refine go_ ?_; conv => whnf)
      refine ret_con rfl ?_
      show Value.int .i64 70 = _
      rw [bad_yes h1]
      unfold badAt entryBad
      rw [h2a, h2b]
      generalize (!(p.list.getD i En.zero).child == 0) = x1 at h3 ⊢
      generalize decide ((p.list.getD i En.zero).child < 1) = x2 at h3 ⊢
      generalize refBad (p.list.getD i En.zero) = x3 at h3 ⊢
      cases hlf : p.leaf <;> rw [hlf] at h3 <;> revert h3 <;> cases x1 <;> cases x2 <;> cases x3 <;> simp
    have h3 : (bif bif p.leaf then !((p.list.getD i En.zero).child == 0) else false then true else bif !p.leaf then bif refBad (p.list.getD i En.zero) then true else decide ((p.list.getD i En.zero).child < 1) else false) = false := h3
    repeat (refine go_ ?_; conv => whnf)
    refine next_i (i + 1) [0] (by omega) ⟨⟨rfl, ?_, trivial⟩, ⟨⟨rfl, rfl⟩, trivial⟩, rfl, rfl, rfl⟩ ⟨h1, fun j hj => ?_⟩
    · exact w_succ i (by unfold lim at hl; omega)
    · rcases Nat.lt_or_ge j i with h | h
      · exact hall j h
      · have : j = i := by omega
        subst this
        refine ⟨h2a, h2b, ?_⟩
        unfold rkind
        generalize (!(p.list.getD j En.zero).child == 0) = x1 at h3 ⊢
        generalize decide ((p.list.getD j En.zero).child < 1) = x2 at h3 ⊢
        generalize refBad (p.list.getD j En.zero) = x3 at h3 ⊢
        cases hlf : p.leaf <;> rw [hlf] at h3 <;> revert h3 <;> cases x1 <;> cases x2 <;> cases x3 <;> simp
  · have h1 : p.list.length ≤ i := ge_of_dec h1
    have hin : i = p.list.length := by omega
    subst hin
    repeat (refine go_ ?_; conv => whnf)
    have hnb : ∀ j, j < p.list.length → (p.leaf = false → j = 0 → sEq (keyAt p 0) p.low = true) → badAt p j = false := fun j hj hk => by
      obtain ⟨q1, q2, q3⟩ := hall j hj
      unfold badAt entryBad
      rw [q1, q2]
      unfold rkind at q3
      cases hlf : p.leaf with
      | true => rw [hlf] at q3; simpa using q3
      | false =>
        rw [hlf] at q3
        simp only [cond_false, Bool.or_eq_false_iff] at q3
        simp only [cond_false, q3.1, q3.2]
        by_cases hj0 : j = 0
        · subst hj0
          rw [hk hlf rfl]; simp
        · simp; omega
    refine .one none rfl ?_
    conv => whnf
    refine ⟨?_, ?_⟩
    · conv => whnf
      intro g1
      have g1 : ((p.list.length : Int) == 0) = false := g1
      conv => whnf
      intro g2
      show 0 ≤ (0 : Int) ∧ (0 : Int) < (p.list.length : Int)
      simp at g1
      have := List.length_pos_iff.2 g1
      omega
    conv => whnf
    repeat (refine go_ ?_; conv => whnf)
    refine ⟨fun h2 => ?_, fun h2 => ?_⟩
    · have h2 : (bif !p.leaf then bif ((p.list.length : Int) == 0) then true else !sEq (keyAt p 0) p.low else false) = true := h2
      repeat (refine go_ ?_; conv => whnf)
      refine ret_con rfl ?_
      show Value.int .i64 70 = _
      have hlf : p.leaf = false := by
        cases hlf : p.leaf with
        | false => rfl
        | true => rw [hlf] at h2; cases h2
      rw [hlf] at h2
      cases hz : ((p.list.length : Int) == 0) with
      | true => rw [bad_yes0]; unfold bad0; rw [hlf, hz]; simp
      | false =>
        rw [hz] at h2
        have h2 : (!sEq (keyAt p 0) p.low) = true := h2
        have : 0 < p.list.length := by
          have hz : ¬ ((p.list.length : Int) = 0) := by simpa using hz
          omega
        rw [bad_yes this]
        unfold badAt entryBad
        rw [hlf, h2]; simp
    · have h2 : (bif !p.leaf then bif ((p.list.length : Int) == 0) then true else !sEq (keyAt p 0) p.low else false) = false := h2
      repeat (refine go_ ?_; conv => whnf)
      refine ret_con rfl ?_
      show Value.int .i64 0 = _
      rw [bad_no]
      · unfold bad0
        rw [h1a, h1b]
        cases hlf : p.leaf with
        | true => rfl
        | false =>
          rw [hlf] at h2
          cases hz : ((p.list.length : Int) == 0) with
          | true => rw [hz] at h2; cases h2
          | false => rfl
      · intro j hj
        refine hnb j hj (fun hlf _ => ?_)
        rw [hlf] at h2
        cases hz : ((p.list.length : Int) == 0) with
        | true => rw [hz] at h2; cases h2
        | false => rw [hz] at h2; simpa using h2
end Go.W
end

section
open Go Go.Eng
namespace Go.W
/-- behind the last entry of which a test says yes, among the first n; 0: there is none -/
def lIx (pr : En → Bool) (l : List En) : Nat → Nat
  | 0 => 0
  | n + 1 => bif pr (l.getD n En.zero) then n + 1 else lIx pr l n
theorem lIx_le (pr : En → Bool) (l : List En) : ∀ n, lIx pr l n ≤ n
  | 0 => Nat.le_refl _
  | n + 1 => by
    simp only [lIx]
    cases pr (l.getD n En.zero) with
    | true => simp
    | false => have := lIx_le pr l n; simp; omega
def leB (key : Str) (x : En) : Bool := sLt x.key key || sEq x.key key
def fRes (p : Pg) : Nat → En × Bool
  | 0 => (En.zero, false)
  | n + 1 => (p.list.getD n En.zero, true)
def Pg.find (p : Pg) (key : Str) : En × Bool :=
  bif p.leaf then (bif Nat.blt (fIx (fun x => sEq x.key key) p.list) p.list.length then (p.list.getD (fIx (fun x => sEq x.key key) p.list) En.zero, true) else (En.zero, false))
  else fRes p (lIx (leB key) p.list p.list.length)
def enB (x : En × Bool) : Value := .tuple #[.agg x.1.cells.toArray, .bool x.2]
theorem blt_yes {a b : Nat} (h : a < b) : Nat.blt a b = true := Nat.ble_eq_true_of_le h
theorem blt_no {a b : Nat} (h : ¬ a < b) : Nat.blt a b = false := by
  cases hb : Nat.blt a b with
  | false => rfl
  | true => exact absurd (Nat.le_of_ble_eq_true hb) h
theorem find_leaf {p : Pg} {key : Str} (h : p.leaf = true) : Pg.find p key = bif Nat.blt (fIx (fun x => sEq x.key key) p.list) p.list.length then (p.list.getD (fIx (fun x => sEq x.key key) p.list) En.zero, true) else (En.zero, false) := by
  unfold Pg.find; rw [h]; rfl
theorem find_inner {p : Pg} {key : Str} {m : Nat} (h : p.leaf = false) (hm : lIx (leB key) p.list p.list.length = m) : Pg.find p key = fRes p m := by
  subst hm; unfold Pg.find; rw [h]; rfl
theorem find_con (p : Pg) (key : Str) (a : Option Addr) (c : Nat) (hl : p.list.length ≤ lim) : Con P 47 [p.sv a c, .v (.string key)] (enB (Pg.find p key)) := by
  refine con_of ctx_ok Proofs.Try.func47 rfl (args := [p.sv a c, .v (.string key)]) (R := fun w M e w' => e = .returned (enB (Pg.find p key)) ∧ Stp M w w') rfl rfl fun A hat => vcStep_sound ctx_ok tb_all _ _ _ _ _ ?_
  conv => whnf
  repeat (refine go_ ?_; conv => whnf)
  refine ⟨rfl, con_vc (at_con p a c key hl) ?_⟩
  conv => whnf
  repeat (refine go_ ?_; conv => whnf)
  refine ⟨fun h1 => ?_, fun h1 => ?_⟩
  · have h1 : p.leaf = false := by have h1 : (!p.leaf) = true := h1; simpa using h1
    repeat (refine go_ ?_; conv => whnf)
    refine loop_i (fun i : Nat => [(1, .v (.string key)), (2, .loc 0 0), (4, .loc 1 0), (6, .v (.int .i64 ((i : Int) - 1)))])
      (fun _ => [.box 24 [.v (.bool p.leaf), .v (.string p.low), .v (.string p.high), .v (.int .i64 p.right), .ext a p.list.length c 4 (entE p.list)], .box 30 [.v (.string s0), .v (.int .i64 0), .v (.int .i64 0), .v (.int .i64 0)]]) (fun i => i)
      (fun i _ => i ≤ p.list.length ∧ lIx (leB key) p.list p.list.length = lIx (leB key) p.list i) p.list.length [0, 1] ⟨⟨rfl, rfl, rfl, ?_, trivial⟩, ⟨⟨rfl, rfl⟩, ⟨rfl, rfl⟩, trivial⟩, rfl, rfl, rfl⟩ ⟨Nat.le_refl _, rfl⟩ ?_
    · show (some ⟨[], .v (.int .i64 (IntKind.i64.wrap ((p.list.length : Int) - 1)))⟩ : Option Ent) = _
      unfold lim at hl
      rw [wrap_in (by omega) (by omega)]; rfl
    rintro i A1 ⟨hi, hlx⟩
    repeat (refine go_ ?_; conv => whnf)
    refine ⟨?_, ?_⟩
    · conv => whnf
      intro g1
      have g1 : decide (((i : Int) - 1) ≥ 0) = true := g1
      show 0 ≤ (i : Int) - 1 ∧ (i : Int) - 1 < (p.list.length : Int)
      simp at g1; omega
    conv => whnf
    repeat (refine go_ ?_; conv => whnf)
    refine ⟨fun h2 => ?_, fun h2 => ?_⟩
    · have h2 : (bif decide (((i : Int) - 1) ≥ 0) then (!(sLt (p.list.getD ((i : Int) - 1).toNat En.zero).key key || sEq (p.list.getD ((i : Int) - 1).toNat En.zero).key key)) else false) = true := h2
      repeat (refine go_ ?_; conv => whnf)
      cases i with
      | zero => exact absurd h2 (by simp)
      | succ j =>
        have e1 : (((j + 1 : Nat) : Int) - 1) = (j : Int) := by omega
        rw [e1] at h2
        have h2 : leB key (p.list.getD j En.zero) = false := by
          have h2 : (!leB key (p.list.getD j En.zero)) = true := h2
          simpa using h2
        refine next_i j [0, 1] (Nat.lt_succ_self j) ⟨⟨rfl, rfl, rfl, ?_, trivial⟩, ⟨⟨rfl, rfl⟩, ⟨rfl, rfl⟩, trivial⟩, rfl, rfl, rfl⟩ ⟨by omega, ?_⟩
        · show (some ⟨[], .v (.int .i64 (IntKind.i64.wrap ((((j + 1 : Nat) : Int) - 1) - 1)))⟩ : Option Ent) = _
          unfold lim at hl
          rw [e1, wrap_in (by omega) (by omega)]; rfl
        · rw [hlx]; simp only [lIx, h2]; rfl
    · have h2 : (bif decide (((i : Int) - 1) ≥ 0) then (!(sLt (p.list.getD ((i : Int) - 1).toNat En.zero).key key || sEq (p.list.getD ((i : Int) - 1).toNat En.zero).key key)) else false) = false := h2
      repeat (refine go_ ?_; conv => whnf)
      cases i with
      | zero =>
        have hf := find_inner (key := key) h1 hlx
        simp only [lIx, fRes] at hf
        rw [hf]
        refine ⟨fun h3 => ?_, fun h3 => ?_⟩
        · repeat (refine go_ ?_; conv => whnf)
          refine ret_con rfl ?_
          rfl
        · exact absurd h3 (by decide)
      | succ j =>
        have e1 : (((j + 1 : Nat) : Int) - 1) = (j : Int) := by omega
        rw [e1] at h2
        have h2 : leB key (p.list.getD j En.zero) = true := by
          have h2 : (!leB key (p.list.getD j En.zero)) = false := h2
          simpa using h2
        have hf := find_inner (key := key) h1 hlx
        simp only [lIx, h2, cond_true, fRes] at hf
        rw [hf]
        refine ⟨fun h3 => ?_, fun h3 => ?_⟩
        · have h3 : decide ((((j + 1 : Nat) : Int) - 1) < 0) = true := h3
          simp at h3; omega
        · repeat (refine go_ ?_; conv => whnf)
          refine ⟨⟨by show (0 : Int) ≤ (((j + 1 : Nat) : Int) - 1); omega, by show (((j + 1 : Nat) : Int) - 1) < (p.list.length : Int); omega⟩, ?_⟩
          conv => whnf
          repeat (refine go_ ?_; conv => whnf)
          refine ret_con rfl ?_
          show enB (p.list.getD ((((j + 1 : Nat) : Int) - 1)).toNat En.zero, true) = _
          rw [e1]; rfl
  · have h1 : p.leaf = true := by have h1 : (!p.leaf) = false := h1; simpa using h1
    repeat (refine go_ ?_; conv => whnf)
    rw [find_leaf h1]
    by_cases hix : fIx (fun x => sEq x.key key) p.list < p.list.length
    · rw [ixV_yes _ _ hix, blt_yes hix]
      generalize fIx (fun x => sEq x.key key) p.list = i at hix
      refine ⟨fun h3 => ?_, fun h3 => ?_⟩
      · have h3 : decide ((i : Int) < 0) = true := h3
        simp at h3; omega
      · repeat (refine go_ ?_; conv => whnf)
        refine ⟨⟨by omega, by omega⟩, ?_⟩
        conv => whnf
        repeat (refine go_ ?_; conv => whnf)
        refine ret_con rfl ?_
        rfl
    · rw [ixV_no _ _ hix, blt_no hix]
      refine ⟨fun h3 => ?_, fun h3 => ?_⟩
      · repeat (refine go_ ?_; conv => whnf)
        refine ret_con rfl ?_
        rfl
      · exact absurd h3 (by decide)
theorem rfind_con (p : Pg) (key : Str) (a : Option Addr) (c : Nat) (hl : p.list.length ≤ lim) : Con P 67 [p.sv a c, .v (.string key)] (enB (Pg.find p key)) := by
  refine con_of ctx_ok Proofs.Try.func67 rfl (args := [p.sv a c, .v (.string key)]) (R := fun w M e w' => e = .returned (enB (Pg.find p key)) ∧ Stp M w w') rfl rfl fun A hat => vcStep_sound ctx_ok tb_all _ _ _ _ _ ?_
  conv => whnf
  repeat (refine go_ ?_; conv => whnf)
  refine ⟨fun h1 => ?_, fun h1 => ?_⟩
  · have h1 : p.leaf = true := h1
    repeat (refine go_ ?_; conv => whnf)
    rw [find_leaf h1]
    refine loop_i (fun i : Nat => [(1, .v (.string key)), (2, .loc 0 0), (4, .loc 1 0), (6, .v (.int .i64 i))])
      (fun _ => [.box 24 [.v (.bool p.leaf), .v (.string p.low), .v (.string p.high), .v (.int .i64 p.right), .ext a p.list.length c 4 (entE p.list)], .box 30 [.v (.string s0), .v (.int .i64 0), .v (.int .i64 0), .v (.int .i64 0)]]) (fun i => p.list.length - i)
      (fun i _ => i ≤ p.list.length ∧ ∀ j, j < i → sEq (p.list.getD j En.zero).key key = false) 0 [0, 1] ⟨⟨rfl, rfl, rfl, rfl, trivial⟩, ⟨⟨rfl, rfl⟩, ⟨rfl, rfl⟩, trivial⟩, rfl, rfl, rfl⟩ ⟨Nat.zero_le _, fun j hj => by omega⟩ ?_
    rintro i A1 ⟨hi, hno⟩
    repeat (refine go_ ?_; conv => whnf)
    refine ⟨fun h2 => ?_, fun h2 => ?_⟩
    · have h2 : i < p.list.length := lt_of_dec h2
      repeat (refine go_ ?_; conv => whnf)
      refine ⟨⟨by omega, by omega⟩, ?_⟩
      conv => whnf
      repeat (refine go_ ?_; conv => whnf)
      refine ⟨fun h3 => ?_, fun h3 => ?_⟩
      · have h3 : sEq (p.list.getD i En.zero).key key = true := h3
        repeat (refine go_ ?_; conv => whnf)
        refine ⟨⟨by omega, by omega⟩, ?_⟩
        conv => whnf
        repeat (refine go_ ?_; conv => whnf)
        refine ret_con rfl ?_
        have hx := fIx_is (fun x => sEq x.key key) p.list i hi hno (fun _ => h3)
        rw [hx, blt_yes h2]
        rfl
      · have h3 : sEq (p.list.getD i En.zero).key key = false := h3
        repeat (refine go_ ?_; conv => whnf)
        refine next_i (i + 1) [0, 1] (by omega) ⟨⟨rfl, rfl, rfl, ?_, trivial⟩, ⟨⟨rfl, rfl⟩, ⟨rfl, rfl⟩, trivial⟩, rfl, rfl, rfl⟩ ⟨h2, fun j hj => ?_⟩
        · exact w_succ i (by unfold lim at hl; omega)
        · rcases Nat.lt_or_ge j i with h | h
          · exact hno j h
          · have : j = i := by omega
            subst this; exact h3
    · have h2 : p.list.length ≤ i := ge_of_dec h2
      repeat (refine go_ ?_; conv => whnf)
      refine ret_con rfl ?_
      have hx := fIx_is (fun x => sEq x.key key) p.list i hi hno (fun h => by omega)
      rw [hx, blt_no (by omega)]
      rfl
  · have h1 : p.leaf = false := h1
    repeat (refine go_ ?_; conv => whnf)
    refine loop_i (fun i : Nat => [(1, .v (.string key)), (2, .loc 0 0), (4, .loc 1 0), (7, .v (.int .i64 ((i : Int) - 1)))])
      (fun _ => [.box 24 [.v (.bool p.leaf), .v (.string p.low), .v (.string p.high), .v (.int .i64 p.right), .ext a p.list.length c 4 (entE p.list)], .box 30 [.v (.string s0), .v (.int .i64 0), .v (.int .i64 0), .v (.int .i64 0)]]) (fun i => i)
      (fun i _ => i ≤ p.list.length ∧ lIx (leB key) p.list p.list.length = lIx (leB key) p.list i) p.list.length [0, 1] ⟨⟨rfl, rfl, rfl, ?_, trivial⟩, ⟨⟨rfl, rfl⟩, ⟨rfl, rfl⟩, trivial⟩, rfl, rfl, rfl⟩ ⟨Nat.le_refl _, rfl⟩ ?_
    · show (some ⟨[], .v (.int .i64 (IntKind.i64.wrap ((p.list.length : Int) - 1)))⟩ : Option Ent) = _
      unfold lim at hl
      rw [wrap_in (by omega) (by omega)]; rfl
    rintro i A1 ⟨hi, hlx⟩
    have hf := find_inner (key := key) h1 hlx
    repeat (refine go_ ?_; conv => whnf)
    refine ⟨fun h2 => ?_, fun h2 => ?_⟩
    · have h2 : decide (((i : Int) - 1) ≥ 0) = true := h2
      simp at h2
      repeat (refine go_ ?_; conv => whnf)
      cases i with
      | zero => exact absurd h2 (by simp)
      | succ j =>
      have e1 : (((j + 1 : Nat) : Int) - 1) = (j : Int) := by omega
      refine ⟨⟨by show (0 : Int) ≤ (((j + 1 : Nat) : Int) - 1); omega, by show (((j + 1 : Nat) : Int) - 1) < (p.list.length : Int); omega⟩, ?_⟩
      conv => whnf
      repeat (refine go_ ?_; conv => whnf)
      refine ⟨fun h3 => ?_, fun h3 => ?_⟩
      · have h3 : leB key (p.list.getD (((j + 1 : Nat) : Int) - 1).toNat En.zero) = true := h3
        rw [e1] at h3
        have h3 : leB key (p.list.getD j En.zero) = true := h3
        simp only [lIx, h3, cond_true, fRes] at hf
        rw [hf]
        repeat (refine go_ ?_; conv => whnf)
        refine ⟨⟨by show (0 : Int) ≤ (((j + 1 : Nat) : Int) - 1); omega, by show (((j + 1 : Nat) : Int) - 1) < (p.list.length : Int); omega⟩, ?_⟩
        conv => whnf
        repeat (refine go_ ?_; conv => whnf)
        refine ret_con rfl ?_
        show enB (p.list.getD ((((j + 1 : Nat) : Int) - 1)).toNat En.zero, true) = _
        rw [e1]; rfl
      · have h3 : leB key (p.list.getD (((j + 1 : Nat) : Int) - 1).toNat En.zero) = false := h3
        rw [e1] at h3
        have h3 : leB key (p.list.getD j En.zero) = false := h3
        repeat (refine go_ ?_; conv => whnf)
        refine next_i j [0, 1] (Nat.lt_succ_self j) ⟨⟨rfl, rfl, rfl, ?_, trivial⟩, ⟨⟨rfl, rfl⟩, ⟨rfl, rfl⟩, trivial⟩, rfl, rfl, rfl⟩ ⟨by omega, ?_⟩
        · show (some ⟨[], .v (.int .i64 (IntKind.i64.wrap ((((j + 1 : Nat) : Int) - 1) - 1)))⟩ : Option Ent) = _
          unfold lim at hl
          rw [e1, wrap_in (by omega) (by omega)]; rfl
        · rw [hlx]; simp only [lIx, h3]; rfl
    · have h2 : decide (((i : Int) - 1) ≥ 0) = false := h2
      simp at h2
      have : i = 0 := by omega
      subst this
      simp only [lIx, fRes] at hf
      rw [hf]
      repeat (refine go_ ?_; conv => whnf)
      refine ret_con rfl ?_
      rfl
end Go.W
end

section
open Go Go.Eng
namespace Go.W
theorem Con.arg {f : Nat} {args args' : List SV} {r : Value} (h : Con P f args' r) (hup : ∀ β A vals, RelL β A args vals → RelL β A args' vals) : Con P f args r :=
  fun O M w β vals hr hat => h O M w β vals (hup _ _ _ hr) hat
theorem nil_ext {β : Lay} {A : Anc} {els : Nat → List Value} {y : Value} (h : (SV.v (.slice none 0 0)).Rel β A y) : (SV.ext none 0 0 4 els).Rel β A y := by
  simp only [SV.Rel] at h ⊢
  exact ⟨h, Nat.le_refl _, fun i hi => absurd hi (Nat.not_lt_zero i)⟩
theorem raw_ext {β : Lay} {A : Anc} {a : Option Addr} {n c k : Nat} {els : Nat → List Value} {y : Value} (h : (SV.v (.slice a n c)).Rel β A y) (hn : n ≤ c) (hs : SliceAt A a n k els) : (SV.ext a n c k els).Rel β A y := by
  simp only [SV.Rel] at h ⊢
  exact ⟨h, hn, hs⟩
theorem RelL.last_up {β : Lay} {A : Anc} {s s' : SV} (h : ∀ y, s.Rel β A y → s'.Rel β A y) : ∀ {l : List SV} {ys : List Value}, RelL β A (l ++ [s]) ys → RelL β A (l ++ [s']) ys
  | [], ys, hr => by
    simp only [List.nil_append, RelL] at hr ⊢
    obtain ⟨y, t, rfl, h1, rfl⟩ := hr
    exact ⟨y, [], rfl, h y h1, rfl⟩
  | x :: l, ys, hr => by
    simp only [List.cons_append, RelL] at hr ⊢
    obtain ⟨y, t, rfl, h1, h2⟩ := hr
    exact ⟨y, t, rfl, h1, RelL.last_up h h2⟩
theorem agg_last {β : Lay} {A : Anc} {s s' : SV} {l : List SV} (h : ∀ y, s.Rel β A y → s'.Rel β A y) {y : Value} (hr : (SV.agg (l ++ [s])).Rel β A y) : (SV.agg (l ++ [s'])).Rel β A y := by
  simp only [SV.Rel] at hr ⊢
  obtain ⟨ys, e, h1⟩ := hr
  exact ⟨ys, e, RelL.last_up h h1⟩
theorem rel2_up {β : Lay} {A : Anc} {s1 s2 s1' s2' : SV} {vals : List Value} (h : RelL β A [s1, s2] vals) (h1 : ∀ y, s1.Rel β A y → s1'.Rel β A y) (h2 : ∀ y, s2.Rel β A y → s2'.Rel β A y) : RelL β A [s1', s2'] vals := by
  simp only [RelL] at h ⊢
  obtain ⟨y1, t1, rfl, g1, y2, t2, rfl, g2, rfl⟩ := h
  exact ⟨y1, _, rfl, h1 _ g1, y2, _, rfl, h2 _ g2, rfl⟩
end Go.W
namespace Go.Eng
open Go.W
/-- a delta's cells, its page's list as it is said -/
def De.svL (d : De) (s : SV) : SV := .agg ([.v (.int .i64 d.kind), .v (.string d.entry.key), .v (.int .i64 d.entry.slot), .v (.int .i64 d.entry.gen), .v (.int .i64 d.entry.child), .v (.string d.key), .v (.int .i64 d.page),
  .v (.bool d.right.leaf), .v (.string d.right.low), .v (.string d.right.high), .v (.int .i64 d.right.right)] ++ [s])
def De.val (d : De) (y : Value) : Value := .agg #[.int .i64 d.kind, .string d.entry.key, .int .i64 d.entry.slot, .int .i64 d.entry.gen, .int .i64 d.entry.child, .string d.key, .int .i64 d.page, .bool d.right.leaf, .string d.right.low, .string d.right.high, .int .i64 d.right.right, y]
theorem De.sv_eq (d : De) (a : Option Addr) (c : Nat) : d.sv a c = d.svL (.ext a d.right.list.length c 4 (entE d.right.list)) := rfl
theorem De.up_nil {β : Lay} {A : Anc} {d : De} (hd : d.right.list = []) {y : Value} (h : (d.svL (.v (.slice none 0 0))).Rel β A y) : (d.sv none 0).Rel β A y := by
  rw [De.sv_eq]
  refine agg_last (fun y hy => ?_) h
  rw [hd]
  exact Go.W.nil_ext hy
def De.bare (d : De) : De :=
  bif d.kind == 1 then ⟨d.kind, d.entry, s0, 0, Pg.zero⟩ else bif d.kind == 2 then ⟨d.kind, En.zero, d.key, 0, Pg.zero⟩ else bif d.kind == 3 then ⟨d.kind, En.zero, d.key, d.page, Pg.zero⟩
  else bif d.kind == 4 then ⟨d.kind, En.zero, s0, 0, d.right⟩ else bif d.kind == 5 then ⟨d.kind, En.zero, s0, d.page, Pg.zero⟩ else ⟨d.kind, En.zero, s0, 0, Pg.zero⟩
def De.badB (d : De) : Bool :=
  bif d.kind == 1 then false else bif d.kind == 2 then false else bif d.kind == 3 then (decide (d.page < 1) || sEq d.key s0) else bif d.kind == 4 then !(checkV d.right == 0) else bif d.kind == 5 then decide (d.page < 1) else true
def De.check (d : De) : Int := bif d.badB || !d.eq d.bare then 90 else 0
end Go.Eng
namespace Go.W
theorem De.check_yes {d : De} (h : (d.badB || !d.eq d.bare) = true) : d.check = 90 := by unfold De.check; rw [h]; rfl
theorem De.check_no {d : De} (h : (d.badB || !d.eq d.bare) = false) : d.check = 0 := by unfold De.check; rw [h]; rfl
theorem dcheck_con (d : De) (a : Option Addr) (c : Nat) (hl : d.right.list.length ≤ lim) : Con P 28 [d.sv a c] (.int .i64 d.check) := by
  refine con_of ctx_ok Proofs.Try.func28 rfl (args := [d.sv a c]) (R := fun w M e w' => e = .returned (.int .i64 d.check) ∧ Stp M w w') rfl rfl fun A hat => vcStep_sound ctx_ok tb_all _ _ _ _ _ ?_
  conv => whnf
  repeat (refine go_ ?_; conv => whnf)
  refine ⟨fun h1 => ?_, fun h1 => ?_⟩
  · have h1 : (d.kind == 1) = true := h1
    repeat (refine go_ ?_; conv => whnf)
    have hbare : d.bare = ⟨d.kind, d.entry, s0, 0, Pg.zero⟩ := by unfold De.bare; simp only [h1, cond_true]; try rfl
    have hbad : d.badB = false := by unfold De.badB; simp only [h1, cond_true]; try rfl
    refine ⟨rfl, gcon_vc (Con.arg (dsame_con d d.bare a none c 0 hl) (fun β A vals h => rel2_up h (fun y h => h) (fun y h => ?_))) ?_⟩
    · rw [hbare]; exact De.up_nil rfl h
    conv => whnf
    repeat (refine go_ ?_; conv => whnf)
    refine ⟨fun h2 => ?_, fun h2 => ?_⟩
    · have h2 : (bif false then true else !d.eq d.bare) = true := h2
      repeat (refine go_ ?_; conv => whnf)
      refine ret_con rfl ?_
      show Value.int .i64 90 = _
      rw [De.check_yes (by rw [hbad]; revert h2; generalize d.eq d.bare = x; generalize false = z; cases x <;> cases z <;> simp)]
    · have h2 : (bif false then true else !d.eq d.bare) = false := h2
      repeat (refine go_ ?_; conv => whnf)
      refine ret_con rfl ?_
      show Value.int .i64 0 = _
      rw [De.check_no (by rw [hbad]; revert h2; generalize d.eq d.bare = x; generalize false = z; cases x <;> cases z <;> simp)]
  have h1 : (d.kind == 1) = false := h1
  repeat (refine go_ ?_; conv => whnf)
  refine ⟨fun h2 => ?_, fun h2 => ?_⟩
  · have h2 : (d.kind == 2) = true := h2
    repeat (refine go_ ?_; conv => whnf)
    have hbare : d.bare = ⟨d.kind, En.zero, d.key, 0, Pg.zero⟩ := by unfold De.bare; simp only [h1, h2, cond_true, cond_false]; try rfl
    have hbad : d.badB = false := by unfold De.badB; simp only [h1, h2, cond_true, cond_false]; try rfl
    refine ⟨rfl, gcon_vc (Con.arg (dsame_con d d.bare a none c 0 hl) (fun β A vals h => rel2_up h (fun y h => h) (fun y h => ?_))) ?_⟩
    · rw [hbare]; exact De.up_nil rfl h
    conv => whnf
    repeat (refine go_ ?_; conv => whnf)
    refine ⟨fun h2 => ?_, fun h2 => ?_⟩
    · have h2 : (bif false then true else !d.eq d.bare) = true := h2
      repeat (refine go_ ?_; conv => whnf)
      refine ret_con rfl ?_
      show Value.int .i64 90 = _
      rw [De.check_yes (by rw [hbad]; revert h2; generalize d.eq d.bare = x; generalize false = z; cases x <;> cases z <;> simp)]
    · have h2 : (bif false then true else !d.eq d.bare) = false := h2
      repeat (refine go_ ?_; conv => whnf)
      refine ret_con rfl ?_
      show Value.int .i64 0 = _
      rw [De.check_no (by rw [hbad]; revert h2; generalize d.eq d.bare = x; generalize false = z; cases x <;> cases z <;> simp)]
  have h2 : (d.kind == 2) = false := h2
  repeat (refine go_ ?_; conv => whnf)
  refine ⟨fun h3 => ?_, fun h3 => ?_⟩
  · have h3 : (d.kind == 3) = true := h3
    repeat (refine go_ ?_; conv => whnf)
    refine .one (some [1]) rfl ?_
    conv => whnf
    repeat (refine go_ ?_; conv => whnf)
    have hbare : d.bare = ⟨d.kind, En.zero, d.key, d.page, Pg.zero⟩ := by unfold De.bare; simp only [h1, h2, h3, cond_true, cond_false]; try rfl
    have hbad : d.badB = (bif decide (d.page < 1) then true else sEq d.key s0) := by unfold De.badB; simp only [h1, h2, h3, cond_true, cond_false]; try rfl
    refine ⟨rfl, gcon_vc (Con.arg (dsame_con d d.bare a none c 0 hl) (fun β A vals h => rel2_up h (fun y h => h) (fun y h => ?_))) ?_⟩
    · rw [hbare]; exact De.up_nil rfl h
    conv => whnf
    repeat (refine go_ ?_; conv => whnf)
    refine ⟨fun h2 => ?_, fun h2 => ?_⟩
    · have h2 : (bif (bif decide (d.page < 1) then true else sEq d.key s0) then true else !d.eq d.bare) = true := h2
      repeat (refine go_ ?_; conv => whnf)
      refine ret_con rfl ?_
      show Value.int .i64 90 = _
      rw [De.check_yes (by rw [hbad]; revert h2; generalize d.eq d.bare = x; generalize (bif decide (d.page < 1) then true else sEq d.key s0) = z; cases x <;> cases z <;> simp)]
    · have h2 : (bif (bif decide (d.page < 1) then true else sEq d.key s0) then true else !d.eq d.bare) = false := h2
      repeat (refine go_ ?_; conv => whnf)
      refine ret_con rfl ?_
      show Value.int .i64 0 = _
      rw [De.check_no (by rw [hbad]; revert h2; generalize d.eq d.bare = x; generalize (bif decide (d.page < 1) then true else sEq d.key s0) = z; cases x <;> cases z <;> simp)]
  have h3 : (d.kind == 3) = false := h3
  repeat (refine go_ ?_; conv => whnf)
  refine ⟨fun h4 => ?_, fun h4 => ?_⟩
  · have h4 : (d.kind == 4) = true := h4
    repeat (refine go_ ?_; conv => whnf)
    refine ⟨rfl, con_vc (check_con d.right a c hl) ?_⟩
    conv => whnf
    repeat (refine go_ ?_; conv => whnf)
    have hbare : d.bare = ⟨d.kind, En.zero, s0, 0, d.right⟩ := by unfold De.bare; simp only [h1, h2, h3, h4, cond_true, cond_false]; try rfl
    have hbad : d.badB = (!(checkV d.right == 0)) := by unfold De.badB; simp only [h1, h2, h3, h4, cond_true, cond_false]; try rfl
    refine ⟨rfl, gcon_vc (Con.arg (dsame_con d d.bare a a c c hl) (fun β A vals h => rel2_up h (fun y h => h) (fun y h => ?_))) ?_⟩
    · rw [hbare]; exact h
    conv => whnf
    repeat (refine go_ ?_; conv => whnf)
    refine ⟨fun h2 => ?_, fun h2 => ?_⟩
    · have h2 : (bif (!(checkV d.right == 0)) then true else !d.eq d.bare) = true := h2
      repeat (refine go_ ?_; conv => whnf)
      refine ret_con rfl ?_
      show Value.int .i64 90 = _
      rw [De.check_yes (by rw [hbad]; revert h2; generalize d.eq d.bare = x; generalize (!(checkV d.right == 0)) = z; cases x <;> cases z <;> simp)]
    · have h2 : (bif (!(checkV d.right == 0)) then true else !d.eq d.bare) = false := h2
      repeat (refine go_ ?_; conv => whnf)
      refine ret_con rfl ?_
      show Value.int .i64 0 = _
      rw [De.check_no (by rw [hbad]; revert h2; generalize d.eq d.bare = x; generalize (!(checkV d.right == 0)) = z; cases x <;> cases z <;> simp)]
  have h4 : (d.kind == 4) = false := h4
  repeat (refine go_ ?_; conv => whnf)
  refine ⟨fun h5 => ?_, fun h5 => ?_⟩
  · have h5 : (d.kind == 5) = true := h5
    repeat (refine go_ ?_; conv => whnf)
    have hbare : d.bare = ⟨d.kind, En.zero, s0, d.page, Pg.zero⟩ := by unfold De.bare; simp only [h1, h2, h3, h4, h5, cond_true, cond_false]; try rfl
    have hbad : d.badB = decide (d.page < 1) := by unfold De.badB; simp only [h1, h2, h3, h4, h5, cond_true, cond_false]; try rfl
    refine ⟨rfl, gcon_vc (Con.arg (dsame_con d d.bare a none c 0 hl) (fun β A vals h => rel2_up h (fun y h => h) (fun y h => ?_))) ?_⟩
    · rw [hbare]; exact De.up_nil rfl h
    conv => whnf
    repeat (refine go_ ?_; conv => whnf)
    refine ⟨fun h2 => ?_, fun h2 => ?_⟩
    · have h2 : (bif decide (d.page < 1) then true else !d.eq d.bare) = true := h2
      repeat (refine go_ ?_; conv => whnf)
      refine ret_con rfl ?_
      show Value.int .i64 90 = _
      rw [De.check_yes (by rw [hbad]; revert h2; generalize d.eq d.bare = x; generalize decide (d.page < 1) = z; cases x <;> cases z <;> simp)]
    · have h2 : (bif decide (d.page < 1) then true else !d.eq d.bare) = false := h2
      repeat (refine go_ ?_; conv => whnf)
      refine ret_con rfl ?_
      show Value.int .i64 0 = _
      rw [De.check_no (by rw [hbad]; revert h2; generalize d.eq d.bare = x; generalize decide (d.page < 1) = z; cases x <;> cases z <;> simp)]
  have h5 : (d.kind == 5) = false := h5
  repeat (refine go_ ?_; conv => whnf)
  have hbare : d.bare = ⟨d.kind, En.zero, s0, 0, Pg.zero⟩ := by unfold De.bare; simp only [h1, h2, h3, h4, h5, cond_false]; try rfl
  have hbad : d.badB = true := by unfold De.badB; simp only [h1, h2, h3, h4, h5, cond_false]; try rfl
  refine ⟨rfl, gcon_vc (Con.arg (dsame_con d d.bare a none c 0 hl) (fun β A vals h => rel2_up h (fun y h => h) (fun y h => ?_))) ?_⟩
  · rw [hbare]; exact De.up_nil rfl h
  conv => whnf
  repeat (refine go_ ?_; conv => whnf)
  refine ⟨fun h2 => ?_, fun h2 => ?_⟩
  · have h2 : (bif true then true else !d.eq d.bare) = true := h2
    repeat (refine go_ ?_; conv => whnf)
    refine ret_con rfl ?_
    show Value.int .i64 90 = _
    rw [De.check_yes (by rw [hbad]; revert h2; generalize d.eq d.bare = x; generalize true = z; cases x <;> cases z <;> simp)]
  · have h2 : (bif true then true else !d.eq d.bare) = false := h2
    repeat (refine go_ ?_; conv => whnf)
    refine ret_con rfl ?_
    show Value.int .i64 0 = _
    rw [De.check_no (by rw [hbad]; revert h2; generalize d.eq d.bare = x; generalize true = z; cases x <;> cases z <;> simp)]
end Go.W
end

section
open Go Go.Eng
namespace Go.W
def rawA : SV → Option Value
  | .agg cs => match rawVs cs with
    | some xs => some (.agg xs.toArray)
    | none => none
  | s => rawV s
def rawsA : List SV → Option (List Value)
  | [] => some []
  | s :: r => match rawA s, rawsA r with
    | some x, some xs => some (x :: xs)
    | _, _ => none
theorem rawV_rel' {β : Lay} {A : Anc} {s : SV} {x y : Value} (h : rawV s = some x) (hr : s.Rel β A y) : y = x := by
  cases s <;> simp [rawV] at h <;> subst h <;> simp only [SV.Rel] at hr
  · exact hr
  · exact hr.1
  · exact hr.1
theorem rawA_rel {β : Lay} {A : Anc} {s : SV} {x y : Value} (h : rawA s = some x) (hr : s.Rel β A y) : y = x := by
  unfold rawA at h
  split at h
  · split at h <;> try (simp at h; done)
    rename_i xs hxs
    simp at h; subst h
    simp only [SV.Rel] at hr
    obtain ⟨ys, rfl, hr⟩ := hr
    rw [rawVs_rel hxs hr]
  · exact rawV_rel' h hr
theorem rawsA_rel {β : Lay} {A : Anc} : ∀ {s : List SV} {xs ys : List Value}, rawsA s = some xs → RelL β A s ys → ys = xs
  | [], xs, ys, h, hr => by simp [rawsA] at h; simp only [RelL] at hr; rw [hr, ← h]
  | s :: r, xs, ys, h, hr => by
    simp only [rawsA] at h
    split at h <;> try (simp at h; done)
    rename_i x u hx hu
    simp at h; subst h
    simp only [RelL] at hr
    obtain ⟨y, t, rfl, h1, h2⟩ := hr
    rw [rawA_rel hx h1, rawsA_rel hu h2]
theorem ret_conE {A : Anc} {hp : List Chunk} {M : Nat → Prop} {w0 : World} {ss : List SV} {xs : List Value} {r : Value} (hs : rawsA ss = some xs) (h : retV xs = r) : RetVC ⟨M, M, w0⟩ A hp ss (fun e w' => e = .returned r ∧ Stp M w0 w') :=
  ⟨fun O' w β vals site => by
    rw [rawsA_rel hs site.rel, h]
    exact ⟨rfl, site.bas⟩⟩
theorem ge_lt1 (z : Int) : decide (z ≥ 1) = !decide (z < 1) := by
  by_cases h : z < 1
  · simp [h]
  · simp [h]; omega
theorem ge_lt3 (z : Int) (b : Bool) : (bif decide (z ≥ 1) then !b else false) = !(decide (z < 1) || b) := by
  rw [ge_lt1]; cases decide (z < 1) <;> cases b <;> rfl
def bareSl (d : De) (a : Option Addr) (c : Nat) : Value := .slice (bif d.kind == 4 then a else none) (bif d.kind == 4 then d.right.list.length else 0) (bif d.kind == 4 then c else 0)
def bareR (d : De) (a : Option Addr) (c : Nat) : Value := .tuple #[d.bare.val (bareSl d a c), .bool (!d.badB)]
theorem bare_con (d : De) (a : Option Addr) (c : Nat) (hl : d.right.list.length ≤ lim) : Con P 59 [d.sv a c] (bareR d a c) := by
  refine con_of ctx_ok Proofs.Try.func59 rfl (args := [d.sv a c]) (R := fun w M e w' => e = .returned (bareR d a c) ∧ Stp M w w') rfl rfl fun A hat => vcStep_sound ctx_ok tb_all _ _ _ _ _ ?_
  conv => whnf
  repeat (refine go_ ?_; conv => whnf)
  refine ⟨fun h1 => ?_, fun h1 => ?_⟩
  · have h1 : (d.kind == 1) = true := h1
    repeat (refine go_ ?_; conv => whnf)
    have hbare : d.bare = ⟨d.kind, d.entry, s0, 0, Pg.zero⟩ := by unfold De.bare; simp only [h1, cond_true]; try rfl
    have hbad : d.badB = false := by unfold De.badB; simp only [h1, cond_true]; try rfl
    have hk4 : (d.kind == 4) = false := by have := h1; simp at this; simp [this]
    have hsl : bareSl d a c = .slice none 0 0 := by unfold bareSl; rw [hk4]; rfl
    refine ret_conE rfl ?_
    show Value.tuple #[De.val ⟨d.kind, d.entry, s0, 0, Pg.zero⟩ (.slice none 0 0), .bool true] = _
    unfold bareR
    rw [hbare, hbad, hsl]
    refine congrArg (fun b => Value.tuple #[_, Value.bool b]) ?_
    exact rfl
  have h1 : (d.kind == 1) = false := h1
  repeat (refine go_ ?_; conv => whnf)
  refine ⟨fun h2 => ?_, fun h2 => ?_⟩
  · have h2 : (d.kind == 2) = true := h2
    repeat (refine go_ ?_; conv => whnf)
    have hbare : d.bare = ⟨d.kind, En.zero, d.key, 0, Pg.zero⟩ := by unfold De.bare; simp only [h1, h2, cond_true, cond_false]; try rfl
    have hbad : d.badB = false := by unfold De.badB; simp only [h1, h2, cond_true, cond_false]; try rfl
    have hk4 : (d.kind == 4) = false := by have := h2; simp at this; simp [this]
    have hsl : bareSl d a c = .slice none 0 0 := by unfold bareSl; rw [hk4]; rfl
    refine ret_conE rfl ?_
    show Value.tuple #[De.val ⟨d.kind, En.zero, d.key, 0, Pg.zero⟩ (.slice none 0 0), .bool true] = _
    unfold bareR
    rw [hbare, hbad, hsl]
    refine congrArg (fun b => Value.tuple #[_, Value.bool b]) ?_
    exact rfl
  have h2 : (d.kind == 2) = false := h2
  repeat (refine go_ ?_; conv => whnf)
  refine ⟨fun h3 => ?_, fun h3 => ?_⟩
  · have h3 : (d.kind == 3) = true := h3
    repeat (refine go_ ?_; conv => whnf)
    refine .one (some [2]) rfl ?_
    conv => whnf
    repeat (refine go_ ?_; conv => whnf)
    refine .one (some [1]) rfl ?_
    conv => whnf
    repeat (refine go_ ?_; conv => whnf)
    have hbare : d.bare = ⟨d.kind, En.zero, d.key, d.page, Pg.zero⟩ := by unfold De.bare; simp only [h1, h2, h3, cond_true, cond_false]; try rfl
    have hbad : d.badB = (decide (d.page < 1) || sEq d.key s0) := by unfold De.badB; simp only [h1, h2, h3, cond_true, cond_false]; try rfl
    have hk4 : (d.kind == 4) = false := by have := h3; simp at this; simp [this]
    have hsl : bareSl d a c = .slice none 0 0 := by unfold bareSl; rw [hk4]; rfl
    refine ret_conE rfl ?_
    show Value.tuple #[De.val ⟨d.kind, En.zero, d.key, d.page, Pg.zero⟩ (.slice none 0 0), .bool (bif decide (d.page ≥ 1) then !sEq d.key s0 else false)] = _
    unfold bareR
    rw [hbare, hbad, hsl]
    refine congrArg (fun b => Value.tuple #[_, Value.bool b]) ?_
    exact ge_lt3 d.page _
  have h3 : (d.kind == 3) = false := h3
  repeat (refine go_ ?_; conv => whnf)
  refine ⟨fun h4 => ?_, fun h4 => ?_⟩
  · have h4 : (d.kind == 4) = true := h4
    repeat (refine go_ ?_; conv => whnf)
    refine .one (some [1]) rfl ?_
    conv => whnf
    refine ⟨rfl, con_vc (rcheck_con d.right a c hl) ?_⟩
    conv => whnf
    repeat (refine go_ ?_; conv => whnf)
    have hbare : d.bare = ⟨d.kind, En.zero, s0, 0, d.right⟩ := by unfold De.bare; simp only [h1, h2, h3, h4, cond_true, cond_false]; try rfl
    have hbad : d.badB = (!(checkV d.right == 0)) := by unfold De.badB; simp only [h1, h2, h3, h4, cond_true, cond_false]; try rfl
    have hk4 : (d.kind == 4) = true := h4
    have hsl : bareSl d a c = .slice a d.right.list.length c := by unfold bareSl; rw [hk4]; rfl
    refine ret_conE rfl ?_
    show Value.tuple #[De.val ⟨d.kind, En.zero, s0, 0, d.right⟩ (.slice a d.right.list.length c), .bool (checkV d.right == 0)] = _
    unfold bareR
    rw [hbare, hbad, hsl]
    refine congrArg (fun b => Value.tuple #[_, Value.bool b]) ?_
    exact (Bool.not_not _).symm
  have h4 : (d.kind == 4) = false := h4
  repeat (refine go_ ?_; conv => whnf)
  refine ⟨fun h5 => ?_, fun h5 => ?_⟩
  · have h5 : (d.kind == 5) = true := h5
    repeat (refine go_ ?_; conv => whnf)
    refine .one (some [1]) rfl ?_
    conv => whnf
    repeat (refine go_ ?_; conv => whnf)
    have hbare : d.bare = ⟨d.kind, En.zero, s0, d.page, Pg.zero⟩ := by unfold De.bare; simp only [h1, h2, h3, h4, h5, cond_true, cond_false]; try rfl
    have hbad : d.badB = decide (d.page < 1) := by unfold De.badB; simp only [h1, h2, h3, h4, h5, cond_true, cond_false]; try rfl
    have hk4 : (d.kind == 4) = false := h4
    have hsl : bareSl d a c = .slice none 0 0 := by unfold bareSl; rw [hk4]; rfl
    refine ret_conE rfl ?_
    show Value.tuple #[De.val ⟨d.kind, En.zero, s0, d.page, Pg.zero⟩ (.slice none 0 0), .bool (decide (d.page ≥ 1))] = _
    unfold bareR
    rw [hbare, hbad, hsl]
    refine congrArg (fun b => Value.tuple #[_, Value.bool b]) ?_
    exact ge_lt1 d.page
  have h5 : (d.kind == 5) = false := h5
  repeat (refine go_ ?_; conv => whnf)
  have hbare : d.bare = ⟨d.kind, En.zero, s0, 0, Pg.zero⟩ := by unfold De.bare; simp only [h1, h2, h3, h4, h5, cond_false]; try rfl
  have hbad : d.badB = true := by unfold De.badB; simp only [h1, h2, h3, h4, h5, cond_false]; try rfl
  have hk4 : (d.kind == 4) = false := h4
  have hsl : bareSl d a c = .slice none 0 0 := by unfold bareSl; rw [hk4]; rfl
  refine ret_conE rfl ?_
  show Value.tuple #[De.val ⟨d.kind, En.zero, s0, 0, Pg.zero⟩ (.slice none 0 0), .bool false] = _
  unfold bareR
  rw [hbare, hbad, hsl]
  refine congrArg (fun b => Value.tuple #[_, Value.bool b]) ?_
  exact rfl
end Go.W
namespace Go.Eng
theorem sEq_comm (a b : Str) : sEq a b = sEq b a := by
  unfold sEq
  rw [Bool.eq_iff_iff, beq_iff_eq, beq_iff_eq]
  exact ⟨fun h => h.symm, fun h => h.symm⟩
theorem ieq_comm (a b : Int) : (a == b) = (b == a) := by rw [Bool.eq_iff_iff, beq_iff_eq, beq_iff_eq]; exact ⟨fun h => h.symm, fun h => h.symm⟩
theorem En.eq_comm (x y : En) : x.eq y = y.eq x := by
  show (sEq x.key y.key && (x.slot == y.slot && (x.gen == y.gen && (x.child == y.child && true)))) = (sEq y.key x.key && (y.slot == x.slot && (y.gen == x.gen && (y.child == x.child && true))))
  rw [sEq_comm, ieq_comm x.slot, ieq_comm x.gen, ieq_comm x.child]
theorem entsEq_comm : ∀ (a b : List En), entsEq a b = entsEq b a
  | [], [] => rfl
  | [], y :: s => rfl
  | x :: r, [] => rfl
  | x :: r, y :: s => by simp only [entsEq]; rw [En.eq_comm, entsEq_comm]
theorem Pg.eq_comm (p q : Pg) : p.eq q = q.eq p := by
  unfold Pg.eq
  rw [sEq_comm p.low, sEq_comm p.high, ieq_comm p.right, entsEq_comm, show (p.leaf == q.leaf) = (q.leaf == p.leaf) by cases p.leaf <;> cases q.leaf <;> rfl]
theorem De.eq_comm (x y : De) : x.eq y = y.eq x := by
  unfold De.eq
  rw [ieq_comm x.kind, En.eq_comm, sEq_comm x.key, ieq_comm x.page, Pg.eq_comm]
end Go.Eng
namespace Go.W
theorem De.sv_slice {β : Lay} {A : Anc} {d : De} {a : Option Addr} {c : Nat} {y : Value} (h : (d.sv a c).Rel β A y) : d.right.list.length ≤ c ∧ SliceAt A a d.right.list.length 4 (entE d.right.list) := by
  simp only [De.sv, SV.Rel, RelL] at h
  obtain ⟨ys, _, y1, t1, _, _, y2, t2, _, _, y3, t3, _, _, y4, t4, _, _, y5, t5, _, _, y6, t6, _, _, y7, t7, _, _, y8, t8, _, _, y9, t9, _, _, y10, t10, _, _, y11, t11, _, _, y12, t12, _, h, _⟩ := h
  exact h.2
theorem bare_right (d : De) : (d.kind == 4) = true → d.bare.right = d.right := by
  intro h
  have : d.kind = 4 := by simpa using h
  unfold De.bare
  simp [this]
theorem bare_right0 (d : De) : (d.kind == 4) = false → d.bare.right.list = [] := by
  intro h
  unfold De.bare
  rw [h]
  cases d.kind == 1 <;> cases d.kind == 2 <;> cases d.kind == 3 <;> cases d.kind == 5 <;> rfl
theorem rdcheck_con (d : De) (a : Option Addr) (c : Nat) (hl : d.right.list.length ≤ lim) : Con P 29 [d.sv a c] (.int .i64 d.check) := by
  refine con_of ctx_ok Proofs.Try.func29 rfl (args := [d.sv a c]) (R := fun w M e w' => e = .returned (.int .i64 d.check) ∧ Stp M w w') rfl rfl fun A hat => vcStep_sound ctx_ok tb_all _ _ _ _ _ ?_
  conv => whnf
  repeat (refine go_ ?_; conv => whnf)
  refine ⟨rfl, con_vc (bare_con d a c hl) ?_⟩
  conv => whnf
  repeat (refine go_ ?_; conv => whnf)
  have key : Con P 19 [d.bare.svL (.v (bareSl d a c)), d.sv a c] (.bool (!!d.eq d.bare)) := by
    rw [Bool.not_not, De.eq_comm]
    cases hk : (d.kind == 4) with
    | true =>
      have hr := bare_right d hk
      refine Con.arg (rdsame_con d.bare d a a c c (by rw [hr]; exact hl)) (fun β A vals h => ?_)
      have hs : d.right.list.length ≤ c ∧ SliceAt A a d.right.list.length 4 (entE d.right.list) := by
        simp only [RelL] at h
        obtain ⟨y1, t1, _, _, y2, t2, _, g2, _⟩ := h
        exact De.sv_slice g2
      refine rel2_up h (fun y h => ?_) (fun y h => h)
      rw [De.sv_eq, hr]
      refine agg_last (fun y hy => ?_) h
      unfold bareSl at hy
      rw [hk] at hy
      exact raw_ext hy hs.1 hs.2
    | false =>
      have hr := bare_right0 d hk
      refine Con.arg (rdsame_con d.bare d none a 0 c (by rw [hr]; simp [lim])) (fun β A vals h => ?_)
      refine rel2_up h (fun y h => ?_) (fun y h => h)
      unfold bareSl at h
      rw [hk] at h
      exact De.up_nil hr h
  refine ⟨rfl, gcon_vc key ?_⟩
  conv => whnf
  repeat (refine go_ ?_; conv => whnf)
  refine ⟨fun h2 => ?_, fun h2 => ?_⟩
  · have h2 : (bif !!d.badB then true else !!!d.eq d.bare) = true := h2
    repeat (refine go_ ?_; conv => whnf)
    refine ret_con rfl ?_
    show Value.int .i64 90 = _
    rw [De.check_yes (by revert h2; generalize d.eq d.bare = x; generalize d.badB = z; cases x <;> cases z <;> simp)]
  · have h2 : (bif !!d.badB then true else !!!d.eq d.bare) = false := h2
    repeat (refine go_ ?_; conv => whnf)
    refine ret_con rfl ?_
    show Value.int .i64 0 = _
    rw [De.check_no (by revert h2; generalize d.eq d.bare = x; generalize d.badB = z; cases x <;> cases z <;> simp)]
end Go.W
end
