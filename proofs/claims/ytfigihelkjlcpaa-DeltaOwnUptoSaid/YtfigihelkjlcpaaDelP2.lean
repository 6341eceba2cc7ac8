/- Lemmas for the proof of a law of the seat Ytfigihelkjlcpaa: an own evaluator of the model's programs, contracts of functions. -/
import Derived.Test.YtfigihelkjlcpaaDelP1
section
open Go Go.Eng
namespace Go.W
theorem rclone_con (p : Pg) (a : Option Addr) (c : Nat) (hlen : p.list.length ≤ lim) : ConR P 21 [p.sv a c] (fun _ => True) 30 4 p.list.length (entE p.list) p.val := by
  refine con_ofP (args := [p.sv a c]) (Pre := fun _ => True) ctx_ok Proofs.Try.func21 rfl (R := RowR 30 4 p.list.length (entE p.list) p.val) rfl rfl fun A hat hpre => vcStep_sound ctx_ok tb_all _ _ _ _ _ ?_
  conv => whnf
  repeat (refine go_ ?_; conv => whnf)
  refine ⟨⟨trivial, fun i hi => ⟨rfl, entE_one _ _⟩, ?_⟩, ?_⟩
  · show (0 + p.list.length) * 40 ≤ 140737488355328
    unfold lim at hlen; omega
  conv => whnf
  repeat (refine go_ ?_; conv => whnf)
  have h0 : 0 + p.list.length = p.list.length := Nat.zero_add _
  refine ret_conR p.shape (l := 2) (n := p.list.length) (N := 0 + p.list.length) (fun _ _ _ h => one_res (by rw [h0] at h; exact h)) rfl (by omega) (fun i hi => rfl)
end Go.W
namespace Go.Eng
theorem De.shape (d : De) : Shape d.svL d.val := ⟨fun β A s y h => by
  simp only [De.svL, De.val, SV.Rel, RelL, List.cons_append, List.nil_append]
  exact ⟨_, rfl, _, _, rfl, rfl, _, _, rfl, rfl, _, _, rfl, rfl, _, _, rfl, rfl, _, _, rfl, rfl, _, _, rfl, rfl, _, _, rfl, rfl, _, _, rfl, rfl, _, _, rfl, rfl, _, _, rfl, rfl, _, _, rfl, rfl, _, _, rfl, h, rfl⟩, fun β A s y h => by
  simp only [De.svL, SV.Rel, RelL, List.cons_append, List.nil_append] at h
  obtain ⟨ys, rfl, y1, t1, rfl, rfl, y2, t2, rfl, rfl, y3, t3, rfl, rfl, y4, t4, rfl, rfl, y5, t5, rfl, rfl, y6, t6, rfl, rfl, y7, t7, rfl, rfl, y8, t8, rfl, rfl, y9, t9, rfl, rfl, y10, t10, rfl, rfl, y11, t11, rfl, rfl, y12, t12, rfl, h, rfl⟩ := h
  exact ⟨y12, h, rfl⟩⟩
end Go.Eng
namespace Go.W
theorem dclone_con (d : De) (a : Option Addr) (c : Nat) (hlen : d.right.list.length ≤ lim) :
    ConR P 20 [d.sv a c] (fun A => SliceAt A a d.right.list.length 4 (entE d.right.list) ∧ d.right.list.length ≤ c) 30 4 d.right.list.length (entE d.right.list) d.val := by
  refine con_ofP (args := [d.sv a c]) (Pre := fun A => SliceAt A a d.right.list.length 4 (entE d.right.list) ∧ d.right.list.length ≤ c) ctx_ok Proofs.Try.func20 rfl (R := RowR 30 4 d.right.list.length (entE d.right.list) d.val) rfl rfl fun A hat hpre => vcStep_sound ctx_ok tb_all _ _ _ _ _ ?_
  conv => whnf
  repeat (refine go_ ?_; conv => whnf)
  refine ⟨rfl, conR_row (clone_con d.right a c hlen) d.right.shape (fun A' hl => ⟨hpre.1.later hl, hpre.2⟩) fun A2 hA2 => ?_⟩
  conv => whnf
  repeat (refine go_ ?_; conv => whnf)
  refine ret_conR d.shape (l := 2) (fun _ _ _ h => one_res h) rfl (Nat.le_refl _) (fun i hi => rfl)
end Go.W
end

section
open Go Go.Eng
namespace Go.W
/-- rows, as lists -/
def IsL (n : Nat) (els : Nat → List Value) (l : List En) : Prop := n = l.length ∧ ∀ j, j < n → els j = entE l j
theorem IsL.nil {els : Nat → List Value} : IsL 0 els [] := ⟨rfl, fun j hj => absurd hj (Nat.not_lt_zero j)⟩
theorem IsL.ext {l : List En} : IsL l.length (entE l) l := ⟨rfl, fun _ _ => rfl⟩
theorem IsL.one {e : En} : IsL 1 (tabE [e.cells]) [e] := by
  refine ⟨rfl, fun j hj => ?_⟩
  have : j = 0 := by omega
  subst this; rfl
theorem IsL.join {n m : Nat} {e e' : Nat → List Value} {x y : List En} (h : IsL n e x) (h' : IsL m e' y) : IsL (n + m) (joinE n e e') (x ++ y) := by
  obtain ⟨rfl, h1⟩ := h
  obtain ⟨rfl, h2⟩ := h'
  refine ⟨by simp, fun j hj => ?_⟩
  rw [← joinE_entE x y j hj]
  unfold joinE
  cases hb : Nat.blt j x.length with
  | true => exact h1 j (Nat.le_of_ble_eq_true hb)
  | false =>
    have : x.length ≤ j := by
      rcases Nat.lt_or_ge j x.length with h | h
      · rw [blt_yes h] at hb; cases hb
      · exact h
    exact h2 _ (by omega)
theorem IsL.cut {n : Nat} {e : Nat → List Value} {x : List En} (h : IsL n e x) {lo hi : Nat} (h1 : lo ≤ hi) (h2 : hi ≤ n) : IsL (hi - lo) (fun j => e (lo + j)) (cutL x lo hi) := by
  obtain ⟨rfl, h3⟩ := h
  exact ⟨(cutL_len x lo hi h2).symm, fun j hj => by rw [cutL_at x lo hi j hj]; exact h3 _ (by omega)⟩
theorem IsL.tail {n : Nat} {e : Nat → List Value} {x : List En} (h : IsL n e x) {lo : Nat} (h1 : lo ≤ n) : IsL (n - lo) (fun j => e (lo + j)) (x.drop lo) := by
  have := h.cut h1 (Nat.le_refl n)
  rw [h.1, cutL_tail, ← h.1] at this
  exact this
theorem IsL.head {n : Nat} {e : Nat → List Value} {x : List En} (h : IsL n e x) {hi : Nat} (h1 : hi ≤ n) : IsL (hi - 0) (fun j => e (0 + j)) (x.take hi) := by
  have := h.cut (Nat.zero_le hi) h1
  rw [cutL_head] at this
  exact this
theorem rdclone_con (d : De) (a : Option Addr) (c : Nat) (hlen : d.right.list.length ≤ lim) :
    ConR P 22 [d.sv a c] (fun _ => True) 30 4 d.right.list.length (entE d.right.list) d.val := by
  refine con_ofP (args := [d.sv a c]) (Pre := fun _ => True) ctx_ok Proofs.Try.func22 rfl (R := RowR 30 4 d.right.list.length (entE d.right.list) d.val) rfl rfl fun A hat hpre => vcStep_sound ctx_ok tb_all _ _ _ _ _ ?_
  conv => whnf
  repeat (refine go_ ?_; conv => whnf)
  refine ⟨rfl, conR_row (rclone_con d.right a c hlen) d.right.shape (fun A' hl => trivial) fun A2 hA2 => ?_⟩
  conv => whnf
  repeat (refine go_ ?_; conv => whnf)
  refine ret_conR d.shape (l := 2) (fun _ _ _ h => one_res h) rfl (Nat.le_refl _) (fun i hi => rfl)
theorem rmerge_con (p q : Pg) (a b : Option Addr) (c d : Nat) (hl : p.list.length + q.list.length ≤ lim) :
    ConR P 57 [p.sv a c, q.sv b d] (fun _ => True) 30 4 (Pg.merges p q).1.list.length (entE (Pg.merges p q).1.list) (fun y => .tuple #[(Pg.merges p q).1.val y, .int .i64 (Pg.merges p q).2]) := by
  refine con_ofP (args := [p.sv a c, q.sv b d]) (Pre := fun _ => True) ctx_ok Proofs.Try.func57 rfl (R := RowR 30 4 (Pg.merges p q).1.list.length (entE (Pg.merges p q).1.list) (fun y => .tuple #[(Pg.merges p q).1.val y, .int .i64 (Pg.merges p q).2])) rfl rfl fun A hat hpre => vcStep_sound ctx_ok tb_all _ _ _ _ _ ?_
  conv => whnf
  repeat (refine go_ ?_; conv => whnf)
  refine ⟨fun h1 => ?_, fun h1 => ?_⟩
  · have h1 : mergeBad p q = true := h1
    have hp : Pg.merges p q = (Pg.zero, 72) := by unfold Pg.merges; rw [h1]; rfl
    rw [hp]
    repeat (refine go_ ?_; conv => whnf)
    exact ret_conR0 (Pg.zero.shapeT 72) (fun _ _ _ h => two_res h) rfl
  · have h1 : mergeBad p q = false := h1
    have hp : Pg.merges p q = (⟨p.leaf, p.low, q.high, q.right, p.list ++ q.list⟩, 0) := by unfold Pg.merges; rw [h1]; rfl
    rw [hp]
    repeat (refine go_ ?_; conv => whnf)
    refine ⟨rfl, conR_row (rclone_con p a c (by omega)) p.shape (fun A' hl' => trivial) fun A3 hA3 => ?_⟩
    conv => whnf
    repeat (refine go_ ?_; conv => whnf)
    refine ⟨⟨Nat.le_refl _, fun i hi => ⟨rfl, entE_one _ _⟩, ?_⟩, ?_⟩
    · show (p.list.length + q.list.length) * 40 ≤ 140737488355328
      unfold lim at hl; omega
    conv => whnf
    repeat (refine go_ ?_; conv => whnf)
    refine .one (some [4]) rfl ?_
    conv => whnf
    repeat (refine go_ ?_; conv => whnf)
    have hlen : (p.list ++ q.list).length = p.list.length + q.list.length := by simp
    refine ret_conR ((⟨p.leaf, p.low, q.high, q.right, p.list ++ q.list⟩ : Pg).shapeT 0) (l := 5) (n := (p.list ++ q.list).length) (N := p.list.length + q.list.length) (fun _ _ _ h => two_res (by rw [hlen]; exact h)) rfl (by omega) (fun i hi => joinE_entE p.list q.list i (by omega))
theorem rremove_con (p : Pg) (key : Str) (a : Option Addr) (c : Nat) (hl : p.list.length ≤ lim) (hlc : p.list.length ≤ c) :
    ConR P 56 [p.sv a c, .v (.string key)] (fun _ => True) 30 4 (Pg.removes p key).1.list.length (entE (Pg.removes p key).1.list) (fun y => .tuple #[(Pg.removes p key).1.val y, .int .i64 (Pg.removes p key).2]) := by
  refine con_ofP (args := [p.sv a c, .v (.string key)]) (Pre := fun A => True) ctx_ok Proofs.Try.func56 rfl (R := RowR 30 4 (Pg.removes p key).1.list.length (entE (Pg.removes p key).1.list) (fun y => .tuple #[(Pg.removes p key).1.val y, .int .i64 (Pg.removes p key).2])) rfl rfl fun A hat hpre => vcStep_sound ctx_ok tb_all _ _ _ _ _ ?_
  conv => whnf
  repeat (refine go_ ?_; conv => whnf)
  refine loop_i (fun i : Nat => [(1, .v (.string key)), (2, .loc 0 0), (4, .loc 1 0), (6, .v (.int .i64 i))])
      (fun _ => [.box 24 [.v (.bool p.leaf), .v (.string p.low), .v (.string p.high), .v (.int .i64 p.right), .ext a p.list.length c 4 (entE p.list)], .box 24 [.v (.bool false), .v (.string s0), .v (.string s0), .v (.int .i64 0), .v (.slice none 0 0)]]) (fun i => p.list.length - i)
      (fun i _ => i ≤ p.list.length ∧ ∀ j, j < i → sEq (p.list.getD j En.zero).key key = false) 0 [0, 1] ⟨⟨rfl, rfl, rfl, rfl, trivial⟩, ⟨⟨rfl, rfl⟩, ⟨rfl, rfl⟩, trivial⟩, rfl, rfl, rfl⟩ ⟨Nat.zero_le _, fun j hj => by omega⟩ ?_
  rintro i A1 ⟨hi, hno⟩
  repeat (refine go_ ?_; conv => whnf)
  refine ⟨fun h2 => ?_, fun h2 => ?_⟩
  · have h2 : i < p.list.length := lt_of_dec h2
    repeat (refine go_ ?_; conv => whnf)
    refine ⟨⟨by omega, by omega⟩, ?_⟩
    conv => whnf
    repeat (refine go_ ?_; conv => whnf)
    refine ⟨fun h3 => ?_, fun h3 => ?_⟩
    · have h3 : sEq (p.list.getD i En.zero).key key = true := h3
      have hx := fIx_is (fun x => sEq x.key key) p.list i hi hno (fun _ => h3)
      have hp : Pg.removes p key = (p.put (p.list.take i ++ p.list.drop (i + 1)), 0) := by
        unfold Pg.removes; rw [hx, blt_yes h2]; rfl
      rw [hp]
      have hw : IntKind.i64.wrap ((i : Int) + 1) = ((i + 1 : Nat) : Int) := by
        unfold lim at hl
        rw [wrap_in (by omega) (by omega)]; rfl
      repeat (refine go_ ?_; conv => whnf)
      refine .split (some [2]) 12 rfl ?_
      conv => whnf
      refine ⟨by show ((0 : Int) ≤ (i : Int) ∧ (i : Int) ≤ (c : Int)) ∧ i ≤ p.list.length; omega, ?_⟩
      conv => whnf
      refine ⟨⟨trivial, fun i hi => ⟨rfl, entE_one _ _⟩, ?_⟩, ?_⟩
      · show (0 + (i - 0)) * 40 ≤ 140737488355328
        unfold lim at hl; omega
      conv => whnf
      refine ⟨by show ((0 : Int) ≤ IntKind.i64.wrap ((i : Int) + 1) ∧ IntKind.i64.wrap ((i : Int) + 1) ≤ (p.list.length : Int)) ∧ p.list.length ≤ p.list.length; rw [hw]; omega, ?_⟩
      conv => whnf
      refine ⟨⟨Nat.le_refl _, fun i hi => ⟨rfl, entE_one _ _⟩, ?_⟩, ?_⟩
      · show (0 + (i - 0) + (p.list.length - (IntKind.i64.wrap ((i : Int) + 1)).toNat)) * 40 ≤ 140737488355328
        unfold lim at hl; omega
      conv => whnf
      repeat (refine go_ ?_; conv => whnf)
      have hL : IsL (0 + (i - 0) + (p.list.length - (IntKind.i64.wrap ((i : Int) + 1)).toNat)) (joinE (0 + (i - 0)) (joinE 0 (fun _ => []) (fun j => entE p.list (0 + j))) (fun j => entE p.list ((IntKind.i64.wrap ((i : Int) + 1)).toNat + j))) (p.list.take i ++ p.list.drop (i + 1)) := by
        rw [hw]
        refine IsL.join (IsL.nil.join ?_) (IsL.ext.tail (by omega))
        exact IsL.ext.head (by omega)
      refine ret_conR ((p.put (p.list.take i ++ p.list.drop (i + 1))).shapeT 0) (l := 3) (n := (p.list.take i ++ p.list.drop (i + 1)).length) (N := 0 + (i - 0) + (p.list.length - (IntKind.i64.wrap ((i : Int) + 1)).toNat)) (fun _ _ _ h => two_res (by rw [← hL.1]; exact h)) rfl (by rw [← hL.1]; exact Nat.le_refl _) (fun k hk => hL.2 k (by rw [hL.1]; exact hk))
    · have h3 : sEq (p.list.getD i En.zero).key key = false := h3
      repeat (refine go_ ?_; conv => whnf)
      refine next_i (i + 1) [0, 1] (by omega) ⟨⟨rfl, rfl, rfl, ?_, trivial⟩, ⟨⟨rfl, rfl⟩, ⟨rfl, rfl⟩, trivial⟩, rfl, rfl, rfl⟩ ⟨h2, fun j hj => ?_⟩
      · exact w_succ i (by unfold lim at hl; omega)
      · rcases Nat.lt_or_ge j i with h | h
        · exact hno j h
        · have : j = i := by omega
          subst this; exact h3
  · have h2 : p.list.length ≤ i := ge_of_dec h2
    have hx := fIx_is (fun x => sEq x.key key) p.list i hi hno (fun h => by omega)
    have hp : Pg.removes p key = (Pg.zero, 4) := by
      unfold Pg.removes; rw [hx, blt_no (by omega)]; rfl
    rw [hp]
    repeat (refine go_ ?_; conv => whnf)
    exact ret_conR0 (Pg.zero.shapeT 4) (fun _ _ _ h => two_res h) rfl
end Go.W
end

section
open Go Go.Eng
namespace Go.W
theorem one_ok (e : En) (i : Nat) (hi : i < 1) : (tabE [e.cells] i).length = 4 ∧ ∀ v ∈ tabE [e.cells] i, v.oneCell' = true := by
  have : i = 0 := by omega
  subst this
  exact ⟨rfl, entE_one [e] 0⟩
theorem puts_yes {p : Pg} {e : En} (hh : Pg.has p e.key = true) {i : Nat} (hx : fIx (fun x => sEq x.key e.key) p.list = i) (hi : i < p.list.length) : Pg.puts p e = (p.put (p.list.take i ++ [e] ++ p.list.drop (i + 1)), 0) := by
  unfold Pg.puts putL
  rw [hh, hx, blt_yes hi]
  simp
theorem puts_new {p : Pg} {e : En} (hh : Pg.has p e.key = true) {k : Nat} (hx : fIx (fun x => sEq x.key e.key) p.list = p.list.length) (hk : fIx (fun x => gtB x e) p.list = k) : Pg.puts p e = (p.put (p.list.take k ++ [e] ++ p.list.drop k), 0) := by
  unfold Pg.puts putL
  rw [hh, hx, blt_no (Nat.lt_irrefl _), hk]
  simp
theorem rput_con (p : Pg) (e : En) (a : Option Addr) (c : Nat) (hl : p.list.length + 1 ≤ lim) (hlc : p.list.length ≤ c) :
    ConR P 55 [p.sv a c, e.sv] (fun _ => True) 30 4 (Pg.puts p e).1.list.length (entE (Pg.puts p e).1.list) (fun y => .tuple #[(Pg.puts p e).1.val y, .int .i64 (Pg.puts p e).2]) := by
  refine con_ofP (args := [p.sv a c, e.sv]) (Pre := fun A => True) ctx_ok Proofs.Try.func55 rfl (R := RowR 30 4 (Pg.puts p e).1.list.length (entE (Pg.puts p e).1.list) (fun y => .tuple #[(Pg.puts p e).1.val y, .int .i64 (Pg.puts p e).2])) rfl rfl fun A hat hpre => vcStep_sound ctx_ok tb_all _ _ _ _ _ ?_
  conv => whnf
  repeat (refine go_ ?_; conv => whnf)
  refine ⟨rfl, con_vc (rhas_con p a c e.key) ?_⟩
  conv => whnf
  repeat (refine go_ ?_; conv => whnf)
  refine ⟨fun h1 => ?_, fun h1 => ?_⟩
  · have h1 : Pg.has p e.key = false := by
      have : (!Pg.has p e.key) = true := h1
      simpa using this
    have hp : Pg.puts p e = (Pg.zero, 73) := by unfold Pg.puts; rw [h1]; rfl
    rw [hp]
    repeat (refine go_ ?_; conv => whnf)
    exact ret_conR0 (Pg.zero.shapeT 73) (fun _ _ _ h => two_res h) rfl
  have hh : Pg.has p e.key = true := by
    have : (!Pg.has p e.key) = false := h1
    simpa using this
  repeat (refine go_ ?_; conv => whnf)
  refine loop_i (fun i : Nat => [(2, .loc 0 0), (3, .loc 1 0), (4, .loc 2 0), (6, .v (.slice none 0 0)), (7, .v (.int .i64 i))])
      (fun _ => [.box 24 [.v (.bool p.leaf), .v (.string p.low), .v (.string p.high), .v (.int .i64 p.right), .ext a p.list.length c 4 (entE p.list)], .box 30 [.v (.string e.key), .v (.int .i64 e.slot), .v (.int .i64 e.gen), .v (.int .i64 e.child)], .box 24 [.v (.bool false), .v (.string s0), .v (.string s0), .v (.int .i64 0), .v (.slice none 0 0)]]) (fun i => p.list.length - i)
      (fun i _ => i ≤ p.list.length ∧ ∀ j, j < i → sEq (p.list.getD j En.zero).key e.key = false) 0 [0, 1, 2] ⟨⟨rfl, rfl, rfl, rfl, rfl, trivial⟩, ⟨⟨rfl, rfl⟩, ⟨rfl, rfl⟩, ⟨rfl, rfl⟩, trivial⟩, rfl, rfl, rfl⟩ ⟨Nat.zero_le _, fun j hj => by omega⟩ ?_
  rintro i A1 ⟨hi, hno⟩
  repeat (refine go_ ?_; conv => whnf)
  refine ⟨fun h2 => ?_, fun h2 => ?_⟩
  · have h2 : i < p.list.length := lt_of_dec h2
    repeat (refine go_ ?_; conv => whnf)
    refine .one none rfl ?_
    conv => whnf
    refine ⟨⟨by omega, by omega⟩, ?_⟩
    conv => whnf
    repeat (refine go_ ?_; conv => whnf)
    refine ⟨fun h3 => ?_, fun h3 => ?_⟩
    · have h3 : sEq (p.list.getD i En.zero).key e.key = true := h3
      have hx := fIx_is (fun x => sEq x.key e.key) p.list i hi hno (fun _ => h3)
      rw [puts_yes hh hx h2]
      have hw : IntKind.i64.wrap ((i : Int) + 1) = ((i + 1 : Nat) : Int) := by
        unfold lim at hl
        rw [wrap_in (by omega) (by omega)]; rfl
      repeat (refine go_ ?_; conv => whnf)
      refine .two (some [3, 4]) 15 5 7 [0, 1, 2, 3, 4, 5, 6, 7, 8, 9, 10, 11, 12, 13, 14] [0, 1, 2, 3, 4, 6, 7, 5, 8, 9, 10, 11, 12, 13, 14] rfl rfl ?_ ?_
      · conv => whnf
        refine ⟨by show ((0 : Int) ≤ (i : Int) ∧ (i : Int) ≤ (c : Int)) ∧ i ≤ p.list.length; omega, ?_⟩
        conv => whnf
        refine ⟨⟨trivial, fun i hi => ⟨rfl, entE_one _ _⟩, ?_⟩, ?_⟩
        · show (0 + (i - 0)) * 40 ≤ 140737488355328
          unfold lim at hl; omega
        conv => whnf
        refine ⟨fun A2 q2 hA2 hq2 => ?_⟩
        conv => whnf
        refine ⟨⟨Nat.le_refl _, one_ok e, ?_⟩, ?_⟩
        · show (0 + (i - 0) + 1) * 40 ≤ 140737488355328
          unfold lim at hl; omega
        conv => whnf
        refine ⟨by show ((0 : Int) ≤ IntKind.i64.wrap ((i : Int) + 1) ∧ IntKind.i64.wrap ((i : Int) + 1) ≤ (p.list.length : Int)) ∧ p.list.length ≤ p.list.length; rw [hw]; omega, ?_⟩
        conv => whnf
        refine ⟨⟨Nat.le_refl _, fun i hi => ⟨rfl, entE_one _ _⟩, ?_⟩, ?_⟩
        · show (0 + (i - 0) + 1 + (p.list.length - (IntKind.i64.wrap ((i : Int) + 1)).toNat)) * 40 ≤ 140737488355328
          unfold lim at hl; omega
        conv => whnf
        repeat (refine go_ ?_; conv => whnf)
        have hL : IsL (0 + (i - 0) + 1 + (p.list.length - (IntKind.i64.wrap ((i : Int) + 1)).toNat)) (joinE (0 + (i - 0) + 1) (joinE (0 + (i - 0)) (joinE 0 (fun _ => []) (fun j => entE p.list (0 + j))) (tabE [e.cells])) (fun j => entE p.list ((IntKind.i64.wrap ((i : Int) + 1)).toNat + j))) (p.list.take i ++ [e] ++ p.list.drop (i + 1)) := by
          rw [hw]
          refine IsL.join (IsL.join (IsL.nil.join ?_) IsL.one) (IsL.ext.tail (by omega))
          exact IsL.ext.head (by omega)
        refine ret_conR ((p.put (p.list.take i ++ [e] ++ p.list.drop (i + 1))).shapeT 0) (l := 5) (n := (p.list.take i ++ [e] ++ p.list.drop (i + 1)).length) (N := 0 + (i - 0) + 1 + (p.list.length - (IntKind.i64.wrap ((i : Int) + 1)).toNat)) (fun _ _ _ h => two_res (by rw [← hL.1]; exact h)) rfl (by rw [← hL.1]; exact Nat.le_refl _) (fun k hk => hL.2 k (by rw [hL.1]; exact hk))
      · conv => whnf
        refine ⟨by show ((0 : Int) ≤ (i : Int) ∧ (i : Int) ≤ (c : Int)) ∧ i ≤ p.list.length; omega, ?_⟩
        conv => whnf
        refine ⟨fun A2 q2 hA2 hq2 => ?_⟩
        conv => whnf
        refine ⟨⟨trivial, fun i hi => ⟨rfl, entE_one _ _⟩, ?_⟩, ?_⟩
        · show (0 + (i - 0)) * 40 ≤ 140737488355328
          unfold lim at hl; omega
        conv => whnf
        refine ⟨⟨Nat.le_refl _, one_ok e, ?_⟩, ?_⟩
        · show (0 + (i - 0) + 1) * 40 ≤ 140737488355328
          unfold lim at hl; omega
        conv => whnf
        refine ⟨by show ((0 : Int) ≤ IntKind.i64.wrap ((i : Int) + 1) ∧ IntKind.i64.wrap ((i : Int) + 1) ≤ (p.list.length : Int)) ∧ p.list.length ≤ p.list.length; rw [hw]; omega, ?_⟩
        conv => whnf
        refine ⟨⟨Nat.le_refl _, fun i hi => ⟨rfl, entE_one _ _⟩, ?_⟩, ?_⟩
        · show (0 + (i - 0) + 1 + (p.list.length - (IntKind.i64.wrap ((i : Int) + 1)).toNat)) * 40 ≤ 140737488355328
          unfold lim at hl; omega
        conv => whnf
        repeat (refine go_ ?_; conv => whnf)
        have hL : IsL (0 + (i - 0) + 1 + (p.list.length - (IntKind.i64.wrap ((i : Int) + 1)).toNat)) (joinE (0 + (i - 0) + 1) (joinE (0 + (i - 0)) (joinE 0 (fun _ => []) (fun j => entE p.list (0 + j))) (tabE [e.cells])) (fun j => entE p.list ((IntKind.i64.wrap ((i : Int) + 1)).toNat + j))) (p.list.take i ++ [e] ++ p.list.drop (i + 1)) := by
          rw [hw]
          refine IsL.join (IsL.join (IsL.nil.join ?_) IsL.one) (IsL.ext.tail (by omega))
          exact IsL.ext.head (by omega)
        refine ret_conR ((p.put (p.list.take i ++ [e] ++ p.list.drop (i + 1))).shapeT 0) (l := 5) (n := (p.list.take i ++ [e] ++ p.list.drop (i + 1)).length) (N := 0 + (i - 0) + 1 + (p.list.length - (IntKind.i64.wrap ((i : Int) + 1)).toNat)) (fun _ _ _ h => two_res (by rw [← hL.1]; exact h)) rfl (by rw [← hL.1]; exact Nat.le_refl _) (fun k hk => hL.2 k (by rw [hL.1]; exact hk))
    · have h3 : sEq (p.list.getD i En.zero).key e.key = false := h3
      repeat (refine go_ ?_; conv => whnf)
      refine next_i (i + 1) [0, 1, 2] (by omega) ⟨⟨rfl, rfl, rfl, rfl, ?_, trivial⟩, ⟨⟨rfl, rfl⟩, ⟨rfl, rfl⟩, ⟨rfl, rfl⟩, trivial⟩, rfl, rfl, rfl⟩ ⟨h2, fun j hj => ?_⟩
      · exact w_succ i (by unfold lim at hl; omega)
      · rcases Nat.lt_or_ge j i with h | h
        · exact hno j h
        · have : j = i := by omega
          subst this; exact h3
  · have h2 : p.list.length ≤ i := ge_of_dec h2
    have hx := fIx_is (fun x => sEq x.key e.key) p.list i hi hno (fun h => by omega)
    have hin : i = p.list.length := by omega
    subst hin
    repeat (refine go_ ?_; conv => whnf)
    refine loop_i (fun i : Nat => [(2, .loc 0 0), (3, .loc 1 0), (4, .loc 2 0), (6, .v (.slice none 0 0)), (8, .v (.int .i64 i))])
      (fun _ => [.box 24 [.v (.bool p.leaf), .v (.string p.low), .v (.string p.high), .v (.int .i64 p.right), .ext a p.list.length c 4 (entE p.list)], .box 30 [.v (.string e.key), .v (.int .i64 e.slot), .v (.int .i64 e.gen), .v (.int .i64 e.child)], .box 24 [.v (.bool false), .v (.string s0), .v (.string s0), .v (.int .i64 0), .v (.slice none 0 0)]]) (fun i => p.list.length - i)
      (fun i _ => i ≤ p.list.length ∧ ∀ j, j < i → gtB (p.list.getD j En.zero) e = false) 0 [0, 1, 2] ⟨⟨rfl, rfl, rfl, rfl, rfl, trivial⟩, ⟨⟨rfl, rfl⟩, ⟨rfl, rfl⟩, ⟨rfl, rfl⟩, trivial⟩, rfl, rfl, rfl⟩ ⟨Nat.zero_le _, fun j hj => by omega⟩ ?_
    rintro i A2 ⟨hi, hno2⟩
    repeat (refine go_ ?_; conv => whnf)
    refine .one none rfl ?_
    conv => whnf
    refine ⟨?_, ?_⟩
    · conv => whnf
      intro g1
      have g1 : i < p.list.length := lt_of_dec g1
      show 0 ≤ (i : Int) ∧ (i : Int) < (p.list.length : Int)
      omega
    conv => whnf
    repeat (refine go_ ?_; conv => whnf)
    refine ⟨fun h2 => ?_, fun h2 => ?_⟩
    · have h2 : (bif decide ((i : Int) < (p.list.length : Int)) then leB e.key (p.list.getD i En.zero) else false) = true := h2
      have h3 : i < p.list.length := by
        by_cases h : (i : Int) < (p.list.length : Int)
        · omega
        · simp [h] at h2
      have h4 : gtB (p.list.getD i En.zero) e = false := by
        rw [show decide ((i : Int) < (p.list.length : Int)) = true by simpa using h3] at h2
        show (!leB e.key (p.list.getD i En.zero)) = false
        have h2 : leB e.key (p.list.getD i En.zero) = true := h2
        rw [h2]; rfl
      repeat (refine go_ ?_; conv => whnf)
      refine next_i (i + 1) [0, 1, 2] (by omega) ⟨⟨rfl, rfl, rfl, rfl, ?_, trivial⟩, ⟨⟨rfl, rfl⟩, ⟨rfl, rfl⟩, ⟨rfl, rfl⟩, trivial⟩, rfl, rfl, rfl⟩ ⟨h3, fun j hj => ?_⟩
      · exact w_succ i (by unfold lim at hl; omega)
      · rcases Nat.lt_or_ge j i with h | h
        · exact hno2 j h
        · have : j = i := by omega
          subst this; exact h4
    · have h2 : (bif decide ((i : Int) < (p.list.length : Int)) then leB e.key (p.list.getD i En.zero) else false) = false := h2
      have hk := fIx_is (fun x => gtB x e) p.list i hi hno2 (fun h => by
        rw [show decide ((i : Int) < (p.list.length : Int)) = true by simpa using h] at h2
        show (!leB e.key (p.list.getD i En.zero)) = true
        have h2 : leB e.key (p.list.getD i En.zero) = false := h2
        rw [h2]; rfl)
      rw [puts_new hh hx hk]
      have hw : (i : Int) = ((i : Nat) : Int) := rfl
      repeat (refine go_ ?_; conv => whnf)
      refine .two (some [3, 4]) 14 5 7 [0, 1, 2, 3, 4, 5, 6, 7, 8, 9, 10, 11, 12, 13] [0, 1, 2, 3, 4, 6, 7, 5, 8, 9, 10, 11, 12, 13] rfl rfl ?_ ?_
      · conv => whnf
        refine ⟨by show ((0 : Int) ≤ (i : Int) ∧ (i : Int) ≤ (c : Int)) ∧ i ≤ p.list.length; omega, ?_⟩
        conv => whnf
        refine ⟨⟨trivial, fun i hi => ⟨rfl, entE_one _ _⟩, ?_⟩, ?_⟩
        · show (0 + (i - 0)) * 40 ≤ 140737488355328
          unfold lim at hl; omega
        conv => whnf
        refine ⟨fun A2 q2 hA2 hq2 => ?_⟩
        conv => whnf
        refine ⟨⟨Nat.le_refl _, one_ok e, ?_⟩, ?_⟩
        · show (0 + (i - 0) + 1) * 40 ≤ 140737488355328
          unfold lim at hl; omega
        conv => whnf
        refine ⟨by show ((0 : Int) ≤ (i : Int) ∧ (i : Int) ≤ (p.list.length : Int)) ∧ p.list.length ≤ p.list.length; omega, ?_⟩
        conv => whnf
        refine ⟨⟨Nat.le_refl _, fun i hi => ⟨rfl, entE_one _ _⟩, ?_⟩, ?_⟩
        · show (0 + (i - 0) + 1 + (p.list.length - ((i : Int)).toNat)) * 40 ≤ 140737488355328
          unfold lim at hl; omega
        conv => whnf
        repeat (refine go_ ?_; conv => whnf)
        have hL : IsL (0 + (i - 0) + 1 + (p.list.length - ((i : Int)).toNat)) (joinE (0 + (i - 0) + 1) (joinE (0 + (i - 0)) (joinE 0 (fun _ => []) (fun j => entE p.list (0 + j))) (tabE [e.cells])) (fun j => entE p.list (((i : Int)).toNat + j))) (p.list.take i ++ [e] ++ p.list.drop (i)) := by
          refine IsL.join (IsL.join (IsL.nil.join ?_) IsL.one) (IsL.ext.tail (by omega))
          exact IsL.ext.head (by omega)
        refine ret_conR ((p.put (p.list.take i ++ [e] ++ p.list.drop (i))).shapeT 0) (l := 5) (n := (p.list.take i ++ [e] ++ p.list.drop (i)).length) (N := 0 + (i - 0) + 1 + (p.list.length - ((i : Int)).toNat)) (fun _ _ _ h => two_res (by rw [← hL.1]; exact h)) rfl (by rw [← hL.1]; exact Nat.le_refl _) (fun k hk => hL.2 k (by rw [hL.1]; exact hk))
      · conv => whnf
        refine ⟨by show ((0 : Int) ≤ (i : Int) ∧ (i : Int) ≤ (c : Int)) ∧ i ≤ p.list.length; omega, ?_⟩
        conv => whnf
        refine ⟨fun A2 q2 hA2 hq2 => ?_⟩
        conv => whnf
        refine ⟨⟨trivial, fun i hi => ⟨rfl, entE_one _ _⟩, ?_⟩, ?_⟩
        · show (0 + (i - 0)) * 40 ≤ 140737488355328
          unfold lim at hl; omega
        conv => whnf
        refine ⟨⟨Nat.le_refl _, one_ok e, ?_⟩, ?_⟩
        · show (0 + (i - 0) + 1) * 40 ≤ 140737488355328
          unfold lim at hl; omega
        conv => whnf
        refine ⟨by show ((0 : Int) ≤ (i : Int) ∧ (i : Int) ≤ (p.list.length : Int)) ∧ p.list.length ≤ p.list.length; omega, ?_⟩
        conv => whnf
        refine ⟨⟨Nat.le_refl _, fun i hi => ⟨rfl, entE_one _ _⟩, ?_⟩, ?_⟩
        · show (0 + (i - 0) + 1 + (p.list.length - ((i : Int)).toNat)) * 40 ≤ 140737488355328
          unfold lim at hl; omega
        conv => whnf
        repeat (refine go_ ?_; conv => whnf)
        have hL : IsL (0 + (i - 0) + 1 + (p.list.length - ((i : Int)).toNat)) (joinE (0 + (i - 0) + 1) (joinE (0 + (i - 0)) (joinE 0 (fun _ => []) (fun j => entE p.list (0 + j))) (tabE [e.cells])) (fun j => entE p.list (((i : Int)).toNat + j))) (p.list.take i ++ [e] ++ p.list.drop (i)) := by
          refine IsL.join (IsL.join (IsL.nil.join ?_) IsL.one) (IsL.ext.tail (by omega))
          exact IsL.ext.head (by omega)
        refine ret_conR ((p.put (p.list.take i ++ [e] ++ p.list.drop (i))).shapeT 0) (l := 5) (n := (p.list.take i ++ [e] ++ p.list.drop (i)).length) (N := 0 + (i - 0) + 1 + (p.list.length - ((i : Int)).toNat)) (fun _ _ _ h => two_res (by rw [← hL.1]; exact h)) rfl (by rw [← hL.1]; exact Nat.le_refl _) (fun k hk => hL.2 k (by rw [hL.1]; exact hk))
end Go.W
end

section
open Go Go.Eng
namespace Go.Eng
open Go.W
def Pg.below (p : Pg) (key : Str) : List En := p.list.filter (fun x => sLt x.key key)
def Pg.cuts (p : Pg) (d : De) : Pg := ⟨p.leaf, p.low, d.key, d.page, p.below d.key⟩
def cutBad (p : Pg) (d : De) : Bool := (sLt d.key p.low || sEq d.key p.low) || !Pg.has p d.key
def Pg.rems (p : Pg) (key : Str) : Pg × Int := bif !Pg.has p key then (Pg.zero, 73) else bif Nat.blt (fIx (fun x => sEq x.key key) p.list) p.list.length then ((Pg.removes p key).1, 0) else (p, 0)
def Pg.apply (p : Pg) (d : De) : Pg × Int :=
  bif !(d.check == 0) then (Pg.zero, d.check)
  else bif d.kind == 1 then Pg.puts p d.entry
  else bif d.kind == 2 then Pg.rems p d.key
  else bif d.kind == 3 then (bif cutBad p d then (Pg.zero, 90) else (p.cuts d, 0))
  else bif d.kind == 4 then Pg.merges p d.right
  else (Pg.zero, 91)
/-- a page that comes back as it came in -/
def aliasB (p : Pg) (d : De) : Bool := d.check == 0 && (!(d.kind == 1) && (d.kind == 2 && (Pg.has p d.key && !Nat.blt (fIx (fun x => sEq x.key d.key) p.list) p.list.length)))
/-- a function that answers with a list that can be read -/
def ConE (P : Program) (f : Nat) (args : List SV) (Pre : Anc → Prop) (n k : Nat) (els : Nat → List Value) (mk : Value → Value) : Prop :=
  ∀ O M w β vals, RelL β ⟨O, M, w⟩ args vals → At O M w → Pre ⟨O, M, w⟩ → Calls P f vals.toArray w fun e w' =>
    ∃ a c, n ≤ c ∧ SliceAt ⟨O, M, w'⟩ a n k els ∧ e = .returned (mk (.slice a n c)) ∧ Stp M w w'
theorem ConR.toE {P : Program} {f : Nat} {args : List SV} {Pre : Anc → Prop} {t k n : Nat} {els : Nat → List Value} {mk : Value → Value} (h : ConR P f args Pre t k n els mk) : ConE P f args Pre n k els mk :=
  fun O M w β vals hr hat hpre => (h O M w β vals hr hat hpre).mono fun e w' he => by
    obtain ⟨L, h1, h2, rfl, h4⟩ := he
    refine ⟨bif L.nl then none else some ⟨L.b, 0, none⟩, bif L.nl then 0 else L.cap, ?_, slice_of_row h1 h2 hat.OS, ?_, h4⟩
    · cases hn : L.nl with
      | true => have := h1.nil hn; omega
      | false => obtain ⟨cur, _, q, _⟩ := h1.at_ hn; exact q
    · unfold Loc.val
      cases hn : L.nl with
      | true => have := h1.nil hn; subst this; rfl
      | false => rfl
theorem SliceAt.stp {O M : Nat → Prop} {w w' : World} {a : Option Addr} {n k : Nat} {els : Nat → List Value} (h : SliceAt ⟨O, M, w⟩ a n k els) (hs : Stp M w w') (hM : ∀ k, M k → O k) : SliceAt ⟨O, M, w'⟩ a n k els :=
  h.later ⟨hs.mono (fun k _ hk => hM k hk), fun _ hk => .inl hk⟩
theorem conE_ext {P : Program} {B A : Anc} {hp : List Chunk} {f : Nat} {args : List SV} {Pre : Anc → Prop} {k n : Nat} {els : Nat → List Value} {mk : Value → Value} {mkS : SV → SV} {K : SV → Anc → List Chunk → Prop} {Kp : List PanicEntry → Anc → Prop} (h : ConE P f args Pre n k els mk) (hs : Shape mkS mk) (hpre : ∀ A', Later A A' → Pre A')
    (kk : ∀ A' a c, Later A A' → (∀ k, A.O k → A'.O k) → n ≤ c → SliceAt A' a n k els → K (mkS (.ext a n c k els)) A' []) : CallVC P B A hp f args K Kp :=
  .gen fun O' w β vals site => (h O' A.M w β vals site.rel ⟨site.MO, site.OS⟩ (hpre _ site.later)).mono fun e w' he => by
    obtain ⟨a, c, hnc, hsl, rfl, h4⟩ := he
    have hnext : Next ⟨O', A.M, w⟩ ⟨O', A.M, w'⟩ := ⟨h4, fun _ h => h, fun _ h => .inl h, fun k hk => Nat.lt_of_lt_of_le (site.OS k hk) h4.size, fun _ h => h, fun _ h => .inl h, site.MO⟩
    refine .inl ⟨_, ⟨O', A.M, w'⟩, _, [], β, rfl, rfl, hnext, Fresh.nil β w _, ?_, kk ⟨O', A.M, w'⟩ a c (site.later.trans ⟨h4.mono (fun k _ hk => site.MO k hk), fun k hk => .inl hk⟩) site.O1 hnc hsl⟩
    apply hs.to
    simp only [SV.Rel]
    exact ⟨trivial, hnc, hsl⟩
end Go.Eng
namespace Go.W
def keptN (p : Pg) (key : Str) (i : Nat) : List En := (p.list.take i).filter (fun x => sLt x.key key)
theorem keptN_succ {p : Pg} {key : Str} {i : Nat} (h : i < p.list.length) : keptN p key (i + 1) = bif sLt (p.list.getD i En.zero).key key then keptN p key i ++ [p.list.getD i En.zero] else keptN p key i := by
  unfold keptN
  have e : p.list.getD i En.zero = p.list[i] := by simp [h]
  rw [List.take_succ_eq_append_getElem h, List.filter_append, e]
  cases hb : sLt p.list[i].key key with
  | true => simp [List.filter, hb]
  | false => simp [List.filter, hb]
theorem keptN_all (p : Pg) (key : Str) : keptN p key p.list.length = p.below key := by unfold keptN Pg.below; rw [List.take_length]
theorem keptN_len (p : Pg) (key : Str) (i : Nat) : (keptN p key i).length ≤ p.list.length := Nat.le_trans (List.length_filter_le _ _) (by simp; omega)
def kSl (p : Pg) (key : Str) (x : Nat × Bool) : SV := match x.2 with
  | false => .v (.slice none 0 0)
  | true => .sl 3 4 0 (keptN p key x.1).length
def kHp (p : Pg) (key : Str) (x : Nat × Bool) : List Chunk := match x.2 with
  | false => []
  | true => [.row 30 4 (keptN p key x.1).length (entE (keptN p key x.1))]
abbrev AppRow (p : Pg) (d : De) (a b : Option Addr) (c e : Nat) : Prop :=
  ConR P 25 [p.sv a c, d.sv b e] (fun _ => True) 30 4 (Pg.apply p d).1.list.length (entE (Pg.apply p d).1.list) (fun y => .tuple #[(Pg.apply p d).1.val y, .int .i64 (Pg.apply p d).2])
theorem rapply_row (p : Pg) (d : De) (a b : Option Addr) (c e : Nat) (hl : p.list.length + d.right.list.length + 1 ≤ lim) (hlc : p.list.length ≤ c) (hal : aliasB p d = false) : AppRow p d a b c e := by
  refine con_ofP (args := [p.sv a c, d.sv b e]) (Pre := fun A => True) ctx_ok Proofs.Try.func25 rfl (R := RowR 30 4 (Pg.apply p d).1.list.length (entE (Pg.apply p d).1.list) (fun y => .tuple #[(Pg.apply p d).1.val y, .int .i64 (Pg.apply p d).2])) rfl rfl fun A hat hpre => vcStep_sound ctx_ok tb_all _ _ _ _ _ ?_
  conv => whnf
  repeat (refine go_ ?_; conv => whnf)
  refine ⟨rfl, con_vc (rdcheck_con d b e (by omega)) ?_⟩
  conv => whnf
  repeat (refine go_ ?_; conv => whnf)
  refine ⟨fun h0 => ?_, fun h0 => ?_⟩
  · have h0 : (!(d.check == 0)) = true := h0
    have hp : Pg.apply p d = (Pg.zero, d.check) := by unfold Pg.apply; simp only [h0, cond_true]
    rw [hp]
    repeat (refine go_ ?_; conv => whnf)
    exact ret_conR0 (Pg.zero.shapeT d.check) (fun _ _ _ h => two_res h) rfl
  have h0 : (!(d.check == 0)) = false := h0
  repeat (refine go_ ?_; conv => whnf)
  refine ⟨fun h1 => ?_, fun h1 => ?_⟩
  · have h1 : (d.kind == 1) = true := h1
    have hp : Pg.apply p d = Pg.puts p d.entry := by unfold Pg.apply; simp only [h0, h1, cond_true, cond_false]
    rw [hp]
    repeat (refine go_ ?_; conv => whnf)
    refine ⟨rfl, conR_row (rput_con p d.entry a c (by omega) hlc) ((Pg.puts p d.entry).1.shapeT (Pg.puts p d.entry).2) (fun A' hl => trivial) fun A2 hA2 => ?_⟩
    conv => whnf
    repeat (refine go_ ?_; conv => whnf)
    exact ret_conR ((Pg.puts p d.entry).1.shapeT (Pg.puts p d.entry).2) (l := 3) (fun _ _ _ h => two_res h) rfl (Nat.le_refl _) (fun i hi => rfl)
  have h1 : (d.kind == 1) = false := h1
  repeat (refine go_ ?_; conv => whnf)
  refine ⟨fun h2 => ?_, fun h2 => ?_⟩
  · have h2 : (d.kind == 2) = true := h2
    have hp : Pg.apply p d = Pg.rems p d.key := by unfold Pg.apply; simp only [h0, h1, h2, cond_true, cond_false]
    rw [hp]
    repeat (refine go_ ?_; conv => whnf)
    refine ⟨rfl, con_vc (rhas_con p a c d.key) ?_⟩
    conv => whnf
    repeat (refine go_ ?_; conv => whnf)
    refine ⟨fun h3 => ?_, fun h3 => ?_⟩
    · have h3 : (!Pg.has p d.key) = true := h3
      have hp : Pg.rems p d.key = (Pg.zero, 73) := by unfold Pg.rems; simp only [h3, cond_true]
      rw [hp]
      repeat (refine go_ ?_; conv => whnf)
      exact ret_conR0 (Pg.zero.shapeT 73) (fun _ _ _ h => two_res h) rfl
    have h3 : (!Pg.has p d.key) = false := h3
    repeat (refine go_ ?_; conv => whnf)
    by_cases hix : fIx (fun x => sEq x.key d.key) p.list < p.list.length
    · have hp : Pg.rems p d.key = ((Pg.removes p d.key).1, 0) := by unfold Pg.rems; simp only [h3, blt_yes hix, cond_true, cond_false]
      have hr2 : (Pg.removes p d.key).2 = 0 := by unfold Pg.removes; rw [blt_yes hix]; rfl
      rw [hp]
      refine ⟨rfl, conR_row (rremove_con p d.key a c (by omega) hlc) ((Pg.removes p d.key).1.shapeT (Pg.removes p d.key).2) (fun A' hl => trivial) fun A2 hA2 => ?_⟩
      rw [hr2]
      conv => whnf
      repeat (refine go_ ?_; conv => whnf)
      refine ⟨fun h4 => ?_, fun h4 => ?_⟩
      · repeat (refine go_ ?_; conv => whnf)
        exact ret_conR ((Pg.removes p d.key).1.shapeT 0) (l := 3) (fun _ _ _ h => two_res h) rfl (Nat.le_refl _) (fun i hi => rfl)
      · exact absurd h4 (by decide)
    · exfalso
      unfold aliasB at hal
      have h0 : (d.check == 0) = true := by simpa using h0
      have h3 : Pg.has p d.key = true := by simpa using h3
      rw [h0, h1, h2, h3, blt_no hix] at hal
      cases hal
  have h2 : (d.kind == 2) = false := h2
  repeat (refine go_ ?_; conv => whnf)
  refine ⟨fun h3 => ?_, fun h3 => ?_⟩
  · have h3 : (d.kind == 3) = true := h3
    have hp : Pg.apply p d = (bif cutBad p d then (Pg.zero, 90) else (p.cuts d, 0)) := by unfold Pg.apply; simp only [h0, h1, h2, h3, cond_true, cond_false]
    rw [hp]
    repeat (refine go_ ?_; conv => whnf)
    refine ⟨rfl, gcon_vc (rhas_con p a c d.key) ?_⟩
    conv => whnf
    repeat (refine go_ ?_; conv => whnf)
    refine ⟨fun h4 => ?_, fun h4 => ?_⟩
    · have h4 : (bif sLt d.key p.low || sEq d.key p.low then true else !Pg.has p d.key) = true := h4
      have h4 : cutBad p d = true := by
        unfold cutBad; revert h4; cases (sLt d.key p.low || sEq d.key p.low) <;> simp
      rw [h4]
      repeat (refine go_ ?_; conv => whnf)
      exact ret_conR0 (Pg.zero.shapeT 90) (fun _ _ _ h => two_res h) rfl
    have h4 : (bif sLt d.key p.low || sEq d.key p.low then true else !Pg.has p d.key) = false := h4
    have h4 : cutBad p d = false := by
      unfold cutBad; revert h4; cases (sLt d.key p.low || sEq d.key p.low) <;> simp
    rw [h4]
    repeat (refine go_ ?_; conv => whnf)
    refine loop_i (fun x : Nat × Bool => [(2, .loc 0 0), (3, .loc 1 0), (4, .loc 2 0), (9, kSl p d.key x), (10, .v (.int .i64 x.1))])
      (fun x => .box 24 [.v (.bool p.leaf), .v (.string p.low), .v (.string p.high), .v (.int .i64 p.right), .ext a p.list.length c 4 (entE p.list)] :: .box 32 [.v (.int .i64 d.kind), .v (.string d.entry.key), .v (.int .i64 d.entry.slot), .v (.int .i64 d.entry.gen), .v (.int .i64 d.entry.child), .v (.string d.key), .v (.int .i64 d.page), .v (.bool d.right.leaf), .v (.string d.right.low), .v (.string d.right.high), .v (.int .i64 d.right.right), .ext b d.right.list.length e 4 (entE d.right.list)] :: .box 24 [.v (.bool false), .v (.string s0), .v (.string s0), .v (.int .i64 0), .v (.slice none 0 0)] :: kHp p d.key x) (fun x => p.list.length - x.1)
      (fun x _ => x.1 ≤ p.list.length ∧ (x.2 = false → keptN p d.key x.1 = [])) (0, false) [0, 1, 2] ⟨⟨rfl, rfl, rfl, rfl, rfl, trivial⟩, ⟨⟨rfl, rfl⟩, ⟨rfl, rfl⟩, ⟨rfl, rfl⟩, trivial⟩, rfl, rfl, rfl⟩ ⟨Nat.zero_le _, fun _ => rfl⟩ ?_
    rintro ⟨i, z⟩ A1 ⟨hi, hz⟩
    have hi : i ≤ p.list.length := hi
    have hz : z = false → keptN p d.key i = [] := hz
    have hkl := keptN_len p d.key i
    cases z with
    | false =>
      have hz := hz rfl
      repeat (refine go_ ?_; conv => whnf)
      refine ⟨fun h5 => ?_, fun h5 => ?_⟩
      · have h5 : i < p.list.length := lt_of_dec h5
        repeat (refine go_ ?_; conv => whnf)
        refine .one none rfl ?_
        conv => whnf
        refine ⟨⟨by omega, by omega⟩, ?_⟩
        conv => whnf
        repeat (refine go_ ?_; conv => whnf)
        refine ⟨fun h6 => ?_, fun h6 => ?_⟩
        · have h6 : sLt (p.list.getD i En.zero).key d.key = true := h6
          have hk := keptN_succ (key := d.key) h5
          rw [h6, hz] at hk
          have hk : keptN p d.key (i + 1) = [p.list.getD i En.zero] := hk
          repeat (refine go_ ?_; conv => whnf)
          refine ⟨⟨by omega, by omega⟩, ?_⟩
          conv => whnf
          refine ⟨fun A2 q2 hA2 hq2 => ?_⟩
          conv => whnf
          refine ⟨⟨trivial, one_ok (p.list.getD i En.zero), ?_⟩, ?_⟩
          · show (0 + 1) * 40 ≤ 140737488355328
            omega
          conv => whnf
          repeat (refine go_ ?_; conv => whnf)
          refine next_i (i + 1, true) [0, 1, 2, 3] (by show p.list.length - (i + 1) < p.list.length - i; omega) ⟨⟨rfl, rfl, rfl, ?_, ?_, trivial⟩, ⟨⟨rfl, rfl⟩, ⟨rfl, rfl⟩, ⟨rfl, rfl⟩, ⟨rfl, rfl, ?_, ?_⟩, trivial⟩, rfl, rfl, rfl⟩ ⟨h5, fun h => by cases h⟩
          · show (some ⟨[], .sl 3 4 0 (0 + 1)⟩ : Option Ent) = some ⟨[], .sl 3 4 0 (keptN p d.key (i + 1)).length⟩
            rw [hk]; rfl
          · exact w_succ i (by unfold lim at hl; omega)
          · show 0 + 1 = (keptN p d.key (i + 1)).length
            rw [hk]; rfl
          · show ∀ k, k < (keptN p d.key (i + 1)).length → joinE 0 (fun _ => []) (tabE [(p.list.getD i En.zero).cells]) k = entE (keptN p d.key (i + 1)) k
            rw [hk]
            intro k hk
            have : k = 0 := by simp at hk; exact hk
            subst this; rfl
        · have h6 : sLt (p.list.getD i En.zero).key d.key = false := h6
          have hk := keptN_succ (key := d.key) h5
          rw [h6, hz] at hk
          have hk : keptN p d.key (i + 1) = [] := hk
          repeat (refine go_ ?_; conv => whnf)
          refine next_i (i + 1, false) [0, 1, 2] (by show p.list.length - (i + 1) < p.list.length - i; omega) ⟨⟨rfl, rfl, rfl, rfl, ?_, trivial⟩, ⟨⟨rfl, rfl⟩, ⟨rfl, rfl⟩, ⟨rfl, rfl⟩, trivial⟩, rfl, rfl, rfl⟩ ⟨h5, fun h => hk⟩
          exact w_succ i (by unfold lim at hl; omega)
      · have h5 : p.list.length ≤ i := ge_of_dec h5
        have hin : i = p.list.length := by omega
        subst hin
        rw [keptN_all] at hz
        repeat (refine go_ ?_; conv => whnf)
        refine .one (some [0]) rfl ?_
        conv => whnf
        repeat (refine go_ ?_; conv => whnf)
        exact ret_conR0 ((p.cuts d).shapeT 0) (fun _ _ _ h => two_res h) (by show (p.below d.key).length = 0; rw [hz]; rfl)
    | true =>
      repeat (refine go_ ?_; conv => whnf)
      refine ⟨fun h5 => ?_, fun h5 => ?_⟩
      · have h5 : i < p.list.length := lt_of_dec h5
        repeat (refine go_ ?_; conv => whnf)
        refine .one none rfl ?_
        conv => whnf
        refine ⟨⟨by omega, by omega⟩, ?_⟩
        conv => whnf
        repeat (refine go_ ?_; conv => whnf)
        refine ⟨fun h6 => ?_, fun h6 => ?_⟩
        · have h6 : sLt (p.list.getD i En.zero).key d.key = true := h6
          have hk := keptN_succ (key := d.key) h5
          rw [h6] at hk
          have hk : keptN p d.key (i + 1) = keptN p d.key i ++ [p.list.getD i En.zero] := hk
          repeat (refine go_ ?_; conv => whnf)
          refine ⟨⟨by omega, by omega⟩, ?_⟩
          conv => whnf
          refine ⟨fun A2 q2 hA2 hq2 => ?_⟩
          conv => whnf
          refine ⟨⟨Nat.le_refl _, one_ok (p.list.getD i En.zero), ?_⟩, ?_⟩
          · show ((keptN p d.key i).length + 1) * 40 ≤ 140737488355328
            unfold lim at hl; omega
          conv => whnf
          repeat (refine go_ ?_; conv => whnf)
          have hL : IsL ((keptN p d.key i).length + 1) (joinE (keptN p d.key i).length (entE (keptN p d.key i)) (tabE [(p.list.getD i En.zero).cells])) (keptN p d.key (i + 1)) := by
            rw [hk]; exact IsL.ext.join IsL.one
          refine next_i (i + 1, true) [0, 1, 2, 4] (by show p.list.length - (i + 1) < p.list.length - i; omega) ⟨⟨rfl, rfl, rfl, ?_, ?_, trivial⟩, ⟨⟨rfl, rfl⟩, ⟨rfl, rfl⟩, ⟨rfl, rfl⟩, ⟨rfl, rfl, hL.1, fun k hk => hL.2 k (by rw [hL.1]; exact hk)⟩, trivial⟩, rfl, rfl, rfl⟩ ⟨h5, fun h => by cases h⟩
          · show (some ⟨[], .sl 4 4 0 ((keptN p d.key i).length + 1)⟩ : Option Ent) = some ⟨[], .sl 4 4 0 (keptN p d.key (i + 1)).length⟩
            rw [hL.1]
          · exact w_succ i (by unfold lim at hl; omega)
        · have h6 : sLt (p.list.getD i En.zero).key d.key = false := h6
          have hk := keptN_succ (key := d.key) h5
          rw [h6] at hk
          have hk : keptN p d.key (i + 1) = keptN p d.key i := hk
          repeat (refine go_ ?_; conv => whnf)
          refine next_i (i + 1, true) [0, 1, 2, 3] (by show p.list.length - (i + 1) < p.list.length - i; omega) ⟨⟨rfl, rfl, rfl, ?_, ?_, trivial⟩, ⟨⟨rfl, rfl⟩, ⟨rfl, rfl⟩, ⟨rfl, rfl⟩, ⟨rfl, rfl, ?_, ?_⟩, trivial⟩, rfl, rfl, rfl⟩ ⟨h5, fun h => by cases h⟩
          · show (some ⟨[], .sl 3 4 0 (keptN p d.key i).length⟩ : Option Ent) = some ⟨[], .sl 3 4 0 (keptN p d.key (i + 1)).length⟩
            rw [hk]
          · exact w_succ i (by unfold lim at hl; omega)
          · show (keptN p d.key i).length = (keptN p d.key (i + 1)).length
            rw [hk]
          · show ∀ k, k < (keptN p d.key (i + 1)).length → entE (keptN p d.key i) k = entE (keptN p d.key (i + 1)) k
            rw [hk]
            intro k _; rfl
      · have h5 : p.list.length ≤ i := ge_of_dec h5
        have hin : i = p.list.length := by omega
        subst hin
        have hk := keptN_all p d.key
        repeat (refine go_ ?_; conv => whnf)
        refine .one (some [0]) rfl ?_
        conv => whnf
        repeat (refine go_ ?_; conv => whnf)
        refine ret_conR ((p.cuts d).shapeT 0) (l := 3) (n := (p.below d.key).length) (N := (keptN p d.key p.list.length).length) (fun _ _ _ h => two_res (by rw [← hk]; exact h)) rfl (by rw [hk]; exact Nat.le_refl _) (fun k _ => by show entE (keptN p d.key p.list.length) k = entE (p.below d.key) k; rw [hk])
  have h3 : (d.kind == 3) = false := h3
  repeat (refine go_ ?_; conv => whnf)
  refine ⟨fun h4 => ?_, fun h4 => ?_⟩
  · have h4 : (d.kind == 4) = true := h4
    have hp : Pg.apply p d = Pg.merges p d.right := by unfold Pg.apply; simp only [h0, h1, h2, h3, h4, cond_true, cond_false]
    rw [hp]
    repeat (refine go_ ?_; conv => whnf)
    refine ⟨rfl, conR_row (rmerge_con p d.right a b c e (by omega)) ((Pg.merges p d.right).1.shapeT (Pg.merges p d.right).2) (fun A' hl => trivial) fun A2 hA2 => ?_⟩
    conv => whnf
    repeat (refine go_ ?_; conv => whnf)
    exact ret_conR ((Pg.merges p d.right).1.shapeT (Pg.merges p d.right).2) (l := 3) (fun _ _ _ h => two_res h) rfl (Nat.le_refl _) (fun i hi => rfl)
  have h4 : (d.kind == 4) = false := h4
  have hp : Pg.apply p d = (Pg.zero, 91) := by unfold Pg.apply; simp only [h0, h1, h2, h3, h4, cond_false]
  rw [hp]
  repeat (refine go_ ?_; conv => whnf)
  exact ret_conR0 (Pg.zero.shapeT 91) (fun _ _ _ h => two_res h) rfl
end Go.W
end

section
open Go Go.Eng
namespace Go.W
theorem alias_spec {p : Pg} {d : De} (h : aliasB p d = true) : (d.check == 0) = true ∧ (d.kind == 1) = false ∧ (d.kind == 2) = true ∧ Pg.has p d.key = true ∧ ¬ fIx (fun x => sEq x.key d.key) p.list < p.list.length := by
  unfold aliasB at h
  simp only [Bool.and_eq_true, Bool.not_eq_true'] at h
  obtain ⟨h1, h2, h3, h4, h5⟩ := h
  refine ⟨h1, h2, h3, h4, fun hh => ?_⟩
  rw [blt_yes hh] at h5; cases h5
theorem alias_apply {p : Pg} {d : De} (h : aliasB p d = true) : Pg.apply p d = (p, 0) := by
  obtain ⟨h0, h1, h2, h3, h4⟩ := alias_spec h
  unfold Pg.apply Pg.rems
  rw [h0, h1, h2, h3, blt_no h4]
  rfl
theorem rapply_alias (p : Pg) (d : De) (a b : Option Addr) (c e : Nat) (hl : p.list.length + d.right.list.length + 1 ≤ lim) (hlc : p.list.length ≤ c) (hal : aliasB p d = true) :
    Con P 25 [p.sv a c, d.sv b e] (.tuple #[p.val (.slice a p.list.length c), .int .i64 0]) := by
  obtain ⟨g0, g1, g2, g3, g4⟩ := alias_spec hal
  refine con_of ctx_ok Proofs.Try.func25 rfl (args := [p.sv a c, d.sv b e]) (R := fun w M e' w' => e' = .returned (.tuple #[p.val (.slice a p.list.length c), .int .i64 0]) ∧ Stp M w w') rfl rfl fun A hat => vcStep_sound ctx_ok tb_all _ _ _ _ _ ?_
  conv => whnf
  repeat (refine go_ ?_; conv => whnf)
  refine ⟨rfl, con_vc (rdcheck_con d b e (by omega)) ?_⟩
  conv => whnf
  repeat (refine go_ ?_; conv => whnf)
  refine ⟨fun h0 => ?_, fun h0 => ?_⟩
  · have h0 : (!(d.check == 0)) = true := h0
    rw [g0] at h0; cases h0
  repeat (refine go_ ?_; conv => whnf)
  refine ⟨fun h1 => ?_, fun h1 => ?_⟩
  · have h1 : (d.kind == 1) = true := h1
    rw [g1] at h1; cases h1
  repeat (refine go_ ?_; conv => whnf)
  refine ⟨fun h2 => ?_, fun h2 => ?_⟩
  · repeat (refine go_ ?_; conv => whnf)
    refine ⟨rfl, con_vc (rhas_con p a c d.key) ?_⟩
    conv => whnf
    repeat (refine go_ ?_; conv => whnf)
    refine ⟨fun h3 => ?_, fun h3 => ?_⟩
    · have h3 : (!Pg.has p d.key) = true := h3
      rw [g3] at h3; cases h3
    repeat (refine go_ ?_; conv => whnf)
    have hr : Pg.removes p d.key = (Pg.zero, 4) := by unfold Pg.removes; rw [blt_no g4]; rfl
    have hc := rremove_con p d.key a c (by omega) hlc
    rw [hr] at hc
    refine ⟨rfl, conR_row hc (Pg.zero.shapeT 4) (fun A' hl => trivial) fun A2 hA2 => ?_⟩
    conv => whnf
    repeat (refine go_ ?_; conv => whnf)
    refine ⟨fun h4 => ?_, fun h4 => ?_⟩
    · exact absurd h4 (by decide)
    · repeat (refine go_ ?_; conv => whnf)
      exact ret_conE rfl rfl
  · have h2 : (d.kind == 2) = false := h2
    rw [g2] at h2; cases h2
end Go.W
namespace Go.Eng
theorem Pg.sv_slice {β : Lay} {A : Anc} {p : Pg} {a : Option Addr} {c : Nat} {y : Value} (h : (p.sv a c).Rel β A y) : p.list.length ≤ c ∧ SliceAt A a p.list.length 4 (entE p.list) := by
  simp only [Pg.sv, SV.Rel, RelL] at h
  obtain ⟨ys, _, y1, t1, _, _, y2, t2, _, _, y3, t3, _, _, y4, t4, _, _, y5, t5, _, h, _⟩ := h
  exact h.2
theorem RelL.first {β : Lay} {A : Anc} {s : SV} {r : List SV} {ys : List Value} (h : RelL β A (s :: r) ys) : ∃ y, s.Rel β A y := by
  simp only [RelL] at h
  obtain ⟨y, _, _, h, _⟩ := h
  exact ⟨y, h⟩
end Go.Eng
namespace Go.W
abbrev appMk (p : Pg) (d : De) : Value → Value := fun y => .tuple #[(Pg.apply p d).1.val y, .int .i64 (Pg.apply p d).2]
theorem rapply_con (p : Pg) (d : De) (a b : Option Addr) (c e : Nat) (hl : p.list.length + d.right.list.length + 1 ≤ lim) :
    ConE P 25 [p.sv a c, d.sv b e] (fun _ => True) (Pg.apply p d).1.list.length 4 (entE (Pg.apply p d).1.list) (appMk p d) := by
  intro O M w β vals hr hat hpre
  obtain ⟨y, hy⟩ := hr.first
  have hs := Pg.sv_slice hy
  cases hal : aliasB p d with
  | false => exact (rapply_row p d a b c e hl hs.1 hal).toE O M w β vals hr hat trivial
  | true =>
    have hp := alias_apply hal
    refine (rapply_alias p d a b c e hl hs.1 hal O M w β vals hr hat).mono fun e' w' he => ?_
    refine ⟨a, c, ?_, ?_, ?_, he.2⟩
    · rw [hp]; exact hs.1
    · rw [hp]; exact SliceAt.stp hs.2 he.2 hat.MO
    · rw [he.1]; unfold appMk; rw [hp]
end Go.W
end

section
open Go Go.Eng
namespace Go.W
def rowG (G : Nat → En) (k : Nat) : List Value := (G k).cells
def rest (pr : En → Bool) (l : List En) (j : Nat) : List En := (l.take j).filter (fun x => !pr x)
theorem rest_succ {pr : En → Bool} {l : List En} {j : Nat} (h : j < l.length) : rest pr l (j + 1) = bif pr (l.getD j En.zero) then rest pr l j else rest pr l j ++ [l.getD j En.zero] := by
  unfold rest
  have e : l.getD j En.zero = l[j] := by simp [h]
  rw [List.take_succ_eq_append_getElem h, List.filter_append, e]
  cases hb : pr l[j] with
  | true => simp [List.filter, hb]
  | false => simp [List.filter, hb]
theorem rest_all (pr : En → Bool) (l : List En) : rest pr l l.length = l.filter (fun x => !pr x) := by unfold rest; rw [List.take_length]
theorem rest_len (pr : En → Bool) (l : List En) (j : Nat) : (rest pr l j).length ≤ j := Nat.le_trans (List.length_filter_le _ _) (by simp; omega)
theorem rest_ix (pr : En → Bool) : ∀ (l : List En) (i : Nat), i ≤ fIx pr l → rest pr l i = l.take i
  | [], i, h => by simp [rest]
  | x :: r, 0, h => by simp [rest]
  | x :: r, i + 1, h => by
    have hlt : i < (x :: r).length := by have := fIx_le pr (x :: r); omega
    have h1 := fIx_no pr (x :: r) i (by omega)
    rw [rest_succ hlt, h1, rest_ix pr (x :: r) i (by omega)]
    simp only [cond_false]
    rw [List.take_succ_eq_append_getElem hlt, List.getD_eq_getElem?_getD, List.getElem?_eq_getElem hlt]
    rfl
theorem deletefunc_con (l : List En) (g : Nat) (q : Addr) (cells : List Value) (pr : En → Bool) (hg : ctx.fn g = true) (hc : ∀ e : En, Con P g [e.sv, .xptr q cells] (.bool (pr e))) (hl : l.length ≤ lim) :
    ConL P 80 [.sl 0 4 0 l.length, .fn (.func g) [.xptr q cells]] 30 4 l.length (entE l) (l.filter (fun x => !pr x)).length (entE (l.filter (fun x => !pr x))) (fun y => y) := by
  refine conL_of (args := [.sl 0 4 0 l.length, .fn (.func g) [.xptr q cells]]) ctx_ok Proofs.Try.func80 rfl rfl fun A L hat => vcStep_sound ctx_ok tb_all _ _ _ _ _ ?_
  conv => whnf
  repeat (refine go_ ?_; conv => whnf)
  refine ⟨rfl, con_frzR 0 rfl rfl (fun a c => indexfunc_con l a c g q cells pr hg hc hl) ?_⟩
  by_cases hix : fIx pr l < l.length
  · rw [ixV_yes _ _ hix]
    conv => whnf
    repeat (refine go_ ?_; conv => whnf)
    refine ⟨fun h1 => ?_, fun h1 => ?_⟩
    · have h1 : ((fIx pr l : Int) == -1) = true := h1
      simp at h1
    repeat (refine go_ ?_; conv => whnf)
    refine loop_i (fun x : Nat × Nat × (Nat → En) => [(0, .sl 0 4 0 l.length), (1, .fn (.func g) [.xptr q cells]), (5, .v (.int .i64 x.1)), (6, .v (.int .i64 x.2.1))])
      (fun x => [.row 30 4 l.length (rowG x.2.2)]) (fun x => l.length - x.2.1)
      (fun x _ => x.2.1 ≤ l.length ∧ x.1 < x.2.1 ∧ x.1 = (rest pr l x.2.1).length ∧ (∀ k, k < x.1 → x.2.2 k = (rest pr l x.2.1).getD k En.zero) ∧ (∀ k, x.2.1 ≤ k → k < l.length → x.2.2 k = l.getD k En.zero)) (fIx pr l, fIx pr l + 1, fun k => l.getD k En.zero) [0] ⟨⟨rfl, rfl, rfl, ?_, trivial⟩, ⟨⟨rfl, rfl, rfl, fun k hk => rfl⟩, trivial⟩, rfl, rfl, rfl⟩ ⟨hix, Nat.lt_succ_self _, ?_, ?_, fun k _ _ => rfl⟩ ?_
    · exact w_succ _ (by unfold lim at hl; omega)
    · show fIx pr l = (rest pr l (fIx pr l + 1)).length
      rw [rest_succ hix, fIx_yes pr l hix, rest_ix pr l _ (Nat.le_refl _)]
      simp only [cond_true, List.length_take]
      omega
    · show ∀ k, k < fIx pr l → l.getD k En.zero = (rest pr l (fIx pr l + 1)).getD k En.zero
      intro k hk
      rw [rest_succ hix, fIx_yes pr l hix, rest_ix pr l _ (Nat.le_refl _)]
      simp only [cond_true]
      rw [List.getD_eq_getElem?_getD, List.getD_eq_getElem?_getD, List.getElem?_take_of_lt hk]
    rintro ⟨i, j, G⟩ A1 ⟨hj, hij, hi, hG1, hG2⟩
    have hj : j ≤ l.length := hj
    have hi : i = (rest pr l j).length := hi
    have hG1 : ∀ k, k < i → G k = (rest pr l j).getD k En.zero := hG1
    have hG2 : ∀ k, j ≤ k → k < l.length → G k = l.getD k En.zero := hG2
    have hij : i < j := hij
    repeat (refine go_ ?_; conv => whnf)
    refine ⟨fun h2 => ?_, fun h2 => ?_⟩
    · have h2 : j < l.length := lt_of_dec h2
      repeat (refine go_ ?_; conv => whnf)
      refine ⟨⟨by show (0 : Int) ≤ (j : Int); omega, by show (j : Int) < (l.length : Int); omega⟩, ?_⟩
      conv => whnf
      repeat (refine go_ ?_; conv => whnf)
      refine ⟨by show 0 + j < l.length; omega, ?_⟩
      conv => whnf
      repeat (refine go_ ?_; conv => whnf)
      have e0 : G (0 + j) = l.getD j En.zero := by rw [Nat.zero_add]; exact hG2 j (Nat.le_refl _) h2
      have hrs := rest_succ (pr := pr) h2
      refine ⟨hg, con_vc (hc (G (0 + j))) ?_⟩
      conv => whnf
      repeat (refine go_ ?_; conv => whnf)
      refine ⟨fun h3 => ?_, fun h3 => ?_⟩
      · have h3 : (!pr (G (0 + j))) = true := h3
        rw [e0] at h3
        have h3 : pr (l.getD j En.zero) = false := by simpa using h3
        rw [h3] at hrs
        simp only [cond_false] at hrs
        repeat (refine go_ ?_; conv => whnf)
        refine ⟨⟨by show (0 : Int) ≤ (i : Int); omega, by show (i : Int) < (l.length : Int); omega⟩, ?_⟩
        conv => whnf
        repeat (refine go_ ?_; conv => whnf)
        refine ⟨by show 0 + i < l.length; omega, ?_⟩
        conv => whnf
        repeat (refine go_ ?_; conv => whnf)
        refine next_i (i + 1, j + 1, fun k => bif Nat.beq k i then l.getD j En.zero else G k) [0] (by show l.length - (j + 1) < l.length - j; omega) ⟨⟨rfl, rfl, ?_, ?_, trivial⟩, ⟨⟨rfl, rfl, rfl, fun k hk => ?_⟩, trivial⟩, rfl, rfl, rfl⟩ ⟨h2, by show i + 1 < j + 1; omega, ?_, ?_, ?_⟩
        · exact w_succ i (by unfold lim at hl; omega)
        · exact w_succ j (by unfold lim at hl; omega)
        · show (bif Nat.beq k (0 + i) then (G (0 + j)).cells else (G k).cells) = (bif Nat.beq k i then l.getD j En.zero else G k).cells
          rw [Nat.zero_add, e0]
          cases Nat.beq k i <;> rfl
        · show i + 1 = (rest pr l (j + 1)).length
          rw [hrs]; simp [hi]
        · show ∀ k, k < i + 1 → (bif Nat.beq k i then l.getD j En.zero else G k) = (rest pr l (j + 1)).getD k En.zero
          intro k hk
          rw [hrs]
          by_cases hki : k = i
          · subst hki
            rw [Nat.beq_refl, cond_true]
            conv => rhs; rw [List.getD_eq_getElem?_getD, hi, List.getElem?_append_right (Nat.le_refl _)]
            simp
          · have : Nat.beq k i = false := by
              cases hb : Nat.beq k i with
              | false => rfl
              | true => exact absurd (Nat.eq_of_beq_eq_true hb) hki
            rw [this, cond_false, hG1 k (by omega), List.getD_eq_getElem?_getD, List.getD_eq_getElem?_getD, List.getElem?_append_left (by omega)]
        · show ∀ k, j + 1 ≤ k → k < l.length → (bif Nat.beq k i then l.getD j En.zero else G k) = l.getD k En.zero
          intro k hk hkl
          have : Nat.beq k i = false := by
            cases hb : Nat.beq k i with
            | false => rfl
            | true => have := Nat.eq_of_beq_eq_true hb; omega
          rw [this]; exact hG2 k (by omega) hkl
      · have h3 : (!pr (G (0 + j))) = false := h3
        rw [e0] at h3
        have h3 : pr (l.getD j En.zero) = true := by simpa using h3
        rw [h3] at hrs
        simp only [cond_true] at hrs
        repeat (refine go_ ?_; conv => whnf)
        refine next_i (i, j + 1, G) [0] (by show l.length - (j + 1) < l.length - j; omega) ⟨⟨rfl, rfl, rfl, ?_, trivial⟩, ⟨⟨rfl, rfl, rfl, fun k hk => rfl⟩, trivial⟩, rfl, rfl, rfl⟩ ⟨h2, by show i < j + 1; omega, ?_, ?_, ?_⟩
        · exact w_succ j (by unfold lim at hl; omega)
        · show i = (rest pr l (j + 1)).length
          rw [hrs]; exact hi
        · show ∀ k, k < i → G k = (rest pr l (j + 1)).getD k En.zero
          rw [hrs]; exact hG1
        · show ∀ k, j + 1 ≤ k → k < l.length → G k = l.getD k En.zero
          exact fun k hk hkl => hG2 k (by omega) hkl
    · have h2 : l.length ≤ j := ge_of_dec h2
      have hjn : j = l.length := by omega
      subst hjn
      repeat (refine go_ ?_; conv => whnf)
      refine ⟨⟨by show (0 : Int) ≤ (i : Int) ∧ (i : Int) ≤ (l.length : Int); omega, .inr hij⟩, ?_⟩
      conv => whnf
      refine ⟨by show 0 + i + (l.length - i) ≤ l.length; omega, ?_⟩
      conv => whnf
      repeat (refine go_ ?_; conv => whnf)
      refine ⟨by show ((0 : Int) ≤ (i : Int) ∧ (i : Int) ≤ (l.length : Int)) ∧ (0 = 0 ∨ 0 < l.length); omega, ?_⟩
      conv => whnf
      repeat (refine go_ ?_; conv => whnf)
      have hra := rest_all pr l
      have hif : (l.filter (fun x => !pr x)).length = i := by rw [← hra]; exact hi.symm
      refine ret_conL Shape.id (l := 0) (n := (l.filter (fun x => !pr x)).length) (N := l.length) (fun _ _ _ h => one_res (by rw [hif]; exact h)) rfl (by omega) (fun k hk => ?_)
      have hk : k < i := by omega
      show (bif Nat.ble (0 + i) k && Nat.blt k (0 + i + (l.length - i)) then _ else rowG G k) = _
      have : Nat.ble (0 + i) k = false := by
        cases hb : Nat.ble (0 + i) k with
        | false => rfl
        | true => have := Nat.le_of_ble_eq_true hb; omega
      rw [this]
      show (G k).cells = entE (l.filter (fun x => !pr x)) k
      rw [hG1 k hk, hra]
      rfl
  · rw [ixV_no _ _ hix]
    conv => whnf
    repeat (refine go_ ?_; conv => whnf)
    refine ⟨fun h1 => ?_, fun h1 => ?_⟩
    · repeat (refine go_ ?_; conv => whnf)
      have hf : l.filter (fun x => !pr x) = l := by
        have := rest_ix pr l l.length (by have := fIx_le pr l; omega)
        rw [rest_all, List.take_length] at this
        exact this
      rw [hf]
      exact ret_conL Shape.id (l := 0) (fun _ _ _ h => one_res h) rfl (Nat.le_refl _) (fun i hi => rfl)
    · exact absurd h1 (by decide)
end Go.W
end

section
open Go Go.Eng
namespace Go.Eng
/-- a function that panics, where something is known of the world -/
def ConXP (P : Program) (f : Nat) (args : List SV) (Pre : Anc → Prop) (ch : List PanicEntry) : Prop :=
  ∀ O M w β vals, RelL β ⟨O, M, w⟩ args vals → At O M w → Pre ⟨O, M, w⟩ → Calls P f vals.toArray w fun e w' => e = .panicked ch ∧ Stp M w w'
theorem conXP_vc {P : Program} {B A : Anc} {hp : List Chunk} {f : Nat} {args : List SV} {Pre : Anc → Prop} {ch : List PanicEntry} {K : SV → Anc → List Chunk → Prop} {Kp : List PanicEntry → Anc → Prop} (h : ConXP P f args Pre ch) (hpre : ∀ A', Later A A' → Pre A') (k : Kp ch A) : CallVC P B A hp f args K Kp :=
  .pan ch (fun O' w β vals site => h O' A.M w β vals site.rel ⟨site.MO, site.OS⟩ (hpre _ site.later)) k
end Go.Eng
namespace Go.W
/-- two lists can be read -/
def Two (p : Pg) (d : De) (a b : Option Addr) (c e : Nat) (A : Anc) : Prop := (SliceAt A a p.list.length 4 (entE p.list) ∧ p.list.length ≤ c) ∧ (SliceAt A b d.right.list.length 4 (entE d.right.list) ∧ d.right.list.length ≤ e)
theorem Two.later {p : Pg} {d : De} {a b : Option Addr} {c e : Nat} {A A' : Anc} (h : Two p d a b c e A) (hl : Later A A') : Two p d a b c e A' := ⟨⟨h.1.1.later hl, h.1.2⟩, ⟨h.2.1.later hl, h.2.2⟩⟩
def failV (e : Int) : List PanicEntry := [{ v := .iface 119 (.agg #[.int .i64 e]), recovered := false }]
theorem eqz {z : Int} (h : (!(z == 0)) = true) : z ≠ 0 := by simpa using h
theorem eqz' {z : Int} (h : (!(z == 0)) = false) : z = 0 := by simpa using h
theorem filter_not {l : List En} {key : Str} : l.filter (fun x => !(!sLt x.key key)) = l.filter (fun x => sLt x.key key) := by simp
theorem apply_con (p : Pg) (d : De) (a b : Option Addr) (c e : Nat) (hl : p.list.length + d.right.list.length + 1 ≤ lim) :
    ((Pg.apply p d).2 = 0 → ConR P 53 [p.sv a c, d.sv b e] (Two p d a b c e) 30 4 (Pg.apply p d).1.list.length (entE (Pg.apply p d).1.list) (Pg.apply p d).1.val) := by
  intro hok
  refine con_ofP (args := [p.sv a c, d.sv b e]) (Pre := Two p d a b c e) ctx_ok Proofs.Try.func53 rfl (R := RowR 30 4 (Pg.apply p d).1.list.length (entE (Pg.apply p d).1.list) (Pg.apply p d).1.val) rfl rfl fun A hat hpre => vcStep_sound ctx_ok tb_all _ _ _ _ _ ?_
  conv => whnf
  repeat (refine go_ ?_; conv => whnf)
  refine ⟨rfl, con_vc (dcheck_con d b e (by omega)) ?_⟩
  have hck : d.check = 0 := by
    unfold Pg.apply at hok
    cases h0 : !(d.check == 0) with
    | true => rw [h0] at hok; exact hok
    | false => exact eqz' h0
  have h0 : (!(d.check == 0)) = false := by simp [hck]
  rw [hck]
  conv => whnf
  repeat (refine go_ ?_; conv => whnf)
  refine ⟨rfl, con_vc must_ok ?_⟩
  conv => whnf
  repeat (refine go_ ?_; conv => whnf)
  refine ⟨fun h1 => ?_, fun h1 => ?_⟩
  · have h1 : (d.kind == 1) = true := h1
    have hp : Pg.apply p d = Pg.puts p d.entry := by unfold Pg.apply; simp only [h0, h1, cond_true, cond_false]
    rw [hp] at hok ⊢
    repeat (refine go_ ?_; conv => whnf)
    refine ⟨rfl, conR_row (put_con p d.entry a c (by omega) hpre.1.2) ((Pg.puts p d.entry).1.shapeT (Pg.puts p d.entry).2) (fun A' hl => hpre.1.1.later hl) fun A2 hA2 => ?_⟩
    rw [hok]
    conv => whnf
    repeat (refine go_ ?_; conv => whnf)
    refine ⟨rfl, con_vc must_ok ?_⟩
    conv => whnf
    repeat (refine go_ ?_; conv => whnf)
    exact ret_conR (Pg.puts p d.entry).1.shape (l := 3) (fun _ _ _ h => one_res h) rfl (Nat.le_refl _) (fun i hi => rfl)
  have h1 : (d.kind == 1) = false := h1
  repeat (refine go_ ?_; conv => whnf)
  refine ⟨fun h2 => ?_, fun h2 => ?_⟩
  · have h2 : (d.kind == 2) = true := h2
    have hp : Pg.apply p d = Pg.rems p d.key := by unfold Pg.apply; simp only [h0, h1, h2, cond_true, cond_false]
    rw [hp] at hok ⊢
    repeat (refine go_ ?_; conv => whnf)
    refine ⟨rfl, con_vc (has_con p a c d.key) ?_⟩
    conv => whnf
    repeat (refine go_ ?_; conv => whnf)
    refine ⟨fun h3 => ?_, fun h3 => ?_⟩
    · have h3 : (!Pg.has p d.key) = true := h3
      have hp : Pg.rems p d.key = (Pg.zero, 73) := by unfold Pg.rems; simp only [h3, cond_true]
      rw [hp] at hok; cases hok
    have h3 : (!Pg.has p d.key) = false := h3
    repeat (refine go_ ?_; conv => whnf)
    refine ⟨rfl, conR_row (remove_con p d.key a c (by omega) hpre.1.2) ((Pg.removes p d.key).1.shapeT (Pg.removes p d.key).2) (fun A' hl => hpre.1.1.later hl) fun A2 hA2 => ?_⟩
    by_cases hix : fIx (fun x => sEq x.key d.key) p.list < p.list.length
    · have hp : Pg.rems p d.key = ((Pg.removes p d.key).1, 0) := by unfold Pg.rems; simp only [h3, blt_yes hix, cond_true, cond_false]
      have hr2 : (Pg.removes p d.key).2 = 0 := by unfold Pg.removes; rw [blt_yes hix]; rfl
      rw [hp, hr2]
      conv => whnf
      repeat (refine go_ ?_; conv => whnf)
      refine ⟨fun h4 => ?_, fun h4 => ?_⟩
      · repeat (refine go_ ?_; conv => whnf)
        exact ret_conR (Pg.removes p d.key).1.shape (l := 3) (fun _ _ _ h => one_res h) rfl (Nat.le_refl _) (fun i hi => rfl)
      · exact absurd h4 (by decide)
    · have hp : Pg.rems p d.key = (p, 0) := by unfold Pg.rems; simp only [h3, blt_no hix, cond_false]
      have hr2 : (Pg.removes p d.key).2 = 4 := by unfold Pg.removes; rw [blt_no hix]; rfl
      rw [hp, hr2]
      conv => whnf
      repeat (refine go_ ?_; conv => whnf)
      refine ⟨fun h4 => ?_, fun h4 => ?_⟩
      · exact absurd h4 (by decide)
      · repeat (refine go_ ?_; conv => whnf)
        refine ⟨rfl, conR_row (clone_con p a c (by omega)) p.shape (fun A' hl => ⟨(hpre.1.1.later hA2).later hl, hpre.1.2⟩) fun A3 hA3 => ?_⟩
        conv => whnf
        repeat (refine go_ ?_; conv => whnf)
        exact ret_conR p.shape (l := 5) (fun _ _ _ h => one_res h) rfl (Nat.le_refl _) (fun i hi => rfl)
  have h2 : (d.kind == 2) = false := h2
  repeat (refine go_ ?_; conv => whnf)
  refine ⟨fun h3 => ?_, fun h3 => ?_⟩
  · have h3 : (d.kind == 3) = true := h3
    have hp : Pg.apply p d = (bif cutBad p d then (Pg.zero, 90) else (p.cuts d, 0)) := by unfold Pg.apply; simp only [h0, h1, h2, h3, cond_true, cond_false]
    rw [hp] at hok ⊢
    have hcb : cutBad p d = false := by
      cases hcb : cutBad p d with
      | false => rfl
      | true => rw [hcb] at hok; cases hok
    rw [hcb]
    repeat (refine go_ ?_; conv => whnf)
    refine ⟨rfl, gcon_vc (has_con p a c d.key) ?_⟩
    conv => whnf
    repeat (refine go_ ?_; conv => whnf)
    refine ⟨fun h4 => ?_, fun h4 => ?_⟩
    · have h4 : (bif sLt d.key p.low || sEq d.key p.low then true else !Pg.has p d.key) = true := h4
      have h4 : cutBad p d = true := by
        unfold cutBad; revert h4; cases (sLt d.key p.low || sEq d.key p.low) <;> simp
      rw [h4] at hcb; cases hcb
    repeat (refine go_ ?_; conv => whnf)
    refine ⟨rfl, conR_row (clone_con p a c (by omega)) p.shape (fun A' hl => ⟨hpre.1.1.later hl, hpre.1.2⟩) fun A3 hA3 => ?_⟩
    conv => whnf
    repeat (refine go_ ?_; conv => whnf)
    have hlend := fun q => deletefunc_con p.list 81 q [.int .i64 d.kind, .string d.entry.key, .int .i64 d.entry.slot, .int .i64 d.entry.gen, .int .i64 d.entry.child, .string d.key, .int .i64 d.page, .bool d.right.leaf, .string d.right.low, .string d.right.high, .int .i64 d.right.right, .slice b d.right.list.length e] (fun x => !sLt x.key d.key) rfl (fun x => apply1_con x d _ q) (by omega)
    rw [filter_not] at hlend
    refine ⟨rfl, lend_fn 3 1 rfl rfl rfl hlend Shape.id (fun A4 hA4 => ?_) rfl⟩
    conv => whnf
    repeat (refine go_ ?_; conv => whnf)
    refine .one (some [4]) rfl ?_
    conv => whnf
    repeat (refine go_ ?_; conv => whnf)
    exact ret_conR (p.cuts d).shape (l := 5) (fun _ _ _ h => one_res h) rfl (Nat.le_refl _) (fun i hi => rfl)
  have h3 : (d.kind == 3) = false := h3
  repeat (refine go_ ?_; conv => whnf)
  refine ⟨fun h4 => ?_, fun h4 => ?_⟩
  · have h4 : (d.kind == 4) = true := h4
    have hp : Pg.apply p d = Pg.merges p d.right := by unfold Pg.apply; simp only [h0, h1, h2, h3, h4, cond_true, cond_false]
    rw [hp] at hok ⊢
    repeat (refine go_ ?_; conv => whnf)
    refine ⟨rfl, conR_row (merge_con p d.right a b c e (by omega) hpre.1.2 hpre.2.2) ((Pg.merges p d.right).1.shapeT (Pg.merges p d.right).2) (fun A' hl => ⟨hpre.1.1.later hl, hpre.2.1.later hl⟩) fun A2 hA2 => ?_⟩
    rw [hok]
    conv => whnf
    repeat (refine go_ ?_; conv => whnf)
    refine ⟨rfl, con_vc must_ok ?_⟩
    conv => whnf
    repeat (refine go_ ?_; conv => whnf)
    exact ret_conR (Pg.merges p d.right).1.shape (l := 3) (fun _ _ _ h => one_res h) rfl (Nat.le_refl _) (fun i hi => rfl)
  have h4 : (d.kind == 4) = false := h4
  have hp : Pg.apply p d = (Pg.zero, 91) := by unfold Pg.apply; simp only [h0, h1, h2, h3, h4, cond_false]
  rw [hp] at hok; cases hok
end Go.W
end

section
open Go Go.Eng
namespace Go.W
theorem apply_bad (p : Pg) (d : De) (a b : Option Addr) (c e : Nat) (hl : p.list.length + d.right.list.length + 1 ≤ lim) (hbad : (Pg.apply p d).2 ≠ 0) :
    ConXP P 53 [p.sv a c, d.sv b e] (Two p d a b c e) (failV (Pg.apply p d).2) := by
  refine con_ofP (args := [p.sv a c, d.sv b e]) (Pre := Two p d a b c e) ctx_ok Proofs.Try.func53 rfl (R := fun w M e' w' => e' = .panicked (failV (Pg.apply p d).2) ∧ Stp M w w') rfl rfl fun A hat hpre => vcStep_sound ctx_ok tb_all _ _ _ _ _ ?_
  conv => whnf
  repeat (refine go_ ?_; conv => whnf)
  refine ⟨rfl, con_vc (dcheck_con d b e (by omega)) ?_⟩
  by_cases hck : d.check = 0
  · have h0 : (!(d.check == 0)) = false := by simp [hck]
    rw [hck]
    conv => whnf
    repeat (refine go_ ?_; conv => whnf)
    refine ⟨rfl, con_vc must_ok ?_⟩
    conv => whnf
    repeat (refine go_ ?_; conv => whnf)
    refine ⟨fun h1 => ?_, fun h1 => ?_⟩
    · have h1 : (d.kind == 1) = true := h1
      have hp : Pg.apply p d = Pg.puts p d.entry := by unfold Pg.apply; simp only [h0, h1, cond_true, cond_false]
      rw [hp] at hbad ⊢
      repeat (refine go_ ?_; conv => whnf)
      refine ⟨rfl, conR_row (put_con p d.entry a c (by omega) hpre.1.2) ((Pg.puts p d.entry).1.shapeT (Pg.puts p d.entry).2) (fun A' hl => hpre.1.1.later hl) fun A2 hA2 => ?_⟩
      conv => whnf
      repeat (refine go_ ?_; conv => whnf)
      refine ⟨rfl, conX_vc (must_bad _ hbad) ?_⟩
      conv => whnf
      exact pan_con
    have h1 : (d.kind == 1) = false := h1
    repeat (refine go_ ?_; conv => whnf)
    refine ⟨fun h2 => ?_, fun h2 => ?_⟩
    · have h2 : (d.kind == 2) = true := h2
      have hp : Pg.apply p d = Pg.rems p d.key := by unfold Pg.apply; simp only [h0, h1, h2, cond_true, cond_false]
      rw [hp] at hbad ⊢
      repeat (refine go_ ?_; conv => whnf)
      refine ⟨rfl, con_vc (has_con p a c d.key) ?_⟩
      conv => whnf
      repeat (refine go_ ?_; conv => whnf)
      refine ⟨fun h3 => ?_, fun h3 => ?_⟩
      · have h3 : (!Pg.has p d.key) = true := h3
        have hp : Pg.rems p d.key = (Pg.zero, 73) := by unfold Pg.rems; simp only [h3, cond_true]
        rw [hp]
        repeat (refine go_ ?_; conv => whnf)
        refine ⟨rfl, conX_vc (must_bad 73 (by decide)) ?_⟩
        conv => whnf
        exact pan_con
      · have h3 : (!Pg.has p d.key) = false := h3
        exfalso
        apply hbad
        unfold Pg.rems; simp only [h3, cond_false]
        cases Nat.blt (fIx (fun x => sEq x.key d.key) p.list) p.list.length <;> rfl
    have h2 : (d.kind == 2) = false := h2
    repeat (refine go_ ?_; conv => whnf)
    refine ⟨fun h3 => ?_, fun h3 => ?_⟩
    · have h3 : (d.kind == 3) = true := h3
      have hp : Pg.apply p d = (bif cutBad p d then (Pg.zero, 90) else (p.cuts d, 0)) := by unfold Pg.apply; simp only [h0, h1, h2, h3, cond_true, cond_false]
      rw [hp] at hbad ⊢
      have hcb : cutBad p d = true := by
        cases hcb : cutBad p d with
        | true => rfl
        | false => rw [hcb] at hbad; exact absurd rfl hbad
      rw [hcb]
      repeat (refine go_ ?_; conv => whnf)
      refine ⟨rfl, gcon_vc (has_con p a c d.key) ?_⟩
      conv => whnf
      repeat (refine go_ ?_; conv => whnf)
      refine ⟨fun h4 => ?_, fun h4 => ?_⟩
      · repeat (refine go_ ?_; conv => whnf)
        refine ⟨rfl, conX_vc (must_bad 90 (by decide)) ?_⟩
        conv => whnf
        exact pan_con
      · have h4 : (bif sLt d.key p.low || sEq d.key p.low then true else !Pg.has p d.key) = false := h4
        have h4 : cutBad p d = false := by
          unfold cutBad; revert h4; cases (sLt d.key p.low || sEq d.key p.low) <;> simp
        rw [h4] at hcb; cases hcb
    have h3 : (d.kind == 3) = false := h3
    repeat (refine go_ ?_; conv => whnf)
    refine ⟨fun h4 => ?_, fun h4 => ?_⟩
    · have h4 : (d.kind == 4) = true := h4
      have hp : Pg.apply p d = Pg.merges p d.right := by unfold Pg.apply; simp only [h0, h1, h2, h3, h4, cond_true, cond_false]
      rw [hp] at hbad ⊢
      repeat (refine go_ ?_; conv => whnf)
      refine ⟨rfl, conR_row (merge_con p d.right a b c e (by omega) hpre.1.2 hpre.2.2) ((Pg.merges p d.right).1.shapeT (Pg.merges p d.right).2) (fun A' hl => ⟨hpre.1.1.later hl, hpre.2.1.later hl⟩) fun A2 hA2 => ?_⟩
      conv => whnf
      repeat (refine go_ ?_; conv => whnf)
      refine ⟨rfl, conX_vc (must_bad _ hbad) ?_⟩
      conv => whnf
      exact pan_con
    have h4 : (d.kind == 4) = false := h4
    have hp : Pg.apply p d = (Pg.zero, 91) := by unfold Pg.apply; simp only [h0, h1, h2, h3, h4, cond_false]
    rw [hp]
    repeat (refine go_ ?_; conv => whnf)
    refine ⟨rfl, conX_vc (must_bad 91 (by decide)) ?_⟩
    conv => whnf
    exact pan_con
  · have hp : Pg.apply p d = (Pg.zero, d.check) := by
      unfold Pg.apply
      rw [show (!(d.check == 0)) = true by simpa using hck]; rfl
    rw [hp]
    conv => whnf
    repeat (refine go_ ?_; conv => whnf)
    refine ⟨rfl, conX_vc (must_bad _ hck) ?_⟩
    conv => whnf
    exact pan_con
end Go.W
end
