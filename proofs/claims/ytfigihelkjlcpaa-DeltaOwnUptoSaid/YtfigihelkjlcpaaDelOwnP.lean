/- Lemmas for the proof of a law of the seat Ytfigihelkjlcpaa: an own evaluator of the model's programs, contracts of functions. -/
import Derived.Test.YtfigihelkjlcpaaDelBackP
import Derived.Test.YtfigihelkjlcpaaDelMore
section
open Go Go.Eng
namespace Go.W
theorem rdclone_dp (x : DP) (hl : x.d.right.list.length ≤ lim) : ConR P 22 [x.d.svL (.v x.sl)] x.ok 30 4 x.d.right.list.length (entE x.d.right.list) x.d.val :=
  (rdclone_con x.d x.a x.c hl).argP (fun β A vals h hp => by
    simp only [RelL] at h ⊢
    obtain ⟨y, t, rfl, g, rfl⟩ := h
    exact ⟨y, _, rfl, upD hp g, rfl⟩) (fun _ _ => trivial)
theorem dclone_dp (x : DP) (hl : x.d.right.list.length ≤ lim) : ConR P 20 [x.d.svL (.v x.sl)] x.ok 30 4 x.d.right.list.length (entE x.d.right.list) x.d.val :=
  (dclone_con x.d x.a x.c hl).argP (fun β A vals h hp => by
    simp only [RelL] at h ⊢
    obtain ⟨y, t, rfl, g, rfl⟩ := h
    exact ⟨y, _, rfl, upD hp g, rfl⟩) (fun _ h => h)
theorem apply13_dp (p : Pg) (x : DP) (a : Option Addr) (c : Nat) (hl : p.list.length + x.d.right.list.length + 1 ≤ lim) :
    ConR P 13 [p.sv a c, x.d.svL (.v x.sl)] (Two p x.d a x.a c x.c) 30 4 (Pg.apply p x.d).1.list.length (entE (Pg.apply p x.d).1.list) (appMk p x.d) :=
  (apply13_con p x.d a x.a c x.c hl).argP (fun _ _ _ h hp => rel2_up h (fun _ h => h) (fun _ h => upD hp.2 h)) (fun _ h => h)
theorem rdsame_dp (x y : DP) (hl : x.d.right.list.length ≤ lim) : ConP P 19 [x.d.svL (.v x.sl), y.d.svL (.v y.sl)] (fun A => x.ok A ∧ y.ok A) (.bool (x.d.eq y.d)) :=
  ConP.arg (args' := [x.d.sv x.a x.c, y.d.sv y.a y.c]) (Pre' := fun _ => True) (fun O M w β vals hr hat _ => rdsame_con x.d y.d x.a y.a x.c y.c hl O M w β vals hr hat) (fun _ _ _ h hp => rel2_up h (fun _ h => upD hp.1 h) (fun _ h => upD hp.2 h)) (fun _ _ => trivial)
theorem DP.cells_one (x : DP) : ∀ v ∈ x.cells, v.oneCell' = true := by
  intro v hv
  unfold DP.cells at hv
  simp at hv
  rcases hv with rfl | rfl | rfl | rfl | rfl | rfl | rfl | rfl | rfl | rfl | rfl | rfl <;> rfl
theorem oneD_ok (x : DP) (i : Nat) (hi : i < 1) : (tabE [x.cells] i).length = 12 ∧ ∀ v ∈ tabE [x.cells] i, v.oneCell' = true := by
  have : i = 0 := by omega
  subst this
  exact ⟨rfl, DP.cells_one x⟩
theorem rowsD_join (o : List DP) (y : DP) (k : Nat) (hk : k < o.length + 1) : joinE o.length (rowsD o) (tabE [y.cells]) k = rowsD (o ++ [y]) k := by
  unfold joinE rowsD
  by_cases h : k < o.length
  · rw [blt_yes h]
    simp [List.getD_eq_getElem?_getD, List.getElem?_append_left h]
  · have : k = o.length := by omega
    subst this
    rw [blt_no (Nat.lt_irrefl _)]
    simp [List.getD_eq_getElem?_getD, tabE]
theorem okD_snoc {o : List DP} {y : DP} {A : Anc} (h : okD o A) (hy : y.ok A) : okD (o ++ [y]) A := fun i hi => by
  by_cases hb : i < o.length
  · have := h i hb
    rw [List.getD_eq_getElem?_getD] at this ⊢
    rw [List.getElem?_append_left hb]; exact this
  · have : i = o.length := by simp at hi; omega
    subst this
    rw [List.getD_eq_getElem?_getD, List.getElem?_append_right (Nat.le_refl _)]
    simpa using hy
end Go.W
end

section
open Go Go.Eng
namespace Go.W
def oSl : List DP → SV
  | [] => .v (.slice none 0 0)
  | _ :: r => .sl 2 12 0 (r.length + 1)
def oHp : List DP → List Chunk
  | [] => []
  | y :: r => [.row 32 12 (r.length + 1) (rowsD (y :: r))]
theorem take_des (l : List DP) {i : Nat} (h : i < l.length) : desOf (l.take (i + 1)) = desOf (l.take i) ++ [(l.getD i DP.zero).d] := by
  unfold desOf
  rw [List.take_succ_eq_append_getElem h, List.map_append, List.getD_eq_getElem?_getD, List.getElem?_eq_getElem h]
  rfl
theorem FoldPre.later {p : Pg} {a : Option Addr} {c : Nat} {l : List DP} {A A' : Anc} (h : FoldPre p a c l A) (hl : Later A A') : FoldPre p a c l A' := ⟨⟨h.1.1.later hl, h.1.2⟩, h.2.later hl⟩
def spStr : Str := ⟨#[115, 112, 111, 105, 108, 116]⟩
def spoil (G : Nat → En) (j : Nat) : Nat → En := fun k => bif Nat.beq k j then ⟨spStr, (G j).slot, (G j).gen, (G j).child⟩ else G k
theorem spoil_row (G : Nat → En) (j k : Nat) : (bif Nat.beq k (0 + j) then takeD (0 + 0) (rowG G (0 + j)) ++ [.string spStr] ++ dropL ((0 + 0).add 1) (rowG G (0 + j)) else rowG G k) = rowG (spoil G j) k := by
  rw [Nat.zero_add]
  unfold spoil
  show _ = (bif Nat.beq k j then _ else G k : En).cells
  cases Nat.beq k j <;> rfl
theorem size_at1 (l : List DP) (i : Nat) (h : i < l.length) : (l.getD i DP.zero).d.right.list.length + 1 ≤ sizeD (desOf l) := by
  induction l generalizing i with
  | nil => simp at h
  | cons x r ih =>
    cases i with
    | zero =>
      show x.d.right.list.length + 1 ≤ sizeD (x.d :: desOf r)
      simp only [sizeD]; omega
    | succ i =>
      have := ih i (by simpa using h)
      show (r.getD i DP.zero).d.right.list.length + 1 ≤ sizeD (x.d :: desOf r)
      simp only [sizeD]; omega
theorem des_at (l : List DP) (i : Nat) : (l.getD i DP.zero).d = (desOf l).getD i De.zero := by
  unfold desOf
  rw [List.getD_eq_getElem?_getD, List.getD_eq_getElem?_getD, List.getElem?_map]
  cases l[i]? <;> rfl
theorem own_con (p : Pg) (l : List DP) (a aL : Option Addr) (c cL : Nat) (hl : p.list.length + sizeD (desOf l) + 1 ≤ lim) (hn : l.length ≤ 1048576) :
    ConP P 5 [p.sv a c, .ext aL l.length cL 12 (rowsD l)] (FoldPre p a c l) (.bool true) := by
  refine con_ofP (args := [p.sv a c, .ext aL l.length cL 12 (rowsD l)]) (Pre := FoldPre p a c l) ctx_ok Proofs.Try.func5 rfl (R := ValR (.bool true)) rfl rfl fun A hat hpre => vcStep_sound ctx_ok tb_all _ _ _ _ _ ?_
  conv => whnf
  repeat (refine go_ ?_; conv => whnf)
  refine ⟨rfl, conR_ext (rclone_con p a c (by omega)) p.shape (fun _ _ => trivial) (fun A5 a5 c5 hA5 hs5 => ?_)⟩
  conv => whnf
  refine goH [bxP p a c, bxP p a5 c5] rfl ?_
  conv => whnf
  repeat (refine go_ ?_; conv => whnf)
  refine loop_i (fun o : List DP => [(1, .ext aL l.length cL 12 (rowsD l)), (2, .loc 0 0), (5, .loc 1 0), (6, oSl o), (21, .ext aL l.length cL 12 (rowsD l)), (22, .v (.int .i64 l.length)), (23, .v (.int .i64 o.length))])
    (fun o => bxP p a c :: bxP p a5 c5 :: oHp o) (fun o => l.length - o.length)
    (fun o A => o.length ≤ l.length ∧ desOf o = desOf (l.take o.length) ∧ okD o A ∧ FoldPre p a c l A) [] [0, 1] ⟨⟨rfl, rfl, rfl, rfl, rfl, rfl, rfl, trivial⟩, ⟨⟨rfl, rfl⟩, ⟨rfl, rfl⟩, trivial⟩, rfl, rfl, rfl⟩ ⟨Nat.zero_le _, rfl, fun i hi => absurd hi (Nat.not_lt_zero i), ⟨hpre.1.1.later hA5, hpre.1.2⟩, hpre.2.later hA5⟩ ?_
  rintro o A1 ⟨ho, hd, hok, hpp⟩
  rcases o with _ | ⟨y, r⟩
  · repeat (refine go_ ?_; conv => whnf)
    refine ⟨fun h2 => ?_, fun h2 => ?_⟩
    · have h2 : 0 < l.length := lt_of_dec (i := 0) h2
      repeat (refine go_ ?_; conv => whnf)
      refine ⟨⟨by show (0 : Int) ≤ 0; omega, by show (0 : Int) < (l.length : Int); omega⟩, ?_⟩
      conv => whnf
      repeat (refine go_ ?_; conv => whnf)
      have hx0 := hpp.2 0 h2
      have hsz := size_at (l := l) 0 (by omega)
      refine ⟨rfl, conE_ext (rdclone_dp (l.getD 0 DP.zero) hsz).toE (l.getD 0 DP.zero).d.shape (fun A' hl' => hx0.later hl') (fun A2 a2 c2 hA2 hO2 hn2 hs2 => ?_)⟩
      conv => whnf
      repeat (refine go_ ?_; conv => whnf)
      refine ⟨fun A3 q3 hA3 hq3 => ?_⟩
      conv => whnf
      refine ⟨⟨trivial, oneD_ok ⟨(l.getD 0 DP.zero).d, a2, c2⟩, ?_⟩, ?_⟩
      · show (0 + 1) * 144 ≤ 140737488355328
        omega
      conv => whnf
      repeat (refine go_ ?_; conv => whnf)
      refine next_i [⟨(l.getD 0 DP.zero).d, a2, c2⟩] [0, 1, 3] (by show l.length - 1 < l.length - 0; omega) ⟨⟨rfl, rfl, rfl, rfl, rfl, rfl, ?_, trivial⟩, ⟨⟨rfl, rfl⟩, ⟨rfl, rfl⟩, ⟨rfl, rfl, rfl, fun k hk => ?_⟩, trivial⟩, rfl, rfl, rfl⟩ ⟨h2, ?_, ?_, ?_⟩
      · exact w_succ 0 (by omega)
      · have : k = 0 := by have hk : k < 0 + 1 := hk; omega
        subst this; rfl
      · show desOf [⟨(l.getD 0 DP.zero).d, a2, c2⟩] = desOf (l.take (0 + 1))
        rw [take_des l h2]; rfl
      · exact okD_one ⟨hs2.later hA3, hn2⟩
      · exact (hpp.later hA2).later hA3
    · have h2 : l.length ≤ 0 := ge_of_dec (i := 0) h2
      repeat (refine go_ ?_; conv => whnf)
      refine ⟨rfl, conR_row (fold_con p l a aL c cL (by omega) (by unfold lim; omega)) ((p.fold (desOf l)).1.shapeT (p.fold (desOf l)).2) (fun A' hl' => hpp.later hl') (fun A2 hA2 => ?_)⟩
      conv => whnf
      refine goH [bxP p a c, bxP p a5 c5, .row 30 4 (p.fold (desOf l)).1.list.length (entE (p.fold (desOf l)).1.list), .box 24 (pgCells (p.fold (desOf l)).1 (.sl 2 4 0 (p.fold (desOf l)).1.list.length))] rfl ?_
      conv => whnf
      repeat (refine go_ ?_; conv => whnf)
      refine loop_i (fun x : Nat × (Nat → En) => [(1, .ext aL l.length cL 12 (rowsD l)), (2, .loc 0 0), (5, .loc 1 0), (9, .loc 3 0), (41, .v (.int .i64 (p.fold (desOf l)).1.list.length)), (42, .v (.int .i64 x.1))])
        (fun x => [bxP p a c, bxP p a5 c5, .row 30 4 (p.fold (desOf l)).1.list.length (rowG x.2), .box 24 (pgCells (p.fold (desOf l)).1 (.sl 2 4 0 (p.fold (desOf l)).1.list.length))]) (fun x => (p.fold (desOf l)).1.list.length - x.1)
        (fun x _ => x.1 ≤ (p.fold (desOf l)).1.list.length) (0, fun k => (p.fold (desOf l)).1.list.getD k En.zero) [0, 1, 2, 3] ⟨⟨rfl, rfl, rfl, rfl, rfl, rfl, trivial⟩, ⟨⟨rfl, rfl⟩, ⟨rfl, rfl⟩, ⟨rfl, rfl, rfl, fun k hk => rfl⟩, ⟨rfl, rfl⟩, trivial⟩, rfl, rfl, rfl⟩ (Nat.zero_le _) ?_
      have hql : (p.fold (desOf l)).1.list.length ≤ lim := by have := fold_len p (desOf l); omega
      generalize (p.fold (desOf l)).1 = Q at hql
      rintro ⟨j, G⟩ A4 hj
      have hj : j ≤ Q.list.length := hj
      repeat (refine go_ ?_; conv => whnf)
      refine ⟨fun h3 => ?_, fun h3 => ?_⟩
      · have h3 : j < Q.list.length := lt_of_dec h3
        repeat (refine go_ ?_; conv => whnf)
        refine ⟨⟨by show (0 : Int) ≤ (j : Int); omega, by show (j : Int) < (Q.list.length : Int); omega⟩, ?_⟩
        conv => whnf
        repeat (refine go_ ?_; conv => whnf)
        refine ⟨by show 0 + j < Q.list.length; omega, ?_⟩
        conv => whnf
        repeat (refine go_ ?_; conv => whnf)
        refine next_i (j + 1, spoil G j) [0, 1, 2, 3] (by show Q.list.length - (j + 1) < Q.list.length - j; omega) ⟨⟨rfl, rfl, rfl, rfl, rfl, ?_, trivial⟩, ⟨⟨rfl, rfl⟩, ⟨rfl, rfl⟩, ⟨rfl, rfl, rfl, fun k hk => ?_⟩, ⟨rfl, rfl⟩, trivial⟩, rfl, rfl, rfl⟩ h3
        · exact w_succ j (by unfold lim at hql; omega)
        · exact spoil_row G j k
      · repeat (refine go_ ?_; conv => whnf)
        refine loop_i (fun j : Nat => [(1, .ext aL l.length cL 12 (rowsD l)), (2, .loc 0 0), (5, .loc 1 0), (52, .v (.int .i64 l.length)), (53, .v (.int .i64 j))])
          (fun _ => [bxP p a c, bxP p a5 c5]) (fun j => l.length - j) (fun _ _ => True) 0 [0, 1] ⟨⟨rfl, rfl, rfl, rfl, rfl, trivial⟩, ⟨⟨rfl, rfl⟩, ⟨rfl, rfl⟩, trivial⟩, rfl, rfl, rfl⟩ trivial ?_
        rintro j A6 -
        repeat (refine go_ ?_; conv => whnf)
        refine ⟨fun h3 => ?_, fun h3 => ?_⟩
        · have h3 : j < l.length := lt_of_dec h3
          omega
        · repeat (refine go_ ?_; conv => whnf)
          refine ⟨rfl, con_vc live_con ?_⟩
          conv => whnf
          refine ⟨rfl, gcon_vc (rsame_con p p a a5 c c5 (by omega)) ?_⟩
          rw [Pg.eq_refl]
          conv => whnf
          repeat (refine go_ ?_; conv => whnf)
          exact ret_con rfl rfl
  · repeat (refine go_ ?_; conv => whnf)
    refine ⟨fun h2 => ?_, fun h2 => ?_⟩
    · have h2 : r.length + 1 < l.length := lt_of_dec (i := r.length + 1) h2
      repeat (refine go_ ?_; conv => whnf)
      refine ⟨⟨by show (0 : Int) ≤ ((r.length + 1 : Nat) : Int); omega, by show ((r.length + 1 : Nat) : Int) < (l.length : Int); omega⟩, ?_⟩
      conv => whnf
      repeat (refine go_ ?_; conv => whnf)
      have hx0 := hpp.2 (r.length + 1) h2
      have hsz := size_at (l := l) (r.length + 1) (by omega)
      refine ⟨rfl, conE_ext (rdclone_dp (l.getD (r.length + 1) DP.zero) hsz).toE (l.getD (r.length + 1) DP.zero).d.shape (fun A' hl' => hx0.later hl') (fun A2 a2 c2 hA2 hO2 hn2 hs2 => ?_)⟩
      conv => whnf
      repeat (refine go_ ?_; conv => whnf)
      refine ⟨fun A3 q3 hA3 hq3 => ?_⟩
      conv => whnf
      refine ⟨⟨Nat.le_refl _, oneD_ok ⟨(l.getD (r.length + 1) DP.zero).d, a2, c2⟩, ?_⟩, ?_⟩
      · show (r.length + 1 + 1) * 144 ≤ 140737488355328
        omega
      conv => whnf
      repeat (refine go_ ?_; conv => whnf)
      refine next_i (y :: (r ++ [⟨(l.getD (r.length + 1) DP.zero).d, a2, c2⟩])) [0, 1, 4] ?_ ⟨⟨rfl, rfl, rfl, ?_, rfl, rfl, ?_, trivial⟩, ⟨⟨rfl, rfl⟩, ⟨rfl, rfl⟩, ⟨rfl, rfl, ?_, fun k hk => ?_⟩, trivial⟩, rfl, rfl, rfl⟩ ⟨?_, ?_, ?_, ?_⟩
      · show l.length - ((r ++ [_]).length + 1) < l.length - (r.length + 1)
        rw [List.length_append]; simp only [List.length_singleton]; omega
      · show (some ⟨[], .sl 4 12 0 (r.length + 1 + 1)⟩ : Option Ent) = some ⟨[], .sl 4 12 0 ((r ++ [_]).length + 1)⟩
        rw [List.length_append]; rfl
      · have := w_succ (r.length + 1) (by omega)
        show _ = (some ⟨[], .v (.int .i64 (((r ++ [_]).length + 1 : Nat) : Int))⟩ : Option Ent)
        rw [List.length_append]; exact this
      · show r.length + 1 + 1 = (r ++ [_]).length + 1
        rw [List.length_append]; rfl
      · have hk : k < (r ++ [_]).length + 1 := hk
        rw [List.length_append] at hk
        exact rowsD_join (y :: r) ⟨(l.getD (r.length + 1) DP.zero).d, a2, c2⟩ k hk
      · show (r ++ [_]).length + 1 ≤ l.length
        rw [List.length_append]; simp only [List.length_singleton]; omega
      · show desOf ((y :: r) ++ [_]) = desOf (l.take ((r ++ [_]).length + 1))
        rw [List.length_append]
        show _ = desOf (l.take (r.length + 1 + 1))
        rw [take_des l h2, ← show desOf (y :: r) = desOf (l.take (r.length + 1)) from hd]
        unfold desOf
        rw [List.map_append]; rfl
      · exact okD_snoc (((hok).later hA2).later hA3) ⟨hs2.later hA3, hn2⟩
      · exact (hpp.later hA2).later hA3
    · have h2 : l.length ≤ r.length + 1 := ge_of_dec (i := r.length + 1) h2
      have hrl : r.length + 1 = l.length := by have : r.length + 1 ≤ l.length := ho; omega
      have hdd : desOf (y :: r) = desOf l := by
        have hd : desOf (y :: r) = desOf (l.take (r.length + 1)) := hd
        rw [hd, hrl, List.take_length]
      repeat (refine go_ ?_; conv => whnf)
      refine ⟨rfl, conR_row (fold_con p l a aL c cL (by omega) (by unfold lim; omega)) ((p.fold (desOf l)).1.shapeT (p.fold (desOf l)).2) (fun A' hl' => hpp.later hl') (fun A2 hA2 => ?_)⟩
      conv => whnf
      refine goH [bxP p a c, bxP p a5 c5, .row 32 12 (r.length + 1) (rowsD (y :: r)), .row 30 4 (p.fold (desOf l)).1.list.length (entE (p.fold (desOf l)).1.list), .box 24 (pgCells (p.fold (desOf l)).1 (.sl 3 4 0 (p.fold (desOf l)).1.list.length))] rfl ?_
      conv => whnf
      repeat (refine go_ ?_; conv => whnf)
      refine loop_i (fun x : Nat × (Nat → En) => [(1, .ext aL l.length cL 12 (rowsD l)), (2, .loc 0 0), (5, .loc 1 0), (6, .sl 2 12 0 (r.length + 1)), (9, .loc 4 0), (41, .v (.int .i64 (p.fold (desOf l)).1.list.length)), (42, .v (.int .i64 x.1))])
        (fun x => [bxP p a c, bxP p a5 c5, .row 32 12 (r.length + 1) (rowsD (y :: r)), .row 30 4 (p.fold (desOf l)).1.list.length (rowG x.2), .box 24 (pgCells (p.fold (desOf l)).1 (.sl 3 4 0 (p.fold (desOf l)).1.list.length))]) (fun x => (p.fold (desOf l)).1.list.length - x.1)
        (fun x A => x.1 ≤ (p.fold (desOf l)).1.list.length ∧ okD (y :: r) A ∧ FoldPre p a c l A) (0, fun k => (p.fold (desOf l)).1.list.getD k En.zero) [0, 1, 2, 3, 4] ⟨⟨rfl, rfl, rfl, rfl, rfl, rfl, rfl, trivial⟩, ⟨⟨rfl, rfl⟩, ⟨rfl, rfl⟩, ⟨rfl, rfl, rfl, fun k hk => rfl⟩, ⟨rfl, rfl, rfl, fun k hk => rfl⟩, ⟨rfl, rfl⟩, trivial⟩, rfl, rfl, rfl⟩ ⟨Nat.zero_le _, hok.later hA2, hpp.later hA2⟩ ?_
      have hql : (p.fold (desOf l)).1.list.length ≤ lim := by have := fold_len p (desOf l); omega
      generalize (p.fold (desOf l)).1 = Q at hql
      rintro ⟨j, G⟩ A4 ⟨hj, hok4, hpp4⟩
      have hj : j ≤ Q.list.length := hj
      repeat (refine go_ ?_; conv => whnf)
      refine ⟨fun h3 => ?_, fun h3 => ?_⟩
      · have h3 : j < Q.list.length := lt_of_dec h3
        repeat (refine go_ ?_; conv => whnf)
        refine ⟨⟨by show (0 : Int) ≤ (j : Int); omega, by show (j : Int) < (Q.list.length : Int); omega⟩, ?_⟩
        conv => whnf
        repeat (refine go_ ?_; conv => whnf)
        refine ⟨by show 0 + j < Q.list.length; omega, ?_⟩
        conv => whnf
        repeat (refine go_ ?_; conv => whnf)
        refine next_i (j + 1, spoil G j) [0, 1, 2, 3, 4] (by show Q.list.length - (j + 1) < Q.list.length - j; omega) ⟨⟨rfl, rfl, rfl, rfl, rfl, rfl, ?_, trivial⟩, ⟨⟨rfl, rfl⟩, ⟨rfl, rfl⟩, ⟨rfl, rfl, rfl, fun k hk => rfl⟩, ⟨rfl, rfl, rfl, fun k hk => ?_⟩, ⟨rfl, rfl⟩, trivial⟩, rfl, rfl, rfl⟩ ⟨h3, hok4, hpp4⟩
        · exact w_succ j (by unfold lim at hql; omega)
        · exact spoil_row G j k
      · repeat (refine go_ ?_; conv => whnf)
        refine loop_i (fun j : Nat => [(1, .ext aL l.length cL 12 (rowsD l)), (2, .loc 0 0), (5, .loc 1 0), (6, .sl 2 12 0 (r.length + 1)), (51, .ext aL l.length cL 12 (rowsD l)), (52, .v (.int .i64 l.length)), (53, .v (.int .i64 j))])
          (fun _ => [bxP p a c, bxP p a5 c5, .row 32 12 (r.length + 1) (rowsD (y :: r))]) (fun j => l.length - j)
          (fun j A => j ≤ l.length ∧ okD (y :: r) A ∧ FoldPre p a c l A) 0 [0, 1, 2] ⟨⟨rfl, rfl, rfl, rfl, rfl, rfl, rfl, trivial⟩, ⟨⟨rfl, rfl⟩, ⟨rfl, rfl⟩, ⟨rfl, rfl, rfl, fun k hk => rfl⟩, trivial⟩, rfl, rfl, rfl⟩ ⟨Nat.zero_le _, hok4, hpp4⟩ ?_
        rintro j A6 ⟨hj, hok6, hpp6⟩
        repeat (refine go_ ?_; conv => whnf)
        refine ⟨fun h3 => ?_, fun h3 => ?_⟩
        · have h3 : j < l.length := lt_of_dec h3
          have hsz := size_at (l := l) j (by omega)
          have hx0 := hpp6.2 j h3
          repeat (refine go_ ?_; conv => whnf)
          refine ⟨⟨by show (0 : Int) ≤ (j : Int); omega, by show (j : Int) < (l.length : Int); omega⟩, ?_⟩
          conv => whnf
          repeat (refine go_ ?_; conv => whnf)
          refine ⟨rfl, conR_row (dclone_dp (l.getD j DP.zero) hsz) (l.getD j DP.zero).d.shape (fun A' hl' => hx0.later hl') (fun A7 hA7 => ?_)⟩
          conv => whnf
          refine goH [bxP p a c, bxP p a5 c5, .row 32 12 (r.length + 1) (rowsD (y :: r)), bxD (l.getD j DP.zero).d (.v (l.getD j DP.zero).sl), .row 30 4 (l.getD j DP.zero).d.right.list.length (entE (l.getD j DP.zero).d.right.list), bxD (l.getD j DP.zero).d (.sl 4 4 0 (l.getD j DP.zero).d.right.list.length)] rfl ?_
          have hx7 := hx0.later hA7
          have hok7 := hok6.later hA7
          have hpp7 := hpp6.later hA7
          have hxs := size_at1 l j h3
          obtain ⟨X, hX⟩ : ∃ X, l.getD j DP.zero = X := ⟨_, rfl⟩
          rw [hX] at hsz hx7 hxs ⊢
          clear hx0
          conv => whnf
          repeat (refine go_ ?_; conv => whnf)
          refine loop_i (fun x : Nat × (Nat → En) => [(1, .ext aL l.length cL 12 (rowsD l)), (2, .loc 0 0), (5, .loc 1 0), (6, .sl 2 12 0 (r.length + 1)), (51, .ext aL l.length cL 12 (rowsD l)), (52, .v (.int .i64 l.length)), (53, .v (.int .i64 j)), (12, .v (.int .i64 j)), (13, .loc 3 0), (14, .loc 5 0), (63, .v (.int .i64 X.d.right.list.length)), (64, .v (.int .i64 x.1))])
            (fun x => [bxP p a c, bxP p a5 c5, .row 32 12 (r.length + 1) (rowsD (y :: r)), bxD X.d (.v X.sl), .row 30 4 X.d.right.list.length (rowG x.2), bxD X.d (.sl 4 4 0 X.d.right.list.length)]) (fun x => X.d.right.list.length - x.1)
            (fun x A => x.1 ≤ X.d.right.list.length ∧ X.ok A ∧ okD (y :: r) A ∧ FoldPre p a c l A) (0, fun k => X.d.right.list.getD k En.zero) [0, 1, 2, 3, 4, 5] ⟨⟨rfl, rfl, rfl, rfl, rfl, rfl, rfl, rfl, rfl, rfl, rfl, rfl, trivial⟩, ⟨⟨rfl, rfl⟩, ⟨rfl, rfl⟩, ⟨rfl, rfl, rfl, fun k hk => rfl⟩, ⟨rfl, rfl⟩, ⟨rfl, rfl, rfl, fun k hk => rfl⟩, ⟨rfl, rfl⟩, trivial⟩, rfl, rfl, rfl⟩ ⟨Nat.zero_le _, hx7, hok7, hpp7⟩ ?_
          rintro ⟨k, G6⟩ A8 ⟨hk, hx8, hok8, hpp8⟩
          have hk : k ≤ X.d.right.list.length := hk
          repeat (refine go_ ?_; conv => whnf)
          refine ⟨fun h4 => ?_, fun h4 => ?_⟩
          · have h4 : k < X.d.right.list.length := lt_of_dec h4
            repeat (refine go_ ?_; conv => whnf)
            refine ⟨⟨by show (0 : Int) ≤ (k : Int); omega, by show (k : Int) < (X.d.right.list.length : Int); omega⟩, ?_⟩
            conv => whnf
            repeat (refine go_ ?_; conv => whnf)
            refine ⟨by show 0 + k < X.d.right.list.length; omega, ?_⟩
            conv => whnf
            repeat (refine go_ ?_; conv => whnf)
            refine next_i (k + 1, spoil G6 k) [0, 1, 2, 3, 4, 5] (by show X.d.right.list.length - (k + 1) < X.d.right.list.length - k; omega) ⟨⟨rfl, rfl, rfl, rfl, rfl, rfl, rfl, rfl, rfl, rfl, rfl, ?_, trivial⟩, ⟨⟨rfl, rfl⟩, ⟨rfl, rfl⟩, ⟨rfl, rfl, rfl, fun k hk => rfl⟩, ⟨rfl, rfl⟩, ⟨rfl, rfl, rfl, fun i hi => ?_⟩, ⟨rfl, rfl⟩, trivial⟩, rfl, rfl, rfl⟩ ⟨h4, hx8, hok8, hpp8⟩
            · exact w_succ k (by unfold lim at hsz; omega)
            · exact spoil_row G6 k i
          · repeat (refine go_ ?_; conv => whnf)
            refine ⟨rfl, conR_row (apply13_dp p X a c (by omega)) ((Pg.apply p X.d).1.shapeT (Pg.apply p X.d).2) (fun A' hl' => ⟨⟨hpp8.1.1.later hl', hpp8.1.2⟩, hx8.later hl'⟩) (fun A9 hA9 => ?_)⟩
            conv => whnf
            refine goH [bxP p a c, bxP p a5 c5, .row 32 12 (r.length + 1) (rowsD (y :: r)), bxD X.d (.v X.sl), .row 30 4 X.d.right.list.length (rowG G6), bxD X.d (.sl 4 4 0 X.d.right.list.length), .row 30 4 (Pg.apply p X.d).1.list.length (entE (Pg.apply p X.d).1.list), .box 24 (pgCells (Pg.apply p X.d).1 (.sl 6 4 0 (Pg.apply p X.d).1.list.length))] rfl ?_
            have hrl9 : (Pg.apply p X.d).1.list.length ≤ lim := by have := apply_len p X.d; omega
            conv => whnf
            repeat (refine go_ ?_; conv => whnf)
            refine loop_i (fun x : Nat × (Nat → En) => [(1, .ext aL l.length cL 12 (rowsD l)), (2, .loc 0 0), (5, .loc 1 0), (6, .sl 2 12 0 (r.length + 1)), (51, .ext aL l.length cL 12 (rowsD l)), (52, .v (.int .i64 l.length)), (53, .v (.int .i64 j)), (12, .v (.int .i64 j)), (16, .loc 4 0), (82, .v (.int .i64 (Pg.apply p X.d).1.list.length)), (83, .v (.int .i64 x.1))])
              (fun x => [bxP p a c, bxP p a5 c5, .row 32 12 (r.length + 1) (rowsD (y :: r)), .row 30 4 (Pg.apply p X.d).1.list.length (rowG x.2), .box 24 (pgCells (Pg.apply p X.d).1 (.sl 3 4 0 (Pg.apply p X.d).1.list.length))]) (fun x => (Pg.apply p X.d).1.list.length - x.1)
              (fun x A => x.1 ≤ (Pg.apply p X.d).1.list.length ∧ X.ok A ∧ okD (y :: r) A ∧ FoldPre p a c l A) (0, fun k => (Pg.apply p X.d).1.list.getD k En.zero) [0, 1, 2, 6, 7] ⟨⟨rfl, rfl, rfl, rfl, rfl, rfl, rfl, rfl, rfl, rfl, rfl, trivial⟩, ⟨⟨rfl, rfl⟩, ⟨rfl, rfl⟩, ⟨rfl, rfl, rfl, fun k hk => rfl⟩, ⟨rfl, rfl, rfl, fun k hk => rfl⟩, ⟨rfl, rfl⟩, trivial⟩, rfl, rfl, rfl⟩ ⟨Nat.zero_le _, hx8.later hA9, hok8.later hA9, hpp8.later hA9⟩ ?_
            generalize (Pg.apply p X.d).1 = Q9 at hrl9
            rintro ⟨k9, G9⟩ A10 ⟨hk9, hx10, hok10, hpp10⟩
            have hk9 : k9 ≤ Q9.list.length := hk9
            repeat (refine go_ ?_; conv => whnf)
            refine ⟨fun h5 => ?_, fun h5 => ?_⟩
            · have h5 : k9 < Q9.list.length := lt_of_dec h5
              repeat (refine go_ ?_; conv => whnf)
              refine ⟨⟨by show (0 : Int) ≤ (k9 : Int); omega, by show (k9 : Int) < (Q9.list.length : Int); omega⟩, ?_⟩
              conv => whnf
              repeat (refine go_ ?_; conv => whnf)
              refine ⟨by show 0 + k9 < Q9.list.length; omega, ?_⟩
              conv => whnf
              repeat (refine go_ ?_; conv => whnf)
              refine next_i (k9 + 1, spoil G9 k9) [0, 1, 2, 3, 4] (by show Q9.list.length - (k9 + 1) < Q9.list.length - k9; omega) ⟨⟨rfl, rfl, rfl, rfl, rfl, rfl, rfl, rfl, rfl, rfl, ?_, trivial⟩, ⟨⟨rfl, rfl⟩, ⟨rfl, rfl⟩, ⟨rfl, rfl, rfl, fun k hk => rfl⟩, ⟨rfl, rfl, rfl, fun i hi => ?_⟩, ⟨rfl, rfl⟩, trivial⟩, rfl, rfl, rfl⟩ ⟨h5, hx10, hok10, hpp10⟩
              · exact w_succ k9 (by unfold lim at hrl9; omega)
              · exact spoil_row G9 k9 i
            · repeat (refine go_ ?_; conv => whnf)
              refine .one none (by kernel_rfl) ?_
              conv => whnf
              refine ⟨⟨by show (0 : Int) ≤ (j : Int); omega, by show (j : Int) < (l.length : Int); omega⟩, ?_⟩
              conv => whnf
              refine ⟨⟨by show (0 : Int) ≤ (j : Int); omega, by show (j : Int) < ((r.length + 1 : Nat) : Int); omega⟩, ?_⟩
              conv => whnf
              refine ⟨by show 0 + j < r.length + 1; omega, ?_⟩
              conv => whnf
              have hF := rdsame_dp (l.getD j DP.zero) ((y :: r).getD (0 + j) DP.zero) (by rw [hX]; exact hsz)
              rw [show (l.getD j DP.zero).d.eq ((y :: r).getD (0 + j) DP.zero).d = true by rw [Nat.zero_add, des_at, des_at, hdd]; exact De.eq_refl _] at hF
              refine ⟨rfl, conP_vc hF (fun A' hl' => ⟨by rw [hX]; exact hx10.later hl', (hok10 (0 + j) (by show 0 + j < r.length + 1; omega)).later hl'⟩) ?_⟩
              conv => whnf
              repeat (refine go_ ?_; conv => whnf)
              refine ⟨fun h6 => ?_, fun h6 => ?_⟩
              · exact absurd h6 (by decide)
              repeat (refine go_ ?_; conv => whnf)
              refine next_i (j + 1) [0, 1, 2] (by show l.length - (j + 1) < l.length - j; omega) ⟨⟨rfl, rfl, rfl, rfl, rfl, rfl, ?_, trivial⟩, ⟨⟨rfl, rfl⟩, ⟨rfl, rfl⟩, ⟨rfl, rfl, rfl, fun k hk => rfl⟩, trivial⟩, rfl, rfl, rfl⟩ ⟨h3, hok10, hpp10⟩
              exact w_succ j (by omega)
        · repeat (refine go_ ?_; conv => whnf)
          refine ⟨rfl, con_vc live_con ?_⟩
          conv => whnf
          refine ⟨rfl, gcon_vc (rsame_con p p a a5 c c5 (by omega)) ?_⟩
          rw [Pg.eq_refl]
          conv => whnf
          repeat (refine go_ ?_; conv => whnf)
          exact ret_con rfl rfl
end Go.W
end

section
open Go Go.Eng
namespace Go.W
open Go.ChangeShapes Go.WideShapes Go.ChangeAt Go.RowKit
section
variable {H : Type} {enc : TypeId × Value → H} {W : World}
theorem sizeD_bulk : ∀ (l : List DP) (es : List (DataW H × List MemPlace)), l.length = es.length → (∀ i (h : i < es.length), (l.getD i DP.zero).d.right.list.length + 1 ≤ bulk es[i].1) → sizeD (desOf l) ≤ bulkA (es.map (·.1))
  | [], _, _, _ => Nat.zero_le _
  | x :: r, [], h, _ => by simp at h
  | x :: r, e :: es, h, hb => by
    have h0 := hb 0 (by simp)
    have ih := sizeD_bulk r es (by simpa using h) (fun i hi => hb (i + 1) (by simpa using hi))
    have h0 : x.d.right.list.length + 1 ≤ bulk e.1 := h0
    rw [List.map_cons, bulkA_cons]
    show x.d.right.list.length + 1 + sizeD (desOf r) ≤ _
    omega
theorem open_dlist {sp : Nat → Bool} {fuel : Nat} {x : DataW H × List MemPlace} {cs : List Value} (h : DataW.trod enc P W 0 sp true fuel 46 cs = some x) :
    ∃ (l : List DP) (a : Option Addr) (c : Nat), cs = [.slice a l.length c] ∧ l.length ≤ c ∧ SliceAt ⟨no, no, W⟩ a l.length 12 (rowsD l) ∧ okD l ⟨no, no, W⟩ ∧ sizeD (desOf l) + 1 ≤ bulk x.1 ∧ l.length + 1 ≤ bulk x.1 := by
  rcases DataW.trod_slice Proofs.Try.underlying46 h with ⟨rfl, rfl⟩ | ⟨a, len, cap, elems, rest, n, _, rfl, rfl, _, hlc, _, hel, hat, _, _⟩
  · exact ⟨[], none, 0, rfl, Nat.le_refl _, fun i hi => absurd hi (Nat.not_lt_zero i), fun i hi => absurd hi (Nat.not_lt_zero i), bulk_pos _, bulk_pos _⟩
  · have e32 : P.cellsOf 32 = 12 := by kernel_rfl
    rw [e32] at hat
    have hle : elems.length = len := by omega
    have key : ∀ i, (hi : i < len) → ∃ y : DP, W.cells? 0 (a.add (i * 12)) 12 = some y.cells ∧ y.ok ⟨no, no, W⟩ ∧ y.d.right.list.length + 1 ≤ bulk (elems[i]'(by omega)).1 := fun i hi => by
      have h1 := hat i hi
      rw [List.getElem?_eq_getElem (by omega)] at h1
      obtain ⟨cs, q1, q2⟩ := Option.bind_eq_some_iff.1 h1
      obtain ⟨y, e, hy, hb⟩ := open_de (v := .agg cs.toArray) q2
      have : cs = y.cells := by
        have := congrArg (fun v : Value => v.cells.toList) e
        simpa [Value.cells] using this
      subst this
      exact ⟨y, q1, hy, hb⟩
    let l : List DP := (List.range len).map fun i => if h : i < len then (key i h).choose else DP.zero
    have hl : l.length = len := by simp [l]
    have hli : ∀ i, (hi : i < len) → l.getD i DP.zero = (key i hi).choose := fun i hi => by
      simp [l, hi]
    have hsz : sizeD (desOf l) ≤ bulkA (elems.map (·.1)) := sizeD_bulk l elems (by omega) (fun i hi => by
      rw [hli i (by omega)]; exact (key i (by omega)).choose_spec.2.2)
    refine ⟨l, some a, cap, by rw [hl], by rw [hl]; exact hlc, fun i hi => ⟨a, rfl, ?_⟩, fun i hi => ?_, ?_, ?_⟩
    · rw [hl] at hi
      unfold rowsD
      rw [hli i hi]
      exact reads_of_cells (key i hi).choose_spec.1 (by decide)
    · rw [hl] at hi
      rw [hli i hi]; exact (key i hi).choose_spec.2.1
    · rw [bulk_slice]; omega
    · have := bulkA_len (elems.map (·.1))
      rw [bulk_slice, hl]
      simp only [List.length_map] at this
      omega
/-- a page and a list of deltas, as they are read -/
theorem open_pl {args : List Value} {ds : List (DataW H)} {ps : List MemPlace} (hA : DataW.TrodAll enc P W 0 (fun _ => true) true [24, 46] args ds ps) (hb : bulkA ds ≤ 1048576) (hs : ∀ v, args[1]? = some v → ∃ a n c, v = .slice a n c) :
    ∃ (p : Pg) (l : List DP) (a aL : Option Addr) (c cL : Nat), RelL Lay.none ⟨no, no, W⟩ [p.sv a c, .ext aL l.length cL 12 (rowsD l)] args ∧ FoldPre p a c l ⟨no, no, W⟩ ∧ p.list.length + sizeD (desOf l) + 1 ≤ lim ∧ l.length ≤ 1048576 ∧ ∃ x y, ds = [x, y] := by
  obtain ⟨v0, vs0, d0, ds0, p0, q0, rfl, rfl, rfl, h0, r0⟩ := trodAll_cons hA
  obtain ⟨v1, vs1, d1, ds1, p1, q1, rfl, rfl, rfl, h1, r1⟩ := trodAll_cons r0
  obtain ⟨rfl, rfl, rfl⟩ := trodAll_nil r1
  obtain ⟨fu0, h0⟩ := h0
  obtain ⟨fu1, h1⟩ := h1
  obtain ⟨p, a, c, rfl, hp1, hp2, bx⟩ := open_pg h0
  obtain ⟨l, aL, cL, hcs, hl1, hl2, hl3, hl4, hl5⟩ := open_dlist h1
  have hv : v1 = .slice aL l.length cL := by
    obtain ⟨a', n', c', rfl⟩ := hs v1 rfl
    simpa [Value.cells] using hcs
  subst hv
  simp only [bulkA_cons, bulkA_nil] at hb
  simp only at bx hl4 hl5
  refine ⟨p, l, a, aL, c, cL, ?_, ⟨⟨hp2, hp1⟩, hl3⟩, le_lim (by omega), by omega, _, _, rfl⟩
  simp only [RelL]
  refine ⟨_, _, rfl, upP hp1 hp2, _, _, rfl, ?_, rfl⟩
  simp only [SV.Rel]
  exact ⟨trivial, hl1, hl2⟩
theorem par_pl (t : TypeId) (h : t ∈ [24, 46]) : P.readableRec t = true ∧ t < P.types.size := by
  have : t = 24 ∨ t = 46 := by simpa using h
  rcases this with rfl | rfl
  · exact ⟨by kernel_rfl, of_decide_eq_true (by kernel_rfl)⟩
  · exact ⟨by kernel_rfl, of_decide_eq_true (by kernel_rfl)⟩
set_option maxRecDepth 100000 in
/-- a law of a page and a list of deltas: true, and all as it was -/
theorem pl_contract {n : Nat} {f : Func} {s : ChangeSpec} {base : Nat} (hpar : f.params = #[24, 46]) (hres : f.resultTypes = #[4]) (hv : s.vars = [])
    (hfn : ∀ x y : DataW H, s.fn H [x, y] = { results := [.lit (.bool true)], args := [x, y] })
    (law : ∀ (p : Pg) (l : List DP) (a aL : Option Addr) (c cL : Nat), p.list.length + sizeD (desOf l) + 1 ≤ lim → l.length ≤ 1048576 → ConP P n [p.sv a c, .ext aL l.length cL 12 (rowsD l)] (FoldPre p a c l) (.bool true))
    {args : Array Value} {ds gs : List (DataW H)} {before : List MemPlace} (hW : DataW.Whole enc P f.params.toList s.vars false W args.toList ds gs before) (hk : Proofs.Ytfigihelkjlcpaa.Rows.uptoSmall H (ds ++ gs) = true)
    (hval : ∀ (j : Nat) t v, f.params[j]? = some t → args[j]? = some v → Value.okWide P W .any base t v) :
    Calls P n args W fun e W' => ∃ v, e = .returned v ∧ s.post enc P f false true false false W args v W' := by
  have hW' := hW
  obtain ⟨p, q, hA, hV, rfl, hfz, hnd⟩ := hW
  have hb := bulk_le hk
  rw [hpar] at hA
  rw [hv] at hV
  obtain ⟨rfl, rfl⟩ := trodVars_none hV
  rw [List.append_nil] at hb
  obtain ⟨p, l, a, aL, c, cL, h1, h2, h3, h4, x, y, rfl⟩ := open_pl hA hb (fun v hv => okWide_slice Proofs.Try.underlying46 (hval 1 46 v (by rw [hpar]; rfl) (by simpa using hv)))
  refine Calls.mono (law p l a aL c cL h3 h4 no no W Lay.none _ h1 (at_no W) h2) fun e W' he => ⟨_, he.1, ?_⟩
  exact law_post hv hW' (fun _ => by rw [List.append_nil]; exact hfn x y) hres (by rw [hpar]; exact par_pl) he.2
end
end Go.W
end
