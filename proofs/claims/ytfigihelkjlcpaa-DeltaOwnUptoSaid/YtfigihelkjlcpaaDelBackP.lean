/- Lemmas for the proof of a law of the seat Ytfigihelkjlcpaa: an own evaluator of the model's programs, contracts of functions. -/
import Derived.Test.YtfigihelkjlcpaaDelMore
section
open Go Go.Eng
namespace Go.W
theorem mid_at (l1 l2 : List En) (x : En) {i : Nat} (h : l1.length = i) : (l1 ++ x :: l2).getD i En.zero = x := by subst h; simp [List.getD_eq_getElem?_getD]
theorem mid_lt (l1 l2 : List En) {j : Nat} (h : j < l1.length) : (l1 ++ l2).getD j En.zero = l1.getD j En.zero := by
  simp [List.getD_eq_getElem?_getD, List.getElem?_append_left h]
theorem mid_ge (l1 l2 : List En) {j : Nat} (h : l1.length ≤ j) : (l1 ++ l2).getD j En.zero = l2.getD (j - l1.length) En.zero := by
  simp [List.getD_eq_getElem?_getD, List.getElem?_append_right h]
theorem take_at (l : List En) {i j : Nat} (h : j < i) : (l.take i).getD j En.zero = l.getD j En.zero := by
  rw [List.getD_eq_getElem?_getD, List.getD_eq_getElem?_getD, List.getElem?_take_of_lt h]
theorem drop_at (l : List En) (i j : Nat) : (l.drop i).getD j En.zero = l.getD (i + j) En.zero := by
  rw [List.getD_eq_getElem?_getD, List.getD_eq_getElem?_getD, List.getElem?_drop]
theorem mid_take (l1 l2 : List En) {i : Nat} (h : l1.length = i) : (l1 ++ l2).take i = l1 := by subst h; simp
theorem mid_drop (l1 l2 : List En) (x : En) {i : Nat} (h : l1.length = i) : (l1 ++ x :: l2).drop (i + 1) = l2 := by
  subst h
  rw [List.drop_append]
  simp
theorem mid_drop0 (l1 l2 : List En) {i : Nat} (h : l1.length = i) : (l1 ++ l2).drop i = l2 := by subst h; simp
theorem whole_at (l : List En) {i : Nat} (h : i < l.length) : l.take i ++ l.getD i En.zero :: l.drop (i + 1) = l := by
  have : l.getD i En.zero = l[i] := by simp [h]
  rw [this]
  simp
theorem take_len (l : List En) {i : Nat} (h : i ≤ l.length) : (l.take i).length = i := by simp; omega
theorem put_self (p : Pg) : p.put p.list = p := by cases p; rfl
theorem check_put (e : En) : De.check ⟨1, e, s0, 0, Pg.zero⟩ = 0 := by
  refine De.check_no ?_
  have hb : De.bare ⟨1, e, s0, 0, Pg.zero⟩ = ⟨1, e, s0, 0, Pg.zero⟩ := rfl
  rw [hb, De.eq_refl]; rfl
theorem check_rem (k : Str) : De.check ⟨2, En.zero, k, 0, Pg.zero⟩ = 0 := by
  refine De.check_no ?_
  have hb : De.bare ⟨2, En.zero, k, 0, Pg.zero⟩ = ⟨2, En.zero, k, 0, Pg.zero⟩ := rfl
  rw [hb, De.eq_refl]; rfl
theorem apply_put {q : Pg} {e : En} : q.apply ⟨1, e, s0, 0, Pg.zero⟩ = Pg.puts q e := by
  unfold Pg.apply
  rw [check_put]; rfl
theorem apply_rem {q : Pg} {k : Str} : q.apply ⟨2, En.zero, k, 0, Pg.zero⟩ = Pg.rems q k := by
  unfold Pg.apply
  rw [check_rem]; rfl
theorem apply_ok1 {p : Pg} {d : De} (hk : (d.kind == 1) = true) (h : (p.apply d).2 = 0) : p.apply d = Pg.puts p d.entry := by
  unfold Pg.apply at h ⊢
  cases hc : d.check == 0 with
  | true => rw [hk]; rfl
  | false =>
    rw [hc] at h
    have h : d.check = 0 := h
    rw [h] at hc; cases hc
theorem apply_ok2 {p : Pg} {d : De} (hk1 : (d.kind == 1) = false) (hk : (d.kind == 2) = true) (h : (p.apply d).2 = 0) : p.apply d = Pg.rems p d.key := by
  unfold Pg.apply at h ⊢
  cases hc : d.check == 0 with
  | true => rw [hk, hk1]; rfl
  | false =>
    rw [hc] at h
    have h : d.check = 0 := h
    rw [h] at hc; cases hc
/-- keys of a page that checks clean go up -/
theorem checkV_bad {p : Pg} (h : checkV p = 0) : Pg.bad p = false := by
  unfold checkV at h
  cases hb : Pg.bad p with
  | false => rfl
  | true => rw [hb] at h; cases h
theorem badN_at (p : Pg) : ∀ {n i : Nat}, badN p n = false → i < n → badAt p i = false
  | 0, _, _, h => by omega
  | n + 1, i, h, hi => by
    have h : (badN p n || badAt p n) = false := h
    rw [Bool.or_eq_false_iff] at h
    rcases Nat.lt_or_ge i n with hin | hin
    · exact badN_at p h.1 hin
    · have : i = n := by omega
      subst this; exact h.2
theorem next_up {p : Pg} (h : checkV p = 0) {i : Nat} (hi : i + 1 < p.list.length) : sLt (p.list.getD i En.zero).key (p.list.getD (i + 1) En.zero).key = true := by
  have h1 := badN_at p (checkV_bad h) hi
  unfold badAt at h1
  rw [Bool.or_eq_false_iff] at h1
  have h2 := h1.1
  unfold orderBad at h2
  have : decide (((i + 1 : Nat) : Int) > 0) = true := by simp
  rw [this, Bool.true_and, Bool.or_eq_false_iff] at h2
  exact sLt_total h2.1 h2.2
theorem all_up {p : Pg} (h : checkV p = 0) {i : Nat} : ∀ {j : Nat}, i < j → j < p.list.length → sLt (p.list.getD i En.zero).key (p.list.getD j En.zero).key = true
  | 0, h1, _ => by omega
  | j + 1, h1, h2 => by
    rcases Nat.lt_or_ge i j with hij | hij
    · exact sLt_trans (all_up h hij (by omega)) (next_up h h2)
    · have : i = j := by omega
      subst this; exact next_up h h2
theorem has_of {p : Pg} (h : checkV p = 0) {i : Nat} (hi : i < p.list.length) : Pg.has p (p.list.getD i En.zero).key = true := by
  have h1 := badN_at p (checkV_bad h) hi
  unfold badAt at h1
  rw [Bool.or_eq_false_iff, Bool.or_eq_false_iff] at h1
  simpa [keyAt] using h1.2.1
theorem puts_ok {p : Pg} {e : En} (h : (Pg.puts p e).2 = 0) : Pg.has p e.key = true := by
  unfold Pg.puts at h
  cases hh : Pg.has p e.key with
  | true => rfl
  | false => rw [hh] at h; cases h
theorem rems_ok {p : Pg} {k : Str} (h : (Pg.rems p k).2 = 0) : Pg.has p k = true := by
  unfold Pg.rems at h
  cases hh : Pg.has p k with
  | true => rfl
  | false => rw [hh] at h; cases h
theorem putL_yes {l : List En} {e : En} {i : Nat} (hx : fIx (fun x => sEq x.key e.key) l = i) (hi : i < l.length) : putL l e = l.take i ++ (e :: l.drop (i + 1)) := by
  unfold putL; rw [hx, blt_yes hi]; rfl
theorem putL_new {l : List En} {e : En} {k : Nat} (hx : fIx (fun x => sEq x.key e.key) l = l.length) (hk : fIx (fun x => gtB x e) l = k) : putL l e = l.take k ++ (e :: l.drop k) := by
  unfold putL; rw [hx, blt_no (Nat.lt_irrefl _), hk]; rfl
theorem puts_has {p : Pg} {e : En} (h : Pg.has p e.key = true) : Pg.puts p e = (p.put (putL p.list e), 0) := by
  unfold Pg.puts; rw [h]; rfl
theorem rems_yes {p : Pg} {k : Str} {i : Nat} (hh : Pg.has p k = true) (hx : fIx (fun x => sEq x.key k) p.list = i) (hi : i < p.list.length) : Pg.rems p k = (p.put (p.list.take i ++ p.list.drop (i + 1)), 0) := by
  unfold Pg.rems Pg.removes; rw [hh, hx, blt_yes hi]; rfl
theorem rems_no {p : Pg} {k : Str} (hh : Pg.has p k = true) (hx : fIx (fun x => sEq x.key k) p.list = p.list.length) : Pg.rems p k = (p, 0) := by
  unfold Pg.rems; rw [hh, hx, blt_no (Nat.lt_irrefl _)]; rfl
/-- a put over an entry is taken back by a put of that entry -/
theorem back_put {p : Pg} {e : En} {i : Nat} (hh : Pg.has p e.key = true) (hx : fIx (fun x => sEq x.key e.key) p.list = i) (hi : i < p.list.length) : Pg.puts (Pg.puts p e).1 (p.list.getD i En.zero) = (p, 0) := by
  have hy : sEq (p.list.getD i En.zero).key e.key = true := by
    have := fIx_yes (fun x => sEq x.key e.key) p.list (by rw [hx]; exact hi)
    rw [hx] at this; exact this
  have hno := fIx_no (fun x => sEq x.key e.key) p.list
  rw [hx] at hno
  rw [puts_has hh, putL_yes hx hi]
  have ht := take_len p.list (Nat.le_of_lt hi)
  have hh2 : Pg.has (p.put (p.list.take i ++ e :: p.list.drop (i + 1))) (p.list.getD i En.zero).key = true := by
    rw [has_congr hy]; exact hh
  rw [puts_has hh2]
  have hx2 : fIx (fun x => sEq x.key (p.list.getD i En.zero).key) (p.list.take i ++ e :: p.list.drop (i + 1)) = i := by
    refine fIx_is _ _ i (by simp; omega) (fun j hj => ?_) (fun _ => ?_)
    · rw [mid_lt _ _ (by rw [ht]; exact hj), take_at _ hj]
      have := hno j hj
      show sEq (p.list.getD j En.zero).key (p.list.getD i En.zero).key = false
      rw [sEq_comm, sEq_congrL hy, sEq_comm]; exact this
    · rw [mid_at _ _ _ ht]
      show sEq e.key (p.list.getD i En.zero).key = true
      rw [sEq_comm]; exact hy
  show (p.put (putL (p.list.take i ++ e :: p.list.drop (i + 1)) (p.list.getD i En.zero)), 0) = _
  rw [putL_yes hx2 (by simp; omega), mid_take _ _ ht, mid_drop _ _ _ ht, whole_at _ hi, put_self]
/-- a put of a new entry is taken back by a removal -/
theorem back_new {p : Pg} {e : En} (hh : Pg.has p e.key = true) (hx : fIx (fun x => sEq x.key e.key) p.list = p.list.length) : Pg.rems (Pg.puts p e).1 e.key = (p, 0) := by
  obtain ⟨k, hk⟩ : ∃ k, fIx (fun x => gtB x e) p.list = k := ⟨_, rfl⟩
  have hkl : k ≤ p.list.length := by rw [← hk]; exact fIx_le _ _
  have hno := fIx_no (fun x => sEq x.key e.key) p.list
  rw [hx] at hno
  have ht := take_len p.list hkl
  rw [puts_has hh, putL_new hx hk]
  have hx2 : fIx (fun x => sEq x.key e.key) (p.list.take k ++ e :: p.list.drop k) = k := by
    refine fIx_is _ _ k (by simp; omega) (fun j hj => ?_) (fun _ => ?_)
    · rw [mid_lt _ _ (by rw [ht]; exact hj), take_at _ hj]
      exact hno j (by omega)
    · rw [mid_at _ _ _ ht]
      exact sEq_refl _
  have hh2 : Pg.has (p.put (p.list.take k ++ e :: p.list.drop k)) e.key = true := hh
  show Pg.rems (p.put (p.list.take k ++ e :: p.list.drop k)) e.key = _
  rw [rems_yes hh2 hx2 (by show k < (p.list.take k ++ e :: p.list.drop k).length; simp; omega)]
  show (p.put ((p.list.take k ++ e :: p.list.drop k).take k ++ (p.list.take k ++ e :: p.list.drop k).drop (k + 1)), (0 : Int)) = _
  rw [mid_take _ _ ht, mid_drop _ _ _ ht, List.take_append_drop, put_self]
/-- a removal is taken back by a put -/
theorem back_rem {p : Pg} {key : Str} {i : Nat} (hc : checkV p = 0) (hh : Pg.has p key = true) (hx : fIx (fun x => sEq x.key key) p.list = i) (hi : i < p.list.length) : Pg.puts (Pg.rems p key).1 (p.list.getD i En.zero) = (p, 0) := by
  have hy : sEq (p.list.getD i En.zero).key key = true := by
    have := fIx_yes (fun x => sEq x.key key) p.list (by rw [hx]; exact hi)
    rw [hx] at this; exact this
  have ht := take_len p.list (Nat.le_of_lt hi)
  rw [rems_yes hh hx hi]
  have hh2 : Pg.has (p.put (p.list.take i ++ p.list.drop (i + 1))) (p.list.getD i En.zero).key = true := by
    rw [has_congr hy]; exact hh
  have hlt : ∀ j, j < i → (p.list.take i ++ p.list.drop (i + 1)).getD j En.zero = p.list.getD j En.zero := fun j hj => by
    rw [mid_lt _ _ (by rw [ht]; exact hj), take_at _ hj]
  have hge : ∀ j, i ≤ j → (p.list.take i ++ p.list.drop (i + 1)).getD j En.zero = p.list.getD (j + 1) En.zero := fun j hj => by
    rw [mid_ge _ _ (by rw [ht]; exact hj), drop_at, ht]
    congr 1; omega
  have hlen : (p.list.take i ++ p.list.drop (i + 1)).length = p.list.length - 1 := by simp; omega
  rw [puts_has hh2]
  have hx2 : fIx (fun x => sEq x.key (p.list.getD i En.zero).key) (p.list.take i ++ p.list.drop (i + 1)) = (p.list.take i ++ p.list.drop (i + 1)).length := by
    refine fIx_is _ _ _ (Nat.le_refl _) (fun j hj => ?_) (fun h => by omega)
    rw [hlen] at hj
    rcases Nat.lt_or_ge j i with h | h
    · rw [hlt j h]; exact sLt_ne (all_up hc h hi)
    · rw [hge j h, sEq_comm]; exact sLt_ne (all_up hc (by omega) (by omega))
  have hx3 : fIx (fun x => gtB x (p.list.getD i En.zero)) (p.list.take i ++ p.list.drop (i + 1)) = i := by
    refine fIx_is _ _ _ (by rw [hlen]; omega) (fun j hj => ?_) (fun h => ?_)
    · rw [hlt j hj]
      unfold gtB
      rw [all_up hc hj hi]; rfl
    · rw [hge i (Nat.le_refl _)]
      have := all_up hc (i := i) (j := i + 1) (by omega) (by omega)
      unfold gtB
      rw [sLt_asymm this, sEq_comm, sLt_ne this]; rfl
  show (p.put (putL (p.list.take i ++ p.list.drop (i + 1)) (p.list.getD i En.zero)), 0) = _
  rw [putL_new hx2 hx3, mid_take _ _ ht, mid_drop0 _ _ ht, whole_at _ hi, put_self]
theorem back_law (p : Pg) (d : De) (hc : checkV p = 0) (hu : (undoP p d).2 = true) : p.fold [(undoP p d).1, d] = (p, 0) := by
  have hb : undoBad p d = false := by
    cases hb : undoBad p d with
    | false => rfl
    | true => rw [undo_bad hb] at hu; cases hu
  have h0 : (p.apply d).2 = 0 ∧ (!(d.kind == 1) && !(d.kind == 2)) = false := by
    unfold undoBad at hb
    rw [Bool.or_eq_false_iff] at hb
    exact ⟨by simpa using hb.1, hb.2⟩
  have hf : p.fold [(undoP p d).1, d] = (p.apply d).1.apply (undoP p d).1 := fold_cons p _ [d] h0.1
  rw [hf]
  cases hk : d.kind == 1 with
  | true =>
    have hkey : undoKey d = d.entry.key := by unfold undoKey; rw [hk]; rfl
    have ha := apply_ok1 hk h0.1
    have hh := puts_ok (ha ▸ h0.1)
    rw [ha]
    by_cases hx : fIx (fun x => sEq x.key (undoKey d)) p.list < p.list.length
    · rw [undo_yes hb rfl hx]
      rw [hkey] at hx ⊢
      rw [apply_put]
      exact back_put hh rfl hx
    · have hx' : fIx (fun x => sEq x.key (undoKey d)) p.list = p.list.length := by have := fIx_le (fun x => sEq x.key (undoKey d)) p.list; omega
      rw [undo_no hb hx', apply_rem, hkey]
      rw [hkey] at hx'
      exact back_new hh hx'
  | false =>
    have hk2 : (d.kind == 2) = true := by have := h0.2; rw [hk] at this; simpa using this
    have hkey : undoKey d = d.key := by unfold undoKey; rw [hk]; rfl
    have ha := apply_ok2 hk hk2 h0.1
    have hh := rems_ok (ha ▸ h0.1)
    rw [ha]
    by_cases hx : fIx (fun x => sEq x.key (undoKey d)) p.list < p.list.length
    · rw [undo_yes hb rfl hx]
      rw [hkey] at hx ⊢
      rw [apply_put]
      exact back_rem hc hh rfl hx
    · have hx' : fIx (fun x => sEq x.key (undoKey d)) p.list = p.list.length := by have := fIx_le (fun x => sEq x.key (undoKey d)) p.list; omega
      rw [undo_no hb hx', apply_rem, hkey]
      rw [hkey] at hx'
      rw [rems_no hh hx']
      exact rems_no hh hx'
end Go.W
end

section
open Go Go.Eng
namespace Go.W
theorem undo_cells (p : Pg) (d : De) : DP.cells ⟨(undoP p d).1, none, 0⟩ = [.int .i64 (undoP p d).1.kind, .string (undoP p d).1.entry.key, .int .i64 (undoP p d).1.entry.slot, .int .i64 (undoP p d).1.entry.gen, .int .i64 (undoP p d).1.entry.child, .string (undoP p d).1.key, .int .i64 (undoP p d).1.page, .bool (undoP p d).1.right.leaf, .string (undoP p d).1.right.low, .string (undoP p d).1.right.high, .int .i64 (undoP p d).1.right.right, .slice none 0 0] := by
  simp only [DP.cells, DP.sl, undo_right, List.length_nil]
theorem undo_ok (p : Pg) (d : De) (A : Anc) : DP.ok ⟨(undoP p d).1, none, 0⟩ A := by
  unfold DP.ok
  simp only [undo_right, List.length_nil]
  exact ⟨fun i hi => absurd hi (Nat.not_lt_zero i), Nat.le_refl _⟩
theorem okD_two {x y : DP} {A : Anc} (hx : x.ok A) (hy : y.ok A) : okD [x, y] A := fun i hi => by
  match i, hi with
  | 0, _ => exact hx
  | 1, _ => exact hy
theorem back_con (p : Pg) (d : De) (a b : Option Addr) (c e : Nat) (hl : p.list.length + d.right.list.length + 2 ≤ lim) :
    ConP P 7 [p.sv a c, d.sv b e] (Two p d a b c e) (.bool true) := by
  refine con_ofP (args := [p.sv a c, d.sv b e]) (Pre := Two p d a b c e) ctx_ok Proofs.Try.func7 rfl (R := ValR (.bool true)) rfl rfl fun A hat hpre => vcStep_sound ctx_ok tb_all _ _ _ _ _ ?_
  conv => whnf
  repeat (refine go_ ?_; conv => whnf)
  refine ⟨rfl, conP_vc (undo_con p d a b c e (by omega)) (fun A' hl' => hpre.later hl') ?_⟩
  conv => whnf
  refine goH [bxP p a c, bxD d (exD d b e), bxD (undoP p d).1 (.v (.slice none 0 0))] rfl ?_
  conv => whnf
  refine ⟨rfl, gcon_vc (rcheck_con p a c (by omega)) ?_⟩
  conv => whnf
  refine ⟨rfl, gcon_vc live_con ?_⟩
  conv => whnf
  repeat (refine go_ ?_; conv => whnf)
  refine ⟨fun h1 => ?_, fun h1 => ?_⟩
  · repeat (refine go_ ?_; conv => whnf)
    refine ⟨rfl, con_vc live_con ?_⟩
    conv => whnf
    repeat (refine go_ ?_; conv => whnf)
    exact ret_con rfl rfl
  have h1 : (bif bif !(undoP p d).2 then true else !(checkV p == 0) then true else !true) = false := h1
  have hu : (undoP p d).2 = true := by
    cases h : (undoP p d).2 with
    | true => rfl
    | false => rw [h] at h1; cases h1
  have hc : checkV p = 0 := by
    rw [hu] at h1
    cases h : checkV p == 0 with
    | true => simpa using h
    | false => rw [h] at h1; cases h1
  refine goH [bxP p a c, bxD d (exD d b e), bxD (undoP p d).1 (.v (.slice none 0 0))] rfl ?_
  conv => whnf
  repeat (refine go_ ?_; conv => whnf)
  refine ⟨fun A1 q hA1 hq => ?_⟩
  have hf := fold_tab p [⟨(undoP p d).1, none, 0⟩, ⟨d, b, e⟩] a (some q) c 2 (by simp only [desOf, List.map_cons, List.map_nil, sizeD, undo_right, List.length_nil]; omega) (by simp [lim])
  have hfe : p.fold (desOf [⟨(undoP p d).1, none, 0⟩, ⟨d, b, e⟩]) = (p, 0) := back_law p d hc hu
  have hmk : foldMk p [⟨(undoP p d).1, none, 0⟩, ⟨d, b, e⟩] = fun y => .tuple #[p.val y, .int .i64 0] := by
    funext y
    show Value.tuple #[(p.fold (desOf [⟨(undoP p d).1, none, 0⟩, ⟨d, b, e⟩])).1.val y, .int .i64 (p.fold (desOf [⟨(undoP p d).1, none, 0⟩, ⟨d, b, e⟩])).2] = _
    rw [hfe]
  rw [hmk] at hf
  simp only [hfe, List.map_cons, List.map_nil, undo_cells, List.length_cons, List.length_nil] at hf
  conv => whnf
  refine ⟨rfl, conR_ext hf (p.shapeT 0) (fun A' hl' => ⟨⟨(hpre.1.1.later hA1).later hl', hpre.1.2⟩, okD_two (undo_ok p d A') ⟨(hpre.2.1.later hA1).later hl', hpre.2.2⟩⟩) (fun A2 a2 c2 hA2 hs2 => ?_)⟩
  conv => whnf
  refine goH [bxP p a c, bxD d (exD d b e), bxD (undoP p d).1 (.v (.slice none 0 0)), bxP p a2 c2] rfl ?_
  conv => whnf
  refine ⟨rfl, gcon_vc (rsame_con p p a2 a c2 c (by omega)) ?_⟩
  rw [Pg.eq_refl]
  conv => whnf
  repeat (refine go_ ?_; conv => whnf)
  refine ret_con rfl ?_
  simp
  try rfl
end Go.W
end

section
open Go Go.Eng
namespace Go.W
open Go.ChangeShapes Go.WideShapes Go.ChangeAt Go.RowKit
section
variable {H : Type} {enc : TypeId × Value → H} {W : World}
/-- a page and a delta, as they are read -/
theorem open_pd2 {args : List Value} {ds : List (DataW H)} {ps : List MemPlace} (hA : DataW.TrodAll enc P W 0 (fun _ => true) true [24, 32] args ds ps) (hb : bulkA ds ≤ 1048576) :
    ∃ (p : Pg) (d : De) (a b : Option Addr) (c e : Nat), RelL Lay.none ⟨no, no, W⟩ [p.sv a c, d.sv b e] args ∧ Two p d a b c e ⟨no, no, W⟩ ∧ p.list.length + d.right.list.length + 2 ≤ lim ∧ ∃ x y, ds = [x, y] := by
  obtain ⟨v0, vs0, d0, ds0, p0, q0, rfl, rfl, rfl, h0, r0⟩ := trodAll_cons hA
  obtain ⟨v1, vs1, d1, ds1, p1, q1, rfl, rfl, rfl, h1, r1⟩ := trodAll_cons r0
  obtain ⟨rfl, rfl, rfl⟩ := trodAll_nil r1
  obtain ⟨fu0, h0⟩ := h0
  obtain ⟨fu1, h1⟩ := h1
  obtain ⟨p, a, c, rfl, hp1, hp2, bx⟩ := open_pg h0
  obtain ⟨y, rfl, hy, by_⟩ := open_de h1
  simp only [bulkA_cons, bulkA_nil] at hb
  simp only at bx by_
  refine ⟨p, y.d, a, y.a, c, y.c, ?_, ⟨⟨hp2, hp1⟩, hy⟩, le_lim (by omega), _, _, rfl⟩
  simp only [RelL]
  refine ⟨_, _, rfl, upP hp1 hp2, _, _, rfl, upD hy ?_, rfl⟩
  exact (y.d.shape.to Lay.none ⟨no, no, W⟩ (.v y.sl) y.sl rfl)
/-- a law of a page and a delta: true, and all as it was -/
theorem pd_contract2 {n : Nat} {f : Func} {s : ChangeSpec} (hpar : f.params.toList = [24, 32]) (hres : f.resultTypes = #[4]) (hv : s.vars = [])
    (hfn : ∀ x y : DataW H, s.fn H [x, y] = { results := [.lit (.bool true)], args := [x, y] })
    (law : ∀ (p : Pg) (d : De) (a b : Option Addr) (c e : Nat), p.list.length + d.right.list.length + 2 ≤ lim → ConP P n [p.sv a c, d.sv b e] (Two p d a b c e) (.bool true))
    {args : Array Value} {ds gs : List (DataW H)} {before : List MemPlace} (hW : DataW.Whole enc P f.params.toList s.vars false W args.toList ds gs before) (hk : Proofs.Ytfigihelkjlcpaa.Rows.uptoSmall H (ds ++ gs) = true) :
    Calls P n args W fun e W' => ∃ v, e = .returned v ∧ s.post enc P f false true false false W args v W' := by
  have hW' := hW
  obtain ⟨p, q, hA, hV, rfl, hfz, hnd⟩ := hW
  have hb := bulk_le hk
  rw [hpar] at hA
  rw [hv] at hV
  obtain ⟨rfl, rfl⟩ := trodVars_none hV
  rw [List.append_nil] at hb
  obtain ⟨p, d, a, b, c, e, h1, h2, h3, x, y, rfl⟩ := open_pd2 hA hb
  refine Calls.mono (law p d a b c e h3 no no W Lay.none _ h1 (at_no W) h2) fun e W' he => ⟨_, he.1, ?_⟩
  exact law_post hv hW' (fun _ => by rw [List.append_nil]; exact hfn x y) hres (by rw [hpar]; exact par_pd) he.2
end
end Go.W
end
