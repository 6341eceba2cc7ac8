/- Lemmas for the proof of a law of the seat Ytfigihelkjlcpaa: an own evaluator of the model's programs, contracts of functions. -/
import Derived.Test.YtfigihelkjlcpaaDelP3
import Derived.ChangeArms
import Derived.Test.YtfigihelkjlcpaaRows
import Derived.WalkKit
import Derived.ProofKit
import Derived.OpenShut
import Derived.JoinedCond
import Derived.Carry
section
open Go Go.Eng
namespace Go.W
open Go.Proofs.Ytfigihelkjlcpaa (Rows.uptoBulk Rows.uptoBulkAll)
abbrev no : Nat → Prop := fun _ => False
abbrev bulk {H : Type} (d : DataW H) : Nat := Go.Proofs.Ytfigihelkjlcpaa.Rows.uptoBulk d
abbrev bulkA {H : Type} (d : List (DataW H)) : Nat := Go.Proofs.Ytfigihelkjlcpaa.Rows.uptoBulkAll d
theorem bulkA_nil {H : Type} : bulkA (H := H) [] = 0 := by simp [bulkA, Proofs.Ytfigihelkjlcpaa.Rows.uptoBulkAll]
theorem bulkA_cons {H : Type} (d : DataW H) (r : List (DataW H)) : bulkA (d :: r) = bulk d + bulkA r := by simp [bulkA, bulk, Proofs.Ytfigihelkjlcpaa.Rows.uptoBulkAll]
theorem bulk_agg {H : Type} (l : List (DataW H)) : bulk (DataW.agg l) = bulkA l + 1 := by simp [bulkA, bulk, Proofs.Ytfigihelkjlcpaa.Rows.uptoBulk]
theorem bulk_slice {H : Type} (l r : List (DataW H)) : bulk (DataW.slice l r) = bulkA l + bulkA r + 1 := by simp [bulkA, bulk, Proofs.Ytfigihelkjlcpaa.Rows.uptoBulk]
theorem bulk_pos {H : Type} (d : DataW H) : 1 ≤ bulk d := by
  cases d with
  | lit l => cases l <;> simp [bulk, Proofs.Ytfigihelkjlcpaa.Rows.uptoBulk]
  | nil => simp [bulk, Proofs.Ytfigihelkjlcpaa.Rows.uptoBulk]
  | ptr d => simp [bulk, Proofs.Ytfigihelkjlcpaa.Rows.uptoBulk]
  | slice elems spare => simp [bulk, Proofs.Ytfigihelkjlcpaa.Rows.uptoBulk]
  | agg parts => simp [bulk, Proofs.Ytfigihelkjlcpaa.Rows.uptoBulk]
  | iface t d => simp [bulk, Proofs.Ytfigihelkjlcpaa.Rows.uptoBulk]
  | map entries => simp [bulk, Proofs.Ytfigihelkjlcpaa.Rows.uptoBulk]
  | held h => simp [bulk, Proofs.Ytfigihelkjlcpaa.Rows.uptoBulk]
theorem bulkA_len {H : Type} : ∀ l : List (DataW H), l.length ≤ bulkA l
  | [] => by simp
  | x :: r => by have := bulk_pos x; have := bulkA_len r; rw [bulkA_cons]; simp; omega
section
variable {H : Type} {enc : TypeId × Value → H} {W : World} {sp : Nat → Bool} {fuel : Nat} {x : DataW H × List MemPlace}
theorem len2 {α : Type} {l : List α} (h : l.length = 2) : ∃ x0 x1 : α, l = [x0, x1] := by
  match l, h with
  | [x0, x1], _ => exact ⟨_, _, rfl⟩
theorem len3 {α : Type} {l : List α} (h : l.length = 3) : ∃ x0 x1 x2 : α, l = [x0, x1, x2] := by
  match l, h with
  | [x0, x1, x2], _ => exact ⟨_, _, _, rfl⟩
theorem len4 {α : Type} {l : List α} (h : l.length = 4) : ∃ x0 x1 x2 x3 : α, l = [x0, x1, x2, x3] := by
  match l, h with
  | [x0, x1, x2, x3], _ => exact ⟨_, _, _, _, rfl⟩
theorem len5 {α : Type} {l : List α} (h : l.length = 5) : ∃ x0 x1 x2 x3 x4 : α, l = [x0, x1, x2, x3, x4] := by
  match l, h with
  | [x0, x1, x2, x3, x4], _ => exact ⟨_, _, _, _, _, rfl⟩
theorem len12 {α : Type} {l : List α} (h : l.length = 12) : ∃ x0 x1 x2 x3 x4 x5 x6 x7 x8 x9 x10 x11 : α, l = [x0, x1, x2, x3, x4, x5, x6, x7, x8, x9, x10, x11] := by
  match l, h with
  | [x0, x1, x2, x3, x4, x5, x6, x7, x8, x9, x10, x11], _ => exact ⟨_, _, _, _, _, _, _, _, _, _, _, _, rfl⟩
theorem cells_at {a : Addr} {n : Nat} {cs : List Value} (h : W.cells? 0 a n = some cs) : cs.length = n ∧ ∀ j v, cs[j]? = some v → W.cell? (a.add j) = some v := by
  unfold World.cells? at h
  rw [if_pos (Nat.zero_le _)] at h
  have hl : cs.length = n := by simpa using mapM_some_length h
  refine ⟨hl, fun j v hv => ?_⟩
  have hj : j < n := by rw [← hl]; exact (List.getElem?_eq_some_iff.1 hv).1
  rw [mapM_some_get h j j (by simp [hj])]
  exact hv
theorem reads_of_cells {a : Addr} {cs : List Value} {n : Nat} (h : W.cells? 0 a n = some cs) (hn : 0 < n) : ReadsAt ⟨no, no, W⟩ a cs := by
  obtain ⟨hl, hc⟩ := cells_at h
  have h0 : 0 < cs.length := by omega
  have hc0 := hc 0 cs[0] (by simp [h0])
  have hsp : a.spot = none ∧ a.block < W.heap.size := by
    unfold World.cell? at hc0
    split at hc0
    · rename_i c _ _ hb
      have hs : ¬ (a.add 0).spot.isSome = true := fun hh => by rw [if_pos hh] at hc0; cases hc0
      refine ⟨?_, ?_⟩
      · cases hsp : a.spot with
        | none => rfl
        | some s => exact absurd (by simp [Addr.add, hsp]) hs
      · have := (Array.getElem?_eq_some_iff.1 hb).1
        simpa [Addr.add] using this
    · cases hc0
  refine ⟨hsp.1, fun hh => hh, hsp.2, fun j v hv => ?_⟩
  have := hc j v hv
  obtain ⟨b, o, s⟩ := a
  obtain ⟨rfl, _⟩ := hsp
  rw [add_plain] at this; exact this
theorem open_en {cs : List Value} (h : DataW.trod enc P W 0 sp true fuel 30 cs = some x) : ∃ e : En, cs = e.cells := by
  obtain ⟨xs, n, _, rfl, hl0, hlen0, hf⟩ := DataW.trod_struct Proofs.Try.underlying30 h
  have hlen : xs.length = 3 := hlen0
  clear hlen0 h
  have hl : cs.length = 4 := hl0.trans (by kernel_rfl)
  clear hl0
  obtain ⟨c0, c1, c2, c3, rfl⟩ := len4 hl
  obtain ⟨y0, y1, y2, rfl⟩ := len3 hlen
  have h0 : DataW.trod enc P W 0 sp true n 9 (List.take (P.cellsOf 9) (List.drop 0 [c0, c1, c2, c3])) = some y0 := hf 0 _ rfl
  have h1 : DataW.trod enc P W 0 sp true n 28 (List.take (P.cellsOf 28) (List.drop 1 [c0, c1, c2, c3])) = some y1 := hf 1 _ rfl
  have h2 : DataW.trod enc P W 0 sp true n 3 (List.take (P.cellsOf 3) (List.drop 3 [c0, c1, c2, c3])) = some y2 := hf 2 _ rfl
  have e9 : P.cellsOf 9 = 1 := by kernel_rfl
  have e28 : P.cellsOf 28 = 2 := by kernel_rfl
  have e3 : P.cellsOf 3 = 1 := by kernel_rfl
  have e2 : P.cellsOf 2 = 1 := by kernel_rfl
  rw [e9] at h0; rw [e28] at h1; rw [e3] at h2
  obtain ⟨s, hs, _⟩ := DataW.trod_string Proofs.Try.underlying9 (x := y0) h0
  obtain ⟨k, hk, _⟩ := DataW.trod_int Proofs.Try.underlying3 (x := y2) h2
  obtain ⟨zs, n2, _, _, hl2, hlen3, hf2⟩ := DataW.trod_struct Proofs.Try.underlying28 (x := y1) h1
  have hlen2 : zs.length = 2 := hlen3
  clear hlen3 h1
  clear hl2
  obtain ⟨z0, z1, rfl⟩ := len2 hlen2
  have g0 : DataW.trod enc P W 0 sp true n2 3 (List.take (P.cellsOf 3) (List.drop 0 [c1, c2])) = some z0 := hf2 0 _ rfl
  have g1 : DataW.trod enc P W 0 sp true n2 2 (List.take (P.cellsOf 2) (List.drop 1 [c1, c2])) = some z1 := hf2 1 _ rfl
  rw [e3] at g0; rw [e2] at g1
  obtain ⟨i, hi, _⟩ := DataW.trod_int Proofs.Try.underlying3 (x := z0) g0
  obtain ⟨j, hj, _⟩ := DataW.trod_int Proofs.Try.underlying2 (x := z1) g1
  simp at hs hk hi hj
  exact ⟨⟨s, i, j, k⟩, by rw [hs, hk, hi, hj]; rfl⟩
theorem open_list {cs : List Value} (h : DataW.trod enc P W 0 sp true fuel 22 cs = some x) : ∃ (l : List En) (a : Option Addr) (c : Nat), cs = [.slice a l.length c] ∧ l.length ≤ c ∧ SliceAt ⟨no, no, W⟩ a l.length 4 (entE l) ∧ l.length + 1 ≤ bulk x.1 := by
  rcases DataW.trod_slice Proofs.Try.underlying22 h with ⟨rfl, rfl⟩ | ⟨a, len, cap, elems, rest, n, _, rfl, rfl, _, hlc, _, hel, hat, _, _⟩
  · exact ⟨[], none, 0, rfl, Nat.le_refl _, fun i hi => absurd hi (Nat.not_lt_zero i), bulk_pos _⟩
  · have e30 : P.cellsOf 30 = 4 := by kernel_rfl
    rw [e30] at hat
    have key : ∀ i, i < len → ∃ e : En, W.cells? 0 (a.add (i * 4)) 4 = some e.cells := fun i hi => by
      have h1 := hat i hi
      rw [List.getElem?_eq_getElem (by omega)] at h1
      obtain ⟨cs, q1, q2⟩ := Option.bind_eq_some_iff.1 h1
      obtain ⟨e, rfl⟩ := open_en q2
      exact ⟨e, q1⟩
    let l : List En := (List.range len).map fun i => if h : i < len then (key i h).choose else En.zero
    have hl : l.length = len := by simp [l]
    have hli : ∀ i, (hi : i < len) → l.getD i En.zero = (key i hi).choose := fun i hi => by
      simp [l, hi]
    refine ⟨l, some a, cap, by rw [hl], by rw [hl]; exact hlc, fun i hi => ⟨a, rfl, ?_⟩, ?_⟩
    · rw [hl] at hi
      unfold entE
      rw [hli i hi]
      exact reads_of_cells (key i hi).choose_spec (by decide)
    · have := bulkA_len (elems.map (·.1))
      rw [bulk_slice, hl]
      simp only [List.length_map] at this
      omega
theorem open_pg {v : Value} (h : DataW.trod enc P W 0 sp true fuel 24 v.cells.toList = some x) : ∃ (p : Pg) (a : Option Addr) (c : Nat), v = p.val (.slice a p.list.length c) ∧ p.list.length ≤ c ∧ SliceAt ⟨no, no, W⟩ a p.list.length 4 (entE p.list) ∧ p.list.length + 1 ≤ bulk x.1 := by
  obtain ⟨xs, n, _, rfl, hl0, hlen0, hf⟩ := DataW.trod_struct Proofs.Try.underlying24 h
  have hlen : xs.length = 5 := hlen0
  clear hlen0 h
  have hl : v.cells.toList.length = 5 := hl0.trans (by kernel_rfl)
  clear hl0
  have hv : ∃ cs : Array Value, v = .agg cs := by
    cases v <;> first | exact ⟨_, rfl⟩ | (simp [Value.cells] at hl)
  obtain ⟨cs, rfl⟩ := hv
  obtain ⟨cs⟩ := cs
  simp only [Value.cells] at hl hf
  obtain ⟨c0, c1, c2, c3, c4, rfl⟩ := len5 hl
  obtain ⟨y0, y1, y2, y3, y4, rfl⟩ := len5 hlen
  have h0 : DataW.trod enc P W 0 sp true n 4 (List.take (P.cellsOf 4) (List.drop 0 [c0, c1, c2, c3, c4])) = some y0 := hf 0 _ rfl
  have h1 : DataW.trod enc P W 0 sp true n 9 (List.take (P.cellsOf 9) (List.drop 1 [c0, c1, c2, c3, c4])) = some y1 := hf 1 _ rfl
  have h2 : DataW.trod enc P W 0 sp true n 9 (List.take (P.cellsOf 9) (List.drop 2 [c0, c1, c2, c3, c4])) = some y2 := hf 2 _ rfl
  have h3 : DataW.trod enc P W 0 sp true n 3 (List.take (P.cellsOf 3) (List.drop 3 [c0, c1, c2, c3, c4])) = some y3 := hf 3 _ rfl
  have h4 : DataW.trod enc P W 0 sp true n 22 (List.take (P.cellsOf 22) (List.drop 4 [c0, c1, c2, c3, c4])) = some y4 := hf 4 _ rfl
  have e9 : P.cellsOf 9 = 1 := by kernel_rfl
  have e4 : P.cellsOf 4 = 1 := by kernel_rfl
  have e3 : P.cellsOf 3 = 1 := by kernel_rfl
  have e22 : P.cellsOf 22 = 1 := by kernel_rfl
  rw [e4] at h0; rw [e9] at h1 h2; rw [e3] at h3; rw [e22] at h4
  obtain ⟨b, hb, _⟩ := DataW.trod_bool Proofs.Try.underlying4 (x := y0) h0
  obtain ⟨lo, hlo, _⟩ := DataW.trod_string Proofs.Try.underlying9 (x := y1) h1
  obtain ⟨hi, hhi, _⟩ := DataW.trod_string Proofs.Try.underlying9 (x := y2) h2
  obtain ⟨r, hr, _⟩ := DataW.trod_int Proofs.Try.underlying3 (x := y3) h3
  obtain ⟨l, a, c, hc, q1, q2, q3⟩ := open_list (x := y4) h4
  simp at hb hlo hhi hr hc
  refine ⟨⟨b, lo, hi, r, l⟩, a, c, by rw [hb, hlo, hhi, hr, hc]; rfl, q1, q2, ?_⟩
  rw [bulk_agg]
  simp only [List.map_cons, List.map_nil, bulkA_cons, bulkA_nil]
  show l.length + 1 ≤ _
  omega
theorem open_de {v : Value} (h : DataW.trod enc P W 0 sp true fuel 32 v.cells.toList = some x) : ∃ y : DP, v = .agg y.cells.toArray ∧ y.ok ⟨no, no, W⟩ ∧ y.d.right.list.length + 1 ≤ bulk x.1 := by
  obtain ⟨xs, n, _, rfl, hl0, hlen0, hf⟩ := DataW.trod_struct Proofs.Try.underlying32 h
  have hlen : xs.length = 5 := hlen0
  clear hlen0 h
  have hl : v.cells.toList.length = 12 := hl0.trans (by kernel_rfl)
  clear hl0
  have hv : ∃ cs : Array Value, v = .agg cs := by
    cases v <;> first | exact ⟨_, rfl⟩ | (simp [Value.cells] at hl)
  obtain ⟨cs, rfl⟩ := hv
  obtain ⟨cs⟩ := cs
  simp only [Value.cells] at hl hf
  obtain ⟨c0, c1, c2, c3, c4, c5, c6, c7, c8, c9, c10, c11, rfl⟩ := len12 hl
  obtain ⟨y0, y1, y2, y3, y4, rfl⟩ := len5 hlen
  have h0 : DataW.trod enc P W 0 sp true n 3 (List.take (P.cellsOf 3) (List.drop 0 [c0, c1, c2, c3, c4, c5, c6, c7, c8, c9, c10, c11])) = some y0 := hf 0 _ rfl
  have h1 : DataW.trod enc P W 0 sp true n 30 (List.take (P.cellsOf 30) (List.drop 1 [c0, c1, c2, c3, c4, c5, c6, c7, c8, c9, c10, c11])) = some y1 := hf 1 _ rfl
  have h2 : DataW.trod enc P W 0 sp true n 9 (List.take (P.cellsOf 9) (List.drop 5 [c0, c1, c2, c3, c4, c5, c6, c7, c8, c9, c10, c11])) = some y2 := hf 2 _ rfl
  have h3 : DataW.trod enc P W 0 sp true n 3 (List.take (P.cellsOf 3) (List.drop 6 [c0, c1, c2, c3, c4, c5, c6, c7, c8, c9, c10, c11])) = some y3 := hf 3 _ rfl
  have h4 : DataW.trod enc P W 0 sp true n 24 (List.take (P.cellsOf 24) (List.drop 7 [c0, c1, c2, c3, c4, c5, c6, c7, c8, c9, c10, c11])) = some y4 := hf 4 _ rfl
  have e9 : P.cellsOf 9 = 1 := by kernel_rfl
  have e30 : P.cellsOf 30 = 4 := by kernel_rfl
  have e3 : P.cellsOf 3 = 1 := by kernel_rfl
  have e24 : P.cellsOf 24 = 5 := by kernel_rfl
  rw [e3] at h0 h3; rw [e30] at h1; rw [e9] at h2; rw [e24] at h4
  obtain ⟨kd, hk, _⟩ := DataW.trod_int Proofs.Try.underlying3 (x := y0) h0
  obtain ⟨e, he⟩ := open_en (x := y1) h1
  obtain ⟨ky, hy, _⟩ := DataW.trod_string Proofs.Try.underlying9 (x := y2) h2
  obtain ⟨pg, hp, _⟩ := DataW.trod_int Proofs.Try.underlying3 (x := y3) h3
  obtain ⟨r, a, c, hr, q1, q2, q3⟩ := open_pg (v := .agg #[c7, c8, c9, c10, c11]) (x := y4) h4
  simp at hk hy hp he hr
  simp only [Pg.val, Value.agg.injEq] at hr
  simp [En.cells] at he hr
  obtain ⟨r1, r2, r3, r4, r5⟩ := hr
  obtain ⟨g1, g2, g3, g4⟩ := he
  refine ⟨⟨⟨kd, e, ky, pg, r⟩, a, c⟩, ?_, ⟨q2, q1⟩, ?_⟩
  · rw [hk, hy, hp, g1, g2, g3, g4, r1, r2, r3, r4, r5]; rfl
  · rw [bulk_agg]
    simp only [List.map_cons, List.map_nil, bulkA_cons, bulkA_nil]
    show r.list.length + 1 ≤ _
    omega
end
end Go.W
end

section
open Go Go.Eng
namespace Go.W
open Go.ChangeShapes Go.WideShapes Go.ChangeAt Go.RowKit
theorem laidOut : laidOutB P = true := by kernel_rfl
theorem below_of {W W' : World} (h : Stp no W W') : Below W.heap.size W W' := ⟨h.os, h.tape, h.output, h.size, fun k hk => h.keep k hk (fun hh => hh)⟩
section
variable {H : Type} {enc : TypeId × Value → H} {W W' : World}
theorem trodAll_stay (hb : Stp no W W') {sp : Nat → Bool} : ∀ {ts : List TypeId} {vs : List Value} {ds : List (DataW H)} {ps : List MemPlace}, (∀ t ∈ ts, P.readableRec t = true ∧ t < P.types.size) → DataW.TrodAll enc P W 0 (fun _ => true) true ts vs ds ps →
    (∀ p ∈ ps, p.block < W.heap.size) → (∀ p ∈ ps, sp p.block = true) → DataW.TrodAll enc P W' 0 sp true ts vs ds ps
  | [], [], [], ps, _, h, _, _ => h
  | [], [], _ :: _, _, _, h, _, _ => h.elim
  | [], _ :: _, _, _, _, h, _, _ => h.elim
  | _ :: _, [], _, _, _, h, _, _ => h.elim
  | _ :: _, _ :: _, [], _, _, h, _, _ => h.elim
  | t :: ts, v :: vs, d :: ds, ps, ht, h, hlt, hs => by
    obtain ⟨p, q, h1, h2, rfl⟩ := h
    refine ⟨p, q, WideElems.Trod_stays laidOut (ht t (by simp)).1 (ht t (by simp)).2 h1 (fun x hx => (below_of hb).same (hlt x (by simp [hx]))) (fun x hx => hs x (by simp [hx])), trodAll_stay hb (fun t' h' => ht t' (by simp [h'])) h2 (fun x hx => hlt x (by simp [hx])) (fun x hx => hs x (by simp [hx])), rfl⟩
set_option maxRecDepth 100000 in
/-- what is left behind a law: true, and all as it was -/
theorem law_post {f : Func} {s : ChangeSpec} {apart fresh handsOn again : Bool} {args : Array Value} {ds gs : List (DataW H)} {before : List MemPlace} (hv : s.vars = []) (hW : DataW.Whole enc P f.params.toList s.vars apart W args.toList ds gs before)
    (hfn : gs = [] → s.fn H (ds ++ gs) = { results := [.lit (.bool true)], args := ds }) (hres : f.resultTypes = #[4]) (hpar : ∀ t ∈ f.params.toList, P.readableRec t = true ∧ t < P.types.size) (hs : Stp no W W') : s.post enc P f apart fresh handsOn again W args (.bool true) W' := by
  have hlt := hW.lt
  obtain ⟨p, q, hA, hV, rfl, hfz, hnd⟩ := id hW
  have hgs : gs = [] ∧ q = [] := by
    rw [hv] at hV
    cases gs with
    | nil => exact ⟨rfl, hV⟩
    | cons x r => exact hV.elim
  obtain ⟨rfl, rfl⟩ := hgs
  have hf := hfn rfl
  have hA' : ∀ sp : Nat → Bool, (∀ x ∈ p, sp x.block = true) → DataW.TrodAll enc P W' 0 sp true f.params.toList args.toList ds p := fun sp hsp => trodAll_stay hs hpar hA (fun x hx => hlt x (by simp [hx])) hsp
  have hR : ∀ (b : Nat) (sp : Nat → Bool) (hd : Bool), DataW.TrodAll enc P W' b sp hd f.resultTypes.toList ((Value.bool true).resultList f.resultTypes.size) [.lit (.bool true)] [] := fun b sp hd => by
    rw [hres]
    exact trodAll_mk1 (shut_bool Proofs.Try.underlying4 true)
  have hfz' : ∀ x ∈ p, ∀ b off, x = MemPlace.cell b off → W'.frozen? ⟨b, off, none⟩ = false := fun x hx b off e => by
    have h1 := hfz b off (by rw [← e]; simp [hx])
    have h2 := hlt x (by simp [hx])
    rw [e] at h2
    have h3 := hs.keep b h2 (fun hh => hh)
    unfold World.frozen? at h1 ⊢
    simp only [h3]
    exact h1
  refine ⟨ds, [], p ++ [], [], p, [], hW, ?_, ?_, ?_, ?_, fun _ => ⟨?_, ?_⟩⟩
  · rw [hf]; exact hR _ _ _
  · rw [hf]
    exact hA' _ (fun x hx => by have := hlt x (by simp [hx]); simpa using this)
  · rw [hf, hv]; rfl
  · refine ⟨hs.os, hs.output, fun i hi => ?_⟩
    rw [hs.keep i hi (fun hh => hh)]
    split
    · rename_i h1 h2
      rw [h1] at h2
      simp at h2
      obtain ⟨rfl, rfl, rfl⟩ := h2
      exact ⟨rfl, rfl, rfl, fun _ _ => rfl⟩
    · rename_i h1 h2
      rw [h1] at h2
      simp at h2
      exact .inr ⟨h2.1.symm, h2.2.symm⟩
    · rfl
  · have h4 : Value.okWide P W' .any 0 4 (.bool true) := by
      have := @okWide_bool_mk P W' 4 Proofs.Try.underlying4 true
      exact this
    exact ok_one (P := P) (W' := W') (f := f) (t := 4) (v := .bool true) hres rfl h4
  · refine ⟨_, [], [] ++ p ++ [], ⟨[] ++ p, [], trodAll_append (hA' _ (fun _ _ => rfl)) (hR _ _ _), by rw [hv]; rfl, rfl, ?_, fun ha => by simpa using hnd ha⟩, fun x hx _ => by simpa using hx⟩
    intro b off hx
    exact hfz' _ (by simpa using hx) b off rfl
end
end Go.W
end
