/- Lemmas for the proof of a law of the seat Ytfigihelkjlcpaa: an own evaluator of the model's programs, contracts of functions. -/
import Derived.WalkKit
import Derived.StillTail
import Derived.Laws.CopyRow
section
/-! The engine, part A: symbolic values, anchors, knowledge that is kept. -/
namespace Go.Eng

/-- where an own block lies: its number, whether there is none (a nil slice), how many elements there is room for -/
structure Loc where
  b : Nat
  nl : Bool
  cap : Nat

/-- where all own blocks lie, and how many there are -/
structure Lay where
  m : Nat
  at_ : Nat → Loc

/-- symbolic values -/
inductive SV where
  | v (x : Value)
  | loc (l off : Nat)
  | ext (a : Option Addr) (n c k : Nat) (els : Nat → List Value)
  | xptr (p : Addr) (cs : List Value)
  | agg (cs : List SV)
  | tup (vs : List SV)
  | fn (f : Fn) (caps : List SV)
  | sl (l k i n : Nat)
  | elt (l k i off : Nat)

/-- an anchor: a world in which what is known holds; the blocks that may have turned since (O), those that a callee may turn (M) -/
structure Anc where
  O : Nat → Prop
  M : Nat → Prop
  w : World

/-- w' comes of w: what lay there lies there, but for the blocks in O -/
structure Stp (O : Nat → Prop) (w w' : World) : Prop where
  os : w'.os = w.os
  tape : w'.tape = w.tape
  output : w'.output = w.output
  size : w.heap.size ≤ w'.heap.size
  keep : ∀ k, k < w.heap.size → ¬ O k → w'.heap[k]? = w.heap[k]?

theorem Stp.refl (O : Nat → Prop) (w : World) : Stp O w w := ⟨rfl, rfl, rfl, Nat.le_refl _, fun _ _ _ => rfl⟩
theorem Stp.trans {O O' : Nat → Prop} {a b c : World} (h : Stp O a b) (h' : Stp O' b c) (hO : ∀ k, k < a.heap.size → O' k → O k) : Stp O a c :=
  ⟨h'.os.trans h.os, h'.tape.trans h.tape, h'.output.trans h.output, Nat.le_trans h.size h'.size,
   fun k hk hn => (h'.keep k (Nat.lt_of_lt_of_le hk h.size) (fun hx => hn (hO k hk hx))).trans (h.keep k hk hn)⟩
theorem Stp.mono {O O' : Nat → Prop} {a b : World} (h : Stp O a b) (hO : ∀ k, k < a.heap.size → O k → O' k) : Stp O' a b :=
  ⟨h.os, h.tape, h.output, h.size, fun k hk hn => h.keep k hk (fun hx => hn (hO k hk hx))⟩

/-- one anchor behind another one -/
structure Later (A A' : Anc) : Prop where
  stp : Stp A.O A.w A'.w
  own : ∀ k, A'.O k → A.O k ∨ A.w.heap.size ≤ k

theorem Later.refl (A : Anc) : Later A A := ⟨Stp.refl _ _, fun _ h => .inl h⟩
theorem Later.trans {A B C : Anc} (h : Later A B) (h' : Later B C) : Later A C :=
  ⟨h.stp.trans h'.stp (fun k hk hx => (h.own k hx).resolve_right (by omega)),
   fun k hk => by
    rcases h'.own k hk with h1 | h1
    · exact h.own k h1
    · exact .inr (Nat.le_trans h.stp.size h1)⟩

/-- reading from p on gives these cells; nobody turns them -/
def ReadsAt (A : Anc) (p : Addr) (cs : List Value) : Prop :=
  p.spot = none ∧ ¬ A.O p.block ∧ p.block < A.w.heap.size ∧ ∀ j v, cs[j]? = some v → A.w.cell? ⟨p.block, p.off + j, none⟩ = some v

theorem cell?_of_heap {w w' : World} {a : Addr} (h : w'.heap[a.block]? = w.heap[a.block]?) : w'.cell? a = w.cell? a := by
  unfold World.cell?; rw [h]

theorem ReadsAt.later {A A' : Anc} {p : Addr} {cs : List Value} (h : ReadsAt A p cs) (hl : Later A A') : ReadsAt A' p cs := by
  obtain ⟨h1, h2, h3, h4⟩ := h
  refine ⟨h1, fun hx => ?_, Nat.lt_of_lt_of_le h3 hl.stp.size, fun j v hv => ?_⟩
  · rcases hl.own _ hx with h | h
    · exact h2 h
    · omega
  · rw [cell?_of_heap (w := A.w) (a := ⟨p.block, p.off + j, none⟩) (hl.stp.keep p.block h3 h2)]
    exact h4 j v hv

/-- a slice's elements -/
def SliceAt (A : Anc) (a : Option Addr) (n k : Nat) (els : Nat → List Value) : Prop :=
  ∀ i, i < n → ∃ p, a = some p ∧ ReadsAt A (p.add (i * k)) (els i)

theorem SliceAt.later {A A' : Anc} {a : Option Addr} {n k : Nat} {els : Nat → List Value} (h : SliceAt A a n k els) (hl : Later A A') : SliceAt A' a n k els :=
  fun i hi => let ⟨p, hp, hr⟩ := h i hi; ⟨p, hp, hr.later hl⟩

mutual
/-- what a symbolic value says of a value -/
def SV.Rel (β : Lay) (A : Anc) : SV → Value → Prop
  | .v x, y => y = x
  | .loc l off, y => l < β.m ∧ y = .pointer (some ⟨(β.at_ l).b, off, none⟩)
  | .ext a n c k els, y => y = .slice a n c ∧ n ≤ c ∧ SliceAt A a n k els
  | .xptr p cs, y => y = .pointer (some p) ∧ ReadsAt A p cs
  | .agg cs, y => ∃ ys : List Value, y = .agg ys.toArray ∧ RelL β A cs ys
  | .tup vs, y => ∃ ys : List Value, y = .tuple ys.toArray ∧ RelL β A vs ys
  | .fn f caps, y => ∃ ys : List Value, y = .func f #[] ys.toArray ∧ RelL β A caps ys
  | .sl l k i n, y => l < β.m ∧ (((β.at_ l).nl = true ∧ i = 0 ∧ n = 0 ∧ y = .slice none 0 0) ∨ ((β.at_ l).nl = false ∧ i + n ≤ (β.at_ l).cap ∧ y = .slice (some ⟨(β.at_ l).b, i * k, none⟩) n ((β.at_ l).cap - i)))
  | .elt l k i off, y => l < β.m ∧ (β.at_ l).nl = false ∧ y = .pointer (some ⟨(β.at_ l).b, i * k + off, none⟩)
def RelL (β : Lay) (A : Anc) : List SV → List Value → Prop
  | [], ys => ys = []
  | s :: r, ys => ∃ y t, ys = y :: t ∧ SV.Rel β A s y ∧ RelL β A r t
end

mutual
theorem SV.Rel.later {β : Lay} {A A' : Anc} (hl : Later A A') : ∀ (s : SV) (y : Value), s.Rel β A y → s.Rel β A' y
  | .v _, _, h => h
  | .loc _ _, _, h => h
  | .ext _ _ _ _ _, _, h => by simp only [SV.Rel] at h ⊢; exact ⟨h.1, h.2.1, h.2.2.later hl⟩
  | .xptr _ _, _, h => by simp only [SV.Rel] at h ⊢; exact ⟨h.1, h.2.later hl⟩
  | .agg cs, _, h => by simp only [SV.Rel] at h ⊢; obtain ⟨ys, h1, h2⟩ := h; exact ⟨ys, h1, RelL.later hl cs ys h2⟩
  | .tup cs, _, h => by simp only [SV.Rel] at h ⊢; obtain ⟨ys, h1, h2⟩ := h; exact ⟨ys, h1, RelL.later hl cs ys h2⟩
  | .fn _ cs, _, h => by simp only [SV.Rel] at h ⊢; obtain ⟨ys, h1, h2⟩ := h; exact ⟨ys, h1, RelL.later hl cs ys h2⟩
  | .sl _ _ _ _, _, h => h
  | .elt _ _ _ _, _, h => h
theorem RelL.later {β : Lay} {A A' : Anc} (hl : Later A A') : ∀ (s : List SV) (ys : List Value), RelL β A s ys → RelL β A' s ys
  | [], _, h => h
  | s :: r, _, h => by
    simp only [RelL] at h ⊢
    obtain ⟨y, t, h1, h2, h3⟩ := h
    exact ⟨y, t, h1, SV.Rel.later hl s y h2, RelL.later hl r t h3⟩
end

/-- a layout grows -/
structure Lay.le (β β' : Lay) : Prop where
  m : β.m ≤ β'.m
  at_ : ∀ l, l < β.m → β'.at_ l = β.at_ l

theorem Lay.le.refl (β : Lay) : β.le β := ⟨Nat.le_refl _, fun _ _ => rfl⟩
theorem Lay.le.trans {a b c : Lay} (h : a.le b) (h' : b.le c) : a.le c :=
  ⟨Nat.le_trans h.m h'.m, fun l hl => (h'.at_ l (Nat.lt_of_lt_of_le hl h.m)).trans (h.at_ l hl)⟩

mutual
theorem SV.Rel.grow {β β' : Lay} {A : Anc} (hb : β.le β') : ∀ (s : SV) (y : Value), s.Rel β A y → s.Rel β' A y
  | .v _, _, h => h
  | .loc l _, _, h => by simp only [SV.Rel] at h ⊢; exact ⟨Nat.lt_of_lt_of_le h.1 hb.m, by rw [hb.at_ l h.1]; exact h.2⟩
  | .ext _ _ _ _ _, _, h => h
  | .xptr _ _, _, h => h
  | .agg cs, _, h => by simp only [SV.Rel] at h ⊢; obtain ⟨ys, h1, h2⟩ := h; exact ⟨ys, h1, RelL.grow hb cs ys h2⟩
  | .tup cs, _, h => by simp only [SV.Rel] at h ⊢; obtain ⟨ys, h1, h2⟩ := h; exact ⟨ys, h1, RelL.grow hb cs ys h2⟩
  | .fn _ cs, _, h => by simp only [SV.Rel] at h ⊢; obtain ⟨ys, h1, h2⟩ := h; exact ⟨ys, h1, RelL.grow hb cs ys h2⟩
  | .sl l _ _ _, _, h => by simp only [SV.Rel] at h ⊢; exact ⟨Nat.lt_of_lt_of_le h.1 hb.m, by rw [hb.at_ l h.1]; exact h.2⟩
  | .elt l _ _ _, _, h => by simp only [SV.Rel] at h ⊢; exact ⟨Nat.lt_of_lt_of_le h.1 hb.m, by rw [hb.at_ l h.1]; exact h.2⟩
theorem RelL.grow {β β' : Lay} {A : Anc} (hb : β.le β') : ∀ (s : List SV) (ys : List Value), RelL β A s ys → RelL β' A s ys
  | [], _, h => h
  | s :: r, _, h => by
    simp only [RelL] at h ⊢
    obtain ⟨y, t, h1, h2, h3⟩ := h
    exact ⟨y, t, h1, SV.Rel.grow hb s y h2, RelL.grow hb r t h3⟩
end

theorem RelL.length {β : Lay} {A : Anc} : ∀ {s : List SV} {ys : List Value}, RelL β A s ys → ys.length = s.length
  | [], _, h => by simp only [RelL] at h; simp [h]
  | s :: r, _, h => by
    simp only [RelL] at h
    obtain ⟨y, t, rfl, _, h3⟩ := h
    simp [RelL.length h3]

theorem RelL.get {β : Lay} {A : Anc} : ∀ {s : List SV} {ys : List Value}, RelL β A s ys → ∀ (i : Nat) (x : SV), s[i]? = some x → ∃ y, ys[i]? = some y ∧ x.Rel β A y
  | [], _, _, i, x, hx => by simp at hx
  | s :: r, _, h, i, x, hx => by
    simp only [RelL] at h
    obtain ⟨y, t, rfl, h2, h3⟩ := h
    cases i with
    | zero => simp at hx; subst hx; exact ⟨y, by simp, h2⟩
    | succ i => simp at hx; obtain ⟨z, hz, hr⟩ := RelL.get h3 i x hx; exact ⟨z, by simpa using hz, hr⟩

theorem RelL.append {β : Lay} {A : Anc} : ∀ {s s' : List SV} {ys ys' : List Value}, RelL β A s ys → RelL β A s' ys' → RelL β A (s ++ s') (ys ++ ys')
  | [], s', ys, ys', h, h' => by simp only [RelL] at h; subst h; simpa using h'
  | s :: r, s', _, ys', h, h' => by
    simp only [RelL] at h
    obtain ⟨y, t, rfl, h2, h3⟩ := h
    simp only [List.cons_append, RelL]
    exact ⟨y, _, rfl, h2, RelL.append h3 h'⟩

theorem RelL.take {β : Lay} {A : Anc} : ∀ {s : List SV} {ys : List Value} (n : Nat), RelL β A s ys → RelL β A (s.take n) (ys.take n)
  | [], _, n, h => by simp only [RelL] at h; subst h; simp [RelL]
  | s :: r, _, n, h => by
    simp only [RelL] at h
    obtain ⟨y, t, rfl, h2, h3⟩ := h
    cases n with
    | zero => simp [RelL]
    | succ n => simp only [List.take_succ_cons, RelL]; exact ⟨y, _, rfl, h2, RelL.take n h3⟩

theorem RelL.drop {β : Lay} {A : Anc} : ∀ {s : List SV} {ys : List Value} (n : Nat), RelL β A s ys → RelL β A (s.drop n) (ys.drop n)
  | [], _, n, h => by simp only [RelL] at h; subst h; simp [RelL]
  | s :: r, _, n, h => by
    have h0 := h
    simp only [RelL] at h
    obtain ⟨y, t, rfl, h2, h3⟩ := h
    cases n with
    | zero => simpa using h0
    | succ n => simp only [List.drop_succ_cons]; exact RelL.drop n h3

theorem RelL.vs {β : Lay} {A : Anc} : ∀ (xs : List Value), RelL β A (xs.map .v) xs
  | [] => by simp [RelL]
  | x :: r => by simp only [List.map_cons, RelL]; exact ⟨x, r, rfl, by simp [SV.Rel], RelL.vs r⟩

end Go.Eng
end

section
/-! The engine, part B: operations that only reckon. -/
namespace Go.Eng

inductive TD where
  | bool
  | int (k : IntKind)
  | str
  | slice (e : Nat)
  | struct (fs : List (Nat × Nat))
  | ptr
  | iface
  | func
  | array (n e : Nat)
  | other

structure TI where
  td : TD
  size : Nat
  bytes : Nat
  zero : List Value

def tdOf : TypeDesc → TD
  | .bool => .bool
  | .int k => .int k
  | .string => .str
  | .slice e => .slice e
  | .struct fs => .struct (fs.toList.map fun f => (f.offset, f.type))
  | .pointer _ => .ptr
  | .interface _ => .iface
  | .func _ _ _ => .func
  | .array n e => .array n e
  | _ => .other

def mkTb (P : Program) (t : Nat) : Option TI :=
  match P.info? t, P.underlying t with
  | some i, some d => match i.zero with
    | some z => some ⟨tdOf d, i.size, i.bytes, z.cells.toList⟩
    | none => none
  | _, _ => none

/-- kinds of cells of a struct that is compared -/
inductive CK where
  | int (k : IntKind) | str | bool

def kindsOK : List CK → List Value → Prop
  | [], xs => xs = []
  | .int k :: r, xs => ∃ n t, xs = .int k n :: t ∧ kindsOK r t
  | .str :: r, xs => ∃ n t, xs = .string n :: t ∧ kindsOK r t
  | .bool :: r, xs => ∃ n t, xs = .bool n :: t ∧ kindsOK r t

def cellEq : Value → Value → Bool
  | .int _ a, .int _ b => a == b
  | .string a, .string b => a.toList == b.toList
  | .bool a, .bool b => a == b
  | _, _ => false

def cellsB : List Value → List Value → Bool
  | x :: r, y :: s => cellEq x y && cellsB r s
  | _, _ => true

structure Ctx where
  tb : Nat → Option TI
  eqT : Nat → Option (List CK)
  fn : Nat → Bool
  ld : Nat → Bool
  wr : Option (List Nat)
  st : Nat

def memN (x : Nat) : List Nat → Bool
  | [] => false
  | y :: r => bif Nat.beq x y then true else memN x r
theorem memN_mem {x : Nat} : ∀ {l : List Nat}, memN x l = false → x ∉ l
  | [], _ => by simp
  | y :: r, h => by
    simp only [memN] at h
    cases hb : Nat.beq x y with
    | true => rw [hb] at h; simp at h
    | false =>
      rw [hb] at h
      simp only [cond_false] at h
      have hne : x ≠ y := fun e => by subst e; simp at hb
      simp [hne, memN_mem h]

/-- in a region whose order is open: blocks that may be read, blocks that may be written -/
def rdOK (C : Ctx) (l : Nat) : Bool := match C.wr with
  | none => true
  | some ws => !memN l ws
def wrOK (C : Ctx) (l : Nat) : Bool := match C.wr with
  | none => true
  | some ws => memN l ws

structure CtxOK (P : Program) (C : Ctx) : Prop where
  fn : ∀ g, C.fn g = true → ∃ fn c, P.funcs[g]? = some fn ∧ fn.body = some c ∧ (fn.name == "runtime.NumGoroutine") = false
  mixed : P.follows .mixedOrders = true
  tb : ∀ t ti, C.tb t = some ti → mkTb P t = some ti
  eqT : ∀ t ks, C.eqT t = some ks → ∀ (xs ys : List Value) (x y : Operand) (w : World), kindsOK ks xs → kindsOK ks ys →
    (do eqGuard .eql t x y (.agg xs.toArray) (.agg ys.toArray); binOp .eql t (.agg xs.toArray) (.agg ys.toArray) : Sem Value).run P w = .ok (.bool (cellsB xs ys)) w ∧
    (do eqGuard .neq t x y (.agg xs.toArray) (.agg ys.toArray); binOp .neq t (.agg xs.toArray) (.agg ys.toArray) : Sem Value).run P w = .ok (.bool (!cellsB xs ys)) w

def eqK : IntKind → IntKind → Bool
  | .i8, .i8 | .i16, .i16 | .i32, .i32 | .i64, .i64 | .u8, .u8 | .u16, .u16 | .u32, .u32 | .u64, .u64 => true
  | _, _ => false
theorem eqK_eq {a b : IntKind} (h : eqK a b = true) : a = b := by cases a <;> cases b <;> first | rfl | (simp [eqK] at h)

def takeL {α : Type} : Nat → List α → Option (List α)
  | 0, _ => some []
  | n + 1, x :: r => match takeL n r with
    | some t => some (x :: t)
    | none => none
  | _ + 1, [] => none
def dropL {α : Type} : Nat → List α → List α
  | 0, l => l
  | n + 1, _ :: r => dropL n r
  | _ + 1, [] => []
theorem takeL_eq {α : Type} : ∀ {n : Nat} {l t : List α}, takeL n l = some t → t = l.take n ∧ n ≤ l.length
  | 0, l, t, h => by simp [takeL] at h; subst h; simp
  | n + 1, [], t, h => by simp [takeL] at h
  | n + 1, x :: r, t, h => by
    simp only [takeL] at h
    split at h
    · rename_i u hu
      obtain ⟨h1, h2⟩ := takeL_eq hu
      simp at h; subst h; subst h1
      exact ⟨by simp, by simpa using h2⟩
    · simp at h
theorem dropL_eq {α : Type} : ∀ (n : Nat) (l : List α), dropL n l = l.drop n
  | 0, l => by simp [dropL]
  | n + 1, [] => by simp [dropL]
  | n + 1, x :: r => by simp [dropL, dropL_eq n r]

/-- overwrites cells from an offset on -/
def splL {α : Type} : Nat → List α → List α → Option (List α)
  | 0, [], l => some l
  | 0, x :: xs, _ :: r => match splL 0 xs r with
    | some t => some (x :: t)
    | none => none
  | n + 1, xs, y :: r => match splL n xs r with
    | some t => some (y :: t)
    | none => none
  | _, _, _ => none

def mapV : List Value → List SV
  | [] => []
  | x :: r => .v x :: mapV r
theorem mapV_eq : ∀ l, mapV l = l.map .v
  | [] => rfl
  | x :: r => by simp [mapV, mapV_eq r]

/-- the cells of a value, each of them of one cell -/
def cellsOf : SV → Option (List SV)
  | .agg cs => some cs
  | .tup _ => none
  | .v x => match x with
    | .agg cs => some (mapV cs.toList)
    | .tuple _ => none
    | _ => some [.v x]
  | s => some [s]

/-- a variable's value out of its cells -/
def ofCells (ti : TI) (cs : List SV) : Option SV :=
  match ti.td with
  | .struct _ => some (.agg cs)
  | .array _ _ => some (.agg cs)
  | _ => match cs with
    | [s] => some s
    | _ => none

inductive Chunk where
  | box (t : Nat) (cells : List SV)
  | row (t k n : Nat) (els : Nat → List Value)
  | dead

structure Ent where
  path : List (Nat × Bool)
  sv : SV

def beqB : Bool → Bool → Bool
  | true, true => true
  | false, false => true
  | _, _ => false
def memP (q : Nat × Bool) : List (Nat × Bool) → Bool
  | [] => false
  | x :: r => bif Nat.beq q.1 x.1 && beqB q.2 x.2 then true else memP q r
def subP : List (Nat × Bool) → List (Nat × Bool) → Bool
  | [], _ => true
  | q :: r, p => bif memP q p then subP r p else false
theorem beqB_eq {a b : Bool} (h : beqB a b = true) : a = b := by cases a <;> cases b <;> first | rfl | (simp [beqB] at h)
theorem memP_mem {q : Nat × Bool} : ∀ {p : List (Nat × Bool)}, memP q p = true → q ∈ p
  | [], h => by simp [memP] at h
  | x :: r, h => by
    simp only [memP] at h
    cases hx : Nat.beq q.1 x.1 && beqB q.2 x.2 with
    | true =>
      simp only [Bool.and_eq_true] at hx
      have h1 := Nat.eq_of_beq_eq_true hx.1
      have h2 := beqB_eq hx.2
      obtain ⟨q1, q2⟩ := q; obtain ⟨x1, x2⟩ := x
      simp at h1 h2; subst h1; subst h2; simp
    | false => rw [hx] at h; exact List.mem_cons_of_mem _ (memP_mem (by simpa using h))
theorem subP_sub : ∀ {a b : List (Nat × Bool)}, subP a b = true → ∀ q ∈ a, q ∈ b
  | [], _, _ => by simp
  | q :: r, p, h => by
    simp only [subP] at h
    cases hm : memP q p with
    | true =>
      rw [hm] at h
      intro x hx
      rcases List.mem_cons.1 hx with rfl | hx
      · exact memP_mem hm
      · exact subP_sub (by simpa using h) x hx
    | false => rw [hm] at h; simp at h

abbrev Env := Nat → Option Ent
def Env.put (e : Env) (d : Option Nat) (p : List (Nat × Bool)) (s : SV) : Env := fun t =>
  match d with
  | some d => bif Nat.beq t d then some ⟨p, s⟩ else e t
  | none => e t

def look (env : Env) (p : List (Nat × Bool)) : Operand → Option SV
  | .tmp t => match env t with
    | some ⟨q, s⟩ => bif subP q p then some s else none
    | none => none
  | .const v => some (.v v)
  | .global g => some (.v (.pointer (some ⟨g, 0, none⟩)))
  | .func f => some (.fn (.func f) [])

/-- what an operation comes to that only reckons: what it owes (none: nothing), its value -/
structure PR where
  ob : Option Prop
  sv : SV

def binV (op : BinOp) : Value → Value → Option Value
  | .int k a, .int k' b => bif eqK k k' then
      match op with
      | .add => some (.int k (k.wrap (a + b)))
      | .sub => some (.int k (k.wrap (a - b)))
      | .mul => some (.int k (k.wrap (a * b)))
      | .eql => some (.bool (a == b))
      | .neq => some (.bool (a != b))
      | .lss => some (.bool (decide (a < b)))
      | .leq => some (.bool (decide (a ≤ b)))
      | .gtr => some (.bool (decide (a > b)))
      | .geq => some (.bool (decide (a ≥ b)))
      | _ => none
    else none
  | .string a, .string b =>
      match op with
      | .eql => some (.bool (a.toList == b.toList))
      | .neq => some (.bool (!(a.toList == b.toList)))
      | .lss => some (.bool (Op.bytesLess a.toList b.toList))
      | .leq => some (.bool (Op.bytesLess a.toList b.toList || a.toList == b.toList))
      | .gtr => some (.bool (!(Op.bytesLess a.toList b.toList || a.toList == b.toList)))
      | .geq => some (.bool (!Op.bytesLess a.toList b.toList))
      | _ => none
  | _, _ => none

theorem binV_run {P : Program} {w : World} {op : BinOp} {t : Nat} {x y : Operand} {a b r : Value} (h : binV op a b = some r) :
    (do eqGuard op t x y a b; binOp op t a b : Sem Value).run P w = .ok r w := by
  unfold binV at h
  split at h
  · rename_i k a k' b
    cases hk : eqK k k' with
    | false => rw [hk] at h; simp at h
    | true =>
      have := eqK_eq hk; subst this
      rw [hk] at h
      simp only [cond_true] at h
      split at h <;> first | (simp only [Option.some.injEq] at h; subst h; simp [eqGuard, binOp, Op.intArith, Op.intCmp]) | (simp at h)
  · split at h <;> first | (simp only [Option.some.injEq] at h; subst h; simp [eqGuard, binOp, Op.stringOp]) | (simp at h)
  · simp at h

end Go.Eng
end

section
/-! The engine, part C: what is known of a frame; the operations that only reckon, and that they do. -/
namespace Go.Eng

def holdsP (tmps : Array Value) (p : List (Nat × Bool)) : Prop := ∀ q ∈ p, tmps[q.1]? = some (.bool q.2)

def EnvOK (β : Lay) (A : Anc) (env : Env) (tmps : Array Value) : Prop :=
  ∀ t e, env t = some e → (holdsP tmps e.path → ∃ y, tmps[t]? = some y ∧ e.sv.Rel β A y) ∧ (¬ holdsP tmps e.path → tmps[t]? = some undef)

/-- the cells of some elements -/
def rowL (els : Nat → List Value) : Nat → List Value
  | 0 => []
  | n + 1 => rowL els n ++ els n

theorem rowL_length {els : Nat → List Value} {k : Nat} : ∀ {n : Nat}, (∀ i, i < n → (els i).length = k) → (rowL els n).length = n * k
  | 0, _ => by simp [rowL]
  | n + 1, h => by
    simp only [rowL, List.length_append]
    rw [rowL_length (fun i hi => h i (by omega)), h n (by omega), Nat.succ_mul]

theorem rowL_get {els : Nat → List Value} {k : Nat} : ∀ {n : Nat}, (∀ i, i < n → (els i).length = k) → ∀ i, i < n → ∀ j v, (els i)[j]? = some v → (rowL els n)[i * k + j]? = some v
  | 0, _, i, hi, _, _, _ => by omega
  | n + 1, h, i, hi, j, v, hv => by
    have hl := rowL_length (els := els) (k := k) (n := n) (fun i hi => h i (by omega))
    have hj := (List.getElem?_eq_some_iff.1 hv).1
    simp only [rowL]
    by_cases e : i = n
    · subst e
      rw [List.getElem?_append_right (by omega), hl]
      simpa using hv
    · have hin : i < n := by omega
      have := rowL_get (fun i hi => h i (by omega)) i hin j v hv
      rw [List.getElem?_append_left (List.getElem?_eq_some_iff.1 this).1]
      exact this

theorem rowL_congr {e e' : Nat → List Value} : ∀ {n : Nat}, (∀ i, i < n → e i = e' i) → rowL e n = rowL e' n
  | 0, _ => rfl
  | n + 1, h => by simp only [rowL]; rw [rowL_congr (fun i hi => h i (by omega)), h n (by omega)]

theorem rowL_add {e e' : Nat → List Value} {n : Nat} : ∀ {m : Nat}, rowL e n ++ rowL e' m = rowL (fun i => bif Nat.blt i n then e i else e' (i - n)) (n + m)
  | 0 => by
    simp only [rowL, List.append_nil, Nat.add_zero]
    exact rowL_congr (fun i hi => by rw [show Nat.blt i n = true from Nat.ble_eq_true_of_le hi]; rfl)
  | m + 1 => by
    rw [← Nat.add_assoc]
    simp only [rowL]
    rw [← List.append_assoc, rowL_add (m := m)]
    have : Nat.blt (n + m) n = false := by
      cases hb : Nat.blt (n + m) n with
      | false => rfl
      | true => have := Nat.le_of_ble_eq_true hb; omega
    rw [this]
    simp

theorem rowL_take {els : Nat → List Value} {k : Nat} : ∀ {n : Nat}, (∀ i, i < n → (els i).length = k) → ∀ m, m ≤ n → (rowL els n).take (m * k) = rowL els m
  | 0, _, m, hm => by
    have : m = 0 := by omega
    subst this; simp [rowL]
  | n + 1, h, m, hm => by
    have hl := rowL_length (els := els) (k := k) (n := n) (fun i hi => h i (by omega))
    by_cases e : m = n + 1
    · subst e
      rw [List.take_of_length_le]
      rw [rowL_length h]; exact Nat.le_refl _
    · have : m ≤ n := by omega
      simp only [rowL]
      rw [List.take_append_of_le_length (by rw [hl]; exact Nat.mul_le_mul_right _ this)]
      exact rowL_take (fun i hi => h i (by omega)) m this

/-- a row of cells at a place -/
structure RowAt (w : World) (L : Loc) (t k n : Nat) (els : Nat → List Value) : Prop where
  len : ∀ i, i < n → (els i).length = k
  nil : L.nl = true → n = 0
  at_ : L.nl = false → ∃ cur : Array Value, w.heap[L.b]? = some (.cells cur t (0, 0)) ∧ n ≤ L.cap ∧ L.cap ≤ maxLen ∧ cur.size = L.cap * k ∧ cur.toList.take (n * k) = rowL els n

def ChRel (β : Lay) (A : Anc) (w : World) (l : Nat) : Chunk → Prop
  | .box t cells => ∃ ys, RelL β A cells ys ∧ w.heap[(β.at_ l).b]? = some (.cells ys.toArray t (0, 0))
  | .row t k n els => RowAt w (β.at_ l) t k n els
  | .dead => True

def HpRel (β : Lay) (A : Anc) (hp : List Chunk) (w : World) : Prop := ∀ l ch, hp[l]? = some ch → ChRel β A w l ch

section
variable {P : Program} {C : Ctx} {β : Lay} {A : Anc} {env : Env} {hp : List Chunk} {w : World} {a : Act} {p : List (Nat × Bool)}

theorem look_rel (hE : EnvOK β A env a.tmps) (hP : holdsP a.tmps p) {x : Operand} {s : SV} (h : look env p x = some s) : s.Rel β A (a.eval x) := by
  cases x with
  | tmp t =>
    simp only [look] at h
    split at h
    · rename_i q s' hq
      cases hs : subP q p with
      | false => rw [hs] at h; simp at h
      | true =>
        rw [hs] at h
        simp only [cond_true, Option.some.injEq] at h
        subst h
        obtain ⟨h1, _⟩ := hE t _ hq
        obtain ⟨y, hy, hr⟩ := h1 (fun z hz => hP z (subP_sub hs z hz))
        have : a.eval (.tmp t) = y := by simp [Act.eval, hy]
        rw [this]; exact hr
    · simp at h
  | const v => simp only [look, Option.some.injEq] at h; subst h; simp [SV.Rel, Act.eval]
  | global g => simp only [look, Option.some.injEq] at h; subst h; simp [SV.Rel, Act.eval]
  | func f => simp only [look, Option.some.injEq] at h; subst h; simp [SV.Rel, Act.eval, RelL]

theorem ti_parts {t : Nat} {ti : TI} (h : mkTb P t = some ti) : ∃ i d z, P.info? t = some i ∧ P.underlying t = some d ∧ i.zero = some z ∧ ti = ⟨tdOf d, i.size, i.bytes, z.cells.toList⟩ := by
  unfold mkTb at h
  split at h
  · rename_i i d hi hd
    split at h
    · rename_i z hz
      simp at h
      exact ⟨i, d, z, hi, hd, hz, h.symm⟩
    · simp at h
  · simp at h

/-- a variable's value out of its cells, as the model has it -/
def valOf (ti : TI) (cs : List Value) : Value :=
  match ti.td with
  | .struct _ => .agg cs.toArray
  | .array _ _ => .agg cs.toArray
  | _ => match cs with
    | [y] => y
    | _ => undef

theorem loadVar_run {t : Nat} {ti : TI} (h : mkTb P t = some ti) (b o : Nat) (cs : List Value) (hlen : cs.length = ti.size) (h1 : (match ti.td with | .struct _ => true | .array _ _ => true | _ => false) = true ∨ ti.size = 1)
    (hc : ∀ j v, cs[j]? = some v → w.cell? ⟨b, o + j, none⟩ = some v) : (loadVar t ⟨b, o, none⟩).run P w = .ok (valOf ti cs) w := by
  obtain ⟨i, d, z, hi, hd, hz, rfl⟩ := ti_parts h
  have hl : (loadCells ⟨b, o, none⟩ cs.length).run P w = .ok cs.toArray w := by
    refine run_loadCells_list w _ cs (fun j v hv => ?_)
    have := hc j v hv
    unfold Addr.add
    split
    · rename_i hj; subst hj; simpa using this
    · exact this
  simp only at hlen
  by_cases ha : (match d with | .struct _ | .array _ _ => true | _ => false) = true
  · have : (isAgg t).run P w = .ok true w := by
      simp only [isAgg, Sem.run_bind, run_underlying hd, Result.andThen_ok]
      cases d <;> simp_all
    simp only [loadVar, Sem.run_bind, this, Result.andThen_ok, if_true, sizeOf, typeInfo, run_program, hi, Sem.run_pure, ← hlen, hl]
    cases d <;> first | (simp at ha; done) | rfl
  · have : (isAgg t).run P w = .ok false w := by
      simp only [isAgg, Sem.run_bind, run_underlying hd, Result.andThen_ok]
      cases d <;> simp_all
    have h1' : cs.length = 1 := by
      rcases h1 with h1 | h1
      · exfalso; apply ha; revert h1; simp only []; cases d <;> simp [tdOf]
      · rw [hlen]; exact h1
    obtain ⟨y, rfl⟩ : ∃ y, cs = [y] := by
      cases cs with
      | nil => simp at h1'
      | cons y r => cases r with
        | nil => exact ⟨y, rfl⟩
        | cons => simp at h1'
    have h0 := hc 0 y rfl
    simp only [Nat.add_zero] at h0
    simp only [loadVar, Sem.run_bind, this, Result.andThen_ok, Bool.false_eq_true, if_false, run_load, h0]
    congr 1
    revert ha
    cases d <;> simp [tdOf, valOf]

theorem ofCells_rel {ti : TI} {cs : List SV} {ys : List Value} {s : SV} (h : ofCells ti cs = some s) (hr : RelL β A cs ys) : s.Rel β A (valOf ti ys) := by
  unfold ofCells at h
  split at h
  · rename_i hd; simp at h; subst h; simp only [valOf, hd, SV.Rel]; exact ⟨ys, rfl, hr⟩
  · rename_i hd; simp at h; subst h; simp only [valOf, hd, SV.Rel]; exact ⟨ys, rfl, hr⟩
  · rename_i hd1 hd2
    split at h
    · rename_i s'
      simp at h; subst h
      simp only [RelL] at hr
      obtain ⟨y, t, rfl, hy, rfl⟩ := hr
      unfold valOf
      split
      · rename_i fs hfs; exact absurd hfs (hd1 fs)
      · rename_i n e hfs; exact absurd hfs (hd2 n e)
      · exact hy
    · simp at h

theorem ofCells_one {ti : TI} {cs : List SV} {s : SV} (h : ofCells ti cs = some s) : (match ti.td with | .struct _ => true | .array _ _ => true | _ => false) = true ∨ cs.length = 1 := by
  unfold ofCells at h
  split at h
  · rename_i hd; left; simp [hd]
  · rename_i hd; left; simp [hd]
  · split at h
    · right; rfl
    · simp at h

theorem cell_of_heap {b j : Nat} {ys : List Value} {t : Nat} {y : Value} (h : w.heap[b]? = some (.cells ys.toArray t (0, 0))) (hy : ys[j]? = some y) : w.cell? ⟨b, j, none⟩ = some y := by
  simp [World.cell?, h, hy]

def pLoad (C : Ctx) (hp : List Chunk) (t : Nat) : SV → Option PR
  | .loc l off => match C.tb t with
    | some ti => bif rdOK C l then match hp[l]? with
      | some (.box _ cells) => match takeL ti.size (dropL off cells) with
        | some cs => match ofCells ti cs with
          | some s => some ⟨none, s⟩
          | none => none
        | none => none
      | _ => none
      else none
    | none => none
  | .xptr _ cells => match C.tb t with
    | some ti => match takeL ti.size cells with
        | some cs => match ofCells ti (mapV cs) with
          | some s => some ⟨none, s⟩
          | none => none
        | none => none
    | none => none
  | .elt l k i off => match C.tb t with
    | some ti => match hp[l]? with
      | some (.row _ k' n els) => bif Nat.beq k k' && rdOK C l then match takeL ti.size (dropL off (els i)) with
        | some cs => match ofCells ti (mapV cs) with
          | some s => some ⟨some (i < n), s⟩
          | none => none
        | none => none
        else none
      | _ => none
    | none => none
  | _ => none

theorem RowAt.cell {L : Loc} {t k n : Nat} {els : Nat → List Value} (h : RowAt w L t k n els) (hn : L.nl = false) {i : Nat} (hi : i < n) {j : Nat} {v : Value} (hv : (els i)[j]? = some v) : w.cell? ⟨L.b, i * k + j, none⟩ = some v := by
  obtain ⟨cur, h1, h2, h3, h4, h5⟩ := h.at_ hn
  have := rowL_get h.len i hi j v hv
  rw [← h5, List.getElem?_take] at this
  split at this
  · have h6 : cur[i * k + j]? = some v := by rw [← Array.getElem?_toList]; exact this
    simp [World.cell?, h1, h6]
  · simp at this

theorem pLoad_run (hC : CtxOK P C) (hS : Stp A.O A.w w) (hH : HpRel β A hp w) {t : Nat} {x : SV} {y : Value} {r : PR} (h : pLoad C hp t x = some r) (hx : x.Rel β A y) (hob : ∀ φ, r.ob = some φ → φ) :
    ∃ z, (Instr.loadAt t y).run P w = .ok z w ∧ r.sv.Rel β A z := by
  unfold pLoad at h
  split at h
  · rename_i l off
    split at h <;> try (simp at h; done)
    rename_i ti hti
    cases hrd : rdOK C l with
    | false => rw [hrd] at h; simp at h
    | true =>
    rw [hrd] at h; simp only [cond_true] at h
    split at h <;> try (simp at h; done)
    rename_i T cells hl
    split at h <;> try (simp at h; done)
    rename_i cs hcs
    split at h <;> try (simp at h; done)
    rename_i s hs
    simp at h; subst h
    simp only [SV.Rel] at hx
    obtain ⟨hlm, rfl⟩ := hx
    obtain ⟨ys, hr, hhp⟩ := hH l _ hl
    obtain ⟨e1, e2⟩ := takeL_eq hcs
    rw [dropL_eq] at e1 e2
    have hr' : RelL β A cs ((ys.drop off).take ti.size) := by rw [e1]; exact (hr.drop off).take _
    refine ⟨valOf ti ((ys.drop off).take ti.size), ?_, ofCells_rel hs hr'⟩
    have hcl : cs.length = ti.size := by rw [e1]; simp only [List.length_take]; omega
    have hyl := hr'.length
    simp only [Instr.loadAt, Instr.sureAddr, Sem.run_bind, Sem.run_pure, Result.andThen_ok]
    refine loadVar_run (hC.tb _ _ hti) _ _ _ (by rw [hyl]; exact hcl) ?_ (fun j v hv => ?_)
    · rcases ofCells_one hs with h1 | h1
      · exact .inl h1
      · right; omega
    · have : ys[off + j]? = some v := by
        rw [List.getElem?_take] at hv
        split at hv
        · simpa [List.getElem?_drop] using hv
        · simp at hv
      exact cell_of_heap hhp this
  · rename_i q cells
    split at h <;> try (simp at h; done)
    rename_i ti hti
    split at h <;> try (simp at h; done)
    rename_i cs hcs
    split at h <;> try (simp at h; done)
    rename_i s hs
    simp at h; subst h
    simp only [SV.Rel] at hx
    obtain ⟨rfl, hsp, hO, hb, hcell⟩ := hx
    obtain ⟨e1, e2⟩ := takeL_eq hcs
    rw [mapV_eq] at hs
    have hr' : RelL β A (cs.map .v) cs := RelL.vs cs
    refine ⟨valOf ti cs, ?_, ofCells_rel hs hr'⟩
    have hcl : cs.length = ti.size := by rw [e1]; simp only [List.length_take]; omega
    simp only [Instr.loadAt, Instr.sureAddr, Sem.run_bind, Sem.run_pure, Result.andThen_ok]
    obtain ⟨qb, qo, qs⟩ := q
    simp only at hsp hO hb hcell
    subst hsp
    refine loadVar_run (hC.tb _ _ hti) _ _ _ hcl ?_ (fun j v hv => ?_)
    · rcases ofCells_one hs with h1 | h1
      · exact .inl h1
      · right; simp at h1; omega
    · rw [cell?_of_heap (w := A.w) (a := ⟨qb, qo + j, none⟩) (hS.keep qb hb hO)]
      refine hcell j v ?_
      rw [e1, List.getElem?_take] at hv
      split at hv
      · exact hv
      · simp at hv
  · rename_i l k i off
    split at h <;> try (simp at h; done)
    rename_i ti hti
    split at h <;> try (simp at h; done)
    rename_i T k' n els hl
    cases hk : (Nat.beq k k' && rdOK C l) with
    | false => rw [hk] at h; simp at h
    | true =>
      rw [hk] at h; simp only [cond_true] at h
      simp only [Bool.and_eq_true] at hk
      have hk' := Nat.eq_of_beq_eq_true hk.1
      subst hk'
      split at h <;> try (simp at h; done)
      rename_i cs hcs
      split at h <;> try (simp at h; done)
      rename_i s hs
      simp at h; subst h
      have hin := hob _ rfl
      simp only [SV.Rel] at hx
      obtain ⟨hlm, hnl, rfl⟩ := hx
      have hrow := hH l _ hl
      obtain ⟨e1, e2⟩ := takeL_eq hcs
      rw [dropL_eq] at e1 e2
      rw [mapV_eq] at hs
      have hr' : RelL β A (cs.map .v) cs := RelL.vs cs
      refine ⟨valOf ti cs, ?_, ofCells_rel hs hr'⟩
      have hcl : cs.length = ti.size := by rw [e1]; simp only [List.length_take]; omega
      simp only [Instr.loadAt, Instr.sureAddr, Sem.run_bind, Sem.run_pure, Result.andThen_ok]
      refine loadVar_run (hC.tb _ _ hti) _ _ _ hcl ?_ (fun j v hv => ?_)
      · rcases ofCells_one hs with h1 | h1
        · exact .inl h1
        · right; simp at h1; omega
      · rw [Nat.add_assoc]
        refine RowAt.cell hrow hnl hin ?_
        rw [e1, List.getElem?_take] at hv
        split at hv
        · simpa [List.getElem?_drop] using hv
        · simp at hv
  · simp at h

end
end Go.Eng
end

section
/-! The engine, part D: the other operations that only reckon. -/
namespace Go.Eng
section
variable {P : Program} {C : Ctx} {β : Lay} {A : Anc} {env : Env} {hp : List Chunk} {w : World} {a : Act} {p : List (Nat × Bool)}

def nthL {α : Type} : Nat → List α → Option α
  | _, [] => none
  | 0, x :: _ => some x
  | n + 1, _ :: r => nthL n r
theorem nthL_eq {α : Type} : ∀ (n : Nat) (l : List α), nthL n l = l[n]?
  | 0, [] => rfl
  | n + 1, [] => rfl
  | 0, x :: r => rfl
  | n + 1, x :: r => by simp [nthL, nthL_eq n r]

/-- the offset of a field, its type -/
def fieldOf (C : Ctx) (t f : Nat) : Option (Nat × TI) :=
  match C.tb t with
  | some ⟨.struct fs, _, _, _⟩ => match nthL f fs with
    | some (o, ft) => match C.tb ft with
      | some ti => some (o, ti)
      | none => none
    | none => none
  | _ => none

theorem fieldOf_spec (hC : CtxOK P C) {t f o : Nat} {ti : TI} (h : fieldOf C t f = some (o, ti)) :
    ∃ fields fd, P.underlying t = some (.struct fields) ∧ fields[f]? = some fd ∧ fd.offset = o ∧ mkTb P fd.type = some ti := by
  unfold fieldOf at h
  split at h <;> try (simp at h; done)
  rename_i fs sz by_ ze ht
  split at h <;> try (simp at h; done)
  rename_i o' ft hf
  split at h <;> try (simp at h; done)
  rename_i ti' hti
  simp at h
  obtain ⟨rfl, rfl⟩ := h
  obtain ⟨i, d, z, hi, hd, hz, he⟩ := ti_parts (hC.tb _ _ ht)
  simp only [TI.mk.injEq] at he
  obtain ⟨he1, _⟩ := he
  cases d <;> simp [tdOf] at he1
  rename_i fields
  subst he1
  rw [nthL_eq] at hf
  simp at hf
  obtain ⟨fd, hfd, h1, h2⟩ := hf
  exact ⟨fields, fd, hd, by simpa using hfd, h1, by rw [h2]; exact hC.tb _ _ hti⟩

def pFieldAddr (C : Ctx) (t f : Nat) (x : SV) : Option PR :=
  match fieldOf C t f with
  | some (o, ⟨_, _ + 1, _, _⟩) => match x with
    | .loc l off => some ⟨none, .loc l (off + o)⟩
    | .xptr q cs => some ⟨none, .xptr (q.add o) (dropL o cs)⟩
    | .elt l k i off => some ⟨none, .elt l k i (off + o)⟩
    | _ => none
  | _ => none

theorem add_plain (b o n : Nat) : (Addr.mk b o none).add n = ⟨b, o + n, none⟩ := by
  unfold Addr.add; split
  · rename_i h; subst h; rfl
  · rfl

theorem fieldAt_run {t f : Nat} {fields : Array Field} {fd : Field} {ti : TI} (hu : P.underlying t = some (.struct fields)) (hf : fields[f]? = some fd) (ht : mkTb P fd.type = some ti) (hs : ti.size ≠ 0) (q : Addr) :
    (Instr.fieldAt t (.pointer (some q)) f).run P w = .ok (.pointer (some (q.add fd.offset))) w := by
  obtain ⟨i, d, z, hi, hd, hz, rfl⟩ := ti_parts ht
  simp only at hs
  simp [Instr.fieldAt, run_underlying hu, hf, Instr.sureAddr, fieldPlace, sizeOf, typeInfo, hi, hs]

theorem pFieldAddr_run (hC : CtxOK P C) {t f : Nat} {x : SV} {y : Value} {r : PR} (h : pFieldAddr C t f x = some r) (hx : x.Rel β A y) :
    r.ob = none ∧ ∃ z, (Instr.fieldAt t y f).run P w = .ok z w ∧ r.sv.Rel β A z := by
  unfold pFieldAddr at h
  split at h <;> try (simp at h; done)
  rename_i o td _ by_ ze hf
  obtain ⟨fields, fd, h1, h2, h3, h4⟩ := fieldOf_spec hC hf
  have hrun := fun q => fieldAt_run (w := w) h1 h2 h4 (by simp) q
  rw [h3] at hrun
  split at h <;> try (simp at h; done)
  · rename_i l off
    simp at h; subst h
    simp only [SV.Rel] at hx ⊢
    obtain ⟨hl, rfl⟩ := hx
    exact ⟨trivial, _, hrun _, hl, by rw [add_plain]⟩
  · rename_i q cs
    simp at h; subst h
    simp only [SV.Rel] at hx ⊢
    obtain ⟨rfl, hr⟩ := hx
    refine ⟨trivial, _, hrun _, rfl, ?_⟩
    obtain ⟨qb, qo, qs⟩ := q
    obtain ⟨e1, e2, e3, e4⟩ := hr
    simp only at e1 e2 e3 e4
    subst e1
    rw [add_plain]
    refine ⟨rfl, e2, e3, fun j v hv => ?_⟩
    rw [dropL_eq, List.getElem?_drop] at hv
    have := e4 _ _ hv
    simp only
    rw [Nat.add_assoc]; exact this
  · rename_i l k i off
    simp at h; subst h
    simp only [SV.Rel] at hx ⊢
    obtain ⟨hl, hnl, rfl⟩ := hx
    exact ⟨trivial, _, hrun _, hl, hnl, by rw [add_plain, Nat.add_assoc]⟩

def pField (C : Ctx) (t f : Nat) (x : SV) : Option PR :=
  match fieldOf C t f with
  | some (o, ti) => match cellsOf x with
    | some cs => match takeL ti.size (dropL o cs) with
      | some c => match ofCells ti c with
        | some s => some ⟨none, s⟩
        | none => none
      | none => none
    | none => none
  | none => none

theorem cellsOf_rel {x : SV} {cs : List SV} {y : Value} (h : cellsOf x = some cs) (hx : x.Rel β A y) : RelL β A cs y.cells.toList ∧ ((∃ l, x = .agg l) ∨ (∃ l, x = .v (.agg l)) → ∃ ys : List Value, y = .agg ys.toArray ∧ y.cells.toList = ys) := by
  unfold cellsOf at h
  split at h
  · simp at h; subst h
    simp only [SV.Rel] at hx
    obtain ⟨ys, rfl, hr⟩ := hx
    exact ⟨by simpa [Value.cells] using hr, fun _ => ⟨ys, rfl, by simp [Value.cells]⟩⟩
  · simp at h
  · split at h
    · rename_i c
      simp at h; subst h
      simp only [SV.Rel] at hx; subst hx
      rw [mapV_eq]
      exact ⟨by simpa [Value.cells] using RelL.vs (β := β) (A := A) c.toList, fun _ => ⟨c.toList, by simp, by simp [Value.cells]⟩⟩
    · simp at h
    · rename_i x' hx1 hx2
      simp at h; subst h
      simp only [SV.Rel] at hx; subst hx
      have : y.cells = #[y] := by
        unfold Value.cells
        split
        · rename_i cs; exact absurd rfl (hx1 cs)
        · rfl
      refine ⟨by rw [this]; simp [RelL, SV.Rel], fun hh => ?_⟩
      rcases hh with ⟨l, hl⟩ | ⟨l, hl⟩
      · cases hl
      · simp at hl; exact absurd hl (hx1 l)
  · rename_i h1 h2 h3
    simp at h; subst h
    have hy : y.cells = #[y] := by
      cases x <;> simp only [SV.Rel] at hx
      case v z => exact absurd rfl (h3 z)
      case loc => obtain ⟨_, rfl⟩ := hx; rfl
      case ext => obtain ⟨rfl, _, _⟩ := hx; rfl
      case xptr => obtain ⟨rfl, _⟩ := hx; rfl
      case agg z => exact absurd rfl (h1 z)
      case tup z => exact absurd rfl (h2 z)
      case fn => obtain ⟨ys, rfl, _⟩ := hx; rfl
      case sl => obtain ⟨_, ⟨_, _, _, rfl⟩ | ⟨_, _, rfl⟩⟩ := hx <;> rfl
      case elt => obtain ⟨_, _, rfl⟩ := hx; rfl
    refine ⟨by rw [hy]; simp only [RelL]; exact ⟨y, [], rfl, hx, rfl⟩, fun hh => ?_⟩
    rcases hh with ⟨l, hl⟩ | ⟨l, hl⟩
    · exact absurd hl (h1 l)
    · exact absurd hl (h3 _)


theorem part_run {t : Nat} {ti : TI} (h : mkTb P t = some ti) (cs : Array Value) (o : Nat) (c : List Value) (hlen : c.length = ti.size) (h1 : (match ti.td with | .struct _ => true | .array _ _ => true | _ => false) = true ∨ ti.size = 1)
    (hc : c = (cs.toList.drop o).take ti.size) : (part t cs o).run P w = .ok (valOf ti c) w := by
  obtain ⟨i, d, z, hi, hd, hz, rfl⟩ := ti_parts h
  simp only at hlen hc
  by_cases ha : (match d with | .struct _ | .array _ _ => true | _ => false) = true
  · have : (isAgg t).run P w = .ok true w := by
      simp only [isAgg, Sem.run_bind, run_underlying hd, Result.andThen_ok]
      cases d <;> simp_all
    have he : cs.extract o (o + i.size) = c.toArray := by
      apply Array.ext'
      rw [Array.toList_extract, List.extract_eq_take_drop]
      simp [hc]
    simp only [part, Sem.run_bind, this, Result.andThen_ok, if_true, sizeOf, typeInfo, run_program, hi, Sem.run_pure, he]
    cases d <;> first | (simp at ha; done) | rfl
  · have : (isAgg t).run P w = .ok false w := by
      simp only [isAgg, Sem.run_bind, run_underlying hd, Result.andThen_ok]
      cases d <;> simp_all
    have h1' : c.length = 1 := by
      rcases h1 with h1 | h1
      · exfalso; apply ha; revert h1; simp only []; cases d <;> simp [tdOf]
      · rw [hlen]; exact h1
    obtain ⟨y, rfl⟩ : ∃ y, c = [y] := by
      cases c with
      | nil => simp at h1'
      | cons y r => cases r with
        | nil => exact ⟨y, rfl⟩
        | cons => simp at h1'
    have h0 : cs[o]? = some y := by
      have : ((cs.toList.drop o).take i.size)[0]? = some y := by rw [← hc]; rfl
      rw [List.getElem?_take] at this
      split at this
      · simpa using this
      · simp at this
    simp only [part, Sem.run_bind, this, Result.andThen_ok, Bool.false_eq_true, if_false, h0, Sem.run_pure]
    congr 1
    revert ha
    cases d <;> simp [tdOf, valOf]

theorem pField_run (hC : CtxOK P C) {t f : Nat} {x : SV} {y : Value} {r : PR} (h : pField C t f x = some r) (hx : x.Rel β A y) (hagg : ∃ ys : List Value, y = .agg ys.toArray) :
    r.ob = none ∧ ∃ z, (Instr.field t y f).run P w = .ok z w ∧ r.sv.Rel β A z := by
  unfold pField at h
  split at h <;> try (simp at h; done)
  rename_i o ti hf
  split at h <;> try (simp at h; done)
  rename_i cs hcs
  split at h <;> try (simp at h; done)
  rename_i c hc
  split at h <;> try (simp at h; done)
  rename_i s hs
  simp at h; subst h
  obtain ⟨fields, fd, h1, h2, h3, h4⟩ := fieldOf_spec hC hf
  obtain ⟨hr, _⟩ := cellsOf_rel hcs hx
  obtain ⟨e1, e2⟩ := takeL_eq hc
  rw [dropL_eq] at e1 e2
  have hcl : c.length = ti.size := by rw [e1]; simp only [List.length_take]; omega
  obtain ⟨ys, rfl⟩ := hagg
  simp only [Value.cells] at hr
  have hr' : RelL β A c ((ys.drop o).take ti.size) := by rw [e1]; exact (hr.drop o).take _
  have hyl := hr'.length
  refine ⟨rfl, valOf ti ((ys.drop o).take ti.size), ?_, ofCells_rel hs hr'⟩
  have hp := part_run (w := w) h4 ys.toArray o ((ys.drop o).take ti.size) (by rw [hyl]; exact hcl) (by
    rcases ofCells_one hs with hh | hh
    · exact .inl hh
    · right; omega) rfl
  simp [Instr.field, run_underlying h1, h2, asAgg, h3, hp]

def pIndexAddr (C : Ctx) (t : Nat) (x i : SV) : Option PR :=
  match C.tb t with
  | some ⟨.slice e, _, _, _⟩ => match C.tb e with
    | some ti => match x, i with
      | .ext a n _ k els, .v (.int _ z) => bif Nat.beq k ti.size then some ⟨some (0 ≤ z ∧ z < (n : Int)), .xptr ((a.getD ⟨0, 0, none⟩).add (z.toNat * k)) (els z.toNat)⟩ else none
      | .sl l k i0 n, .v (.int _ z) => bif Nat.beq k ti.size then some ⟨some (0 ≤ z ∧ z < (n : Int)), .elt l k (i0 + z.toNat) 0⟩ else none
      | _, _ => none
    | none => none
  | _ => none

theorem slice_ti (hC : CtxOK P C) {t e sz by_ : Nat} {ze : List Value} (ht : C.tb t = some ⟨.slice e, sz, by_, ze⟩) : P.underlying t = some (.slice e) := by
  obtain ⟨i, d, z, hi, hd, hz, he⟩ := ti_parts (hC.tb _ _ ht)
  simp only [TI.mk.injEq] at he
  obtain ⟨he1, _⟩ := he
  cases d <;> simp [tdOf] at he1
  subst he1; exact hd

theorem sizeOf_run {t : Nat} {ti : TI} (h : mkTb P t = some ti) : (sizeOf t).run P w = .ok ti.size w := by
  obtain ⟨i, d, z, hi, hd, hz, rfl⟩ := ti_parts h
  simp [sizeOf, typeInfo, hi]

theorem pIndexAddr_run (hC : CtxOK P C) {t : Nat} {x i : SV} {y iy : Value} {r : PR} (h : pIndexAddr C t x i = some r) (hx : x.Rel β A y) (hi : i.Rel β A iy) (hob : ∀ φ, r.ob = some φ → φ) :
    ∃ z, (Instr.indexAt t y iy).run P w = .ok z w ∧ r.sv.Rel β A z := by
  unfold pIndexAddr at h
  split at h <;> try (simp at h; done)
  rename_i e sz by_ ze ht
  have hu := slice_ti hC ht
  split at h <;> try (simp at h; done)
  rename_i ti hti
  have hsz := sizeOf_run (w := w) (hC.tb _ _ hti)
  split at h <;> try (simp at h; done)
  · rename_i a n c k els kz z
    cases hk : Nat.beq k ti.size with
    | false => rw [hk] at h; simp at h
    | true =>
      have hk' := Nat.eq_of_beq_eq_true hk
      rw [hk] at h; simp at h; subst h
      simp only [SV.Rel] at hx hi ⊢
      obtain ⟨rfl, _, hs⟩ := hx
      subst hi
      have hb := hob _ rfl
      obtain ⟨q, rfl, hr⟩ := hs z.toNat (by omega)
      refine ⟨_, ?_, rfl, by simpa using hr⟩
      simp [Instr.indexAt, asIntOf, run_underlying hu, hb.1, hb.2, hsz, hk']
  · rename_i l k i0 n kz z
    cases hk : Nat.beq k ti.size with
    | false => rw [hk] at h; simp at h
    | true =>
      have hk' := Nat.eq_of_beq_eq_true hk
      rw [hk] at h; simp at h; subst h
      simp only [SV.Rel] at hx hi ⊢
      subst hi
      have hb := hob _ rfl
      obtain ⟨hl, ⟨_, _, h0, _⟩ | ⟨hnl, hcap, rfl⟩⟩ := hx
      · omega
      refine ⟨_, ?_, hl, hnl, rfl⟩
      simp [Instr.indexAt, asIntOf, run_underlying hu, hb.1, hb.2, hsz, ← hk', add_plain, Nat.add_mul]

/-- bounds of a slice expression: (low, high, max), and what is owed -/
def bndsOf (n c : Nat) (lo hi mx : Option SV) : Option (Nat × Nat × Nat × Prop) :=
  match lo, hi, mx with
  | none, none, none => some (0, n, c, True)
  | some (.v (.int _ l)), none, none => some (l.toNat, n, c, 0 ≤ l ∧ l ≤ (n : Int))
  | none, some (.v (.int _ h)), none => some (0, h.toNat, c, 0 ≤ h ∧ h ≤ (c : Int))
  | some (.v (.int _ l)), some (.v (.int _ h)), none => some (l.toNat, h.toNat, c, 0 ≤ l ∧ l ≤ h ∧ h ≤ (c : Int))
  | none, some (.v (.int _ h)), some (.v (.int _ m)) => some (0, h.toNat, m.toNat, 0 ≤ h ∧ h ≤ m ∧ m ≤ (c : Int))
  | some (.v (.int _ l)), some (.v (.int _ h)), some (.v (.int _ m)) => some (l.toNat, h.toNat, m.toNat, 0 ≤ l ∧ l ≤ h ∧ h ≤ m ∧ m ≤ (c : Int))
  | _, _, _ => none

def relO (β : Lay) (A : Anc) : Option SV → Option Value → Prop
  | none, y => y = none
  | some s, y => ∃ v, y = some v ∧ s.Rel β A v

theorem bndsOf_run {n c : Nat} {lo hi mx : Option SV} {l h m : Nat} {φ : Prop} {vl vh vm : Option Value} (hb : bndsOf n c lo hi mx = some (l, h, m, φ)) (hnc : n ≤ c) (hφ : φ)
    (h1 : relO β A lo vl) (h2 : relO β A hi vh) (h3 : relO β A mx vm) :
    (Instr.sliceBounds true n c vl vh vm).run P w = .ok (l, h, m) w ∧ l ≤ h ∧ h ≤ m ∧ m ≤ c := by
  unfold bndsOf at hb
  split at hb <;> try (simp at hb; done)
  all_goals
    simp only [Option.some.injEq, Prod.mk.injEq] at hb
    obtain ⟨rfl, rfl, rfl, rfl⟩ := hb
    simp only [relO, SV.Rel] at h1 h2 h3
    first | subst h1 | (obtain ⟨_, rfl, rfl⟩ := h1)
    first | subst h2 | (obtain ⟨_, rfl, rfl⟩ := h2)
    first | subst h3 | (obtain ⟨_, rfl, rfl⟩ := h3)
  · exact ⟨by simp [Instr.sliceBounds], by omega, hnc, Nat.le_refl _⟩
  · obtain ⟨a1, a2⟩ := hφ
    exact ⟨by simp [Instr.sliceBounds, Instr.sliceBound, asIntOf, a1, a2], by omega, hnc, Nat.le_refl _⟩
  · obtain ⟨a1, a2⟩ := hφ
    exact ⟨by simp [Instr.sliceBounds, Instr.sliceBound, asIntOf, a1, a2], by omega, by omega, Nat.le_refl _⟩
  · obtain ⟨a1, a2, a3⟩ := hφ
    have a4 : (0 : Int) ≤ _ := Int.le_trans a1 a2
    exact ⟨by simp [Instr.sliceBounds, Instr.sliceBound, asIntOf, a1, a2, a3, a4, Int.max_eq_left a4], by omega, by omega, Nat.le_refl _⟩
  · obtain ⟨a1, a2, a3⟩ := hφ
    have a4 : (0 : Int) ≤ _ := Int.le_trans a1 a2
    exact ⟨by simp [Instr.sliceBounds, Instr.sliceBound, asIntOf, a1, a2, a3, a4, Int.max_eq_left a4], by omega, by omega, by omega⟩
  · obtain ⟨a1, a2, a3, a5⟩ := hφ
    have a4 : (0 : Int) ≤ _ := Int.le_trans a1 a2
    have a6 : (0 : Int) ≤ _ := Int.le_trans a4 a3
    exact ⟨by simp [Instr.sliceBounds, Instr.sliceBound, asIntOf, a1, a2, a3, a4, a5, a6, Int.max_eq_left a4, Int.max_eq_left a6], by omega, by omega, by omega⟩


def pSlice (C : Ctx) (t : Nat) (x : SV) (lo hi mx : Option SV) : Option PR :=
  match C.tb t with
  | some ⟨.slice e, _, _, _⟩ => match C.tb e with
    | some ti => match x with
      | .ext a n c k els => bif Nat.beq k ti.size then
          match bndsOf n c lo hi mx with
          | some (l, h, m, φ) => some ⟨some (φ ∧ h ≤ n), .ext (if m = l then a else a.map (·.add (l * k))) (h - l) (m - l) k (fun j => els (l + j))⟩
          | none => none
        else none
      | .sl sl k i n => bif Nat.beq k ti.size then
          match mx with
          | none => match bndsOf n n lo hi none with
            | some (l, h, _, φ) => some ⟨some (φ ∧ (l = 0 ∨ l < n)), .sl sl k (i + l) (h - l)⟩
            | none => none
          | some _ => none
        else none
      | .v (.slice none 0 0) => match mx with
          | none => match bndsOf 0 0 lo hi none with
            | some (_, _, _, φ) => some ⟨some φ, .v (.slice none 0 0)⟩
            | none => none
          | some _ => none
      | _ => none
    | none => none
  | _ => none

theorem add_add (q : Addr) (x y : Nat) : (q.add x).add y = q.add (x + y) := by
  obtain ⟨b, o, s⟩ := q
  unfold Addr.add
  by_cases hx : x = 0
  · subst hx; simp
  · by_cases hy : y = 0
    · subst hy; simp [hx]
    · simp [hx, hy]; omega

theorem bndsOf_cap {n c : Nat} {lo hi : Option SV} {l h m : Nat} {φ : Prop} (hb : bndsOf n n lo hi none = some (l, h, m, φ)) (hnc : n ≤ c) (hφ : φ) : h ≤ n ∧ l ≤ h ∧ ∃ φ', φ' ∧ bndsOf n c lo hi none = some (l, h, c, φ') := by
  unfold bndsOf at hb ⊢
  split at hb <;> try (simp at hb; done)
  all_goals
    simp only [Option.some.injEq, Prod.mk.injEq] at hb
    obtain ⟨rfl, rfl, rfl, rfl⟩ := hb
  · exact ⟨by omega, by omega, True, trivial, rfl⟩
  · exact ⟨by omega, by omega, _, hφ, rfl⟩
  · exact ⟨by omega, by omega, _, ⟨hφ.1, by omega⟩, rfl⟩
  · exact ⟨by omega, by omega, _, ⟨hφ.1, hφ.2.1, by omega⟩, rfl⟩
  · rename_i heq; cases heq
  · rename_i heq; cases heq

theorem pSlice_run (hC : CtxOK P C) {t : Nat} {x : SV} {lo hi mx : Option SV} {y : Value} {vl vh vm : Option Value} {r : PR} (h : pSlice C t x lo hi mx = some r) (hx : x.Rel β A y)
    (h1 : relO β A lo vl) (h2 : relO β A hi vh) (h3 : relO β A mx vm) (hob : ∀ φ, r.ob = some φ → φ) :
    ∃ z, (Instr.sliceAt t y vl vh vm).run P w = .ok z w ∧ r.sv.Rel β A z := by
  unfold pSlice at h
  split at h <;> try (simp at h; done)
  rename_i e sz by_ ze ht
  have hu := slice_ti hC ht
  split at h <;> try (simp at h; done)
  rename_i ti hti
  have hsz := sizeOf_run (w := w) (hC.tb _ _ hti)
  split at h <;> try (simp at h; done)
  rotate_left
  rotate_left
  · split at h <;> try (simp at h; done)
    split at h <;> try (simp at h; done)
    rename_i l hh m φ hb
    simp at h; subst h
    have hφ := hob _ rfl
    simp only [relO] at h3
    subst h3
    simp only [SV.Rel] at hx ⊢
    subst hx
    obtain ⟨g1, g2, φ', g3, g4⟩ := bndsOf_cap (c := 0) hb (Nat.le_refl _) hφ
    obtain ⟨hrun, b1, b2, b3⟩ := bndsOf_run (w := w) (P := P) (vm := none) g4 (Nat.le_refl _) g3 h1 h2 rfl
    have e1 : hh = 0 := by omega
    have e2 : l = 0 := by omega
    subst e1; subst e2
    exact ⟨_, by simp [Instr.sliceAt, Instr.slice, run_underlying hu, hrun, hsz], rfl⟩
  rotate_left
  · rename_i sl k i n
    cases hk : Nat.beq k ti.size with
    | false => rw [hk] at h; simp at h
    | true =>
      have hk' := Nat.eq_of_beq_eq_true hk
      rw [hk] at h; simp only [cond_true] at h
      split at h <;> try (simp at h; done)
      rename_i hm
      split at h <;> try (simp at h; done)
      rename_i l hh m φ hb
      simp at h; subst h
      obtain ⟨hφ, hln⟩ := hob _ rfl
      simp only [relO] at h3
      subst h3
      simp only [SV.Rel] at hx ⊢
      obtain ⟨hl, ⟨hnl, rfl, rfl, rfl⟩ | ⟨hnl, hcap, rfl⟩⟩ := hx
      · obtain ⟨g1, g2, φ', g3, g4⟩ := bndsOf_cap (c := 0) hb (Nat.le_refl _) hφ
        obtain ⟨hrun, b1, b2, b3⟩ := bndsOf_run (w := w) (P := P) (vm := none) g4 (Nat.le_refl _) g3 h1 h2 rfl
        refine ⟨_, ?_, hl, .inl ⟨hnl, by omega, by omega, rfl⟩⟩
        have e1 : hh = 0 := by omega
        have e2 : l = 0 := by omega
        subst e1; subst e2
        simp [Instr.sliceAt, Instr.slice, run_underlying hu, hrun, hsz]
      · obtain ⟨g1, g2, φ', g3, g4⟩ := bndsOf_cap (c := (β.at_ sl).cap - i) hb (by omega) hφ
        obtain ⟨hrun, b1, b2, b3⟩ := bndsOf_run (w := w) (P := P) (vm := none) g4 (by omega) g3 h1 h2 rfl
        refine ⟨_, ?_, hl, .inr ⟨hnl, by omega, rfl⟩⟩
        simp [Instr.sliceAt, Instr.slice, run_underlying hu, hrun, hsz, hk']
        refine ⟨?_, by omega⟩
        rcases hln with rfl | hln
        · simp [Addr.add]
        · rw [if_neg (by omega), add_plain, Nat.add_mul]
  rename_i a n c k els
  cases hk : Nat.beq k ti.size with
  | false => rw [hk] at h; simp at h
  | true =>
    have hk' := Nat.eq_of_beq_eq_true hk
    rw [hk] at h; simp only [cond_true] at h
    split at h <;> try (simp at h; done)
    rename_i l hh m φ hb
    simp at h; subst h
    simp only [SV.Rel] at hx ⊢
    obtain ⟨rfl, hnc, hs⟩ := hx
    obtain ⟨hφ, hhn⟩ := hob _ rfl
    obtain ⟨hrun, b1, b2, b3⟩ := bndsOf_run (w := w) (P := P) hb hnc hφ h1 h2 h3
    refine ⟨_, ?_, rfl, by omega, fun j hj => ?_⟩
    · simp [Instr.sliceAt, Instr.slice, run_underlying hu, hrun, hsz, hk']
    · rw [if_neg (by omega)]
      obtain ⟨q, rfl, hr⟩ := hs (l + j) (by omega)
      exact ⟨q.add (l * k), rfl, by rw [add_add, ← Nat.add_mul]; exact hr⟩

end
end Go.Eng
end

section
/-! The engine, part E: comparisons, small operations, and all of them in one. -/
namespace Go.Eng
section
variable {P : Program} {C : Ctx} {β : Lay} {A : Anc} {env : Env} {hp : List Chunk} {w : World} {a : Act} {p : List (Nat × Bool)}

def rawL : List SV → Option (List Value)
  | [] => some []
  | .v x :: r => match rawL r with
    | some t => some (x :: t)
    | none => none
  | _ => none

theorem rawL_rel : ∀ {cs : List SV} {xs ys : List Value}, rawL cs = some xs → RelL β A cs ys → ys = xs
  | [], xs, ys, h, hr => by simp [rawL] at h; simp only [RelL] at hr; rw [hr]; exact h.symm ▸ rfl
  | .v x :: r, xs, ys, h, hr => by
    simp only [rawL] at h
    split at h
    · rename_i t ht
      simp at h; subst h
      simp only [RelL, SV.Rel] at hr
      obtain ⟨y, u, rfl, rfl, h3⟩ := hr
      rw [rawL_rel ht h3]
    · simp at h
  | .loc _ _ :: _, _, _, h, _ => by simp [rawL] at h
  | .ext _ _ _ _ _ :: _, _, _, h, _ => by simp [rawL] at h
  | .xptr _ _ :: _, _, _, h, _ => by simp [rawL] at h
  | .agg _ :: _, _, _, h, _ => by simp [rawL] at h
  | .tup _ :: _, _, _, h, _ => by simp [rawL] at h
  | .fn _ _ :: _, _, _, h, _ => by simp [rawL] at h
  | .sl _ _ _ _ :: _, _, _, h, _ => by simp [rawL] at h
  | .elt _ _ _ _ :: _, _, _, h, _ => by simp [rawL] at h

def kindsB : List CK → List Value → Bool
  | [], [] => true
  | .int k :: r, .int k' _ :: t => eqK k k' && kindsB r t
  | .str :: r, .string _ :: t => kindsB r t
  | .bool :: r, .bool _ :: t => kindsB r t
  | _, _ => false

theorem kindsB_ok : ∀ {ks : List CK} {xs : List Value}, kindsB ks xs = true → kindsOK ks xs
  | [], [], _ => rfl
  | .int k :: r, .int k' n :: t, h => by
    simp only [kindsB, Bool.and_eq_true] at h
    have := eqK_eq h.1; subst this
    exact ⟨n, t, rfl, kindsB_ok h.2⟩
  | .str :: r, .string n :: t, h => ⟨n, t, rfl, kindsB_ok (by simpa [kindsB] using h)⟩
  | .bool :: r, .bool n :: t, h => ⟨n, t, rfl, kindsB_ok (by simpa [kindsB] using h)⟩

/-- '==' on whatever is no number and no text: (equal?) -/
def eqSV (C : Ctx) (t : Nat) : SV → SV → Option Bool
  | .loc _ _, .v (.pointer none) => some false
  | .xptr _ _, .v (.pointer none) => some false
  | .elt _ _ _ _, .v (.pointer none) => some false
  | .v (.pointer none), .loc _ _ => some false
  | .v (.pointer none), .xptr _ _ => some false
  | .v (.pointer none), .elt _ _ _ _ => some false
  | .v (.pointer q), .v (.pointer none) => some q.isNone
  | .v (.bool x), .v (.bool y) => some (x == y)
  | .agg cs, .agg ds => match C.eqT t, rawL cs, rawL ds with
    | some ks, some xs, some ys => bif kindsB ks xs && kindsB ks ys then some (cellsB xs ys) else none
    | _, _, _ => none
  | .agg cs, .v (.agg ds) => match C.eqT t, rawL cs with
    | some ks, some xs => bif kindsB ks xs && kindsB ks ds.toList then some (cellsB xs ds.toList) else none
    | _, _ => none
  | .v (.agg cs), .agg ds => match C.eqT t, rawL ds with
    | some ks, some ys => bif kindsB ks cs.toList && kindsB ks ys then some (cellsB cs.toList ys) else none
    | _, _ => none
  | .v (.agg cs), .v (.agg ds) => match C.eqT t with
    | some ks => bif kindsB ks cs.toList && kindsB ks ds.toList then some (cellsB cs.toList ds.toList) else none
    | _ => none
  | .ext q _ _ _ _, .v (.slice none _ _) => some q.isNone
  | .v (.slice q _ _), .v (.slice none _ _) => some q.isNone
  | .fn _ _, .v .nilFunc => some false
  | .v .nilFunc, .v .nilFunc => some true
  | .v (.iface _ _), .v .nilIface => some false
  | _, _ => none

/-- the kind of the type, as it must be for a comparison -/
def eqTd : TD → SV → Bool
  | .ptr, .v (.pointer _) => true
  | .ptr, .loc _ _ => true
  | .ptr, .xptr _ _ => true
  | .ptr, .elt _ _ _ _ => true
  | .bool, .v (.bool _) => true
  | .struct _, .agg _ => true
  | .struct _, .v (.agg _) => true
  | .slice _, .ext _ _ _ _ _ => true
  | .slice _, .sl _ _ _ _ => true
  | .slice _, .v (.slice _ _ _) => true
  | .func, .fn _ _ => true
  | .func, .v .nilFunc => true
  | .iface, .v (.iface _ _) => true
  | _, _ => false

def pBin (C : Ctx) (op : BinOp) (t : Nat) (x y : SV) : Option PR :=
  match op, x, y with
  | .quo, .v (.int k a), .v (.int k' b) => bif eqK k k' then some ⟨some (b ≠ 0), .v (.int k (k.wrap (a.tdiv b)))⟩ else none
  | .rem, .v (.int k a), .v (.int k' b) => bif eqK k k' then some ⟨some (b ≠ 0), .v (.int k (a.tmod b))⟩ else none
  | op, .v (.int k a), .v (.int k' b) => match binV op (.int k a) (.int k' b) with
    | some r => some ⟨none, .v r⟩
    | none => none
  | op, .v (.string a), .v (.string b) => match binV op (.string a) (.string b) with
    | some r => some ⟨none, .v r⟩
    | none => none
  | .eql, x, y => match C.tb t with
    | some ti => bif eqTd ti.td x then
        match eqSV C t x y with
        | some b => some ⟨none, .v (.bool b)⟩
        | none => none
      else none
    | none => none
  | .neq, x, y => match C.tb t with
    | some ti => bif eqTd ti.td x then
        match eqSV C t x y with
        | some b => some ⟨none, .v (.bool (!b))⟩
        | none => none
      else none
    | none => none
  | _, _, _ => none


theorem tdOf_ptr {d : TypeDesc} (h : tdOf d = .ptr) : ∃ e, d = .pointer e := by cases d <;> simp [tdOf] at h; exact ⟨_, rfl⟩
theorem tdOf_bool {d : TypeDesc} (h : tdOf d = .bool) : d = .bool := by cases d <;> simp [tdOf] at h; rfl
theorem tdOf_slice {d : TypeDesc} {e : Nat} (h : tdOf d = .slice e) : d = .slice e := by cases d <;> simp [tdOf] at h; rw [h]
theorem tdOf_func {d : TypeDesc} (h : tdOf d = .func) : ∃ x y z, d = .func x y z := by cases d <;> simp [tdOf] at h; exact ⟨_, _, _, rfl⟩
theorem tdOf_iface {d : TypeDesc} (h : tdOf d = .iface) : ∃ x, d = .interface x := by cases d <;> simp [tdOf] at h; exact ⟨_, rfl⟩

/-- one comparison -/
def Eqs (P : Program) (w : World) (t : Nat) (x y : Operand) (a b : Value) (r : Bool) : Prop :=
  (do eqGuard .eql t x y a b; binOp .eql t a b : Sem Value).run P w = .ok (.bool r) w ∧ (do eqGuard .neq t x y a b; binOp .neq t a b : Sem Value).run P w = .ok (.bool (!r)) w

theorem eqs_of {t : Nat} {x y : Operand} {a b : Value} {r : Bool} (hg1 : (eqGuard .eql t x y a b).run P w = .ok () w) (hg2 : (eqGuard .neq t x y a b).run P w = .ok () w)
    (hb1 : binOp .eql t a b = (do pure (.bool (← Op.equal t a b)) : Sem Value)) (hb2 : binOp .neq t a b = (do pure (.bool (!(← Op.equal t a b))) : Sem Value))
    (he : ∀ n, (Op.equalIn (n + 1) t a b).run P w = .ok r w) : Eqs P w t x y a b r := by
  have he' : (Op.equal t a b).run P w = .ok r w := he 9999
  constructor
  · simp only [Sem.run_bind, hg1, Result.andThen_ok, hb1, he', Sem.run_pure]
  · simp only [Sem.run_bind, hg2, Result.andThen_ok, hb2, he', Sem.run_pure]

theorem eqs_ptr {t e : Nat} {x y : Operand} (hu : P.underlying t = some (.pointer e)) (q : Option Addr) : Eqs P w t x y (.pointer q) (.pointer none) q.isNone :=
  eqs_of rfl rfl rfl rfl (fun _ => by cases q <;> simp [Op.equalIn, run_underlying hu])
theorem eqs_ptr' {t e : Nat} {x y : Operand} (hu : P.underlying t = some (.pointer e)) (q : Option Addr) : Eqs P w t x y (.pointer none) (.pointer q) q.isNone :=
  eqs_of rfl rfl rfl rfl (fun _ => by simp [Op.equalIn, run_underlying hu])
theorem eqs_bool {t : Nat} {x y : Operand} (hu : P.underlying t = some .bool) (a b : Bool) : Eqs P w t x y (.bool a) (.bool b) (a == b) :=
  eqs_of rfl rfl rfl rfl (fun _ => by simp [Op.equalIn, run_underlying hu])
theorem eqs_slice {t e : Nat} {x y : Operand} (hu : P.underlying t = some (.slice e)) (q : Option Addr) (n c n' c' : Nat) : Eqs P w t x y (.slice q n c) (.slice none n' c') q.isNone :=
  eqs_of rfl rfl rfl rfl (fun _ => by cases q <;> simp [Op.equalIn, run_underlying hu])
theorem eqs_func {t : Nat} {x y : Operand} {k l : Array Nat} {v : Bool} (hu : P.underlying t = some (.func k l v)) (f : Fn) (c d : Array Value) : Eqs P w t x y (.func f c d) .nilFunc false :=
  eqs_of rfl rfl rfl rfl (fun _ => by simp [Op.equalIn, run_underlying hu])
theorem eqs_func' {t : Nat} {x y : Operand} {k l : Array Nat} {v : Bool} (hu : P.underlying t = some (.func k l v)) : Eqs P w t x y .nilFunc .nilFunc true :=
  eqs_of rfl rfl rfl rfl (fun _ => by simp [Op.equalIn, run_underlying hu])
theorem eqs_iface {t : Nat} {x y : Operand} {k : Array (String × Nat)} (hu : P.underlying t = some (.interface k)) (u : Nat) (v : Value) : Eqs P w t x y (.iface u v) .nilIface false :=
  eqs_of rfl rfl rfl rfl (fun _ => by simp [Op.equalIn, run_underlying hu])

theorem eqSV_run (hC : CtxOK P C) {t : Nat} {ti : TI} {sx sy : SV} {x y : Operand} {vx vy : Value} {r : Bool} (ht : C.tb t = some ti) (htd : eqTd ti.td sx = true) (h : eqSV C t sx sy = some r)
    (hx : sx.Rel β A vx) (hy : sy.Rel β A vy) : Eqs P w t x y vx vy r := by
  obtain ⟨i, d, z, hi, hd, hz, hti⟩ := ti_parts (hC.tb _ _ ht)
  have hd' : ti.td = tdOf d := by rw [hti]
  rw [hd'] at htd
  clear hti hd'
  have agg : ∀ (ks : List CK) (xs ys : List Value), C.eqT t = some ks → (kindsB ks xs && kindsB ks ys) = true → Eqs P w t x y (.agg xs.toArray) (.agg ys.toArray) (cellsB xs ys) := fun ks xs ys hk hb => by
    simp only [Bool.and_eq_true] at hb
    exact hC.eqT t ks hk xs ys x y w (kindsB_ok hb.1) (kindsB_ok hb.2)
  unfold eqSV at h
  split at h
  all_goals try (simp at h; done)
  all_goals simp only [SV.Rel] at hx hy
  all_goals try (unfold eqTd at htd; split at htd <;> try (simp at htd; done))
  all_goals rename_i e1 e2
  all_goals try (cases e2; done)
  all_goals try
    (cases e2
     obtain ⟨e, rfl⟩ := tdOf_ptr e1
     simp at h
     subst h
     first
       | (obtain ⟨_, rfl⟩ := hx; subst hy; exact eqs_ptr hd _)
       | (subst hx; obtain ⟨_, rfl⟩ := hy; exact eqs_ptr' hd _)
       | (obtain ⟨_, _, rfl⟩ := hx; subst hy; exact eqs_ptr hd _)
       | (subst hx; obtain ⟨_, _, rfl⟩ := hy; exact eqs_ptr' hd _)
       | (obtain ⟨rfl, _⟩ := hx; subst hy; exact eqs_ptr hd _)
       | (subst hx; obtain ⟨rfl, _⟩ := hy; exact eqs_ptr' hd _)
       | (subst hx; subst hy; exact eqs_ptr hd _)
     done)
  all_goals try
    (cases e2
     have := tdOf_bool e1; subst this
     simp at h; subst h; subst hx; subst hy
     exact eqs_bool hd _ _
     done)
  all_goals try
    (cases e2
     have := tdOf_slice e1; subst this
     simp at h
     subst h
     first
       | (obtain ⟨rfl, _⟩ := hx; subst hy; exact eqs_slice hd _ _ _ _ _)
       | (obtain ⟨_, rfl⟩ := hx; subst hy; exact eqs_slice hd _ _ _ _ _)
       | (subst hx; subst hy; exact eqs_slice hd _ _ _ _ _)
     done)
  all_goals try
    (cases e2
     obtain ⟨_, _, _, rfl⟩ := tdOf_func e1
     simp at h
     subst h
     first
       | (obtain ⟨_, rfl, _⟩ := hx; subst hy; exact eqs_func hd _ _ _)
       | (subst hx; subst hy; exact eqs_func' hd)
     done)
  all_goals try
    (cases e2
     obtain ⟨_, rfl⟩ := tdOf_iface e1
     simp at h
     subst h
     subst hx; subst hy; exact eqs_iface hd _ _
     done)
  all_goals
    cases e2
    split at h <;> try (simp at h; done)
    generalize hq : (kindsB _ _ && kindsB _ _) = q at h
    cases q <;> simp at h
    subst h
  · rename_i ks xs ys hk h1 h2
    obtain ⟨us, rfl, hr1⟩ := hx
    obtain ⟨vs, rfl, hr2⟩ := hy
    have e1 := rawL_rel h1 hr1
    have e2 := rawL_rel h2 hr2
    subst e1; subst e2
    exact agg _ _ _ hk hq
  · rename_i ks xs hk h1
    obtain ⟨us, rfl, hr1⟩ := hx
    subst hy
    have e1 := rawL_rel h1 hr1
    subst e1
    have := agg _ _ _ hk hq
    simpa using this
  · rename_i ks xs hk h1
    obtain ⟨us, rfl, hr1⟩ := hy
    subst hx
    have e1 := rawL_rel h1 hr1
    subst e1
    have := agg _ _ _ hk hq
    simpa using this
  · rename_i ks hk
    subst hx; subst hy
    have := agg _ _ _ hk hq
    simpa using this

theorem pBin_run (hC : CtxOK P C) {op : BinOp} {t : Nat} {sx sy : SV} {x y : Operand} {vx vy : Value} {r : PR} (h : pBin C op t sx sy = some r) (hx : sx.Rel β A vx) (hy : sy.Rel β A vy) (hob : ∀ φ, r.ob = some φ → φ) :
    ∃ z, (do eqGuard op t x y vx vy; binOp op t vx vy : Sem Value).run P w = .ok z w ∧ r.sv.Rel β A z := by
  unfold pBin at h
  split at h <;> try (simp at h; done)
  · rename_i k a k' b
    cases hk : eqK k k' with
    | false => rw [hk] at h; simp at h
    | true =>
      have := eqK_eq hk; subst this
      rw [hk] at h; simp at h; subst h
      simp only [SV.Rel] at hx hy; subst hx; subst hy
      have hb := hob _ rfl
      exact ⟨_, by simp [eqGuard, binOp, Op.intDiv, hb], rfl⟩
  · rename_i k a k' b
    cases hk : eqK k k' with
    | false => rw [hk] at h; simp at h
    | true =>
      have := eqK_eq hk; subst this
      rw [hk] at h; simp at h; subst h
      simp only [SV.Rel] at hx hy; subst hx; subst hy
      have hb := hob _ rfl
      exact ⟨_, by simp [eqGuard, binOp, Op.intDiv, hb], rfl⟩
  · split at h <;> try (simp at h; done)
    rename_i z hz
    simp at h; subst h
    simp only [SV.Rel] at hx hy; subst hx; subst hy
    exact ⟨_, binV_run hz, rfl⟩
  · split at h <;> try (simp at h; done)
    rename_i z hz
    simp at h; subst h
    simp only [SV.Rel] at hx hy; subst hx; subst hy
    exact ⟨_, binV_run hz, rfl⟩
  · split at h <;> try (simp at h; done)
    rename_i ti ht
    cases htd : eqTd ti.td sx with
    | false => rw [htd] at h; simp at h
    | true =>
      rw [htd] at h; simp only [cond_true] at h
      split at h <;> try (simp at h; done)
      rename_i b hb
      simp at h; subst h
      exact ⟨_, (eqSV_run hC ht htd hb hx hy).1, rfl⟩
  · split at h <;> try (simp at h; done)
    rename_i ti ht
    cases htd : eqTd ti.td sx with
    | false => rw [htd] at h; simp at h
    | true =>
      rw [htd] at h; simp only [cond_true] at h
      split at h <;> try (simp at h; done)
      rename_i b hb
      simp at h; subst h
      exact ⟨_, (eqSV_run hC ht htd hb hx hy).2, rfl⟩

end
end Go.Eng
end

section
/-! The engine, part F: building, taking apart; all operations that only reckon. -/
namespace Go.Eng
section
variable {P : Program} {C : Ctx} {β : Lay} {A : Anc} {env : Env} {hp : List Chunk} {w : World} {a : Act} {p : List (Nat × Bool)}

/-- fills parts into cells -/
def buildL (C : Ctx) (t : Nat) : List (Nat × SV) → List SV → Option (List SV)
  | [], cells => some cells
  | (i, s) :: r, cells => match fieldOf C t i with
    | some (o, ti) => match cellsOf s with
      | some cs => bif Nat.beq cs.length ti.size then
          match splL o cs cells with
          | some cells' => buildL C t r cells'
          | none => none
        else none
      | none => none
    | none => none

theorem splL_succ {α : Type} (n : Nat) (cs : List α) (z : α) (r : List α) : splL (n + 1) cs (z :: r) = (splL n cs r).map (z :: ·) := by
  cases cs <;> simp only [splL] <;> cases splL n _ r <;> rfl

theorem splL_rel {β : Lay} {A : Anc} : ∀ {n : Nat} {cs l l' : List SV} {xs ys : List Value}, splL n cs l = some l' → RelL β A cs xs → RelL β A l ys →
    n + xs.length ≤ ys.length ∧ RelL β A l' (ys.take n ++ xs ++ ys.drop (n + xs.length))
  | 0, [], l, l', xs, ys, h, hx, hy => by
    simp [splL] at h; subst h
    simp only [RelL] at hx; subst hx
    simpa using hy
  | 0, x :: xs', [], l', xs, ys, h, hx, hy => by simp [splL] at h
  | 0, x :: xs', z :: r, l', xs, ys, h, hx, hy => by
    simp only [splL] at h
    split at h <;> try (simp at h; done)
    rename_i t ht
    simp at h; subst h
    simp only [RelL] at hx hy
    obtain ⟨u, us, rfl, hu, hus⟩ := hx
    obtain ⟨v, vs, rfl, hv, hvs⟩ := hy
    obtain ⟨h1, h2⟩ := splL_rel ht hus hvs
    refine ⟨by simp at h1 ⊢; omega, ?_⟩
    simp only [List.take_zero, List.nil_append, List.length_cons, Nat.zero_add, List.cons_append, List.drop_succ_cons, RelL]
    exact ⟨u, _, rfl, hu, by simpa using h2⟩
  | n + 1, cs, [], l', xs, ys, h, hx, hy => by cases cs <;> simp [splL] at h
  | n + 1, cs, z :: r, l', xs, ys, h, hx, hy => by
    rw [splL_succ] at h
    obtain ⟨t, ht, rfl⟩ := Option.map_eq_some_iff.1 h
    simp only [RelL] at hy
    obtain ⟨v, vs, rfl, hv, hvs⟩ := hy
    obtain ⟨h1, h2⟩ := splL_rel ht hx hvs
    refine ⟨by simp at h1 ⊢; omega, ?_⟩
    rw [show n + 1 + xs.length = (n + xs.length) + 1 by omega]
    simp only [List.take_succ_cons, List.cons_append, List.drop_succ_cons, RelL]
    exact ⟨v, _, rfl, hv, h2⟩

theorem foldl_set (vs : List Value) (o k : Nat) (cells : Array Value) (h : o + k + vs.length ≤ cells.size) :
    ((vs.zipIdx k).foldl (fun cs (c : Value × Nat) => cs.setIfInBounds (o + c.2) c.1) cells).toList = cells.toList.take (o + k) ++ vs ++ cells.toList.drop (o + k + vs.length) := by
  induction vs generalizing k cells with
  | nil => simp
  | cons v r ih =>
    simp only [List.zipIdx_cons, List.foldl_cons]
    have hl : o + k < cells.size := by simp at h; omega
    rw [ih (k + 1) (cells.setIfInBounds (o + k) v) (by simp at h ⊢; omega)]
    apply List.ext_getElem?
    intro j
    simp only [Array.toList_setIfInBounds]
    have e1 : ((cells.toList.set (o + k) v).take (o + (k + 1))) = cells.toList.take (o + k) ++ [v] := by
      apply List.ext_getElem?
      intro i
      by_cases hi : i < o + k
      · rw [List.getElem?_take_of_lt (by omega), List.getElem?_set_ne (by omega), List.getElem?_append_left (by simp; omega), List.getElem?_take_of_lt hi]
      · by_cases hi2 : i = o + k
        · subst hi2
          rw [List.getElem?_take_of_lt (by omega), List.getElem?_set_self (by simpa using hl), List.getElem?_append_right (by simp; omega)]
          have : o + k - (List.take (o + k) cells.toList).length = 0 := by simp; omega
          rw [this]; rfl
        · rw [List.getElem?_eq_none (by simp; omega), List.getElem?_eq_none (by simp; omega)]
    have e2 : (cells.toList.set (o + k) v).drop (o + (k + 1) + r.length) = cells.toList.drop (o + k + (v :: r).length) := by
      rw [List.drop_set_of_lt (by omega)]
      congr 1
      simp; omega
    rw [e1, e2]
    simp


theorem buildL_run (hC : CtxOK P C) {t : Nat} {fields : Array Field} (hu : P.underlying t = some (.struct fields)) :
    ∀ {parts : List (Nat × SV)} {cells out : List SV} {vs : List (Nat × Value)} {ys : List Value} (pl : Array (Nat × Nat)), buildL C t parts cells = some out →
      vs.length = parts.length → (∀ (j : Nat) (i : Nat) (s : SV), parts[j]? = some (i, s) → ∃ v, vs[j]? = some (i, v) ∧ s.Rel β A v) → RelL β A cells ys →
      (∀ (f : Nat) (fd : Field) (ti : TI), fields[f]? = some fd → mkTb P fd.type = some ti → pl[f]? = some (fd.offset, ti.size)) →
      ∃ zs : List Value, Instr.fill (pl[·]?) ys.toArray vs = some zs.toArray ∧ RelL β A out zs
  | [], cells, out, vs, ys, pl, h, hl, _, hy, _ => by
    simp [buildL] at h; subst h
    have : vs = [] := by simpa using hl
    subst this
    exact ⟨ys, rfl, hy⟩
  | (i, s) :: r, cells, out, vs, ys, pl, h, hl, hp, hy, hpl => by
    simp only [buildL] at h
    split at h <;> try (simp at h; done)
    rename_i o ti hf
    split at h <;> try (simp at h; done)
    rename_i cs hcs
    cases hb : Nat.beq cs.length ti.size with
    | false => rw [hb] at h; simp at h
    | true =>
      rw [hb] at h; simp only [cond_true] at h
      split at h <;> try (simp at h; done)
      rename_i cells' hc'
      obtain ⟨v, hv, hr⟩ := hp 0 i s rfl
      cases vs with
      | nil => simp at hl
      | cons q vs =>
        simp at hv; subst hv
        obtain ⟨f2, fd, g1, g2, g3, g4⟩ := fieldOf_spec hC hf
        have : fields = f2 := by rw [hu] at g1; simpa using g1
        subst this
        have hpl' := hpl _ _ _ g2 g4
        obtain ⟨hrel, _⟩ := cellsOf_rel hcs hr
        have hlen := hrel.length
        obtain ⟨hsz, hrel'⟩ := splL_rel hc' hrel hy
        have hbl := Nat.eq_of_beq_eq_true hb
        obtain ⟨zs, hz, hzr⟩ := buildL_run hC hu pl h (by simpa using hl) (fun j i' s' hj => by have := hp (j + 1) i' s' (by simpa using hj); simpa using this) hrel' hpl
        refine ⟨zs, ?_, hzr⟩
        simp only [Instr.fill, hpl', g3]
        have e0 : v.cells.size = ti.size := by rw [← hbl, ← hlen]; simp
        have e1 : ¬ (v.cells.size ≠ ti.size ∨ o + v.cells.size > ys.toArray.size) := by
          simp only [List.size_toArray]
          have : v.cells.toList.length = v.cells.size := by simp
          omega
        rw [if_neg (by simpa using e1)]
        rw [← hz]
        congr 1
        apply Array.ext'
        rw [← Array.foldl_toList, Array.toList_zipIdx]
        have := foldl_set v.cells.toList o 0 ys.toArray (by simp; simp at e1; omega)
        simpa using this


def pBuild (C : Ctx) (t : Nat) (parts : List (Nat × SV)) : Option PR :=
  match C.tb t with
  | some ⟨.struct _, _, _, z⟩ => match buildL C t parts (mapV z) with
    | some cs => some ⟨none, .agg cs⟩
    | none => none
  | _ => none

theorem mapM_size {P : Program} {w : World} (l : List Field) (h : ∀ fd ∈ l, ∃ n, (sizeOf fd.type).run P w = .ok n w) :
    ∃ pl : List (Nat × Nat), (l.mapM (fun f => do pure (f.offset, ← sizeOf f.type) : Field → Sem (Nat × Nat))).run P w = .ok pl w ∧ pl.length = l.length ∧
      ∀ (j : Nat) (fd : Field) (n : Nat), l[j]? = some fd → (sizeOf fd.type).run P w = .ok n w → pl[j]? = some (fd.offset, n) := by
  induction l with
  | nil => exact ⟨[], by simp, rfl, by simp⟩
  | cons f r ih =>
    obtain ⟨n, hn⟩ := h f (by simp)
    obtain ⟨pl, h1, h2, h3⟩ := ih (fun fd hfd => h fd (by simp [hfd]))
    refine ⟨(f.offset, n) :: pl, by simp only [List.mapM_cons, Sem.run_bind, hn, h1, Result.andThen_ok, Sem.run_pure], by simp [h2], fun j fd m hj hm => ?_⟩
    cases j with
    | zero =>
      simp at hj; subst hj
      rw [hn] at hm
      simp at hm; subst hm; rfl
    | succ j => exact h3 j fd m (by simpa using hj) hm


/-- every field's type has its row in the table -/
def allTb (C : Ctx) : List (Nat × Nat) → Bool
  | [] => true
  | (_, t) :: r => match C.tb t with
    | some _ => allTb C r
    | none => false

theorem allTb_spec {C : Ctx} : ∀ {l : List (Nat × Nat)}, allTb C l = true → ∀ q ∈ l, ∃ ti, C.tb q.2 = some ti
  | [], _, q, hq => by cases hq
  | (o, t) :: r, h, q, hq => by
    simp only [allTb] at h
    split at h <;> try (simp at h; done)
    rename_i ti hti
    rcases List.mem_cons.1 hq with rfl | hq
    · exact ⟨ti, hti⟩
    · exact allTb_spec h q hq

theorem pBuild_run (hC : CtxOK P C) (hA : ∀ t fs s b z, C.tb t = some ⟨.struct fs, s, b, z⟩ → allTb C fs = true) {t : Nat} {parts : List (Nat × SV)} {r : PR} {vs : List (Nat × Value)} (h : pBuild C t parts = some r)
    (hl : vs.length = parts.length) (hp : ∀ (j : Nat) (i : Nat) (s : SV), parts[j]? = some (i, s) → ∃ v, vs[j]? = some (i, v) ∧ s.Rel β A v) :
    r.ob = none ∧ ∃ z, (Instr.build t vs.toArray).run P w = .ok z w ∧ r.sv.Rel β A z := by
  unfold pBuild at h
  split at h <;> try (simp at h; done)
  rename_i fs sz by_ ze ht
  split at h <;> try (simp at h; done)
  rename_i cs hcs
  simp at h; subst h
  obtain ⟨i, d, z, hi, hd, hz, he⟩ := ti_parts (hC.tb _ _ ht)
  simp only [TI.mk.injEq] at he
  obtain ⟨he1, _, _, he4⟩ := he
  cases d <;> simp [tdOf] at he1
  rename_i fields
  rw [mapV_eq] at hcs
  have htb : ∀ fd ∈ fields.toList, ∃ ti, C.tb fd.type = some ti := fun fd hfd => by
    have := allTb_spec (hA _ _ _ _ _ ht) (fd.offset, fd.type) (by rw [he1]; exact List.mem_map.2 ⟨fd, hfd, rfl⟩)
    exact this
  obtain ⟨pl, hpl, hpl2, hpl3⟩ := mapM_size (P := P) (w := w) fields.toList (fun fd hfd => by
    obtain ⟨ti, hti⟩ := htb fd hfd
    exact ⟨_, sizeOf_run (hC.tb _ _ hti)⟩)
  obtain ⟨zs, hf, hr⟩ := buildL_run hC hd pl.toArray hcs hl hp (RelL.vs (β := β) (A := A) ze) (fun f fd ti hfd hti => by
    have := hpl3 f fd ti.size (by simpa using hfd) (sizeOf_run hti)
    simpa using this)
  refine ⟨rfl, .agg zs.toArray, ?_, ?_⟩
  · have e0 : z.cells = ze.toArray := by rw [he4]
    simp only [Instr.build, zeroValue, typeInfo, Sem.run_bind, run_program, Result.andThen_ok, hi, hz, Sem.run_pure, run_underlying hd]
    rw [Array.mapM_eq_mapM_toList, Sem.run_map, hpl]
    simp only [Result.andThen_ok, e0, hf, Sem.run_pure]
  · simp only [SV.Rel]; exact ⟨zs, rfl, hr⟩


def looks (env : Env) (p : List (Nat × Bool)) : List Operand → Option (List SV)
  | [] => some []
  | x :: r => match look env p x with
    | some s => match looks env p r with
      | some t => some (s :: t)
      | none => none
    | none => none

theorem looks_rel (hE : EnvOK β A env a.tmps) (hP : holdsP a.tmps p) : ∀ {xs : List Operand} {ss : List SV}, looks env p xs = some ss → RelL β A ss (xs.map a.eval)
  | [], ss, h => by simp [looks] at h; subst h; simp [RelL]
  | x :: r, ss, h => by
    simp only [looks] at h
    split at h <;> try (simp at h; done)
    rename_i s hs
    split at h <;> try (simp at h; done)
    rename_i t ht
    simp at h; subst h
    simp only [List.map_cons, RelL]
    exact ⟨_, _, rfl, look_rel hE hP hs, looks_rel hE hP ht⟩

def lookParts (env : Env) (p : List (Nat × Bool)) : List (Nat × Operand) → Option (List (Nat × SV))
  | [] => some []
  | (i, x) :: r => match look env p x with
    | some s => match lookParts env p r with
      | some t => some ((i, s) :: t)
      | none => none
    | none => none

theorem lookParts_rel (hE : EnvOK β A env a.tmps) (hP : holdsP a.tmps p) : ∀ {xs : List (Nat × Operand)} {ss : List (Nat × SV)}, lookParts env p xs = some ss →
    xs.length = ss.length ∧ ∀ (j : Nat) (i : Nat) (s : SV), ss[j]? = some (i, s) → ∃ v, (xs.map fun q => (q.1, a.eval q.2))[j]? = some (i, v) ∧ s.Rel β A v
  | [], ss, h => by simp [lookParts] at h; subst h; simp
  | (i, x) :: r, ss, h => by
    simp only [lookParts] at h
    split at h <;> try (simp at h; done)
    rename_i s hs
    split at h <;> try (simp at h; done)
    rename_i t ht
    simp at h; subst h
    obtain ⟨h1, h2⟩ := lookParts_rel hE hP ht
    refine ⟨by simp [h1], fun j k u hj => ?_⟩
    cases j with
    | zero => simp at hj; obtain ⟨rfl, rfl⟩ := hj; exact ⟨_, by simp, look_rel hE hP hs⟩
    | succ j => obtain ⟨v, hv, hr⟩ := h2 j k u (by simpa using hj); exact ⟨v, by simpa using hv, hr⟩

def lookO (env : Env) (p : List (Nat × Bool)) : Option Operand → Option (Option SV)
  | none => some none
  | some x => match look env p x with
    | some s => some (some s)
    | none => none

theorem lookO_rel (hE : EnvOK β A env a.tmps) (hP : holdsP a.tmps p) {x : Option Operand} {s : Option SV} (h : lookO env p x = some s) : relO β A s (x.map a.eval) := by
  cases x with
  | none => simp [lookO] at h; subst h; simp [relO]
  | some x =>
    simp only [lookO] at h
    split at h <;> try (simp at h; done)
    rename_i s' hs
    simp at h; subst h
    exact ⟨_, rfl, look_rel hE hP hs⟩

/-- a value without labels and knowledge -/
def rawOf : SV → Option Value
  | .v x => some x
  | .agg cs => match rawL cs with
    | some xs => some (.agg xs.toArray)
    | none => none
  | _ => none
theorem rawOf_rel {s : SV} {x y : Value} (h : rawOf s = some x) (hr : s.Rel β A y) : y = x := by
  unfold rawOf at h
  split at h
  · simp at h; subst h; simpa only [SV.Rel] using hr
  · split at h <;> try (simp at h; done)
    rename_i xs hxs
    simp at h; subst h
    simp only [SV.Rel] at hr
    obtain ⟨ys, rfl, hr⟩ := hr
    rw [rawL_rel hxs hr]
  · simp at h

def pLen (C : Ctx) (t : Nat) (x : SV) : Option PR :=
  match C.tb t with
  | some ⟨.slice _, _, _, _⟩ => match x with
    | .ext _ n _ _ _ => some ⟨none, .v (.int .i64 n)⟩
    | .sl _ _ _ n => some ⟨none, .v (.int .i64 n)⟩
    | .v (.slice _ n _) => some ⟨none, .v (.int .i64 n)⟩
    | _ => none
  | some ⟨.str, _, _, _⟩ => match x with
    | .v (.string s) => some ⟨none, .v (.int .i64 s.size)⟩
    | _ => none
  | _ => none

def pCap (C : Ctx) (t : Nat) (x : SV) : Option PR :=
  match C.tb t with
  | some ⟨.slice _, _, _, _⟩ => match x with
    | .ext _ _ c _ _ => some ⟨none, .v (.int .i64 c)⟩
    | .v (.slice _ _ c) => some ⟨none, .v (.int .i64 c)⟩
    | _ => none
  | _ => none

def pUn (op : UnOp) (x : SV) : Option PR :=
  match op, x with
  | .not, .v (.bool b) => some ⟨none, .v (.bool (!b))⟩
  | .neg, .v (.int k n) => some ⟨none, .v (.int k (k.wrap (0 - n)))⟩
  | _, _ => none

def pExtract (x : SV) (i : Nat) : Option PR :=
  match x with
  | .tup vs => match nthL i vs with
    | some s => some ⟨none, s⟩
    | none => none
  | .v (.tuple vs) => match nthL i vs.toList with
    | some y => some ⟨none, .v y⟩
    | none => none
  | _ => none

def pNil (x : SV) : Option PR :=
  match x with
  | .loc l o => some ⟨none, .loc l o⟩
  | .xptr q c => some ⟨none, .xptr q c⟩
  | .elt l k i o => some ⟨none, .elt l k i o⟩
  | .v (.pointer (some q)) => some ⟨none, .v (.pointer (some q))⟩
  | _ => none

def pAssert (C : Ctx) (t : Nat) (ok : Bool) (x : SV) : Option PR :=
  match C.tb t with
  | some ⟨td, _, _, _⟩ => match td with
    | .iface => none
    | _ => match x with
      | .v (.iface u v) => bif Nat.beq u t then some ⟨none, bif ok then .tup [.v v, .v (.bool true)] else .v v⟩ else none
      | _ => none
  | none => none

def pConv (C : Ctx) (s d : Nat) (x : SV) : Option PR :=
  match C.tb s, C.tb d, x with
  | some _, some ⟨.int k, _, _, _⟩, .v (.int _ n) => some ⟨none, .v (.int k (k.wrap n))⟩
  | some _, some ⟨.str, _, _, _⟩, .v (.string s) => some ⟨none, .v (.string s)⟩
  | _, _, _ => none

/-- all operations that only reckon -/
def pev (C : Ctx) (env : Env) (hp : List Chunk) (p : List (Nat × Bool)) : Op → Option PR
  | .move x => match look env p x with
    | some s => some ⟨none, s⟩
    | none => none
  | .assign x => match look env p x with
    | some s => some ⟨none, s⟩
    | none => none
  | .pick (.tmp t) x y => match look env p (.tmp t), look env ((t, true) :: p) x, look env ((t, false) :: p) y with
    | some (.v (.bool c)), some (.v (.bool a)), some (.v (.bool b)) => some ⟨none, .v (.bool (bif c then a else b))⟩
    | _, _, _ => none
  | .build t parts => match lookParts env p parts.toList with
    | some ps => pBuild C t ps
    | none => none
  | .load t x => match look env p x with
    | some s => pLoad C hp t s
    | none => none
  | .nilCheck x => match look env p x with
    | some s => pNil s
    | none => none
  | .binOp op t x y _ => match look env p x, look env p y with
    | some a, some b => pBin C op t a b
    | _, _ => none
  | .unOp op _ x => match look env p x with
    | some a => pUn op a
    | none => none
  | .convert s d x => match look env p x with
    | some a => pConv C s d a
    | none => none
  | .makeInterface t x => match C.tb t, look env p x with
    | some ti, some s => match ti.td with
      | .iface => none
      | _ => match rawOf s with
        | some v => some ⟨none, .v (.iface t v)⟩
        | none => none
    | _, _ => none
  | .makeFunc f first caps => match first.toList with
    | [] => match looks env p caps.toList with
      | some cs => some ⟨none, .fn f cs⟩
      | none => none
    | _ => none
  | .slice t x lo hi mx => match look env p x, lookO env p lo, lookO env p hi, lookO env p mx with
    | some s, some l, some h, some m => pSlice C t s l h m
    | _, _, _, _ => none
  | .fieldAddr t x f => match look env p x with
    | some s => pFieldAddr C t f s
    | none => none
  | .indexAddr t x i => match look env p x, look env p i with
    | some a, some b => pIndexAddr C t a b
    | _, _ => none
  | .typeAssert x _ t ok => match look env p x with
    | some s => pAssert C t ok s
    | none => none
  | .extract x i => match look env p x with
    | some s => pExtract s i
    | none => none
  | .call ⟨.builtin .len, args, tys⟩ => match args.toList, tys.toList with
    | [x], t :: _ => match look env p x with
      | some s => pLen C t s
      | none => none
    | _, _ => none
  | .call ⟨.builtin .cap, args, tys⟩ => match args.toList, tys.toList with
    | [x], t :: _ => match look env p x with
      | some s => pCap C t s
      | none => none
    | _, _ => none
  | _ => none

end
end Go.Eng
end

section
/-! The engine, part G: the reckoning operations do what is said of them. -/
namespace Go.Eng
section
variable {P : Program} {C : Ctx} {β : Lay} {A : Anc} {env : Env} {hp : List Chunk} {w : World} {a : Act} {p : List (Nat × Bool)}

theorem pCap_run (hC : CtxOK P C) {t : Nat} {x : SV} {y : Value} {r : PR} {tys : Array Nat} {ty : Nat} (h : pCap C t x = some r) (hx : x.Rel β A y) (ht : tys[0]? = some t) :
    r.ob = none ∧ ∃ z, (Builtin.cap_ tys ty #[y]).run P w = .ok z w ∧ r.sv.Rel β A z := by
  unfold pCap at h
  split at h <;> try (simp at h; done)
  rename_i e sz by_ ze hti
  have hu := slice_ti hC hti
  split at h <;> try (simp at h; done)
  all_goals
    simp at h; subst h
    simp only [SV.Rel] at hx ⊢
  · obtain ⟨rfl, _⟩ := hx
    exact ⟨trivial, _, by simp [Builtin.cap_, ht, run_underlying hu]; rfl, rfl⟩
  · subst hx
    exact ⟨trivial, _, by simp [Builtin.cap_, ht, run_underlying hu]; rfl, rfl⟩

theorem pLen_run (hC : CtxOK P C) {t : Nat} {x : SV} {y : Value} {r : PR} {tys : Array Nat} {ty : Nat} (h : pLen C t x = some r) (hx : x.Rel β A y) (ht : tys[0]? = some t) :
    r.ob = none ∧ ∃ z, (Builtin.len_ tys ty #[y]).run P w = .ok z w ∧ r.sv.Rel β A z := by
  unfold pLen at h
  split at h <;> try (simp at h; done)
  · rename_i e sz by_ ze hti
    have hu := slice_ti hC hti
    split at h <;> try (simp at h; done)
    all_goals
      simp at h; subst h
      simp only [SV.Rel] at hx ⊢
    · obtain ⟨rfl, _⟩ := hx
      exact ⟨trivial, _, by simp [Builtin.len_, ht, run_underlying hu]; rfl, rfl⟩
    · obtain ⟨_, ⟨_, _, rfl, rfl⟩ | ⟨_, _, rfl⟩⟩ := hx
      · exact ⟨trivial, _, by simp [Builtin.len_, ht, run_underlying hu]; rfl, rfl⟩
      · exact ⟨trivial, _, by simp [Builtin.len_, ht, run_underlying hu]; rfl, rfl⟩
    · subst hx
      exact ⟨trivial, _, by simp [Builtin.len_, ht, run_underlying hu]; rfl, rfl⟩
  · rename_i sz by_ ze hti
    obtain ⟨i, d, z, hi, hd, hz, he⟩ := ti_parts (hC.tb _ _ hti)
    simp only [TI.mk.injEq] at he
    obtain ⟨he1, _⟩ := he
    have hu : P.underlying t = some .string := by cases d <;> simp [tdOf] at he1; exact hd
    split at h <;> try (simp at h; done)
    simp at h; subst h
    simp only [SV.Rel] at hx ⊢
    subst hx
    exact ⟨trivial, _, by simp [Builtin.len_, ht, run_underlying hu]; rfl, rfl⟩

theorem notIface {t : Nat} {ti : TI} (h : mkTb P t = some ti) (hn : ti.td ≠ .iface) : ∃ d, P.underlying t = some d ∧ ∀ m, d ≠ .interface m := by
  obtain ⟨i, d, z, hi, hd, hz, rfl⟩ := ti_parts h
  refine ⟨d, hd, fun m hm => hn ?_⟩
  subst hm; rfl

theorem pAssert_run (hC : CtxOK P C) {t xt : Nat} {ok : Bool} {x : SV} {y : Value} {r : PR} (h : pAssert C t ok x = some r) (hx : x.Rel β A y) :
    r.ob = none ∧ ∃ z, (Instr.typeAssert y xt t ok).run P w = .ok z w ∧ r.sv.Rel β A z := by
  unfold pAssert at h
  split at h <;> try (simp at h; done)
  rename_i td s b z hti
  split at h <;> try (simp at h; done)
  rename_i hne
  split at h <;> try (simp at h; done)
  rename_i u v
  cases hb : Nat.beq u t with
  | false => rw [hb] at h; simp at h
  | true =>
    have := Nat.eq_of_beq_eq_true hb; subst this
    rw [hb] at h; simp at h; subst h
    simp only [SV.Rel] at hx; subst hx
    obtain ⟨d, hd, hn⟩ := notIface (hC.tb _ _ hti) (by simpa using hne)
    refine ⟨rfl, (if ok then .tuple #[v, .bool true] else v), ?_, ?_⟩
    · simp only [Instr.typeAssert, Sem.run_bind, run_underlying hd, Result.andThen_ok]
      cases d <;> first | (simp; done) | (exact absurd rfl (hn _))
    · cases ok
      · simp [SV.Rel]
      · simp only [cond_true, if_true, SV.Rel]
        exact ⟨[v, .bool true], rfl, by simp [RelL, SV.Rel]⟩

theorem pConv_run (hC : CtxOK P C) {s d : Nat} {x : SV} {y : Value} {r : PR} (h : pConv C s d x = some r) (hx : x.Rel β A y) :
    r.ob = none ∧ ∃ z, (convert s d y).run P w = .ok z w ∧ r.sv.Rel β A z := by
  unfold pConv at h
  split at h <;> try (simp at h; done)
  · rename_i ts k sz b ze ki n hs hd
    simp at h; subst h
    simp only [SV.Rel] at hx; subst hx
    obtain ⟨i, d', z, hi, hd', hz, he⟩ := ti_parts (hC.tb _ _ hd)
    simp only [TI.mk.injEq] at he
    obtain ⟨i2, d2, z2, _, hd2, _, _⟩ := ti_parts (hC.tb _ _ hs)
    have : d' = .int k := by obtain ⟨he1, _⟩ := he; cases d' <;> simp [tdOf] at he1; rw [he1]
    subst this
    exact ⟨rfl, _, by simp [convert, run_underlying hd', run_underlying hd2, Conv.intToInt], rfl⟩
  · rename_i ts sz b ze s' hs hd
    simp at h; subst h
    simp only [SV.Rel] at hx; subst hx
    obtain ⟨i, d', z, hi, hd', hz, he⟩ := ti_parts (hC.tb _ _ hd)
    simp only [TI.mk.injEq] at he
    obtain ⟨i2, d2, z2, _, hd2, _, _⟩ := ti_parts (hC.tb _ _ hs)
    have : d' = .string := by obtain ⟨he1, _⟩ := he; cases d' <;> simp [tdOf] at he1; rfl
    subst this
    exact ⟨rfl, _, by simp [convert, run_underlying hd', run_underlying hd2], rfl⟩

theorem pev_run (hC : CtxOK P C) (hA : ∀ t fs s b z, C.tb t = some ⟨.struct fs, s, b, z⟩ → allTb C fs = true) (hS : Stp A.O A.w w) (hE : EnvOK β A env a.tmps) (hH : HpRel β A hp w) (hP : holdsP a.tmps p)
    {o : Oper} {r : PR} (h : pev C env hp p o.op = some r) (hob : ∀ φ, r.ob = some φ → φ) :
    ∃ y, (execOp a.eval o).run P w = .ok (.value y) w ∧ r.sv.Rel β A y := by
  obtain ⟨dst, op, type, pos, after, guard⟩ := o
  simp only at h
  unfold pev at h
  split at h <;> try (simp at h; done)
  · rename_i x
    split at h <;> try (simp at h; done)
    rename_i s hs
    simp at h; subst h
    exact ⟨_, rfl, look_rel hE hP hs⟩
  · rename_i x
    split at h <;> try (simp at h; done)
    rename_i s hs
    simp at h; subst h
    exact ⟨_, rfl, look_rel hE hP hs⟩
  · rename_i t x y
    split at h <;> try (simp at h; done)
    rename_i c b1 b2 hc hx hy
    simp at h; subst h
    have h1 := look_rel hE hP hc
    simp only [SV.Rel] at h1
    have ht : a.tmps[t]? = some (.bool c) := by
      simp only [Act.eval] at h1
      cases hq : a.tmps[t]? with
      | none => simp [hq, undef] at h1
      | some v => simp [hq] at h1; rw [h1]
    refine ⟨.bool (bif c then b1 else b2), ?_, rfl⟩
    simp only [execOp, Sem.run_bind, h1, asBool, Sem.run_pure, Result.andThen_ok]
    cases c with
    | true =>
      have h2 := look_rel hE (p := (t, true) :: p) (fun q hq => by
        rcases List.mem_cons.1 hq with rfl | hq
        · exact ht
        · exact hP q hq) hx
      simp only [SV.Rel] at h2
      simp [h2]
    | false =>
      have h2 := look_rel hE (p := (t, false) :: p) (fun q hq => by
        rcases List.mem_cons.1 hq with rfl | hq
        · exact ht
        · exact hP q hq) hy
      simp only [SV.Rel] at h2
      simp [h2]
  · rename_i t parts
    split at h <;> try (simp at h; done)
    rename_i ps hps
    obtain ⟨h1, h2⟩ := lookParts_rel hE hP hps
    obtain ⟨_, z, hz, hr⟩ := pBuild_run (w := w) hC hA h (vs := parts.toList.map fun q => (q.1, a.eval q.2)) (by simpa using h1) h2
    refine ⟨z, ?_, hr⟩
    have he : (parts.map fun (x : Nat × Operand) => match x with | (i, x) => (i, a.eval x)) = (parts.toList.map fun q => (q.1, a.eval q.2)).toArray := by
      apply Array.ext'; simp
    have : execOp a.eval ⟨dst, .build t parts, type, pos, after, guard⟩ = (do pure (.value (← Instr.build t (parts.map fun (x : Nat × Operand) => match x with | (i, x) => (i, a.eval x)))) : Sem Next) := rfl
    rw [this, he, Sem.run_bind, hz]
    rfl
  · rename_i t x
    split at h <;> try (simp at h; done)
    rename_i s hs
    obtain ⟨z, hz, hr⟩ := pLoad_run hC hS hH h (look_rel hE hP hs) hob
    exact ⟨z, by simp only [execOp, Sem.run_bind, hz, Result.andThen_ok, Sem.run_pure], hr⟩
  · rename_i x
    split at h <;> try (simp at h; done)
    rename_i s hs
    have hx := look_rel hE hP hs
    unfold pNil at h
    split at h <;> try (simp at h; done)
    all_goals
      simp at h; subst h
      have hx' := hx
      simp only [SV.Rel] at hx
      first
        | (refine ⟨a.eval x, ?_, hx'⟩; simp [execOp, hx.1]; done)
        | (refine ⟨a.eval x, ?_, hx'⟩; simp [execOp, hx.2]; done)
        | (refine ⟨a.eval x, ?_, hx'⟩; simp [execOp, hx.2.2]; done)
        | (refine ⟨a.eval x, ?_, hx'⟩; simp [execOp, hx]; done)
  · rename_i op t x y _
    split at h <;> try (simp at h; done)
    rename_i sx sy hx hy
    obtain ⟨z, hz, hr⟩ := pBin_run (w := w) (x := x) (y := y) hC h (look_rel hE hP hx) (look_rel hE hP hy) hob
    exact ⟨z, by simp only [execOp]; rw [Sem.run_bind, hz]; simp, hr⟩
  · rename_i op t x
    split at h <;> try (simp at h; done)
    rename_i s hs
    have hx := look_rel hE hP hs
    unfold pUn at h
    split at h <;> try (simp at h; done)
    all_goals
      simp at h; subst h
      simp only [SV.Rel] at hx
      exact ⟨_, by simp [execOp, hx, Op.unary, Op.intArith], rfl⟩
  · rename_i s d x
    split at h <;> try (simp at h; done)
    rename_i sv hs
    obtain ⟨_, z, hz, hr⟩ := pConv_run (w := w) hC h (look_rel hE hP hs)
    exact ⟨z, by simp only [execOp, Sem.run_bind, hz, Result.andThen_ok, Sem.run_pure], hr⟩
  · rename_i t x
    split at h <;> try (simp at h; done)
    rename_i ti s hti hs
    split at h <;> try (simp at h; done)
    rename_i hne
    split at h <;> try (simp at h; done)
    rename_i v hv
    simp at h; subst h
    have := rawOf_rel hv (look_rel hE hP hs)
    obtain ⟨d, hd, hn⟩ := notIface (hC.tb _ _ hti) (by simpa using hne)
    refine ⟨.iface t v, ?_, rfl⟩
    simp only [execOp, this, Instr.makeInterface, Sem.run_bind, run_underlying hd, Result.andThen_ok]
    cases d <;> first | (simp; done) | (exact absurd rfl (hn _))
  · rename_i f first caps
    split at h <;> try (simp at h; done)
    rename_i hf
    split at h <;> try (simp at h; done)
    rename_i cs hcs
    simp at h; subst h
    have hf' : first = #[] := by apply Array.ext'; simpa using hf
    subst hf'
    refine ⟨.func f #[] (caps.toList.map a.eval).toArray, ?_, ?_⟩
    · simp [execOp, Instr.makeFunc]
      apply Array.ext'; simp
    · simp only [SV.Rel]; exact ⟨_, rfl, looks_rel hE hP hcs⟩
  · rename_i t x lo hi mx
    split at h <;> try (simp at h; done)
    rename_i s l hh m hs hl hh' hm
    obtain ⟨z, hz, hr⟩ := pSlice_run (w := w) hC h (look_rel hE hP hs) (lookO_rel hE hP hl) (lookO_rel hE hP hh') (lookO_rel hE hP hm) hob
    exact ⟨z, by simp only [execOp, Sem.run_bind, hz, Result.andThen_ok, Sem.run_pure], hr⟩
  · rename_i t x f
    split at h <;> try (simp at h; done)
    rename_i s hs
    obtain ⟨_, z, hz, hr⟩ := pFieldAddr_run (w := w) hC h (look_rel hE hP hs)
    exact ⟨z, by simp only [execOp, Sem.run_bind, hz, Result.andThen_ok, Sem.run_pure], hr⟩
  · rename_i t x i
    split at h <;> try (simp at h; done)
    rename_i s1 s2 h1 h2
    obtain ⟨z, hz, hr⟩ := pIndexAddr_run (w := w) hC h (look_rel hE hP h1) (look_rel hE hP h2) hob
    exact ⟨z, by simp only [execOp, Sem.run_bind, hz, Result.andThen_ok, Sem.run_pure], hr⟩
  · rename_i x xt t ok
    split at h <;> try (simp at h; done)
    rename_i s hs
    obtain ⟨_, z, hz, hr⟩ := pAssert_run (w := w) (xt := xt) hC h (look_rel hE hP hs)
    exact ⟨z, by simp only [execOp, Sem.run_bind, hz, Result.andThen_ok, Sem.run_pure], hr⟩
  · rename_i x i
    split at h <;> try (simp at h; done)
    rename_i s hs
    have hx := look_rel hE hP hs
    unfold pExtract at h
    split at h <;> try (simp at h; done)
    · split at h <;> try (simp at h; done)
      rename_i vs s' hn
      simp at h; subst h
      simp only [SV.Rel] at hx
      obtain ⟨ys, hy, hr⟩ := hx
      rw [nthL_eq] at hn
      obtain ⟨y, hy2, hr2⟩ := hr.get _ _ hn
      exact ⟨y, by simp [execOp, hy, Instr.extract, hy2], hr2⟩
    · split at h <;> try (simp at h; done)
      rename_i vs _ y hn
      simp at h; subst h
      simp only [SV.Rel] at hx
      rw [nthL_eq] at hn
      have : vs[i]? = some y := by simpa using hn
      exact ⟨y, by simp [execOp, hx, Instr.extract, this], rfl⟩
  · rename_i args tys
    split at h <;> try (simp at h; done)
    rename_i x t r' hargs htys
    split at h <;> try (simp at h; done)
    rename_i s hs
    have ha : args = #[x] := by apply Array.ext'; simpa using hargs
    subst ha
    obtain ⟨_, z, hz, hr⟩ := pLen_run (w := w) (tys := tys) (ty := type) hC h (look_rel hE hP hs) (by
      have : tys.toList[0]? = some t := by rw [htys]; rfl
      simpa using this)
    refine ⟨z, ?_, hr⟩
    simp only [execOp, resolve, Sem.run_bind, Sem.run_pure, Result.andThen_ok, invoke, builtin]
    simp [hz]
  · rename_i args tys
    split at h <;> try (simp at h; done)
    rename_i x t r' hargs htys
    split at h <;> try (simp at h; done)
    rename_i s hs
    have ha : args = #[x] := by apply Array.ext'; simpa using hargs
    subst ha
    obtain ⟨_, z, hz, hr⟩ := pCap_run (w := w) (tys := tys) (ty := type) hC h (look_rel hE hP hs) (by
      have : tys.toList[0]? = some t := by rw [htys]; rfl
      simpa using this)
    refine ⟨z, ?_, hr⟩
    simp only [execOp, resolve, Sem.run_bind, Sem.run_pure, Result.andThen_ok, invoke, builtin]
    simp [hz]

end
end Go.Eng
end

section
/-! The engine, part H: the state, operations that act, regions. -/
namespace Go.Eng

def Chunk.live (L : Loc) : Chunk → Bool
  | .dead => false
  | .row _ _ _ _ => !L.nl
  | .box _ _ => true

/-- what waits for a function's end; blocks that keep their names -/
structure DS where
  l : List Deferred
  lay : Lay
def Lay.none : Lay := ⟨0, fun _ => ⟨0, false, 0⟩⟩
def DS.nil : DS := ⟨[], Lay.none⟩
theorem Lay.none_le (β : Lay) : Lay.none.le β := ⟨Nat.zero_le _, fun l hl => absurd hl (Nat.not_lt_zero l)⟩

structure Conc (B : Anc) (ds : DS) (n : Nat) (A : Anc) (env : Env) (hp : List Chunk) (β : Lay) (a : Act) (w : World) : Prop where
  size : a.tmps.size = n
  defers : a.defers = ds.l
  ext : ds.lay.le β
  envr : EnvOK β A env a.tmps
  hpr : HpRel β A hp w
  m : β.m = hp.length
  stp : Stp A.O A.w w
  bas : Stp B.O B.w w
  anc : B.w.heap.size ≤ A.w.heap.size
  own : ∀ l ch, hp[l]? = some ch → ch.live (β.at_ l) = true → (A.w.heap.size ≤ (β.at_ l).b ∨ A.O (β.at_ l).b) ∧ (B.w.heap.size ≤ (β.at_ l).b ∨ B.O (β.at_ l).b) ∧ ¬ A.M (β.at_ l).b ∧ (β.at_ l).b < w.heap.size
  inj : ∀ l l' ch ch', hp[l]? = some ch → hp[l']? = some ch' → ch.live (β.at_ l) = true → ch'.live (β.at_ l') = true → (β.at_ l).b = (β.at_ l').b → l = l'
  MO : ∀ k, A.M k → A.O k
  MB : ∀ k, A.M k → B.O k ∨ B.w.heap.size ≤ k
  OS : ∀ k, A.O k → k < A.w.heap.size
  BM : ∀ k, B.M k → A.M k

/-- what is owed; what follows -/
structure ObVC (φ q : Prop) : Prop where
  ob : φ
  next : q

/-- from the world of a call on, behind the call -/
structure Next (A A' : Anc) : Prop where
  stp : Stp A.M A.w A'.w
  O1 : ∀ k, A.O k → A'.O k
  O2 : ∀ k, A'.O k → A.O k ∨ A.w.heap.size ≤ k
  O3 : ∀ k, A'.O k → k < A'.w.heap.size
  M1 : ∀ k, A.M k → A'.M k
  M2 : ∀ k, A'.M k → A.M k ∨ A.w.heap.size ≤ k
  M3 : ∀ k, A'.M k → A'.O k

/-- what a caller hands over at a call: a world, what it holds of the caller's -/
structure Site (B A : Anc) (hp : List Chunk) (args : List SV) (O' : Nat → Prop) (w : World) (β : Lay) (vals : List Value) : Prop where
  later : Later A ⟨O', A.M, w⟩
  rel : RelL β ⟨O', A.M, w⟩ args vals
  hpr : HpRel β ⟨O', A.M, w⟩ hp w
  bas : Stp B.O B.w w
  O1 : ∀ k, A.O k → O' k
  MO : ∀ k, A.M k → O' k
  OS : ∀ k, O' k → k < w.heap.size
  own : ∀ l ch, hp[l]? = some ch → ch.live (β.at_ l) = true → O' (β.at_ l).b ∧ ¬ A.M (β.at_ l).b
  inj : ∀ l l' ch ch', hp[l]? = some ch → hp[l']? = some ch' → ch.live (β.at_ l) = true → ch'.live (β.at_ l') = true → (β.at_ l).b = (β.at_ l').b → l = l'
  m : β.m = hp.length
  bown : ∀ l ch, hp[l]? = some ch → ch.live (β.at_ l) = true → B.w.heap.size ≤ (β.at_ l).b ∨ B.O (β.at_ l).b
  BM : ∀ k, B.M k → A.M k

def Site.A {B A : Anc} {hp : List Chunk} {args : List SV} {O' : Nat → Prop} {w : World} {β : Lay} {vals : List Value} (_ : Site B A hp args O' w β vals) : Anc := ⟨O', A.M, w⟩

/-- blocks that a call has made and hands over -/
structure Fresh (β β' : Lay) (w : World) (A' : Anc) (tl : List Chunk) : Prop where
  le : β.le β'
  m : β'.m = β.m + tl.length
  hpr : ∀ i ch, tl[i]? = some ch → ChRel β' A' A'.w (β.m + i) ch
  own : ∀ i ch, tl[i]? = some ch → ch.live (β'.at_ (β.m + i)) = true → w.heap.size ≤ (β'.at_ (β.m + i)).b ∧ A'.O (β'.at_ (β.m + i)).b ∧ ¬ A'.M (β'.at_ (β.m + i)).b
  inj : ∀ i j ch ch', tl[i]? = some ch → tl[j]? = some ch' → ch.live (β'.at_ (β.m + i)) = true → ch'.live (β'.at_ (β.m + j)) = true → (β'.at_ (β.m + i)).b = (β'.at_ (β.m + j)).b → i = j

theorem Fresh.nil (β : Lay) (w : World) (A' : Anc) : Fresh β β w A' [] :=
  ⟨Lay.le.refl β, rfl, fun i ch h => by simp at h, fun i ch h => by simp at h, fun i j ch ch' h => by simp at h⟩

inductive CallVC (P : Program) (B A : Anc) (hp : List Chunk) (f : Nat) (args : List SV) (K : SV → Anc → List Chunk → Prop) (Kp : List PanicEntry → Anc → Prop) : Prop where
  | scal (r : Value) (h : ∀ O' w β vals, Site B A hp args O' w β vals → Calls P f vals.toArray w fun e w' => e = .returned r ∧ Stp A.M w w') (k : K (.v r) A [])
  | pan (ch : List PanicEntry) (h : ∀ O' w β vals, Site B A hp args O' w β vals → Calls P f vals.toArray w fun e w' => e = .panicked ch ∧ Stp A.M w w') (k : Kp ch A)
  | gen (h : ∀ O' w β vals, Site B A hp args O' w β vals → Calls P f vals.toArray w fun e w' =>
      (∃ r A' s tl β', e = .returned r ∧ A'.w = w' ∧ Next ⟨O', A.M, w⟩ A' ∧ Fresh β β' w A' tl ∧ SV.Rel β' A' s r ∧ K s A' tl) ∨ (∃ ch A', e = .panicked ch ∧ A'.w = w' ∧ Next ⟨O', A.M, w⟩ A' ∧ Kp ch A'))

def setL {α : Type} : Nat → α → List α → List α
  | _, _, [] => []
  | 0, x, _ :: r => x :: r
  | n + 1, x, y :: r => y :: setL n x r
theorem setL_eq {α : Type} : ∀ (n : Nat) (x : α) (l : List α), setL n x l = l.set n x
  | _, _, [] => by simp [setL]
  | 0, x, _ :: r => rfl
  | n + 1, x, y :: r => by simp [setL, setL_eq n x r]

/-- a callee that is lent a row, and turns it -/
structure LendVC (P : Program) (B A : Anc) (hp : List Chunk) (f : Nat) (args : List SV) (K : SV → Anc → List Chunk → Prop) : Prop where
  ex : ∃ l t k n els, nthL l hp = some (.row t k n els) ∧ ∀ O' w β vals, Site B A hp args O' w β vals → Calls P f vals.toArray w fun e w' =>
    ∃ r A' s tl β', e = .returned r ∧ A'.w = w' ∧ Next ⟨O', fun g => A.M g ∨ ((β.at_ l).nl = false ∧ g = (β.at_ l).b), w⟩ ⟨A'.O, fun g => A'.M g ∨ ((β.at_ l).nl = false ∧ g = (β.at_ l).b), A'.w⟩ ∧ (∀ g, A.M g → A'.M g) ∧ ¬ ((β.at_ l).nl = false ∧ A'.M (β.at_ l).b) ∧
      β.le β' ∧ β'.m = β.m + tl.length ∧ (∀ i ch, tl[i]? = some ch → ChRel β' A' A'.w (β.m + i) ch) ∧
      (∀ i ch, tl[i]? = some ch → ch.live (β'.at_ (β.m + i)) = true → (w.heap.size ≤ (β'.at_ (β.m + i)).b ∨ ((β.at_ l).nl = false ∧ (β'.at_ (β.m + i)).b = (β.at_ l).b)) ∧ A'.O (β'.at_ (β.m + i)).b ∧ ¬ A'.M (β'.at_ (β.m + i)).b) ∧
      (∀ i j ch ch', tl[i]? = some ch → tl[j]? = some ch' → ch.live (β'.at_ (β.m + i)) = true → ch'.live (β'.at_ (β.m + j)) = true → (β'.at_ (β.m + i)).b = (β'.at_ (β.m + j)).b → i = j) ∧
      SV.Rel β' A' s r ∧ K s A' (setL l .dead hp ++ tl)
def lends (C : Ctx) : Operand → Bool
  | .func g => C.ld g
  | _ => false

/-- a guarded call: of a function that answers a plain value; or one whose guard holds for sure -/
inductive GCallVC (P : Program) (B A : Anc) (hp : List Chunk) (f : Nat) (args : List SV) (G : Prop → Prop) (T : Prop) (K : SV → Anc → Prop) : Prop where
  | ex (r : Value) (h : G (∀ O' w β vals, Site B A hp args O' w β vals → Calls P f vals.toArray w fun e w' => e = .returned r ∧ Stp A.M w w')) (k : K (.v r) A)
  | sure (t : T) (h : CallVC P B A hp f args (fun s A' tl => tl = [] ∧ K s A') (fun _ _ => False))

/-- a path's guards all let -/
def guardT (env : Env) : List (Nat × Bool) → Prop
  | [] => True
  | (s, b) :: r => match env s with
    | some ⟨pj, .v (.bool x)⟩ => bif subP pj r then x = b ∧ guardT env r else False
    | _ => False

def lenL {α : Type} : List α → Nat
  | [] => 0
  | _ :: r => Nat.succ (lenL r)
theorem lenL_eq {α : Type} : ∀ l : List α, lenL l = l.length
  | [] => rfl
  | _ :: r => by simp [lenL, lenL_eq r]

/-- a value without blocks of one's own -/
def rawV : SV → Option Value
  | .v x => some x
  | .ext a n c _ _ => some (.slice a n c)
  | .xptr p _ => some (.pointer (some p))
  | _ => none
def rawVs : List SV → Option (List Value)
  | [] => some []
  | s :: r => match rawV s, rawVs r with
    | some x, some xs => some (x :: xs)
    | _, _ => none
def tabE : List (List Value) → Nat → List Value
  | [], _ => []
  | x :: _, 0 => x
  | _ :: r, n + 1 => tabE r n
def rowsOf (env : Env) (k : Nat) : Nat → List (Nat × Operand) → Option (List (List Value))
  | _, [] => some []
  | j, (i, x) :: r => bif Nat.beq i j then
      match look env [] x with
      | some s => match cellsOf s with
        | some cs => match rawVs cs, rowsOf env k (j + 1) r with
          | some vs, some rs => bif Nat.beq (lenL vs) k then some (vs :: rs) else none
          | _, _ => none
        | none => none
      | none => none
    else none

/-- a new row that nobody will turn -/
structure BuildVC (A : Anc) (n k : Nat) (els : Nat → List Value) (K : SV → Anc → Prop) : Prop where
  h : ∀ A' a, Later A A' → SliceAt A' (some a) n k els → K (.ext (some a) n n k els) A'

/-- what an append appends to: the blocks behind it, how many elements, which, what is owed -/
structure AppT where
  hp : List Chunk
  n : Nat
  els : Nat → List Value
  ob : Prop
def appT (C : Ctx) (hp : List Chunk) (e k : Nat) : SV → Option AppT
  | .v (.slice none 0 0) => some ⟨hp, 0, fun _ => [], True⟩
  | .sl l k' i n' => bif Nat.beq i 0 && Nat.beq k' k && wrOK C l then
      match nthL l hp with
      | some (.row T k'' n els) => bif Nat.beq T e && Nat.beq k'' k then some ⟨setL l .dead hp, n', els, n' ≤ n⟩ else none
      | _ => none
    else none
  | _ => none
/-- what is appended -/
structure AppS where
  m : Nat
  els : Nat → List Value
  ob : Prop
def appS (k : Nat) : SV → Option AppS
  | .ext _ m _ k' els => bif Nat.beq k' k then some ⟨m, els, ∀ i, i < m → (els i).length = k ∧ ∀ v ∈ els i, v.oneCell' = true⟩ else none
  | _ => none
def rawSl : SV → Option (Option Addr × Nat × Nat)
  | .v x => match x with
    | .slice q m c => some (q, m, c)
    | _ => none
  | _ => none
/-- an append of a slice that is known from outside -/
structure RawVC (A : Anc) (q : Option Addr) (m c k : Nat) (K : (Nat → List Value) → Prop) : Prop where
  ex : ∃ els, SliceAt A q m k els ∧ m ≤ c ∧ (∀ i, i < m → (els i).length = k ∧ ∀ v ∈ els i, v.oneCell' = true) ∧ K els
/-- numbers of zero elements behind nil -/
def appZ (C : Ctx) (u : Nat) (S X : SV) : Option (Int) :=
  match C.tb u with
  | some ⟨.int _, _, _, _⟩ => match S, X with
    | .v (.slice none 0 0), .v (.int .i64 z) => some z
    | _, _ => none
  | _ => none
def takeD {α : Type} : Nat → List α → List α
  | 0, _ => []
  | _ + 1, [] => []
  | n + 1, x :: r => x :: takeD n r
theorem takeD_eq {α : Type} : ∀ (n : Nat) (l : List α), takeD n l = l.take n
  | 0, _ => by simp [takeD]
  | _ + 1, [] => by simp [takeD]
  | n + 1, x :: r => by simp [takeD, takeD_eq n r]
def joinE (n : Nat) (e e' : Nat → List Value) : Nat → List Value := fun i => bif Nat.blt i n then e i else e' (i - n)

def guardP (env : Env) : List (Nat × Bool) → Prop → Prop
  | [], φ => φ
  | (s, b) :: r, φ => match env s with
    | some ⟨_, .v (.bool x)⟩ => x = b → guardP env r φ
    | _ => guardP env r φ

def pathOf (all : List Oper) (env : Env) : Option (Nat × Bool) → Option (List (Nat × Bool))
  | none => some []
  | some (j, b) => match nthL j all with
    | some o => match o.dst with
      | some s => match env s with
        | some ⟨p, .v (.bool _)⟩ => some ((s, b) :: p)
        | _ => none
      | none => none
    | none => none

def gsOf (gs : List Nat) : List (Nat × Bool) → List Nat
  | [] => gs
  | (s, _) :: _ => s :: gs

def dstOK (n : Nat) (gs : List Nat) : Option Nat → Bool
  | none => true
  | some d => Nat.blt d n && !memN d gs

def cleanE (env : Env) : Env := fun t => match env t with
  | some ⟨[], s⟩ => some ⟨[], s⟩
  | _ => none
def cleanG : List Nat → Env → Env
  | [], env => env
  | _ :: _, env => cleanE env

def atomS : SV → Bool
  | .v x => match x with
    | .agg _ => false
    | .tuple _ => false
    | _ => true
  | .agg _ => false
  | .tup _ => false
  | _ => true
def atomsS : List SV → Bool
  | [] => true
  | s :: r => atomS s && atomsS r

/-- operations that act, unguarded -/
def effVC (P : Program) (C : Ctx) (B A : Anc) (env envq : Env) (hp : List Chunk) (op : Op) (K : SV → Anc → List Chunk → Prop) (Q : Exit → Anc → Env → List Chunk → Prop) : Prop :=
  match op with
  | .alloc t => match C.tb t with
    | some ⟨_, _, _, z⟩ => K (.loc (lenL hp) 0) A (hp ++ [.box t (mapV z)])
    | none => False
  | .box t x => match C.tb t, look env [] x with
    | some ⟨_, _, _, _⟩, some s => match cellsOf s with
      | some cs => K (.loc (lenL hp) 0) A (hp ++ [.box t cs])
      | none => False
    | _, _ => False
  | .store t x y => match C.tb t, look env [] x, look env [] y with
    | some ⟨_, sz, _, _⟩, some (.loc l off), some s => match cellsOf s with
      | some cs => bif atomsS cs && Nat.beq (lenL cs) sz && wrOK C l then
          match nthL l hp with
          | some (.box bt cells) => match splL off cs cells with
            | some cells' => K (.v undef) A (setL l (.box bt cells') hp)
            | none => False
          | _ => False
        else False
      | none => False
    | some ⟨_, sz, _, _⟩, some (.elt l k i off), some s => match cellsOf s with
      | some cs => bif atomsS cs && Nat.beq (lenL cs) sz && wrOK C l then
          match rawVs cs, nthL l hp with
          | some vs, some (.row t' k' n els) => bif Nat.beq k k' && Nat.ble (Nat.add off sz) k && Nat.blt 0 k then
              ObVC (i < n) (K (.v undef) A (setL l (.row t' k' n (fun j => bif Nat.beq j i then takeD off (els i) ++ vs ++ dropL (Nat.add off sz) (els i) else els j)) hp))
            else False
          | _, _ => False
        else False
      | none => False
    | _, _, _ => False
  | .call ⟨.builtin .clear, args, tys⟩ => match args.toList, tys.toList with
    | [x], [t] => match C.tb t, look env [] x with
      | some ⟨.slice e, _, _, _⟩, some (.sl l k i m) => match C.tb e, nthL l hp with
        | some ti, some (.row t' k' n els) => bif Nat.beq k k' && Nat.beq (lenL ti.zero) k && Nat.blt 0 k && atomsS (mapV ti.zero) then
            ObVC (i + m ≤ n) (K (.v (.tuple #[])) A (setL l (.row t' k' n (fun j => bif Nat.ble i j && Nat.blt j (i + m) then ti.zero else els j)) hp))
          else False
        | _, _ => False
      | _, _ => False
    | _, _ => False
  | .call ⟨.value f, args, _⟩ => match look env [] f with
    | some (.fn (.func g) caps) => match looks env [] args.toList with
      | some ss => bif lends C f then ObVC (C.fn g = true) (LendVC P B A hp g (ss ++ caps) K) else ObVC (C.fn g = true) (CallVC P B A hp g (ss ++ caps) (fun s A' tl => K s A' (hp ++ tl)) (fun ch A' => Q (.panic ch) A' envq hp))
      | none => False
    | _ => False
  | .call ⟨.builtin .append, args, tys⟩ => match args.toList, tys.toList with
    | [s, x], [t, u] => match C.tb t with
      | some ⟨.slice e, _, _, _⟩ => match C.tb e with
        | some ti => bif Nat.blt 0 ti.bytes && Nat.blt 0 ti.size && Nat.beq (lenL ti.zero) ti.size then
          match look env [] s, look env [] x with
          | some S, some X => bif Nat.beq t u then
              match appT C hp e ti.size S with
              | some T => match rawSl X with
                | some (q, m, c) => RawVC A q m c ti.size (fun els => ObVC (T.ob ∧ (T.n + m) * ti.bytes ≤ 140737488355328) (K (.sl (lenL T.hp) ti.size 0 (T.n + m)) A (T.hp ++ [.row e ti.size (T.n + m) (joinE T.n T.els els)])))
                | none => match appS ti.size X with
                  | some Y => ObVC (T.ob ∧ Y.ob ∧ (T.n + Y.m) * ti.bytes ≤ 140737488355328) (K (.sl (lenL T.hp) ti.size 0 (T.n + Y.m)) A (T.hp ++ [.row e ti.size (T.n + Y.m) (joinE T.n T.els Y.els)]))
                  | none => False
              | none => False
            else match appZ C u S X with
              | some z => ObVC (0 ≤ z ∧ z.toNat * ti.bytes ≤ 140737488355328) (K (.sl (lenL hp) ti.size 0 z.toNat) A (hp ++ [.row e ti.size z.toNat (fun _ => ti.zero)]))
              | none => False
          | _, _ => False
          else False
        | none => False
      | _ => False
    | _, _ => False
  | .buildSlice t len parts => match C.tb t with
    | some ⟨.slice e, _, _, _⟩ => match C.tb e with
      | some ti => match rowsOf env ti.size 0 parts.toList with
        | some rows => bif Nat.beq (lenL rows) len && Nat.ble (Nat.mul len ti.size) 16777216 then BuildVC A len ti.size (tabE rows) (fun s A' => K s A' hp) else False
        | none => False
      | none => False
    | _ => False
  | .panic x => match look env [] x with
    | some (.v (.iface t v)) => Q (.panic [{ v := .iface t v, recovered := false }]) A envq hp
    | _ => False
  | _ => False

/-- guarded calls -/
def gefVC (P : Program) (C : Ctx) (B A : Anc) (env : Env) (hp : List Chunk) (p : List (Nat × Bool)) (op : Op) (K : SV → Anc → Prop) : Prop :=
  match op with
  | .call ⟨.value f, args, _⟩ => match look env p f with
    | some (.fn (.func g) caps) => match looks env p args.toList with
      | some ss => ObVC (C.fn g = true) (GCallVC P B A hp g (ss ++ caps) (guardP env p) (guardT env p) K)
      | none => False
    | _ => False
  | _ => False

def vcOps (P : Program) (C : Ctx) (B : Anc) (n : Nat) (all : List Oper) (K : Exit → Anc → Env → List Chunk → Prop) : List Oper → List Nat → Anc → Env → List Chunk → Prop
  | [], gs, A, env, hp => K .normal A (cleanG gs env) hp
  | o :: rest, gs, A, env, hp => match pathOf all env o.guard with
    | none => False
    | some p => bif dstOK n (gsOf gs p) o.dst then
        match pev C env hp p o.op with
        | some ⟨none, s⟩ => vcOps P C B n all K rest (gsOf gs p) A (env.put o.dst p s) hp
        | some ⟨some φ, s⟩ => ObVC (guardP env p φ) (vcOps P C B n all K rest (gsOf gs p) A (env.put o.dst p s) hp)
        | none => match p with
          | [] => effVC P C B A env (cleanG gs env) hp o.op (fun s A' hp' => vcOps P C B n all K rest gs A' (env.put o.dst [] s) hp') K
          | q :: p' => gefVC P C B A env hp (q :: p') o.op (fun s A' => vcOps P C B n all K rest (gsOf gs (q :: p')) A' (env.put o.dst (q :: p') s) hp)
      else False

end Go.Eng
end

section
/-! The engine, part I: regions are as they are said. -/
namespace Go.Eng
section
variable {P : Program} {C : Ctx} {B A : Anc} {ds : DS} {n : Nat} {env : Env} {hp : List Chunk} {β : Lay} {a : Act} {w : World} {p : List (Nat × Bool)} {gs : List Nat}

def GsOK (gs : List Nat) (env : Env) : Prop := ∀ t e, env t = some e → ∀ q ∈ e.path, q.1 ∈ gs

theorem put_get (a : Act) (d t : Nat) (y : Value) (hd : d < a.tmps.size) : (a.put (some d) y).tmps[t]? = if d = t then some y else a.tmps[t]? := by
  simp only [Act.put, Array.getElem?_setIfInBounds, hd]
  split
  · simp
  · rfl

theorem holdsP_put {a : Act} {d : Nat} {y : Value} (hd : d < a.tmps.size) {q : List (Nat × Bool)} (hq : ∀ x ∈ q, x.1 ≠ d) : holdsP (a.put (some d) y).tmps q ↔ holdsP a.tmps q := by
  constructor <;> intro h x hx
  · have := h x hx
    rw [put_get a d x.1 y hd, if_neg (fun e => hq x hx e.symm)] at this
    exact this
  · rw [put_get a d x.1 y hd, if_neg (fun e => hq x hx e.symm)]
    exact h x hx

theorem EnvOK.put (hE : EnvOK β A env a.tmps) (hg : GsOK gs env) (hpg : ∀ q ∈ p, q.1 ∈ gs) {d : Option Nat} (hd : dstOK a.tmps.size gs d = true) {s : SV} {y : Value}
    (h1 : holdsP a.tmps p → s.Rel β A y) (h2 : ¬ holdsP a.tmps p → y = undef) : EnvOK β A (env.put d p s) (a.put d y).tmps := by
  cases d with
  | none => exact hE
  | some d =>
    simp only [dstOK, Bool.and_eq_true] at hd
    have hlt : d < a.tmps.size := by simpa using hd.1
    have hnm : d ∉ gs := memN_mem (by simpa using hd.2)
    intro t e he
    simp only [Env.put] at he
    by_cases hdt : d = t
    · subst hdt
      simp at he
      subst he
      have hp' : ∀ x ∈ p, x.1 ≠ d := fun x hx e => hnm (e ▸ hpg x hx)
      simp only [holdsP_put hlt hp']
      rw [put_get a d d y hlt, if_pos rfl]
      exact ⟨fun hh => ⟨y, rfl, h1 hh⟩, fun hh => by rw [h2 hh]⟩
    · have hne : Nat.beq t d = false := by
        cases hb : Nat.beq t d with
        | false => rfl
        | true => exact absurd (Nat.eq_of_beq_eq_true hb).symm hdt
      rw [hne] at he
      simp only [cond_false] at he
      have hp' : ∀ x ∈ e.path, x.1 ≠ d := fun x hx e' => hnm (e' ▸ hg t e he x hx)
      simp only [holdsP_put hlt hp']
      rw [put_get a d t y hlt, if_neg hdt]
      exact hE t e he

theorem GsOK.put (hg : GsOK gs env) (hpg : ∀ q ∈ p, q.1 ∈ gs) (d : Option Nat) (s : SV) : GsOK gs (env.put d p s) := by
  cases d with
  | none => exact hg
  | some d =>
    intro t e he
    simp only [Env.put] at he
    cases hb : Nat.beq t d with
    | true => rw [hb] at he; simp at he; subst he; exact hpg
    | false => rw [hb] at he; exact hg t e (by simpa using he)

theorem pathOf_spec {all : List Oper} (hE : EnvOK β A env a.tmps) (hg : GsOK gs env) {o : Oper} (h : pathOf all env o.guard = some p) :
    (Region.wanted o (yielded all.toArray a.tmps) = true ↔ holdsP a.tmps p) ∧ ∀ q ∈ p, q.1 ∈ gsOf gs p := by
  cases hgd : o.guard with
  | none =>
    rw [hgd] at h; simp [pathOf] at h; subst h
    exact ⟨by simp [Region.wanted, hgd, holdsP], by simp⟩
  | some jb =>
    obtain ⟨j, b⟩ := jb
    rw [hgd] at h
    simp only [pathOf] at h
    split at h <;> try (simp at h; done)
    rename_i o' ho'
    split at h <;> try (simp at h; done)
    rename_i s hs
    split at h <;> try (simp at h; done)
    rename_i pj x hx
    simp at h; subst h
    rw [nthL_eq] at ho'
    obtain ⟨h1, h2⟩ := hE s _ hx
    have hy : yielded all.toArray a.tmps j = match a.tmps[s]? with | some (.bool b) => some b | _ => none := by
      simp [yielded, ho', hs]
      rfl
    refine ⟨?_, fun q hq => ?_⟩
    · simp only [Region.wanted, hgd, hy]
      constructor
      · intro hw
        by_cases hpj : holdsP a.tmps pj
        · obtain ⟨y, hy1, hr⟩ := h1 hpj
          simp only [SV.Rel] at hr
          subst hr
          rw [hy1] at hw
          simp at hw
          subst hw
          intro q hq
          rcases List.mem_cons.1 hq with rfl | hq
          · exact hy1
          · exact hpj q hq
        · rw [h2 hpj] at hw
          simp [undef] at hw
      · intro hw
        have := hw (s, b) (by simp)
        simp only at this
        rw [this]
        simp
    · simp only [gsOf]
      rcases List.mem_cons.1 hq with rfl | hq
      · simp
      · exact List.mem_cons_of_mem _ (hg s _ hx q hq)

theorem guardP_spec (hE : EnvOK β A env a.tmps) : ∀ {q : List (Nat × Bool)} {φ : Prop}, holdsP a.tmps q → guardP env q φ → φ
  | [], _, _, h => h
  | (s, b) :: r, φ, hq, h => by
    have hr : holdsP a.tmps r := fun x hx => hq x (List.mem_cons_of_mem _ hx)
    simp only [guardP] at h
    split at h
    · rename_i pj x hx
      have hb := hq (s, b) (by simp)
      simp only at hb
      obtain ⟨h1, h2⟩ := hE s _ hx
      refine guardP_spec hE hr (h ?_)
      by_cases hpj : holdsP a.tmps pj
      · obtain ⟨y, hy1, hrel⟩ := h1 hpj
        simp only [SV.Rel] at hrel
        subst hrel
        rw [hb] at hy1
        simp at hy1
        exact hy1.symm
      · rw [h2 hpj] at hb
        simp [undef] at hb
    · exact guardP_spec hE hr h

theorem holdsP_nil (tmps : Array Value) : holdsP tmps [] := by intro q hq; cases hq

theorem Conc.put (h : Conc B ds n A env hp β a w) (hg : GsOK gs env) (hpg : ∀ q ∈ p, q.1 ∈ gs) {d : Option Nat} (hd : dstOK n gs d = true) {s : SV} {y : Value}
    (h1 : holdsP a.tmps p → s.Rel β A y) (h2 : ¬ holdsP a.tmps p → y = undef) : Conc B ds n A (env.put d p s) hp β (a.put d y) w where
  size := by cases d <;> simp [Act.put, h.size]
  defers := by cases d <;> simp [Act.put, h.defers]
  ext := h.ext
  envr := h.envr.put hg hpg (by rw [h.size]; exact hd) h1 h2
  hpr := h.hpr
  m := h.m
  stp := h.stp
  bas := h.bas
  anc := h.anc
  own := h.own
  inj := h.inj
  MO := h.MO
  MB := h.MB
  OS := h.OS
  BM := h.BM

theorem gsOf_sub {gs : List Nat} {q : List (Nat × Bool)} : ∀ x ∈ gs, x ∈ gsOf gs q := by
  intro x hx
  cases q with
  | nil => exact hx
  | cons y r => exact List.mem_cons_of_mem _ hx

theorem GsOK.mono {gs gs' : List Nat} (h : GsOK gs env) (hs : ∀ x ∈ gs, x ∈ gs') : GsOK gs' env := fun t e he q hq => hs _ (h t e he q hq)

theorem cleanE_ok (hE : EnvOK β A env a.tmps) : EnvOK β A (cleanE env) a.tmps := by
  intro t e he
  simp only [cleanE] at he
  split at he <;> try (simp at he; done)
  rename_i s hs
  simp at he; subst he
  exact hE t _ hs

theorem Conc.cleanG (h : Conc B ds n A env hp β a w) (gs : List Nat) : Conc B ds n A (cleanG gs env) hp β a w := by
  cases gs with
  | nil => exact h
  | cons g r => exact { h with envr := cleanE_ok h.envr }

/-- a new layout with one block more -/
def Lay.snoc (β : Lay) (l : Loc) : Lay := ⟨β.m + 1, fun i => if i = β.m then l else β.at_ i⟩
theorem Lay.le_snoc (β : Lay) (l : Loc) : β.le (β.snoc l) := ⟨Nat.le_succ _, fun i hi => by simp [Lay.snoc, Nat.ne_of_lt hi]⟩

theorem EnvOK.grow {β' : Lay} (hE : EnvOK β A env a.tmps) (hb : β.le β') : EnvOK β' A env a.tmps := fun t e he =>
  ⟨fun hh => let ⟨y, h1, h2⟩ := (hE t e he).1 hh; ⟨y, h1, SV.Rel.grow hb _ _ h2⟩, (hE t e he).2⟩

/-- a chunk holds where its block is as it was -/
theorem ChRel.keep {β β' : Lay} {A A' : Anc} {w w' : World} {l : Nat} {ch : Chunk} (h : ChRel β A w l ch) (hl : l < β.m) (hb : β.le β') (hA : Later A A')
    (hk : ch.live (β.at_ l) = true → w'.heap[(β.at_ l).b]? = w.heap[(β.at_ l).b]?) : ChRel β' A' w' l ch := by
  cases ch with
  | dead => trivial
  | box t cells =>
    obtain ⟨ys, h1, h2⟩ := h
    refine ⟨ys, RelL.later hA _ _ (RelL.grow hb _ _ h1), ?_⟩
    rw [hb.at_ l hl, hk rfl]; exact h2
  | row t k n els =>
    refine ⟨h.len, ?_, ?_⟩
    · rw [hb.at_ l hl]; exact h.nil
    · rw [hb.at_ l hl]
      intro hn
      rw [hk (by simp [Chunk.live, hn])]
      exact h.at_ hn

theorem heap_alloc_lt (w : World) (o : Obj) (i : Nat) (h : i < w.heap.size) : (w.alloc o).heap[i]? = w.heap[i]? := Go.RowKit.Below.heap_alloc w o i h

theorem Stp.alloc {O : Nat → Prop} {v w : World} (h : Stp O v w) (o : Obj) : Stp O v (w.alloc o) :=
  ⟨h.os, h.tape, h.output, Nat.le_trans h.size (by simp), fun k hk hn => by
    rw [heap_alloc_lt w o k (Nat.lt_of_lt_of_le hk h.size)]; exact h.keep k hk hn⟩

/-- a new box -/
theorem Conc.alloc (h : Conc B ds n A env hp β a w) (t : Nat) (cs : List SV) (ys : List Value) (hr : RelL β A cs ys) :
    Conc B ds n A env (hp ++ [.box t cs]) (β.snoc ⟨w.heap.size, false, 0⟩) a (w.alloc (.cells ys.toArray t (0, 0))) where
  size := h.size
  defers := h.defers
  ext := h.ext.trans (β.le_snoc _)
  envr := h.envr.grow (β.le_snoc _)
  hpr := by
    intro l ch hl
    by_cases hlt : l < hp.length
    · rw [List.getElem?_append_left hlt] at hl
      refine ChRel.keep (h.hpr l ch hl) (by rw [h.m]; exact hlt) (β.le_snoc _) (Later.refl A) (fun hv => ?_)
      exact heap_alloc_lt _ _ _ (h.own l ch hl hv).2.2.2
    · have : l = hp.length := by
        have := (List.getElem?_eq_some_iff.1 hl).1
        simp at this; omega
      subst this
      simp at hl; subst hl
      refine ⟨ys, RelL.grow (β.le_snoc _) _ _ hr, ?_⟩
      have e : ((β.snoc ⟨w.heap.size, false, 0⟩).at_ hp.length).b = w.heap.size := by simp [Lay.snoc, h.m]
      rw [e]
      show (w.heap.push _)[w.heap.size]? = _
      simp
  m := by simp [Lay.snoc, h.m]
  stp := h.stp.alloc _
  bas := h.bas.alloc _
  anc := h.anc
  own := by
    intro l ch hl hv
    by_cases hlt : l < hp.length
    · rw [List.getElem?_append_left hlt] at hl
      rw [(β.le_snoc ⟨w.heap.size, false, 0⟩).at_ l (by rw [h.m]; exact hlt)] at hv
      obtain ⟨h1, h2, h3, h4⟩ := h.own l ch hl hv
      rw [(β.le_snoc ⟨w.heap.size, false, 0⟩).at_ l (by rw [h.m]; exact hlt)]
      exact ⟨h1, h2, h3, by simp; omega⟩
    · have : l = hp.length := by
        have := (List.getElem?_eq_some_iff.1 hl).1
        simp at this; omega
      subst this
      have : ((β.snoc ⟨w.heap.size, false, 0⟩).at_ hp.length).b = w.heap.size := by simp [Lay.snoc, h.m]
      rw [this]
      exact ⟨.inl h.stp.size, .inl h.bas.size, fun hm => by have := h.OS _ (h.MO _ hm); have := h.stp.size; omega, by simp⟩
  inj := by
    intro l l' ch ch' hl hl' hv hv' he
    have key : ∀ i c, (hp ++ [Chunk.box t cs])[i]? = some c → c.live ((β.snoc ⟨w.heap.size, false, 0⟩).at_ i) = true → (i < hp.length ∧ ((β.snoc ⟨w.heap.size, false, 0⟩).at_ i).b < w.heap.size ∧ hp[i]? = some c ∧ (β.snoc ⟨w.heap.size, false, 0⟩).at_ i = β.at_ i) ∨ (i = hp.length ∧ ((β.snoc ⟨w.heap.size, false, 0⟩).at_ i).b = w.heap.size) := by
      intro i c hi hc
      by_cases hlt : i < hp.length
      · rw [List.getElem?_append_left hlt] at hi
        have e := (β.le_snoc ⟨w.heap.size, false, 0⟩).at_ i (by rw [h.m]; exact hlt)
        rw [e] at hc
        exact .inl ⟨hlt, by rw [e]; exact (h.own i c hi hc).2.2.2, hi, e⟩
      · have : i = hp.length := by
          have := (List.getElem?_eq_some_iff.1 hi).1
          simp at this; omega
        exact .inr ⟨this, by subst this; simp [Lay.snoc, h.m]⟩
    rcases key l ch hl hv with ⟨a1, a2, a3, a4⟩ | ⟨a1, a2⟩ <;> rcases key l' ch' hl' hv' with ⟨b1, b2, b3, b4⟩ | ⟨b1, b2⟩
    · rw [a4, b4] at he; rw [a4] at hv; rw [b4] at hv'; exact h.inj l l' ch ch' a3 b3 hv hv' he
    · omega
    · omega
    · omega
  MO := h.MO
  MB := h.MB
  OS := h.OS
  BM := h.BM

theorem newVar_run {t : Nat} {v : Value} : (newVar t v).run P w = .ok ⟨w.heap.size, 0, none⟩ (w.alloc (.cells v.cells t (0, 0))) := by
  simp [newVar, newRow]

theorem zero_run {t : Nat} {ti : TI} (h : mkTb P t = some ti) : ∃ z : Value, (zeroValue t).run P w = .ok z w ∧ z.cells.toList = ti.zero := by
  obtain ⟨i, d, z, hi, hd, hz, rfl⟩ := ti_parts h
  exact ⟨z, by simp [zeroValue, typeInfo, hi, hz], rfl⟩

end
end Go.Eng
end

section
/-! The engine, part J: stores, calls; regions. -/
namespace Go.Eng
section
variable {P : Program} {C : Ctx} {B A : Anc} {ds : DS} {n : Nat} {env : Env} {hp : List Chunk} {β : Lay} {a : Act} {w : World} {p : List (Nat × Bool)} {gs : List Nat}

theorem atomsS_one : ∀ {cs : List SV} {ys : List Value}, atomsS cs = true → RelL β A cs ys → ∀ y ∈ ys, y.oneCell' = true
  | [], ys, _, hr => by simp only [RelL] at hr; subst hr; simp
  | s :: r, ys, h, hr => by
    simp only [atomsS, Bool.and_eq_true] at h
    simp only [RelL] at hr
    obtain ⟨y, t, rfl, h1, h2⟩ := hr
    intro z hz
    rcases List.mem_cons.1 hz with rfl | hz
    · cases s with
      | v x =>
        simp only [SV.Rel] at h1; subst h1
        have := h.1
        simp only [atomS] at this
        cases z <;> simp_all [Value.oneCell']
      | loc => simp only [SV.Rel] at h1; obtain ⟨_, rfl⟩ := h1; rfl
      | ext => simp only [SV.Rel] at h1; obtain ⟨rfl, _⟩ := h1; rfl
      | xptr => simp only [SV.Rel] at h1; obtain ⟨rfl, _⟩ := h1; rfl
      | agg => simp [atomS] at h
      | tup => simp [atomS] at h
      | fn => simp only [SV.Rel] at h1; obtain ⟨ys, rfl, _⟩ := h1; rfl
      | sl => simp only [SV.Rel] at h1; obtain ⟨_, ⟨_, _, _, rfl⟩ | ⟨_, _, rfl⟩⟩ := h1 <;> rfl
      | elt => simp only [SV.Rel] at h1; obtain ⟨_, _, rfl⟩ := h1; rfl
    · exact atomsS_one h.2 h2 z hz

/-- a block of one's own is set anew -/
theorem Stp.setRow {O : Nat → Prop} {v w : World} (h : Stp O v w) {g : Nat} (hg : v.heap.size ≤ g ∨ O g) (cs : Array Value) : Stp O v (w.setRow g cs) :=
  ⟨h.os, h.tape, h.output, by simpa using h.size, fun k hk hn => by
    rw [setRow_other w g k cs (fun e => by subst e; rcases hg with h1 | h1; omega; exact hn h1)]
    exact h.keep k hk hn⟩

theorem Conc.store (h : Conc B ds n A env hp β a w) {l bt : Nat} {cells cells' cs : List SV} {off : Nat} (hl : hp[l]? = some (.box bt cells)) (hs : splL off cs cells = some cells') {xs ys : List Value}
    (hx : RelL β A cs xs) (hy : RelL β A cells ys) (hw : w.heap[(β.at_ l).b]? = some (.cells ys.toArray bt (0, 0))) :
    Conc B ds n A env (hp.set l (.box bt cells')) β a (w.setRow (β.at_ l).b (ys.take off ++ xs ++ ys.drop (off + xs.length)).toArray) where
  size := h.size
  defers := h.defers
  ext := h.ext
  envr := h.envr
  hpr := by
    intro l' ch hl'
    by_cases he : l = l'
    · subst he
      have hlt : l < hp.length := (List.getElem?_eq_some_iff.1 hl).1
      rw [List.getElem?_set_self hlt] at hl'
      simp at hl'; subst hl'
      obtain ⟨_, hr⟩ := splL_rel hs hx hy
      exact ⟨_, hr, setRow_heap w _ _ _ bt (0, 0) hw⟩
    · rw [List.getElem?_set_ne he] at hl'
      refine ChRel.keep (h.hpr l' ch hl') (by rw [h.m]; exact (List.getElem?_eq_some_iff.1 hl').1) (Lay.le.refl β) (Later.refl A) (fun hv => ?_)
      exact setRow_other w _ _ _ (fun e => he (h.inj l l' _ ch hl hl' rfl hv e.symm))
  m := by rw [h.m]; simp
  stp := h.stp.setRow (h.own l _ hl rfl).1 _
  bas := h.bas.setRow (h.own l _ hl rfl).2.1 _
  anc := h.anc
  own := by
    intro l' ch hl' hv
    by_cases he : l = l'
    · subst he
      have := h.own l _ hl rfl
      simpa using this
    · rw [List.getElem?_set_ne he] at hl'
      simpa using h.own l' ch hl' hv
  inj := by
    have key : ∀ (i : Nat) (c : Chunk), (hp.set l (Chunk.box bt cells'))[i]? = some c → c.live (β.at_ i) = true → ∃ c' : Chunk, hp[i]? = some c' ∧ c'.live (β.at_ i) = true := by
      intro i c hi hc
      by_cases he : l = i
      · subst he; exact ⟨_, hl, rfl⟩
      · rw [List.getElem?_set_ne he] at hi; exact ⟨c, hi, hc⟩
    intro i j c c' hi hj hc hc' he
    obtain ⟨d, h1, h2⟩ := key i c hi hc
    obtain ⟨d', h3, h4⟩ := key j c' hj hc'
    exact h.inj i j d d' h1 h3 h2 h4 he
  MO := h.MO
  MB := h.MB
  OS := h.OS
  BM := h.BM

theorem storeAt_run {t : Nat} {ti : TI} (h : mkTb P t = some ti) {b off bt : Nat} {v : Value} {ys : List Value} (hw : w.heap[b]? = some (.cells ys.toArray bt (0, 0))) (hl : v.cells.toList.length = ti.size) (h1 : ∀ y ∈ v.cells.toList, y.oneCell' = true)
    (hlen : off + v.cells.toList.length ≤ ys.length) :
    (Instr.storeAt t (.pointer (some ⟨b, off, none⟩)) v).run P w = .ok () (w.setRow b (ys.take off ++ v.cells.toList ++ ys.drop (off + v.cells.toList.length)).toArray) := by
  have hs := sizeOf_run (w := w) h
  have hz : v.cells.size = ti.size := by simpa using hl
  have := run_storeCells_at (P := P) b off bt v.cells.toList 0 ys.toArray w hw (by simpa using hlen) h1
  simp only [Nat.add_zero] at this
  simp only [Instr.storeAt, Instr.sureAddr, Sem.run_bind, Sem.run_pure, Result.andThen_ok, storeVar, hs, hz]
  simpa using this

/-- the world turns by a call: the anchor stays -/
theorem Conc.world (h : Conc B ds n A env hp β a w) {w' : World} (hs : Stp A.M w w') : Conc B ds n A env hp β a w' where
  size := h.size
  defers := h.defers
  ext := h.ext
  envr := h.envr
  hpr := by
    intro l ch hl
    refine ChRel.keep (h.hpr l ch hl) (by rw [h.m]; exact (List.getElem?_eq_some_iff.1 hl).1) (Lay.le.refl β) (Later.refl A) (fun hv => ?_)
    obtain ⟨_, _, h3, h4⟩ := h.own l ch hl hv
    exact hs.keep _ h4 h3
  m := h.m
  stp := h.stp.trans hs (fun k _ hk => h.MO k hk)
  bas := h.bas.trans hs (fun k hk hm => (h.MB k hm).resolve_right (by omega))
  anc := h.anc
  own := fun l ch hl hv => by
    obtain ⟨h1, h2, h3, h4⟩ := h.own l ch hl hv
    exact ⟨h1, h2, h3, Nat.lt_of_lt_of_le h4 hs.size⟩
  inj := h.inj
  MO := h.MO
  MB := h.MB
  OS := h.OS
  BM := h.BM

/-- what a caller owns at a call -/
def ownO (A : Anc) (hp : List Chunk) (β : Lay) : Nat → Prop := fun k => A.O k ∨ ∃ l ch, hp[l]? = some ch ∧ ch.live (β.at_ l) = true ∧ (β.at_ l).b = k

theorem Conc.laterO (h : Conc B ds n A env hp β a w) : Later A ⟨ownO A hp β, A.M, w⟩ :=
  ⟨h.stp, fun k hk => by
    rcases hk with hk | ⟨l, ch, hl, hv, rfl⟩
    · exact .inl hk
    · rcases (h.own l ch hl hv).1 with h1 | h1
      · exact .inr h1
      · exact .inl h1⟩

theorem Conc.site (h : Conc B ds n A env hp β a w) {args : List SV} {vals : List Value} (hr : RelL β A args vals) : Site B A hp args (ownO A hp β) w β vals where
  later := h.laterO
  rel := RelL.later h.laterO _ _ hr
  hpr := fun l ch hl => ChRel.keep (h.hpr l ch hl) (by rw [h.m]; exact (List.getElem?_eq_some_iff.1 hl).1) (Lay.le.refl β) h.laterO (fun _ => rfl)
  bas := h.bas
  O1 := fun k hk => .inl hk
  MO := fun k hk => .inl (h.MO k hk)
  OS := fun k hk => by
    rcases hk with hk | ⟨l, ch, hl, hv, rfl⟩
    · exact Nat.lt_of_lt_of_le (h.OS k hk) h.stp.size
    · exact (h.own l ch hl hv).2.2.2
  own := fun l ch hl hv => ⟨.inr ⟨l, ch, hl, hv, rfl⟩, (h.own l ch hl hv).2.2.1⟩
  inj := h.inj
  m := h.m
  bown := fun l ch hl hv => (h.own l ch hl hv).2.1
  BM := h.BM

/-- a new anchor behind a call -/
theorem Conc.anchor (h : Conc B ds n A env hp β a w) {A' : Anc} (hn : Next ⟨ownO A hp β, A.M, w⟩ A') : Conc B ds n A' env hp β a A'.w := by
  have hl : Later A A' := h.laterO.trans ⟨hn.stp.mono (fun k _ hk => .inl (h.MO k hk)), hn.O2⟩
  have hw := h.world hn.stp
  exact {
    size := h.size
    defers := h.defers
    ext := h.ext
    envr := fun t e he => ⟨fun hh => let ⟨y, h1, h2⟩ := (h.envr t e he).1 hh; ⟨y, h1, SV.Rel.later hl _ _ h2⟩, (h.envr t e he).2⟩
    hpr := fun l ch hl' => ChRel.keep (hw.hpr l ch hl') (by rw [h.m]; exact (List.getElem?_eq_some_iff.1 hl').1) (Lay.le.refl β) hl (fun _ => rfl)
    m := h.m
    stp := Stp.refl _ _
    bas := hw.bas
    anc := Nat.le_trans h.bas.size hn.stp.size
    own := fun l ch hl' hv => by
      obtain ⟨h1, h2, h3, h4⟩ := h.own l ch hl' hv
      refine ⟨.inr (hn.O1 _ (.inr ⟨l, ch, hl', hv, rfl⟩)), h2, fun hm => ?_, Nat.lt_of_lt_of_le h4 hn.stp.size⟩
      rcases hn.M2 _ hm with h5 | h5
      · exact h3 h5
      · simp only at h5; omega
    inj := h.inj
    MO := hn.M3
    MB := fun k hk => by
      rcases hn.M2 _ hk with h5 | h5
      · exact h.MB k h5
      · exact .inr (Nat.le_trans h.bas.size h5)
    OS := hn.O3
    BM := fun k hk => hn.M1 _ (h.BM k hk) }

theorem enter_run (hC : CtxOK P C) {g : Nat} (hg : C.fn g = true) {dst : Option Nat} {f : Operand} {args : Array Operand} {tys : Array Nat} {ty : Nat} {pos : String} {after : Array Edge} {guard : Option (Nat × Bool)} {caps : List Value}
    (hf : a.eval f = .func (.func g) #[] caps.toArray) :
    (execOp a.eval ⟨dst, .call ⟨.value f, args, tys⟩, ty, pos, after, guard⟩).run P w = .ok (.enter g ((args.toList.map a.eval ++ caps).toArray)) w := by
  obtain ⟨fn, c, h1, h2, h3⟩ := hC.fn g hg
  simp only [execOp, resolve, hf, Deferred.ofValue, Sem.run_bind, Sem.run_pure, Result.andThen_ok, invoke, callFunc, run_program, h1]
  simp [h2, h3]

end
end Go.Eng
end
