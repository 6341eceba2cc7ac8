/- Lemmas for the proof of a law of the seat Ytfigihelkjlcpaa: an own evaluator of the model's programs, contracts of functions. -/
import Derived.Test.YtfigihelkjlcpaaEngP2
import Derived.Scope
section
/-! The engine, part L: codes, loops, whole functions. -/
namespace Go.Eng
section
variable {P : Program} {C : Ctx} {B A : Anc} {ds : DS} {n : Nat} {env : Env} {hp : List Chunk} {β : Lay} {a : Act} {w : World}

/-- a frame as a list -/
def ofL : List (Nat × SV) → Env
  | [] => fun _ => none
  | (t, s) :: r => fun i => bif Nat.beq i t then some ⟨[], s⟩ else ofL r i

mutual
def SV.lt (m : Nat) : SV → Bool
  | .loc l _ => Nat.blt l m
  | .sl l _ _ _ => Nat.blt l m
  | .elt l _ _ _ => Nat.blt l m
  | .agg cs => ltL m cs
  | .tup cs => ltL m cs
  | .fn _ cs => ltL m cs
  | .v _ => true
  | .ext _ _ _ _ _ => true
  | .xptr _ _ => true
def ltL (m : Nat) : List SV → Bool
  | [] => true
  | s :: r => s.lt m && ltL m r
end
def ltE (m : Nat) : List (Nat × SV) → Bool
  | [] => true
  | (_, s) :: r => s.lt m && ltE m r
def ltH (m : Nat) : List Chunk → Bool
  | [] => true
  | .box _ cs :: r => ltL m cs && ltH m r
  | .row _ _ _ _ :: r => ltH m r
  | .dead :: r => ltH m r

def nthD : Nat → List Nat → Nat
  | _, [] => 0
  | 0, x :: _ => x
  | n + 1, _ :: r => nthD n r

mutual
/-- other names for the blocks -/
def SV.ren (σ : List Nat) : SV → SV
  | .loc l o => .loc (nthD l σ) o
  | .sl l k i n => .sl (nthD l σ) k i n
  | .elt l k i o => .elt (nthD l σ) k i o
  | .agg cs => .agg (renL σ cs)
  | .tup cs => .tup (renL σ cs)
  | .fn f cs => .fn f (renL σ cs)
  | .v x => .v x
  | .ext a n c k els => .ext a n c k els
  | .xptr p cs => .xptr p cs
def renL (σ : List Nat) : List SV → List SV
  | [] => []
  | s :: r => s.ren σ :: renL σ r
end

/-- some of a layout's blocks, by other names -/
def Lay.cut (β : Lay) (σ : List Nat) (m : Nat) : Lay := ⟨m, fun i => β.at_ (nthD i σ)⟩

theorem blt_lt {a b : Nat} (h : Nat.blt a b = true) : a < b := Nat.le_of_ble_eq_true h

mutual
theorem SV.Rel.cut {m : Nat} {σ : List Nat} : ∀ (s : SV) (y : Value), s.lt m = true → (s.ren σ).Rel β A y → s.Rel (β.cut σ m) A y
  | .v _, _, _, h => h
  | .loc l _, _, hl, h => by simp only [SV.Rel, SV.ren] at h ⊢; simp only [SV.lt] at hl; exact ⟨blt_lt hl, h.2⟩
  | .ext _ _ _ _ _, _, _, h => h
  | .xptr _ _, _, _, h => h
  | .agg cs, _, hl, h => by simp only [SV.Rel, SV.ren] at h ⊢; simp only [SV.lt] at hl; obtain ⟨ys, h1, h2⟩ := h; exact ⟨ys, h1, RelL.cut cs ys hl h2⟩
  | .tup cs, _, hl, h => by simp only [SV.Rel, SV.ren] at h ⊢; simp only [SV.lt] at hl; obtain ⟨ys, h1, h2⟩ := h; exact ⟨ys, h1, RelL.cut cs ys hl h2⟩
  | .fn _ cs, _, hl, h => by simp only [SV.Rel, SV.ren] at h ⊢; simp only [SV.lt] at hl; obtain ⟨ys, h1, h2⟩ := h; exact ⟨ys, h1, RelL.cut cs ys hl h2⟩
  | .sl l _ _ _, _, hl, h => by simp only [SV.Rel, SV.ren] at h ⊢; simp only [SV.lt] at hl; exact ⟨blt_lt hl, h.2⟩
  | .elt l _ _ _, _, hl, h => by simp only [SV.Rel, SV.ren] at h ⊢; simp only [SV.lt] at hl; exact ⟨blt_lt hl, h.2⟩
theorem RelL.cut {m : Nat} {σ : List Nat} : ∀ (s : List SV) (ys : List Value), ltL m s = true → RelL β A (renL σ s) ys → RelL (β.cut σ m) A s ys
  | [], _, _, h => h
  | s :: r, _, hl, h => by
    simp only [RelL, renL] at h ⊢
    simp only [ltL, Bool.and_eq_true] at hl
    obtain ⟨y, t, h1, h2, h3⟩ := h
    exact ⟨y, t, h1, SV.Rel.cut s y hl.1 h2, RelL.cut r t hl.2 h3⟩
end

def subE (σ : List Nat) (env : Env) : List (Nat × SV) → Prop
  | [] => True
  | (t, s) :: r => env t = some ⟨[], s.ren σ⟩ ∧ subE σ env r

theorem ltH_get {m : Nat} : ∀ {hp : List Chunk}, ltH m hp = true → ∀ (l : Nat) (ch : Chunk), hp[l]? = some ch → (∀ t cs, ch = .box t cs → ltL m cs = true)
  | [], _, l, ch, hl => by simp at hl
  | c :: r, h, l, ch, hl => by
    cases l with
    | zero =>
      simp at hl; subst hl
      cases c with
      | box t cs => simp only [ltH, Bool.and_eq_true] at h; exact fun _ _ e => (by cases e; exact h.1)
      | row t k n els => exact fun _ _ e => (by cases e)
      | dead => exact fun _ _ e => (by cases e)
    | succ l =>
      have : ltH m r = true := by cases c <;> simp_all [ltH]
      exact ltH_get this l ch (by simpa using hl)

theorem subE_ofL {env : Env} {σ : List Nat} : ∀ {l : List (Nat × SV)}, subE σ env l → ∀ t e, ofL l t = some e → env t = some ⟨[], e.sv.ren σ⟩
  | [], _, t, e, h => by simp [ofL] at h
  | (i, s) :: r, hs, t, e, h => by
    simp only [ofL] at h
    cases hb : Nat.beq t i with
    | true =>
      rw [hb] at h; simp at h; subst h
      have := Nat.eq_of_beq_eq_true hb; subst this
      exact hs.1
    | false => rw [hb] at h; exact subE_ofL hs.2 t e (by simpa using h)

theorem ltE_ofL {m : Nat} : ∀ {l : List (Nat × SV)}, ltE m l = true → ∀ t e, ofL l t = some e → e.sv.lt m = true ∧ e.path = []
  | [], _, t, e, h => by simp [ofL] at h
  | (i, s) :: r, hs, t, e, h => by
    simp only [ofL] at h
    simp only [ltE, Bool.and_eq_true] at hs
    cases hb : Nat.beq t i with
    | true => rw [hb] at h; simp at h; subst h; exact ⟨hs.1, rfl⟩
    | false => rw [hb] at h; exact ltE_ofL hs.2 t e (by simpa using h)

/-- less is said of a block -/
def chW (σ : List Nat) : Chunk → Chunk → Prop
  | .dead, _ => True
  | .box t cs, .box t' cs' => t' = t ∧ cs' = renL σ cs
  | .row t k n els, .row t' k' n' els' => t' = t ∧ k' = k ∧ n' = n ∧ ∀ i, i < n → els' i = els i
  | _, _ => False
def hpW (σ : List Nat) (hp : List Chunk) : List Nat → List Chunk → Prop
  | [], [] => True
  | i :: s, ch :: r => (match nthL i hp with
    | some c => chW σ ch c
    | none => False) ∧ hpW σ hp s r
  | _, _ => False
def distN : List Nat → Bool
  | [] => true
  | x :: r => !memN x r && distN r

/-- the first blocks keep their names -/
def stbN (σ : List Nat) : Nat → Bool
  | 0 => true
  | n + 1 => (match nthL n σ with
    | some i => Nat.beq i n
    | none => false) && stbN σ n
theorem stbN_at {σ : List Nat} : ∀ {n : Nat}, stbN σ n = true → ∀ i, i < n → σ[i]? = some i
  | 0, _, i, hi => by omega
  | n + 1, h, i, hi => by
    simp only [stbN, Bool.and_eq_true] at h
    by_cases e : i = n
    · subst e
      have h1 := h.1
      split at h1
      · rename_i j hj
        rw [nthL_eq] at hj
        rw [hj, Nat.eq_of_beq_eq_true h1]
      · cases h1
    · exact stbN_at h.2 i (by omega)

/-- less is said of a state -/
structure Weak (m0 : Nat) (σ : List Nat) (env : Env) (hp : List Chunk) (l : List (Nat × SV)) (hp' : List Chunk) : Prop where
  sub : subE σ env l
  hp : hpW σ hp σ hp'
  d : (distN σ && stbN σ m0) = true
  e : ltE (lenL hp') l = true
  h : ltH (lenL hp') hp' = true

theorem hpW_get {σ : List Nat} {hp : List Chunk} : ∀ {s : List Nat} {r : List Chunk}, hpW σ hp s r → ∀ (i : Nat) (ch : Chunk), r[i]? = some ch → s[i]? = some (nthD i s) ∧ ∃ c, hp[nthD i s]? = some c ∧ chW σ ch c
  | [], [], _, i, ch, h => by simp at h
  | [], _ :: _, h, _, _, _ => h.elim
  | _ :: _, [], h, _, _, _ => h.elim
  | x :: s, c :: r, h, i, ch, hi => by
    cases i with
    | zero =>
      simp at hi; subst hi
      refine ⟨rfl, ?_⟩
      have := h.1
      split at this
      · rename_i c' hc'
        rw [nthL_eq] at hc'
        exact ⟨c', hc', this⟩
      · exact this.elim
    | succ i => exact hpW_get h.2 i ch (by simpa using hi)

theorem distN_inj : ∀ {s : List Nat}, distN s = true → ∀ (i j : Nat) (x : Nat), s[i]? = some x → s[j]? = some x → i = j
  | [], _, i, j, x, h, _ => by simp at h
  | y :: r, hd, i, j, x, hi, hj => by
    simp only [distN, Bool.and_eq_true, Bool.not_eq_true'] at hd
    have hn := memN_mem hd.1
    cases i with
    | zero =>
      cases j with
      | zero => rfl
      | succ j => simp at hi hj; subst hi; exact absurd (List.mem_of_getElem? hj) hn
    | succ i =>
      cases j with
      | zero => simp at hi hj; subst hj; exact absurd (List.mem_of_getElem? hi) hn
      | succ j => simp at hi hj; rw [distN_inj hd.2 i j x hi hj]

theorem hpW_len {σ : List Nat} {hp : List Chunk} : ∀ {s : List Nat} {r : List Chunk}, hpW σ hp s r → s.length = r.length
  | [], [], _ => rfl
  | [], _ :: _, h => h.elim
  | _ :: _, [], h => h.elim
  | _ :: s, _ :: r, h => by simp [hpW_len h.2]
theorem nthD_get {σ : List Nat} : ∀ {i j : Nat}, σ[i]? = some j → nthD i σ = j := by
  induction σ with
  | nil => intro i j h; simp at h
  | cons x r ih =>
    intro i j h
    cases i with
    | zero => simp at h; exact h
    | succ i => exact ih (by simpa using h)

theorem Conc.weak (h : Conc B ds n A env hp β a w) {m0 : Nat} (hm0 : ds.lay.m ≤ m0) {σ : List Nat} {l : List (Nat × SV)} {hp' : List Chunk} (hw : Weak m0 σ env hp l hp') :
    Conc B ds n A (ofL l) hp' (β.cut σ hp'.length) a w := by
  have he : ltE hp'.length l = true := by rw [← lenL_eq]; exact hw.e
  have hh : ltH hp'.length hp' = true := by rw [← lenL_eq]; exact hw.h
  have hd := (Bool.and_eq_true_iff.1 hw.d).1
  have hst := stbN_at (Bool.and_eq_true_iff.1 hw.d).2
  have live : ∀ (i : Nat) (ch : Chunk), hp'[i]? = some ch → ch.live ((β.cut σ hp'.length).at_ i) = true → ∃ c, hp[nthD i σ]? = some c ∧ c.live (β.at_ (nthD i σ)) = true := fun i ch hi hv => by
    obtain ⟨_, c, hc, hcw⟩ := hpW_get hw.hp i ch hi
    refine ⟨c, hc, ?_⟩
    cases ch <;> cases c <;> first | exact hcw.elim | (simp [Chunk.live] at hv; done) | rfl | (simp only [Chunk.live, Lay.cut] at hv ⊢; exact hv)
  exact {
    size := h.size
    defers := h.defers
    ext := ⟨by
      show ds.lay.m ≤ hp'.length
      rw [← hpW_len hw.hp]
      rcases Nat.lt_or_ge σ.length ds.lay.m with h1 | h1
      · have h2 := hst σ.length (by omega)
        simp at h2
      · exact h1, fun l hl => by
      have h2 := nthD_get (hst l (by omega))
      show β.at_ (nthD l σ) = ds.lay.at_ l
      rw [h2]; exact h.ext.at_ l hl⟩
    envr := fun t e hte => by
      have g := h.envr t _ (subE_ofL hw.sub t e hte)
      have hp0 := (ltE_ofL he t e hte).2
      refine ⟨fun _ => ?_, fun hn => absurd (by rw [hp0]; exact holdsP_nil _) hn⟩
      obtain ⟨y, q1, q2⟩ := g.1 (holdsP_nil _)
      exact ⟨y, q1, SV.Rel.cut _ _ (ltE_ofL he t e hte).1 q2⟩
    hpr := fun i ch hi => by
      obtain ⟨_, c, hc, hcw⟩ := hpW_get hw.hp i ch hi
      have hr := h.hpr _ c hc
      cases ch with
      | dead => trivial
      | box t cs =>
        cases c <;> try (exact hcw.elim)
        obtain ⟨rfl, rfl⟩ := hcw
        obtain ⟨ys, q1, q2⟩ := hr
        exact ⟨ys, RelL.cut _ _ (ltH_get hh i _ hi _ _ rfl) q1, q2⟩
      | row t k n els =>
        cases c <;> try (exact hcw.elim)
        obtain ⟨rfl, rfl, rfl, heq⟩ := hcw
        have hr : RowAt _ _ _ _ _ _ := hr
        exact ⟨fun i hi => by rw [← heq i hi]; exact hr.len i hi, hr.nil, fun hn => by
          obtain ⟨cur, q1, q2, q3, q4, q5⟩ := hr.at_ hn
          exact ⟨cur, q1, q2, q3, q4, by rw [q5]; exact rowL_congr heq⟩⟩
    m := rfl
    stp := h.stp
    bas := h.bas
    anc := h.anc
    own := fun i ch hi hv => by
      obtain ⟨c, hc, hv'⟩ := live i ch hi hv
      exact h.own _ c hc hv'
    inj := fun i j ch ch' hi hj hv hv' hb => by
      obtain ⟨c, hc, hvc⟩ := live i ch hi hv
      obtain ⟨c', hc', hvc'⟩ := live j ch' hj hv'
      have := h.inj _ _ c c' hc hc' hvc hvc' hb
      have g1 := (hpW_get hw.hp i ch hi).1
      have g2 := (hpW_get hw.hp j ch' hj).1
      rw [← this] at g2
      exact distN_inj hd i j _ g1 g2
    MO := h.MO
    MB := h.MB
    OS := h.OS
    BM := h.BM }

structure CondVC (b : Bool) (x y : Prop) : Prop where
  t : b = true → x
  f : b = false → y

abbrev Body := Anc → Env → List Chunk → Kont → Prop

/-- a loop, by what holds at its head -/
structure LoopVC (m0 : Nat) (body : Body) (A : Anc) (env : Env) (hp : List Chunk) (K : Kont) : Prop where
  ex : ∃ (J : Nat → Anc → List (Nat × SV) → List Chunk → Prop) (m : Nat) (σ : List Nat) (l : List (Nat × SV)) (hp' : List Chunk), Weak m0 σ env hp l hp' ∧ J m A l hp' ∧
    ∀ m A l hp, J m A l hp → body A (ofL l) hp (fun e A' env' hp' => match e with
      | .normal => ∃ m' σ' l' hp'', m' < m ∧ Weak m0 σ' env' hp' l' hp'' ∧ J m' A' l' hp''
      | e => K e A' env' hp')

def Ctx.setw (C : Ctx) (w : Option (List Nat)) : Ctx := ⟨C.tb, C.eqT, C.fn, C.ld, w, C.st⟩
theorem CtxOK.setw (h : CtxOK P C) (w : Option (List Nat)) : CtxOK P (C.setw w) := ⟨h.fn, h.mixed, h.tb, h.eqT⟩
theorem allTb_setw (w : Option (List Nat)) : ∀ fs, allTb (C.setw w) fs = allTb C fs
  | [] => rfl
  | (_, t) :: r => by
    simp only [allTb]
    rw [allTb_setw w r]
    rfl
theorem TbAll.setw (h : TbAll C) (w : Option (List Nat)) : TbAll (C.setw w) := fun t fs s b z ht => by rw [allTb_setw]; exact h t fs s b z ht

def pickN : List Nat → List Oper → List Oper
  | [], _ => []
  | i :: r, l => match nthL i l with
    | some o => o :: pickN r l
    | none => pickN r l
theorem pickN_eq (l : List Oper) : ∀ T, pickN T l = opsOf l T
  | [] => rfl
  | i :: r => by
    simp only [pickN, opsOf, List.filterMap_cons]
    rw [nthL_eq]
    cases l[i]? with
    | none => simp only; rw [pickN_eq]; rfl
    | some o => simp only; rw [pickN_eq]; rfl

/-- numbers from one on, below another one -/
def upN (i : Nat) : Nat → List Nat
  | 0 => []
  | k + 1 => bif Nat.ble i k then upN i k ++ [k] else []

/-- a region whose order is open: whatever order its edges let, it does the same (w: the blocks that it writes, and does not read); two operations that act in either order (T, T': an order with each ahead) among the first m; what comes last by itself (m: how many come ahead) -/
inductive DrawVC (C : Ctx) (ops : List Oper) (q : Ctx → Kont → List Oper → Anc → Env → List Chunk → Prop) (K : Kont) (A : Anc) (env : Env) (hp : List Chunk) : Prop where
  | one (w : Option (List Nat)) (h : drawOK (C.setw w) ops = true) (k : q (C.setw w) (calm K) ops A env hp)
  | two (w : Option (List Nat)) (m x y : Nat) (T T' : List Nat) (h : splitOK (C.setw w) ops [(x, y)] T (upN m (lenL ops)) = true) (h' : splitOK (C.setw w) ops [(y, x)] T' (upN m (lenL ops)) = true)
    (k : q (C.setw w) (calm fun e A env hp => match e with | .normal => q (C.setw none) K (pickN (upN m (lenL ops)) ops) A env hp | _ => False) (pickN T ops) A env hp)
    (k' : q (C.setw w) (calm fun e A env hp => match e with | .normal => q (C.setw none) K (pickN (upN m (lenL ops)) ops) A env hp | _ => False) (pickN T' ops) A env hp)
  | split (w : Option (List Nat)) (m : Nat) (h : splitOK (C.setw w) ops [] (upN 0 m) (upN m (lenL ops)) = true)
    (k : q (C.setw w) (calm fun e A env hp => match e with | .normal => q (C.setw none) K (pickN (upN m (lenL ops)) ops) A env hp | _ => False) (pickN (upN 0 m) ops) A env hp)
  | gen (w : Option (List Nat)) (T U : List Nat) (h : splitOK (C.setw w) ops [] T U = true)
    (k : q (C.setw w) (calm fun e A env hp => match e with | .normal => q (C.setw none) K (pickN U ops) A env hp | _ => False) (pickN T ops) A env hp)
  | gen2 (w : Option (List Nat)) (x y : Nat) (T T' U : List Nat) (h : splitOK (C.setw w) ops [(x, y)] T U = true) (h' : splitOK (C.setw w) ops [(y, x)] T' U = true)
    (k : q (C.setw w) (calm fun e A env hp => match e with | .normal => q (C.setw none) K (pickN U ops) A env hp | _ => False) (pickN T ops) A env hp)
    (k' : q (C.setw w) (calm fun e A env hp => match e with | .normal => q (C.setw none) K (pickN U ops) A env hp | _ => False) (pickN T' ops) A env hp)

def vcCode (P : Program) (C : Ctx) (B : Anc) (n : Nat) : Code → Anc → Env → List Chunk → Kont → Prop
  | .skip, A, env, hp, K => K .normal A env hp
  | .region _ ops draw, A, env, hp, K => match draw with
    | false => vcOps P C B n ops.toList K ops.toList [] A env hp
    | true => DrawVC C ops.toList (fun C' K l A env hp => vcOps P C' B n ops.toList K l [] A env hp) K A env hp
  | .seq x y, A, env, hp, K => vcCode P C B n x A env hp (fun e A env hp => match e with
    | .normal => vcCode P C B n y A env hp K
    | e => K e A env hp)
  | .cond c x y, A, env, hp, K => match look env [] c with
    | some (.v (.bool b)) => CondVC b (vcCode P C B n x A env hp K) (vcCode P C B n y A env hp K)
    | _ => False
  | .block id c, A, env, hp, K => vcCode P C B n c A env hp (fun e A env hp => match e with
    | .exit i => bif Nat.beq i id then K .normal A env hp else K (.exit i) A env hp
    | e => K e A env hp)
  | .loop c, A, env, hp, K => LoopVC C.st (vcCode P C B n c) A env hp K
  | .exit id, A, env, hp, K => K (.exit id) A env hp
  | .scope c, A, env, hp, K => vcCode P C B n c A env hp (fun e A env hp => match e with
    | .goto _ => False
    | e => K e A env hp)
  | .label _, A, env, hp, K => K .normal A env hp
  | .ret, A, env, hp, K => K .ret A env hp
  | _, _, _, _, _ => False

/-- what a code does, said of states -/
def Snd (P : Program) (B : Anc) (ds : DS) (n : Nat) (c : Code) (A : Anc) (env : Env) (hp : List Chunk) (K : Kont) : Prop :=
  ∀ β a w, Conc B ds n A env hp β a w → GsOK [] env → c.wp P (Post B ds n K) a w

theorem Post.mono {K K' : Kont} (h : ∀ e A env hp, K e A env hp → K' e A env hp) : ∀ e a w, Post B ds n K e a w → Post B ds n K' e a w :=
  fun _ _ _ ⟨A, env, hp, β, h1, h2, h3⟩ => ⟨A, env, hp, β, h1, h2, h _ _ _ _ h3⟩

theorem Snd.mono {c : Code} {K K' : Kont} (hs : Snd P B ds n c A env hp K) (h : ∀ e A env hp, K e A env hp → K' e A env hp) : Snd P B ds n c A env hp K' :=
  fun β a w hc hg => wp_mono (hs β a w hc hg) (Post.mono h)

theorem Snd.seq {x y : Code} {K : Kont} (h : Snd P B ds n x A env hp (fun e A env hp => match e with
    | .normal => Snd P B ds n y A env hp K
    | e => K e A env hp)) : Snd P B ds n (.seq x y) A env hp K := by
  intro β a w hc hg
  refine wp_seq (wp_mono (h β a w hc hg) ?_)
  rintro e a' w' ⟨A', env', hp', β', h1, h2, h3⟩
  cases e with
  | normal => exact h3 β' a' w' h1 h2
  | exit i => exact ⟨A', env', hp', β', h1, h2, h3⟩
  | goto i => exact ⟨A', env', hp', β', h1, h2, h3⟩
  | ret => exact ⟨A', env', hp', β', h1, h2, h3⟩
  | panic i => exact ⟨A', env', hp', β', h1, h2, h3⟩
  | outgrown => exact ⟨A', env', hp', β', h1, h2, h3⟩

theorem GsOK_ofL {l : List (Nat × SV)} {m : Nat} (h : ltE m l = true) : GsOK [] (ofL l) := fun t e he q hq => by
  rw [(ltE_ofL h t e he).2] at hq; cases hq

/-- the ways meet: what holds where they do -/
theorem Snd.cut {x y : Code} {K : Kont} {m0 : Nat} (hm0 : ds.lay.m ≤ m0) (J : Anc → List (Nat × SV) → List Chunk → Prop) (h : Snd P B ds n x A env hp (fun e A env hp => match e with
    | .normal => ∃ σ l hp', Weak m0 σ env hp l hp' ∧ J A l hp'
    | e => K e A env hp)) (hy : ∀ A l hp, J A l hp → Snd P B ds n y A (ofL l) hp K) : Snd P B ds n (.seq x y) A env hp K := by
  intro β a w hc hg
  refine wp_seq (wp_mono (h β a w hc hg) ?_)
  rintro e a' w' ⟨A', env', hp', β', h1, h2, h3⟩
  cases e with
  | normal =>
    obtain ⟨σ, l, hp'', hw, hj⟩ := h3
    exact hy A' l hp'' hj _ a' w' (h1.weak hm0 hw) (GsOK_ofL hw.e)
  | exit i => exact ⟨A', env', hp', β', h1, h2, h3⟩
  | goto i => exact ⟨A', env', hp', β', h1, h2, h3⟩
  | ret => exact ⟨A', env', hp', β', h1, h2, h3⟩
  | panic i => exact ⟨A', env', hp', β', h1, h2, h3⟩
  | outgrown => exact ⟨A', env', hp', β', h1, h2, h3⟩

theorem wp_loop_ix {c : Code} {Q : Exit → Act → World → Prop} (I : Nat → Act → World → Prop) {m : Nat} (h0 : I m a w)
    (round : ∀ m a w, I m a w → c.wp P (Exit.then (fun a' w' => ∃ m', m' < m ∧ I m' a' w') Q) a w) : (Code.loop c).wp P Q a w := by
  intro b k cs
  have key : ∀ m a w, I m a w → ∃ e a' w', Q e a' w' ∧ Arrives P (lone (b.at a (.code c :: .inLoop c :: k)) cs w) b k cs e a' w' := by
    intro m
    induction m using Nat.strongRecOn with
    | _ m ih =>
      intro a w hI
      obtain ⟨e, a₁, w₁, hq, harr⟩ := round m a w hI b (.inLoop c :: k) cs
      cases e with
      | normal =>
        obtain ⟨m', hlt, hI'⟩ := hq
        obtain ⟨e₂, a₂, w₂, hq₂, harr₂⟩ := ih m' hlt a₁ w₁ hI'
        exact ⟨e₂, a₂, w₂, hq₂, .of_steps (Steps.trans harr (.one step_inLoop)) harr₂⟩
      | exit id => exact ⟨_, a₁, w₁, hq, .pass (x := .inLoop c) rfl (fun _ _ => .inl (by simp)) harr⟩
      | goto l => exact ⟨_, a₁, w₁, hq, .pass (x := .inLoop c) rfl (fun _ _ => .inl (by simp)) harr⟩
      | ret => exact ⟨_, a₁, w₁, hq, .pass (x := .inLoop c) rfl (fun _ _ => .inl (by simp)) harr⟩
      | panic ch => exact ⟨_, a₁, w₁, hq, .pass (x := .inLoop c) rfl (fun _ _ => .inl (by simp)) harr⟩
      | outgrown => exact ⟨_, a₁, w₁, hq, .pass (x := .inLoop c) rfl (fun _ _ => .inl (by simp)) harr⟩
  obtain ⟨e, a', w', hq, harr⟩ := key m a w h0
  exact ⟨e, a', w', hq, .of_steps (.one step_loop) harr⟩

theorem Snd.loop {c : Code} {K : Kont} {m0 : Nat} (hm0 : ds.lay.m ≤ m0) (J : Nat → Anc → List (Nat × SV) → List Chunk → Prop) {m : Nat} {σ : List Nat} {l : List (Nat × SV)} {hp' : List Chunk} (hw : Weak m0 σ env hp l hp') (h0 : J m A l hp')
    (round : ∀ m A l hp, J m A l hp → Snd P B ds n c A (ofL l) hp (fun e A' env' hp' => match e with
      | .normal => ∃ m' σ' l' hp'', m' < m ∧ Weak m0 σ' env' hp' l' hp'' ∧ J m' A' l' hp''
      | e => K e A' env' hp')) : Snd P B ds n (.loop c) A env hp K := by
  intro β a w hc hg
  refine wp_loop_ix (fun m a w => ∃ A l hp β, Conc B ds n A (ofL l) hp β a w ∧ GsOK [] (ofL l) ∧ J m A l hp) (m := m)
    ⟨A, l, hp', _, hc.weak hm0 hw, GsOK_ofL hw.e, h0⟩ ?_
  rintro m a w ⟨A, l, hp, β, hc, hg, hj⟩
  refine wp_mono (round m A l hp hj β a w hc hg) ?_
  rintro e a' w' ⟨A', env', hp', β', h1, h2, h3⟩
  cases e with
  | normal =>
    obtain ⟨m', σ', l', hp'', hlt, hw, hj⟩ := h3
    exact ⟨m', hlt, A', l', hp'', _, h1.weak hm0 hw, GsOK_ofL hw.e, hj⟩
  | exit i => exact ⟨A', env', hp', β', h1, h2, h3⟩
  | goto i => exact ⟨A', env', hp', β', h1, h2, h3⟩
  | ret => exact ⟨A', env', hp', β', h1, h2, h3⟩
  | panic i => exact ⟨A', env', hp', β', h1, h2, h3⟩
  | outgrown => exact ⟨A', env', hp', β', h1, h2, h3⟩

theorem vcCode_sound0 (hC : CtxOK P C) (hA : TbAll C) (hm0 : ds.lay.m ≤ C.st) : ∀ (c : Code) (A : Anc) (env : Env) (hp : List Chunk) (K : Kont), vcCode P C B n c A env hp K → Snd P B ds n c A env hp K
  | .skip, A, env, hp, K, h => fun β a w hc hg => wp_skip ⟨A, env, hp, β, hc, hg, h⟩
  | .region id ops draw, A, env, hp, K, h => fun β a w hc hg => by
    simp only [vcCode] at h
    cases draw with
    | true =>
      cases h with
      | one w' h1 h2 => exact draw_sound (C := C.setw w') (hC.setw w') (hA.setw w') h1 hc hg h2
      | two w' m x y T T' h h' k k' =>
        simp only [pickN_eq] at k k'
        exact split2_sound (C := C.setw w') (hC.setw w') (hA.setw w') (hC.setw none) (hA.setw none) h h' hc hg k k'
      | split w' m h1 h2 =>
        simp only [pickN_eq] at h2
        exact split_sound (C := C.setw w') (hC.setw w') (hA.setw w') (hC.setw none) (hA.setw none) h1 hc hg h2
      | gen w' T U h1 h2 =>
        simp only [pickN_eq] at h2
        exact split_sound (C := C.setw w') (hC.setw w') (hA.setw w') (hC.setw none) (hA.setw none) h1 hc hg h2
      | gen2 w' x y T T' U h h' k k' =>
        simp only [pickN_eq] at k k'
        exact split2_sound (C := C.setw w') (hC.setw w') (hA.setw w') (hC.setw none) (hA.setw none) h h' hc hg k k'
    | false =>
      have := vcOps_sound (B := B) (ds := ds) (n := n) (all := ops.toList) (K := K) hC hA ops.toList [] A env hp β a w hc hg h
      exact wp_region_list (by simpa using this)
  | .seq x y, A, env, hp, K, h => by
    simp only [vcCode] at h
    refine Snd.seq ((vcCode_sound0 hC hA hm0 x A env hp _ h).mono ?_)
    intro e A env hp hk
    cases e with
    | normal => exact vcCode_sound0 hC hA hm0 y A env hp K hk
    | exit i => exact hk
    | goto i => exact hk
    | ret => exact hk
    | panic i => exact hk
    | outgrown => exact hk
  | .cond c x y, A, env, hp, K, h => fun β a w hc hg => by
    simp only [vcCode] at h
    split at h <;> try (exact h.elim)
    rename_i b hb
    have hr := look_rel hc.envr (holdsP_nil _) hb
    simp only [SV.Rel] at hr
    exact wp_cond_split hr (fun e => vcCode_sound0 hC hA hm0 x A env hp K (h.t e) β a w hc hg) (fun e => vcCode_sound0 hC hA hm0 y A env hp K (h.f e) β a w hc hg)
  | .block id c, A, env, hp, K, h => fun β a w hc hg => by
    simp only [vcCode] at h
    refine wp_block (wp_mono (vcCode_sound0 hC hA hm0 c A env hp _ h β a w hc hg) ?_)
    rintro e a' w' ⟨A', env', hp', β', h1, h2, h3⟩
    cases e with
    | exit i =>
      have h3 : (bif Nat.beq i id then K Exit.normal A' env' hp' else K (Exit.exit i) A' env' hp') := h3
      simp only [Exit.inBlock]
      cases hb : Nat.beq i id with
      | true =>
        have := Nat.eq_of_beq_eq_true hb; subst this
        rw [if_pos rfl]
        rw [hb] at h3
        exact ⟨A', env', hp', β', h1, h2, h3⟩
      | false =>
        have hne : i ≠ id := fun e => by subst e; simp at hb
        rw [if_neg hne]
        rw [hb] at h3
        exact ⟨A', env', hp', β', h1, h2, h3⟩
    | normal => exact ⟨A', env', hp', β', h1, h2, h3⟩
    | goto i => exact ⟨A', env', hp', β', h1, h2, h3⟩
    | ret => exact ⟨A', env', hp', β', h1, h2, h3⟩
    | panic i => exact ⟨A', env', hp', β', h1, h2, h3⟩
    | outgrown => exact ⟨A', env', hp', β', h1, h2, h3⟩
  | .loop c, A, env, hp, K, h => by
    simp only [vcCode] at h
    obtain ⟨J, m, σ, l, hp', hw, h0, hr⟩ := h.ex
    exact Snd.loop hm0 J hw h0 (fun m A l hp hj => vcCode_sound0 hC hA hm0 c A (ofL l) hp _ (hr m A l hp hj))
  | .exit id, A, env, hp, K, h => fun β a w hc hg => wp_exit ⟨A, env, hp, β, hc, hg, h⟩
  | .scope c, A, env, hp, K, h => fun β a w hc hg => by
    simp only [vcCode] at h
    refine wp_scope_straight (wp_mono (vcCode_sound0 hC hA hm0 c A env hp _ h β a w hc hg) ?_)
    rintro e a' w' ⟨A', env', hp', β', h1, h2, h3⟩
    cases e with
    | goto i => exact h3
    | exit i => exact ⟨A', env', hp', β', h1, h2, h3⟩
    | normal => exact ⟨A', env', hp', β', h1, h2, h3⟩
    | ret => exact ⟨A', env', hp', β', h1, h2, h3⟩
    | panic i => exact ⟨A', env', hp', β', h1, h2, h3⟩
    | outgrown => exact ⟨A', env', hp', β', h1, h2, h3⟩
  | .label _, A, env, hp, K, h => fun β a w hc hg => wp_label ⟨A, env, hp, β, hc, hg, h⟩
  | .ret, A, env, hp, K, h => fun β a w hc hg => wp_ret ⟨A, env, hp, β, hc, hg, h⟩
  | .rangeFunc _ _ _ _, _, _, _, _, h => (by simp [vcCode] at h)
  | .goto _, _, _, _, _, h => (by simp [vcCode] at h)
  | .refuse _, _, _, _, _, h => (by simp [vcCode] at h)

/-- .. as a word of its own -/
structure SndS (P : Program) (B : Anc) (ds : DS) (n : Nat) (c : Code) (A : Anc) (env : Env) (hp : List Chunk) (K : Kont) : Prop where
  h : Snd P B ds n c A env hp K

/-- the same, a step at a time: what follows stays a word -/
def vcStep (P : Program) (C : Ctx) (B : Anc) (ds : DS) (n : Nat) : Code → Anc → Env → List Chunk → Kont → Prop
  | .seq x y, A, env, hp, K => vcStep P C B ds n x A env hp (fun e A env hp => match e with
    | .normal => SndS P B ds n y A env hp K
    | e => K e A env hp)
  | .cond c x y, A, env, hp, K => match look env [] c with
    | some (.v (.bool b)) => CondVC b (SndS P B ds n x A env hp K) (SndS P B ds n y A env hp K)
    | _ => False
  | .block id c, A, env, hp, K => vcStep P C B ds n c A env hp (fun e A env hp => match e with
    | .exit i => bif Nat.beq i id then K .normal A env hp else K (.exit i) A env hp
    | e => K e A env hp)
  | .loop c, A, env, hp, K => LoopVC C.st (fun A env hp K => SndS P B ds n c A env hp K) A env hp K
  | .scope c, A, env, hp, K => vcStep P C B ds n c A env hp (fun e A env hp => match e with
    | .goto _ => False
    | e => K e A env hp)
  | c, A, env, hp, K => vcCode P C B n c A env hp K

theorem vcStep_sound0 (hC : CtxOK P C) (hA : TbAll C) (hm0 : ds.lay.m ≤ C.st) : ∀ (c : Code) (A : Anc) (env : Env) (hp : List Chunk) (K : Kont), vcStep P C B ds n c A env hp K → Snd P B ds n c A env hp K
  | .seq x y, A, env, hp, K, h => by
    simp only [vcStep] at h
    refine Snd.seq ((vcStep_sound0 hC hA hm0 x A env hp _ h).mono ?_)
    intro e A env hp hk
    cases e with
    | normal => exact hk.h
    | exit i => exact hk
    | goto i => exact hk
    | ret => exact hk
    | panic i => exact hk
    | outgrown => exact hk
  | .cond c x y, A, env, hp, K, h => fun β a w hc hg => by
    simp only [vcStep] at h
    split at h <;> try (exact h.elim)
    rename_i b hb
    have hr := look_rel hc.envr (holdsP_nil _) hb
    simp only [SV.Rel] at hr
    exact wp_cond_split hr (fun e => (h.t e).h β a w hc hg) (fun e => (h.f e).h β a w hc hg)
  | .block id c, A, env, hp, K, h => fun β a w hc hg => by
    simp only [vcStep] at h
    refine wp_block (wp_mono (vcStep_sound0 hC hA hm0 c A env hp _ h β a w hc hg) ?_)
    rintro e a' w' ⟨A', env', hp', β', h1, h2, h3⟩
    cases e with
    | exit i =>
      have h3 : (bif Nat.beq i id then K Exit.normal A' env' hp' else K (Exit.exit i) A' env' hp') := h3
      simp only [Exit.inBlock]
      cases hb : Nat.beq i id with
      | true =>
        have := Nat.eq_of_beq_eq_true hb; subst this
        rw [if_pos rfl]
        rw [hb] at h3
        exact ⟨A', env', hp', β', h1, h2, h3⟩
      | false =>
        have hne : i ≠ id := fun e => by subst e; simp at hb
        rw [if_neg hne]
        rw [hb] at h3
        exact ⟨A', env', hp', β', h1, h2, h3⟩
    | normal => exact ⟨A', env', hp', β', h1, h2, h3⟩
    | goto i => exact ⟨A', env', hp', β', h1, h2, h3⟩
    | ret => exact ⟨A', env', hp', β', h1, h2, h3⟩
    | panic i => exact ⟨A', env', hp', β', h1, h2, h3⟩
    | outgrown => exact ⟨A', env', hp', β', h1, h2, h3⟩
  | .loop c, A, env, hp, K, h => by
    simp only [vcStep] at h
    obtain ⟨J, m, σ, l, hp', hw, h0, hr⟩ := h.ex
    exact Snd.loop hm0 J hw h0 (fun m A l hp hj => (hr m A l hp hj).h)
  | .scope c, A, env, hp, K, h => fun β a w hc hg => by
    simp only [vcStep] at h
    refine wp_scope_straight (wp_mono (vcStep_sound0 hC hA hm0 c A env hp _ h β a w hc hg) ?_)
    rintro e a' w' ⟨A', env', hp', β', h1, h2, h3⟩
    cases e with
    | goto i => exact h3
    | exit i => exact ⟨A', env', hp', β', h1, h2, h3⟩
    | normal => exact ⟨A', env', hp', β', h1, h2, h3⟩
    | ret => exact ⟨A', env', hp', β', h1, h2, h3⟩
    | panic i => exact ⟨A', env', hp', β', h1, h2, h3⟩
    | outgrown => exact ⟨A', env', hp', β', h1, h2, h3⟩
  | .skip, A, env, hp, K, h => vcCode_sound0 hC hA hm0 _ A env hp K h
  | .region _ _ _, A, env, hp, K, h => vcCode_sound0 hC hA hm0 _ A env hp K h
  | .exit _, A, env, hp, K, h => vcCode_sound0 hC hA hm0 _ A env hp K h
  | .label _, A, env, hp, K, h => vcCode_sound0 hC hA hm0 _ A env hp K h
  | .ret, A, env, hp, K, h => vcCode_sound0 hC hA hm0 _ A env hp K h
  | .rangeFunc _ _ _ _, _, _, _, _, h => (by simp [vcStep, vcCode] at h)
  | .goto _, _, _, _, _, h => (by simp [vcStep, vcCode] at h)
  | .refuse _, _, _, _, _, h => (by simp [vcStep, vcCode] at h)

theorem vcCode_sound (hC : CtxOK P C) (hA : TbAll C) (c : Code) (A : Anc) (env : Env) (hp : List Chunk) (K : Kont) (h : vcCode P C B n c A env hp K) : Snd P B DS.nil n c A env hp K := vcCode_sound0 hC hA (Nat.zero_le _) c A env hp K h
theorem vcStep_sound (hC : CtxOK P C) (hA : TbAll C) (c : Code) (A : Anc) (env : Env) (hp : List Chunk) (K : Kont) (h : vcStep P C B DS.nil n c A env hp K) : Snd P B DS.nil n c A env hp K := vcStep_sound0 hC hA (Nat.zero_le _) c A env hp K h

end
end Go.Eng
end

section
/-! The engine, part M: functions. -/
namespace Go.Eng
section
variable {P : Program} {C : Ctx} {B A : Anc} {ds : DS} {n : Nat} {env : Env} {hp : List Chunk} {β : Lay} {a : Act} {w : World}

/-- what is there when a function begins: objects that came in by pointers -/
structure Start (A : Anc) (hp : List Chunk) (β : Lay) : Prop where
  m : β.m = hp.length
  hpr : HpRel β A hp A.w
  own : ∀ (l : Nat) (ch : Chunk), hp[l]? = some ch → ch.live (β.at_ l) = true → A.O (β.at_ l).b ∧ ¬ A.M (β.at_ l).b
  inj : ∀ (l l' : Nat) (ch ch' : Chunk), hp[l]? = some ch → hp[l']? = some ch' → ch.live (β.at_ l) = true → ch'.live (β.at_ l') = true → (β.at_ l).b = (β.at_ l').b → l = l'
  MO : ∀ k, A.M k → A.O k
  OS : ∀ k, A.O k → k < A.w.heap.size

theorem Start.nil (hMO : ∀ k, A.M k → A.O k) (hOS : ∀ k, A.O k → k < A.w.heap.size) : Start A [] Lay.none :=
  ⟨rfl, fun l ch h => by simp at h, fun l ch h => by simp at h, fun l l' ch ch' h => by simp at h, hMO, hOS⟩

def argE : Nat → List SV → List (Nat × SV)
  | _, [] => []
  | i, s :: r => (i, s) :: argE (i + 1) r

theorem argE_get : ∀ (ss : List SV) (i t : Nat) (e : Ent), ofL (argE i ss) t = some e → e.path = [] ∧ i ≤ t ∧ ss[t - i]? = some e.sv
  | [], i, t, e, h => by simp [argE, ofL] at h
  | s :: r, i, t, e, h => by
    simp only [argE, ofL] at h
    cases hb : Nat.beq t i with
    | true =>
      have := Nat.eq_of_beq_eq_true hb; subst this
      rw [hb] at h; simp at h; subst h; simp
    | false =>
      rw [hb] at h
      obtain ⟨h1, h2, h3⟩ := argE_get r (i + 1) t e (by simpa using h)
      refine ⟨h1, by omega, ?_⟩
      rw [show t - i = (t - (i + 1)) + 1 by omega]; simpa using h3

def resSV (C : Ctx) (env : Env) (hp : List Chunk) : List ResultVar → Option (List SV)
  | [] => some []
  | .tmp t :: r => match look env [] (.tmp t), resSV C env hp r with
    | some s, some u => some (s :: u)
    | _, _ => none
  | .cell t T :: r => match look env [] (.tmp t), resSV C env hp r with
    | some s, some u => match pLoad C hp T s with
      | some ⟨none, x⟩ => some (x :: u)
      | _ => none
    | _, _ => none

def retV : List Value → Value
  | [x] => x
  | vs => .tuple vs.toArray

/-- at a return: what the results are -/
structure RetVC (B A : Anc) (hp : List Chunk) (ss : List SV) (R : Ending → World → Prop) : Prop where
  h : ∀ O' w β vals, Site B A hp ss O' w β vals → R (.returned (retV vals)) w

structure PanVC (B : Anc) (ch : List PanicEntry) (R : Ending → World → Prop) : Prop where
  h : ∀ w, Stp B.O B.w w → R (.panicked ch) w

def fnK (C : Ctx) (B : Anc) (res : List ResultVar) (R : Ending → World → Prop) : Kont := fun e A env hp => match e with
  | .normal => match resSV C env hp res with
    | some ss => RetVC B A hp ss R
    | none => False
  | .ret => match resSV C env hp res with
    | some ss => RetVC B A hp ss R
    | none => False
  | .panic ch => PanVC B ch R
  | _ => False

theorem sureAddr_asAddr {v : Value} {t : Nat} {z : Value} (h : (Instr.loadAt t v).run P w = .ok z w) : (do loadVar t (← asAddr v) : Sem Value).run P w = .ok z w := by
  unfold Instr.loadAt at h
  cases v <;> simp [Instr.sureAddr] at h
  rename_i q
  cases q with
  | none => simp at h
  | some q => simpa [Instr.sureAddr, asAddr] using h

theorem resSV_run (hC : CtxOK P C) (hS : Stp A.O A.w w) (hE : EnvOK β A env a.tmps) (hH : HpRel β A hp w) (g : ResultVar → Sem Value) (hg1 : ∀ t, g (.tmp t) = pure (a.tmps.getD t undef))
    (hg2 : ∀ q t, g (.cell q t) = (do loadVar t (← asAddr (a.tmps.getD q undef)))) : ∀ {rs : List ResultVar} {ss : List SV}, resSV C env hp rs = some ss →
    ∃ vs : List Value, (rs.mapM g).run P w = .ok vs w ∧ RelL β A ss vs
  | [], ss, h => by simp [resSV] at h; subst h; exact ⟨[], by simp, rfl⟩
  | .tmp t :: r, ss, h => by
    simp only [resSV] at h
    split at h <;> try (simp at h; done)
    rename_i s u hs hu
    simp at h; subst h
    obtain ⟨vs, h1, h2⟩ := resSV_run hC hS hE hH g hg1 hg2 hu
    have hr := look_rel hE (holdsP_nil _) hs
    refine ⟨a.tmps.getD t undef :: vs, ?_, ?_⟩
    · simp only [List.mapM_cons, Sem.run_bind, hg1, Sem.run_pure, Result.andThen_ok, h1]
    · simp only [RelL]; exact ⟨_, _, rfl, hr, h2⟩
  | .cell q T :: r, ss, h => by
    simp only [resSV] at h
    split at h <;> try (simp at h; done)
    rename_i s u hs hu
    split at h <;> try (simp at h; done)
    rename_i x hx
    simp at h; subst h
    obtain ⟨vs, h1, h2⟩ := resSV_run hC hS hE hH g hg1 hg2 hu
    have hr := look_rel hE (holdsP_nil _) hs
    obtain ⟨z, hz, hzr⟩ := pLoad_run hC hS hH hx hr (by simp)
    have hz' : (g (.cell q T)).run P w = .ok z w := by rw [hg2]; exact sureAddr_asAddr hz
    refine ⟨z :: vs, ?_, ?_⟩
    · simp only [List.mapM_cons, Sem.run_bind, hz', Result.andThen_ok, h1, Sem.run_pure]
    · simp only [RelL]; exact ⟨_, _, rfl, hzr, h2⟩

theorem results_run (hC : CtxOK P C) (hS : Stp A.O A.w w) (hE : EnvOK β A env a.tmps) (hH : HpRel β A hp w) {fn : Func} {ss : List SV} (h : resSV C env hp fn.results.toList = some ss) :
    ∃ vs : List Value, (results fn a.tmps).run P w = .ok (retV vs) w ∧ RelL β A ss vs := by
  let g : ResultVar → Sem Value := fun x => match x with
    | .tmp t => pure (a.tmps.getD t undef)
    | .cell q t => do loadVar t (← asAddr (a.tmps.getD q undef))
  have e : results fn a.tmps = (do let vs ← fn.results.mapM g; pure (if h : vs.size = 1 then vs[0] else .tuple vs) : Sem Value) := rfl
  rw [e, Array.mapM_eq_mapM_toList]
  simp only [Sem.run_bind, Sem.run_map]
  obtain ⟨vs, h1, h2⟩ := resSV_run (P := P) (w := w) (a := a) hC hS hE hH g (fun _ => rfl) (fun _ _ => rfl) h
  refine ⟨vs, ?_, h2⟩
  rw [h1]
  simp only [Result.andThen_ok, Sem.run_pure]
  congr 1
  match vs with
  | [] => rfl
  | [x] => rfl
  | x :: y :: r => simp [retV]

theorem Conc.start (A B : Anc) {hp : List Chunk} {β lay : Lay} (hlay : lay.le β) (hst : Start A hp β) (hBw : B.w = A.w) (hBM : ∀ k, A.M k → B.O k) (hBM' : ∀ k, B.M k → A.M k) (hBo : ∀ (l : Nat) (ch : Chunk), hp[l]? = some ch → ch.live (β.at_ l) = true → B.O (β.at_ l).b) {args : List SV} {vals : List Value} {n : Nat} (hr : RelL β A args vals) (hn : vals.length ≤ n) :
    Conc B (DS.mk [] lay) n A (ofL (argE 0 args)) hp β { tmps := vals.toArray ++ Array.replicate (n - vals.toArray.size) undef, defers := [] } A.w := {
    size := by simp; omega
    defers := rfl
    ext := hlay
    envr := fun t e he => by
      obtain ⟨h1, h2, h3⟩ := argE_get args 0 t e he
      obtain ⟨y, hy, hrel⟩ := hr.get _ _ (by simpa using h3)
      have hlt : t < vals.length := (List.getElem?_eq_some_iff.1 hy).1
      refine ⟨fun _ => ⟨y, ?_, hrel⟩, fun hh => absurd (by rw [h1]; exact holdsP_nil _) hh⟩
      simp only
      rw [Array.getElem?_append_left (by simpa using hlt)]
      simpa using hy
    hpr := hst.hpr
    m := hst.m
    stp := Stp.refl _ _
    bas := by rw [hBw]; exact Stp.refl _ _
    anc := by rw [hBw]; exact Nat.le_refl _
    own := fun l ch hl hv => by
      obtain ⟨h1, h2⟩ := hst.own l ch hl hv
      exact ⟨.inr h1, .inr (hBo l ch hl hv), h2, hst.OS _ h1⟩
    inj := hst.inj
    MO := hst.MO
    MB := fun k hk => .inl (hBM k hk)
    OS := hst.OS
    BM := hBM' }

theorem calls_of_snd (hC : CtxOK P C) {f : Nat} {fn : Func} {c : Code} (hf : P.funcs[f]? = some fn) (hb : fn.body = some c) {args : List SV} {vals : List Value} {R : Ending → World → Prop}
    (A B : Anc) {hp : List Chunk} {β lay : Lay} (hlay : lay.le β) (hst : Start A hp β) (hBw : B.w = A.w) (hBM : ∀ k, A.M k → B.O k) (hBM' : ∀ k, B.M k → A.M k) (hBo : ∀ (l : Nat) (ch : Chunk), hp[l]? = some ch → ch.live (β.at_ l) = true → B.O (β.at_ l).b) (hr : RelL β A args vals) (hn : vals.length ≤ fn.ntmps)
    (h : Snd P B ⟨[], lay⟩ fn.ntmps c A (ofL (argE 0 args)) hp (fnK C B fn.results.toList R)) : Calls P f vals.toArray A.w R := by
  refine calls_of_wp hf hb ?_
  have hc := Conc.start A B hlay hst hBw hBM hBM' hBo hr hn
  refine wp_mono (h β _ _ hc (fun t e he q hq => by rw [(argE_get args 0 t e he).1] at hq; cases hq)) ?_
  rintro e a w ⟨A', env, hp', β', h1, _, h3⟩
  have fin : ∀ ss, resSV C env hp' fn.results.toList = some ss → RetVC B A' hp' ss R → a.defers = [] ∧ ∃ v, (results fn a.tmps).run P w = .ok v w ∧ R (.returned v) w := fun ss hss hv => by
    obtain ⟨vs, hv1, hv2⟩ := results_run (a := a) hC h1.stp h1.envr h1.hpr hss
    exact ⟨h1.defers, _, hv1, hv.h _ _ _ _ (h1.site hv2)⟩
  cases e with
  | normal =>
    simp only [fnK] at h3
    split at h3
    · rename_i ss hss; exact fin ss hss h3
    · exact h3.elim
  | ret =>
    simp only [fnK] at h3
    split at h3
    · rename_i ss hss; exact fin ss hss h3
    · exact h3.elim
  | panic ch => exact ⟨h1.defers, h3.h _ h1.bas⟩
  | exit i => exact h3.elim
  | goto i => exact h3.elim
  | outgrown => exact h3.elim

/-- a function without objects of others -/
theorem calls_plain (hC : CtxOK P C) {f : Nat} {fn : Func} {c : Code} (hf : P.funcs[f]? = some fn) (hb : fn.body = some c) {args : List SV} {vals : List Value} {R : Ending → World → Prop}
    (A : Anc) (hMO : ∀ k, A.M k → A.O k) (hOS : ∀ k, A.O k → k < A.w.heap.size) (hr : RelL Lay.none A args vals) (hn : vals.length ≤ fn.ntmps)
    (h : Snd P ⟨A.M, A.M, A.w⟩ DS.nil fn.ntmps c A (ofL (argE 0 args)) [] (fnK C ⟨A.M, A.M, A.w⟩ fn.results.toList R)) : Calls P f vals.toArray A.w R :=
  calls_of_snd hC hf hb A ⟨A.M, A.M, A.w⟩ (Lay.none_le _) (Start.nil hMO hOS) rfl (fun _ h => h) (fun _ h => h) (fun l ch h => by simp at h) hr hn h

end
end Go.Eng
end

section
/-! The engine, part N: structs are compared cell by cell. -/
namespace Go.Eng
section
variable {P : Program}

def flatF (P : Program) (g : Nat → Option (List CK)) : List Field → Nat → Option (List CK)
  | [], _ => some []
  | f :: r, o => if f.name = "_" ∨ f.offset ≠ o then none else
    match g f.type, mkTb P f.type, flatF P g r (o + ((g f.type).getD []).length) with
    | some ks, some ti, some u => if ti.size = ks.length then some (ks ++ u) else none
    | _, _, _ => none

def flatT (P : Program) : Nat → Nat → Option (List CK)
  | 0, _ => none
  | d + 1, t => match P.underlying t with
    | some (.int k) => some [.int k]
    | some .string => some [.str]
    | some .bool => some [.bool]
    | some (.struct fs) => if P.stoodInHeld t then none else flatF P (flatT P d) fs.toList 0
    | _ => none

theorem kindsOK_length : ∀ {ks : List CK} {xs : List Value}, kindsOK ks xs → xs.length = ks.length
  | [], xs, h => by simp only [kindsOK] at h; simp [h]
  | .int k :: r, xs, h => by obtain ⟨n, t, rfl, h⟩ := h; simp [kindsOK_length h]
  | .str :: r, xs, h => by obtain ⟨n, t, rfl, h⟩ := h; simp [kindsOK_length h]
  | .bool :: r, xs, h => by obtain ⟨n, t, rfl, h⟩ := h; simp [kindsOK_length h]

theorem kindsOK_append : ∀ {ks u : List CK} {xs : List Value}, kindsOK (ks ++ u) xs → ∃ a b, xs = a ++ b ∧ kindsOK ks a ∧ kindsOK u b
  | [], u, xs, h => ⟨[], xs, rfl, rfl, h⟩
  | .int k :: r, u, xs, h => by obtain ⟨n, t, rfl, h⟩ := h; obtain ⟨a, b, rfl, h1, h2⟩ := kindsOK_append h; exact ⟨_ :: a, b, rfl, ⟨n, a, rfl, h1⟩, h2⟩
  | .str :: r, u, xs, h => by obtain ⟨n, t, rfl, h⟩ := h; obtain ⟨a, b, rfl, h1, h2⟩ := kindsOK_append h; exact ⟨_ :: a, b, rfl, ⟨n, a, rfl, h1⟩, h2⟩
  | .bool :: r, u, xs, h => by obtain ⟨n, t, rfl, h⟩ := h; obtain ⟨a, b, rfl, h1, h2⟩ := kindsOK_append h; exact ⟨_ :: a, b, rfl, ⟨n, a, rfl, h1⟩, h2⟩

theorem cellsB_append : ∀ {a b c d : List Value}, a.length = c.length → cellsB (a ++ b) (c ++ d) = (cellsB a c && cellsB b d)
  | [], b, [], d, _ => by simp [cellsB]
  | x :: a, b, y :: c, d, h => by simp only [List.cons_append, cellsB]; rw [cellsB_append (by simpa using h), Bool.and_assoc]

theorem eqFields_run {w : World} {e d : Nat} (hE : ∀ t ks ti, flatT P d t = some ks → mkTb P t = some ti → ∀ xs ys, kindsOK ks xs → kindsOK ks ys → (Op.equalIn e t (valOf ti xs) (valOf ti ys)).run P w = .ok (cellsB xs ys) w) :
    ∀ (fs : List Field) (o : Nat) (ks : List CK) (p q xs ys : List Value), flatF P (flatT P d) fs o = some ks → p.length = o → q.length = o → kindsOK ks xs → kindsOK ks ys →
      (Op.eqFields e (p ++ xs).toArray (q ++ ys).toArray fs).run P w = .ok (cellsB xs ys) w
  | [], o, ks, p, q, xs, ys, h, _, _, hx, hy => by
    simp [flatF] at h; subst h
    simp only [kindsOK] at hx hy
    subst hx; subst hy
    simp [Op.eqFields, cellsB]
  | f :: r, o, ks, p, q, xs, ys, h, hp, hq, hx, hy => by
    simp only [flatF] at h
    split at h
    · simp at h
    rename_i hn
    split at h <;> try (simp at h; done)
    rename_i k1 ti u hk hti hu
    split at h <;> try (simp at h; done)
    rename_i hsz
    simp at h; subst h
    rw [hk] at hu
    simp only [Option.getD_some] at hu
    obtain ⟨a, b, rfl, ha, hb⟩ := kindsOK_append hx
    obtain ⟨a', b', rfl, ha', hb'⟩ := kindsOK_append hy
    have la := kindsOK_length ha
    have la' := kindsOK_length ha'
    have hname : ¬ f.name = "_" := fun e => hn (.inl e)
    have hoff : f.offset = o := by
      rcases Nat.decEq f.offset o with h | h
      · exact absurd (.inr h) hn
      · exact h
    have one : (match ti.td with | .struct _ => true | .array _ _ => true | _ => false) = true ∨ ti.size = 1 := by
      obtain ⟨i, dd, z, hi, hd, hz, rfl⟩ := ti_parts hti
      cases d with
      | zero => simp [flatT] at hk
      | succ d =>
        simp only [flatT, hd] at hk
        cases dd <;> simp [tdOf] at hk ⊢ <;> (simp only at hsz; rw [hsz, ← hk]; rfl)
    have p1 : (part f.type (p ++ (a ++ b)).toArray f.offset).run P w = .ok (valOf ti a) w :=
      part_run hti _ _ a (by rw [la, hsz]) one (by rw [hoff, ← hp, hsz, ← la]; simp)
    have p2 : (part f.type (q ++ (a' ++ b')).toArray f.offset).run P w = .ok (valOf ti a') w :=
      part_run hti _ _ a' (by rw [la', hsz]) one (by rw [hoff, ← hq, hsz, ← la']; simp)
    have e1 := hE _ _ _ hk hti a a' ha ha'
    have ih := eqFields_run hE r (o + k1.length) u (p ++ a) (q ++ a') b b' hu (by simp [hp, la]) (by simp [hq, la']) hb hb'
    rw [List.append_assoc, List.append_assoc] at ih
    simp only [Op.eqFields, ne_eq, hname, not_false_eq_true, if_true, Sem.run_bind, p1, p2, Result.andThen_ok, e1]
    rw [cellsB_append (by rw [la, la'])]
    cases hc : cellsB a a'
    · simp
    · simp only [Bool.not_true, Bool.false_eq_true, if_false, ih, Bool.true_and]

theorem flat_run {w : World} : ∀ (d : Nat) (t : Nat) (ks : List CK) (ti : TI), flatT P d t = some ks → mkTb P t = some ti → ∀ (e : Nat) (xs ys : List Value), d ≤ e → kindsOK ks xs → kindsOK ks ys →
    (Op.equalIn e t (valOf ti xs) (valOf ti ys)).run P w = .ok (cellsB xs ys) w
  | 0, t, ks, ti, h, _, _, _, _, _, _, _ => by simp [flatT] at h
  | d + 1, t, ks, ti, h, hti, e, xs, ys, he, hx, hy => by
    obtain ⟨i, dd, z, hi, hd, hz, rfl⟩ := ti_parts hti
    obtain ⟨e, rfl⟩ : ∃ m, e = m + 1 := ⟨e - 1, by omega⟩
    simp only [flatT, hd] at h
    cases dd <;> simp only [Option.some.injEq, reduceCtorEq] at h
    case int k =>
      subst h
      obtain ⟨n, t1, rfl, h1⟩ := hx
      obtain ⟨m, t2, rfl, h2⟩ := hy
      simp only [kindsOK] at h1 h2; subst h1; subst h2
      simp [valOf, tdOf, run_equalIn_int w e t k k n m hd, cellsB, cellEq]
    case string =>
      subst h
      obtain ⟨n, t1, rfl, h1⟩ := hx
      obtain ⟨m, t2, rfl, h2⟩ := hy
      simp only [kindsOK] at h1 h2; subst h1; subst h2
      simp [valOf, tdOf, run_equalIn_string w e t n m hd, cellsB, cellEq]
    case bool =>
      subst h
      obtain ⟨n, t1, rfl, h1⟩ := hx
      obtain ⟨m, t2, rfl, h2⟩ := hy
      simp only [kindsOK] at h1 h2; subst h1; subst h2
      simp [valOf, tdOf, run_equalIn_bool' w e t n m hd, cellsB, cellEq]
    case struct fs =>
      split at h
      · simp at h
      rename_i hs
      have hf : P.fieldsOf t = fs := by simp [Program.fieldsOf, hd]
      have := eqFields_run (w := w) (e := e) (d := d) (fun t' ks' ti' h1 h2 xs' ys' h3 h4 => flat_run d t' ks' ti' h1 h2 e xs' ys' (by omega) h3 h4) fs.toList 0 ks [] [] xs ys h rfl rfl hx hy
      simp only [valOf, tdOf]
      rw [run_equalIn_struct w e t _ _ (by rw [hf]; exact hd) (by simpa using hs), hf]
      simpa using this

theorem flat_eqs {t : Nat} {ks : List CK} (h : flatT P 9 t = some ks) (hti : ∃ ti fs, mkTb P t = some ti ∧ ti.td = .struct fs) (hg : P.eqGuardType P.depth t = false) :
    ∀ (xs ys : List Value) (x y : Operand) (w : World), kindsOK ks xs → kindsOK ks ys →
    (do eqGuard .eql t x y (.agg xs.toArray) (.agg ys.toArray); binOp .eql t (.agg xs.toArray) (.agg ys.toArray) : Sem Value).run P w = .ok (.bool (cellsB xs ys)) w ∧
    (do eqGuard .neq t x y (.agg xs.toArray) (.agg ys.toArray); binOp .neq t (.agg xs.toArray) (.agg ys.toArray) : Sem Value).run P w = .ok (.bool (!cellsB xs ys)) w := by
  intro xs ys x y w hx hy
  obtain ⟨ti, fs, hti, htd⟩ := hti
  have := flat_run (w := w) 9 t ks ti h hti 10000 xs ys (by omega) hx hy
  simp only [valOf, htd] at this
  constructor
  · simp only [Sem.run_bind, run_eqGuard_agg w .eql t x y _ _ hg, Result.andThen_ok, run_eql_struct, this]
  · simp only [Sem.run_bind, run_eqGuard_agg w .neq t x y _ _ hg, Result.andThen_ok, run_neq_struct, this]

end
end Go.Eng
end

section
/-! The engine, part X: what a function does, said once, used at each call. -/
namespace Go.Eng
section
variable {P : Program} {C : Ctx} {β : Lay} {B A : Anc} {hp : List Chunk}

mutual
theorem SV.Rel.bare : ∀ (s : SV) (y : Value), s.lt 0 = true → s.Rel β A y → s.Rel Lay.none A y
  | .v _, _, _, h => h
  | .loc l _, _, hl, _ => by have := blt_lt hl; omega
  | .ext _ _ _ _ _, _, _, h => h
  | .xptr _ _, _, _, h => h
  | .agg cs, _, hl, h => by simp only [SV.Rel] at h ⊢; simp only [SV.lt] at hl; obtain ⟨ys, h1, h2⟩ := h; exact ⟨ys, h1, RelL.bare cs ys hl h2⟩
  | .tup cs, _, hl, h => by simp only [SV.Rel] at h ⊢; simp only [SV.lt] at hl; obtain ⟨ys, h1, h2⟩ := h; exact ⟨ys, h1, RelL.bare cs ys hl h2⟩
  | .fn _ cs, _, hl, h => by simp only [SV.Rel] at h ⊢; simp only [SV.lt] at hl; obtain ⟨ys, h1, h2⟩ := h; exact ⟨ys, h1, RelL.bare cs ys hl h2⟩
  | .sl l _ _ _, _, hl, _ => by have := blt_lt hl; omega
  | .elt l _ _ _, _, hl, _ => by have := blt_lt hl; omega
theorem RelL.bare : ∀ (s : List SV) (ys : List Value), ltL 0 s = true → RelL β A s ys → RelL Lay.none A s ys
  | [], _, _, h => h
  | s :: r, _, hl, h => by
    simp only [RelL] at h ⊢
    simp only [ltL, Bool.and_eq_true] at hl
    obtain ⟨y, t, h1, h2, h3⟩ := h
    exact ⟨y, t, h1, SV.Rel.bare s y hl.1 h2, RelL.bare r t hl.2 h3⟩
end

/-- a world that a function is called in -/
structure At (O M : Nat → Prop) (w : World) : Prop where
  MO : ∀ k, M k → O k
  OS : ∀ k, O k → k < w.heap.size

/-- a function that answers a plain value -/
def Con (P : Program) (f : Nat) (args : List SV) (r : Value) : Prop :=
  ∀ O M w β vals, RelL β ⟨O, M, w⟩ args vals → At O M w → Calls P f vals.toArray w fun e w' => e = .returned r ∧ Stp M w w'

/-- .. that panics -/
def ConX (P : Program) (f : Nat) (args : List SV) (ch : List PanicEntry) : Prop :=
  ∀ O M w β vals, RelL β ⟨O, M, w⟩ args vals → At O M w → Calls P f vals.toArray w fun e w' => e = .panicked ch ∧ Stp M w w'

theorem con_vc {f : Nat} {args : List SV} {r : Value} {K : SV → Anc → List Chunk → Prop} {Kp : List PanicEntry → Anc → Prop} (h : Con P f args r) (k : K (.v r) A []) : CallVC P B A hp f args K Kp :=
  .scal r (fun O' w β vals site => h O' A.M w β vals site.rel ⟨site.MO, site.OS⟩) k

theorem conX_vc {f : Nat} {args : List SV} {ch : List PanicEntry} {K : SV → Anc → List Chunk → Prop} {Kp : List PanicEntry → Anc → Prop} (h : ConX P f args ch) (k : Kp ch A) : CallVC P B A hp f args K Kp :=
  .pan ch (fun O' w β vals site => h O' A.M w β vals site.rel ⟨site.MO, site.OS⟩) k

def rawsOf : List SV → Option (List Value)
  | [] => some []
  | s :: r => match rawOf s, rawsOf r with
    | some x, some xs => some (x :: xs)
    | _, _ => none
theorem rawsOf_rel : ∀ {s : List SV} {xs ys : List Value}, rawsOf s = some xs → RelL β A s ys → ys = xs
  | [], xs, ys, h, hr => by simp [rawsOf] at h; simp only [RelL] at hr; rw [hr, ← h]
  | s :: r, xs, ys, h, hr => by
    simp only [rawsOf] at h
    split at h <;> try (simp at h; done)
    rename_i x u hx hu
    simp at h; subst h
    simp only [RelL] at hr
    obtain ⟨y, t, rfl, h1, h2⟩ := hr
    rw [rawOf_rel hx h1, rawsOf_rel hu h2]

/-- at a return: a plain value -/
theorem ret_con {M : Nat → Prop} {w0 : World} {ss : List SV} {xs : List Value} {r : Value} (hs : rawsOf ss = some xs) (h : retV xs = r) : RetVC ⟨M, M, w0⟩ A hp ss (fun e w' => e = .returned r ∧ Stp M w0 w') :=
  ⟨fun O' w β vals site => by
    rw [rawsOf_rel hs site.rel, h]
    exact ⟨rfl, site.bas⟩⟩

/-- at a panic -/
theorem pan_con {M : Nat → Prop} {w0 : World} {ch : List PanicEntry} : PanVC ⟨M, M, w0⟩ ch (fun e w' => e = .panicked ch ∧ Stp M w0 w') := ⟨fun _ h => ⟨rfl, h⟩⟩

/-- the world in which a function begins: what is there may turn only by those who own it -/
theorem con_of (hC : CtxOK P C) {f : Nat} {fn : Func} {c : Code} (hf : P.funcs[f]? = some fn) (hb : fn.body = some c) {args : List SV} {R : World → (Nat → Prop) → Ending → World → Prop} (hl : ltL 0 args = true) (hn : Nat.ble (lenL args) fn.ntmps = true)
    (h : ∀ A : Anc, At A.O A.M A.w → Snd P ⟨A.M, A.M, A.w⟩ DS.nil fn.ntmps c A (ofL (argE 0 args)) [] (fnK C ⟨A.M, A.M, A.w⟩ fn.results.toList (R A.w A.M))) :
    ∀ O M w β vals, RelL β ⟨O, M, w⟩ args vals → At O M w → Calls P f vals.toArray w (R w M) := fun O M w β vals hr hat =>
  calls_plain hC hf hb ⟨O, M, w⟩ hat.MO hat.OS (RelL.bare args vals hl hr) (by rw [hr.length, ← lenL_eq]; exact Nat.le_of_ble_eq_true hn) (h ⟨O, M, w⟩ hat)

theorem con_ofP (hC : CtxOK P C) {f : Nat} {fn : Func} {c : Code} (hf : P.funcs[f]? = some fn) (hb : fn.body = some c) {args : List SV} {Pre : Anc → Prop} {R : World → (Nat → Prop) → Ending → World → Prop} (hl : ltL 0 args = true) (hn : Nat.ble (lenL args) fn.ntmps = true)
    (h : ∀ A : Anc, At A.O A.M A.w → Pre A → Snd P ⟨A.M, A.M, A.w⟩ DS.nil fn.ntmps c A (ofL (argE 0 args)) [] (fnK C ⟨A.M, A.M, A.w⟩ fn.results.toList (R A.w A.M))) :
    ∀ O M w β vals, RelL β ⟨O, M, w⟩ args vals → At O M w → Pre ⟨O, M, w⟩ → Calls P f vals.toArray w (R w M) := fun O M w β vals hr hat hp =>
  calls_plain hC hf hb ⟨O, M, w⟩ hat.MO hat.OS (RelL.bare args vals hl hr) (by rw [hr.length, ← lenL_eq]; exact Nat.le_of_ble_eq_true hn) (h ⟨O, M, w⟩ hat hp)

/-- a plain value, where something is known of the world -/
def ConP (P : Program) (f : Nat) (args : List SV) (Pre : Anc → Prop) (r : Value) : Prop :=
  ∀ O M w β vals, RelL β ⟨O, M, w⟩ args vals → At O M w → Pre ⟨O, M, w⟩ → Calls P f vals.toArray w fun e w' => e = .returned r ∧ Stp M w w'
theorem conP_vc {f : Nat} {args : List SV} {Pre : Anc → Prop} {r : Value} {K : SV → Anc → List Chunk → Prop} {Kp : List PanicEntry → Anc → Prop} (h : ConP P f args Pre r) (hpre : ∀ A', Later A A' → Pre A') (k : K (.v r) A []) : CallVC P B A hp f args K Kp :=
  .scal r (fun O' w β vals site => h O' A.M w β vals site.rel ⟨site.MO, site.OS⟩ (hpre _ site.later)) k

/-- boxes that are only read: in a call's arguments, pointers to them become pointers into memory that nobody turns -/
def frzV (l : Nat) (p : Addr) (cs : List Value) : SV → SV
  | .loc i o => bif Nat.beq i l && Nat.beq o 0 then .xptr p cs else .loc i o
  | s => s
def frzM (l : Nat) (p : Addr) (cs : List Value) : List SV → List SV
  | [] => []
  | s :: r => frzV l p cs s :: frzM l p cs r
def frzF (l : Nat) (p : Addr) (cs : List Value) : SV → SV
  | .fn f caps => .fn f (frzM l p cs caps)
  | s => frzV l p cs s
def frzL (l : Nat) (p : Addr) (cs : List Value) : List SV → List SV
  | [] => []
  | s :: r => frzF l p cs s :: frzL l p cs r

theorem frzV_rel {A : Anc} {l : Nat} {cs : List Value} {b : Nat} (hb : b = (β.at_ l).b) (hra : ReadsAt A ⟨b, 0, none⟩ cs) : ∀ {s : SV} {y : Value}, s.Rel β A y → (frzV l ⟨b, 0, none⟩ cs s).Rel β A y
  | .loc i o, y, h => by
    simp only [frzV]
    cases hb2 : (Nat.beq i l && Nat.beq o 0) with
    | false => exact h
    | true =>
      simp only [Bool.and_eq_true] at hb2
      have e1 := Nat.eq_of_beq_eq_true hb2.1
      have e2 := Nat.eq_of_beq_eq_true hb2.2
      subst e1; subst e2
      simp only [cond_true, SV.Rel] at h ⊢
      obtain ⟨_, rfl⟩ := h
      exact ⟨by rw [hb], hra⟩
  | .v _, _, h => h
  | .ext _ _ _ _ _, _, h => h
  | .xptr _ _, _, h => h
  | .agg _, _, h => h
  | .tup _, _, h => h
  | .fn _ _, _, h => h
  | .sl _ _ _ _, _, h => h
  | .elt _ _ _ _, _, h => h

theorem frzM_rel {A : Anc} {l : Nat} {cs : List Value} {b : Nat} (hb : b = (β.at_ l).b) (hra : ReadsAt A ⟨b, 0, none⟩ cs) : ∀ {s : List SV} {ys : List Value}, RelL β A s ys → RelL β A (frzM l ⟨b, 0, none⟩ cs s) ys
  | [], _, h => h
  | s :: r, _, h => by
    simp only [RelL] at h
    obtain ⟨y, t, rfl, h1, h2⟩ := h
    simp only [frzM, RelL]
    exact ⟨y, t, rfl, frzV_rel hb hra h1, frzM_rel hb hra h2⟩

theorem frzL_rel {A : Anc} {l : Nat} {cs : List Value} {b : Nat} (hb : b = (β.at_ l).b) (hra : ReadsAt A ⟨b, 0, none⟩ cs) : ∀ {s : List SV} {ys : List Value}, RelL β A s ys → RelL β A (frzL l ⟨b, 0, none⟩ cs s) ys
  | [], _, h => h
  | s :: r, _, h => by
    simp only [RelL] at h
    obtain ⟨y, t, rfl, h1, h2⟩ := h
    simp only [frzL, RelL]
    refine ⟨y, t, rfl, ?_, frzL_rel hb hra h2⟩
    cases s with
    | fn f caps =>
      simp only [SV.Rel, frzF] at h1 ⊢
      obtain ⟨ys, e, hr⟩ := h1
      exact ⟨ys, e, frzM_rel hb hra hr⟩
    | _ => exact frzV_rel hb hra h1

/-- a call that reads a box of the caller's -/
theorem frz_site {args : List SV} {O' : Nat → Prop} {w : World} {vals : List Value} (site : Site B A hp args O' w β vals) {l T : Nat} {cs : List SV} {xs : List Value} (hl : hp[l]? = some (.box T cs)) (hraw : rawVs cs = some xs) :
    RelL β ⟨fun k => O' k ∧ k ≠ (β.at_ l).b, A.M, w⟩ (frzL l ⟨(β.at_ l).b, 0, none⟩ xs args) vals ∧ At (fun k => O' k ∧ k ≠ (β.at_ l).b) A.M w := by
  have hlv : (Chunk.box T cs).live (β.at_ l) = true := rfl
  obtain ⟨o1, o2⟩ := site.own l _ hl hlv
  obtain ⟨ys, r1, r2⟩ := site.hpr l _ hl
  have hys := rawVs_rel hraw r1
  subst hys
  refine ⟨frzL_rel rfl ⟨rfl, fun hh => absurd rfl (And.right hh), site.OS _ o1, fun j v hv => ?_⟩ (RelL.later (A := ⟨O', A.M, w⟩) (A' := ⟨fun k => O' k ∧ k ≠ (β.at_ l).b, A.M, w⟩) ⟨Stp.refl _ _, fun k hk => .inl (And.left hk)⟩ _ _ site.rel), ⟨fun k hk => ⟨site.MO k hk, fun e => o2 (e ▸ hk)⟩, fun k hk => site.OS k hk.1⟩⟩
  simp only [Nat.zero_add]
  exact cell_of_heap r2 hv

theorem con_frz {f : Nat} {args : List SV} {r : Value} {K : SV → Anc → List Chunk → Prop} {Kp : List PanicEntry → Anc → Prop} (l : Nat) {T : Nat} {cs : List SV} {xs : List Value} (hl : nthL l hp = some (.box T cs)) (hraw : rawVs cs = some xs)
    (h : ∀ p, Con P f (frzL l p xs args) r) (k : K (.v r) A []) : CallVC P B A hp f args K Kp :=
  .scal r (fun O' w β vals site => by
    rw [nthL_eq] at hl
    obtain ⟨h1, h2⟩ := frz_site site hl hraw
    exact h _ _ A.M w β vals h1 h2) k

def Loc.val (L : Loc) (n : Nat) : Value := bif L.nl then .slice none 0 0 else .slice (some ⟨L.b, 0, none⟩) n L.cap

/-- a function that answers with a row of its own -/
def ConR (P : Program) (f : Nat) (args : List SV) (Pre : Anc → Prop) (t k n : Nat) (els : Nat → List Value) (mk : Value → Value) : Prop :=
  ∀ O M w β vals, RelL β ⟨O, M, w⟩ args vals → At O M w → Pre ⟨O, M, w⟩ → Calls P f vals.toArray w fun e w' =>
    ∃ L : Loc, RowAt w' L t k n els ∧ (L.nl = false → w.heap.size ≤ L.b ∧ L.b < w'.heap.size) ∧ e = .returned (mk (L.val n)) ∧ Stp M w w'

/-- how a symbolic value is made of a row, and a value -/
structure Shape (mkS : SV → SV) (mk : Value → Value) : Prop where
  to : ∀ β A s y, SV.Rel β A s y → (mkS s).Rel β A (mk y)
  back : ∀ β A s y, (mkS s).Rel β A y → ∃ z, s.Rel β A z ∧ y = mk z

theorem slice_of_row {w w' : World} {M O' : Nat → Prop} {L : Loc} {t k n : Nat} {els : Nat → List Value} (hr : RowAt w' L t k n els) (hL : L.nl = false → w.heap.size ≤ L.b ∧ L.b < w'.heap.size) (hO : ∀ k, O' k → k < w.heap.size) :
    SliceAt ⟨O', M, w'⟩ (bif L.nl then none else some ⟨L.b, 0, none⟩) n k els := by
  intro i hi
  cases hn : L.nl with
  | true => have := hr.nil hn; omega
  | false =>
    obtain ⟨h1, h2⟩ := hL hn
    refine ⟨_, rfl, ?_⟩
    rw [add_plain]
    refine ⟨rfl, fun hh => by have := hO _ hh; simp only at this; omega, h2, fun j v hv => ?_⟩
    simp only [Nat.zero_add]
    exact hr.cell hn hi hv

theorem conR_ext {f : Nat} {args : List SV} {Pre : Anc → Prop} {t k n : Nat} {els : Nat → List Value} {mk : Value → Value} {mkS : SV → SV} {K : SV → Anc → List Chunk → Prop} {Kp : List PanicEntry → Anc → Prop} (h : ConR P f args Pre t k n els mk) (hs : Shape mkS mk) (hpre : ∀ A', Later A A' → Pre A')
    (kk : ∀ A' a c, Later A A' → SliceAt A' a n k els → K (mkS (.ext a n c k els)) A' []) : CallVC P B A hp f args K Kp :=
  .gen fun O' w β vals site => (h O' A.M w β vals site.rel ⟨site.MO, site.OS⟩ (hpre _ site.later)).mono fun e w' he => by
    obtain ⟨L, h1, h2, rfl, h4⟩ := he
    have hsl : SliceAt ⟨O', A.M, w'⟩ (bif L.nl then none else some ⟨L.b, 0, none⟩) n k els := slice_of_row h1 h2 site.OS
    have hnext : Next ⟨O', A.M, w⟩ ⟨O', A.M, w'⟩ := ⟨h4, fun _ h => h, fun _ h => .inl h, fun k hk => Nat.lt_of_lt_of_le (site.OS k hk) h4.size, fun _ h => h, fun _ h => .inl h, site.MO⟩
    refine .inl ⟨_, ⟨O', A.M, w'⟩, _, [], β, rfl, rfl, hnext, Fresh.nil β w _, ?_, kk ⟨O', A.M, w'⟩ (bif L.nl then none else some ⟨L.b, 0, none⟩) (bif L.nl then 0 else L.cap) (site.later.trans ⟨h4.mono (fun k _ hk => site.MO k hk), fun k hk => .inl hk⟩) hsl⟩
    apply hs.to
    simp only [SV.Rel]
    refine ⟨?_, ?_, hsl⟩
    · unfold Loc.val
      cases hn : L.nl with
      | true => have := h1.nil hn; subst this; rfl
      | false => rfl
    · cases hn : L.nl with
      | true => have := h1.nil hn; omega
      | false => obtain ⟨cur, _, q, _⟩ := h1.at_ hn; exact q

theorem conR_row {f : Nat} {args : List SV} {Pre : Anc → Prop} {t k n : Nat} {els : Nat → List Value} {mk : Value → Value} {mkS : SV → SV} {K : SV → Anc → List Chunk → Prop} {Kp : List PanicEntry → Anc → Prop} (h : ConR P f args Pre t k n els mk) (hs : Shape mkS mk) (hpre : ∀ A', Later A A' → Pre A')
    (kk : ∀ A', Later A A' → K (mkS (.sl (lenL hp) k 0 n)) A' [.row t k n els]) : CallVC P B A hp f args K Kp :=
  .gen fun O' w β vals site => (h O' A.M w β vals site.rel ⟨site.MO, site.OS⟩ (hpre _ site.later)).mono fun e w' he => by
    obtain ⟨L, h1, h2, rfl, h4⟩ := he
    let A' : Anc := ⟨fun g => O' g ∨ (L.nl = false ∧ g = L.b), A.M, w'⟩
    have hnext : Next ⟨O', A.M, w⟩ A' := ⟨h4, fun _ h => .inl h, fun g hg => by
      rcases hg with hg | ⟨h5, rfl⟩
      · exact .inl hg
      · exact .inr (h2 h5).1, fun g hg => by
      rcases hg with hg | ⟨h5, rfl⟩
      · exact Nat.lt_of_lt_of_le (site.OS _ hg) h4.size
      · exact (h2 h5).2, fun _ h => h, fun _ h => .inl h, fun g hg => .inl (site.MO g hg)⟩
    have hat : (β.snoc L).at_ β.m = L := by simp [Lay.snoc]
    refine .inl ⟨_, A', _, [.row t k n els], β.snoc L, rfl, rfl, hnext, ⟨β.le_snoc L, rfl, fun i ch hi => ?_, fun i ch hi hv => ?_, fun i j ch ch' hi hj _ _ _ => ?_⟩, ?_, kk A' (site.later.trans ⟨hnext.stp.mono (fun k _ hk => site.MO k hk), hnext.O2⟩)⟩
    · cases i with
      | zero => simp at hi; subst hi; show RowAt _ _ _ _ _ _; rw [Nat.add_zero, hat]; exact h1
      | succ i => simp at hi
    · cases i with
      | zero =>
        simp at hi; subst hi
        rw [Nat.add_zero, hat] at hv ⊢
        have hn : L.nl = false := by simpa [Chunk.live] using hv
        refine ⟨(h2 hn).1, .inr ⟨hn, rfl⟩, fun hm => ?_⟩
        have := site.OS _ (site.MO _ hm)
        have := (h2 hn).1
        omega
      | succ i => simp at hi
    · cases i <;> cases j <;> simp at hi hj ⊢
    · apply hs.to
      simp only [SV.Rel]
      rw [lenL_eq, ← site.m]
      refine ⟨by simp [Lay.snoc], ?_⟩
      rw [hat]
      unfold Loc.val
      cases hn : L.nl with
      | true => have := h1.nil hn; subst this; exact .inl ⟨by simp, by simp, rfl, rfl⟩
      | false => obtain ⟨cur, _, q, _⟩ := h1.at_ hn; exact .inr ⟨by simp, by omega, by simp⟩

/-- at a return: a row of one's own in it -/
theorem ret_conR {M : Nat → Prop} {w0 : World} {mk : Value → Value} {mkS : SV → SV} (hs : Shape mkS mk) {ss : List SV} {l t k n N : Nat} {els els' : Nat → List Value} (hss : ∀ β A vals, RelL β A ss vals → (mkS (.sl l k 0 n)).Rel β A (retV vals))
    (hl : nthL l hp = some (.row t k N els')) (hn : n ≤ N) (he : ∀ i, i < n → els' i = els i) :
    RetVC ⟨M, M, w0⟩ A hp ss (fun e w' => ∃ L : Loc, RowAt w' L t k n els ∧ (L.nl = false → w0.heap.size ≤ L.b ∧ L.b < w'.heap.size) ∧ e = .returned (mk (L.val n)) ∧ Stp M w0 w') := by
  refine ⟨fun O' w β vals site => ?_⟩
  obtain ⟨z, hz, e⟩ := hs.back _ _ _ _ (hss _ _ _ site.rel)
  rw [nthL_eq] at hl
  have hrow : RowAt w (β.at_ l) t k N els' := site.hpr l _ hl
  refine ⟨β.at_ l, ⟨fun i hi => by rw [← he i hi]; exact hrow.len i (by omega), fun hh => by have := hrow.nil hh; omega, fun hnl => by
    obtain ⟨cur, q1, q2, q3, q4, q5⟩ := hrow.at_ hnl
    refine ⟨cur, q1, by omega, q3, q4, ?_⟩
    have h5 := congrArg (List.take (n * k)) q5
    rw [List.take_take, rowL_take hrow.len n hn, Nat.min_eq_left (Nat.mul_le_mul_right _ hn)] at h5
    rw [h5]; exact rowL_congr he⟩, fun hnl => ?_, ?_, site.bas⟩
  · have hlv : (Chunk.row t k N els').live (β.at_ l) = true := by simp [Chunk.live, hnl]
    obtain ⟨o1, o2⟩ := site.own l _ hl hlv
    refine ⟨?_, site.OS _ o1⟩
    rcases site.bown l _ hl hlv with h | h
    · exact h
    · exact absurd (site.BM _ h) o2
  · rw [e]
    congr 2
    simp only [SV.Rel] at hz
    unfold Loc.val
    obtain ⟨_, ⟨h1, _, h3, h4⟩ | ⟨h1, h2, h3⟩⟩ := hz
    · rw [h1, h4]; rfl
    · rw [h1, h3]; simp

/-- at a return: a nil row in it -/
theorem ret_conR0 {M : Nat → Prop} {w0 : World} {mk : Value → Value} {mkS : SV → SV} (hs : Shape mkS mk) {ss : List SV} {t k n : Nat} {els : Nat → List Value} (hss : ∀ β A vals, RelL β A ss vals → (mkS (.v (.slice none 0 0))).Rel β A (retV vals)) (hn : n = 0) :
    RetVC ⟨M, M, w0⟩ A hp ss (fun e w' => ∃ L : Loc, RowAt w' L t k n els ∧ (L.nl = false → w0.heap.size ≤ L.b ∧ L.b < w'.heap.size) ∧ e = .returned (mk (L.val n)) ∧ Stp M w0 w') := by
  subst hn
  refine ⟨fun O' w β vals site => ?_⟩
  obtain ⟨z, hz, e⟩ := hs.back _ _ _ _ (hss _ _ _ site.rel)
  simp only [SV.Rel] at hz
  exact ⟨⟨0, true, 0⟩, ⟨fun i hi => by omega, fun _ => rfl, fun hh => by simp at hh⟩, fun hh => by simp at hh, by rw [e, hz]; rfl, site.bas⟩

/-- what holds at a loop's head, by an index -/
def LJ {ι : Type} (S : ι → List (Nat × SV)) (H : ι → List Chunk) (μ : ι → Nat) (Φ : ι → Anc → Prop) : Nat → Anc → List (Nat × SV) → List Chunk → Prop :=
  fun m A l hp => ∃ i, m = μ i ∧ l = S i ∧ hp = H i ∧ Φ i A

theorem loop_i {ι : Type} (S : ι → List (Nat × SV)) (H : ι → List Chunk) (μ : ι → Nat) (Φ : ι → Anc → Prop) {body : Body} {env : Env} {K : Kont} (i0 : ι) (σ0 : List Nat) {m0 : Nat} (hw : Weak m0 σ0 env hp (S i0) (H i0)) (h0 : Φ i0 A)
    (step : ∀ i A, Φ i A → body A (ofL (S i)) (H i) (fun e A' env' hp' => match e with
      | .normal => ∃ m' σ' l' hp'', m' < μ i ∧ Weak m0 σ' env' hp' l' hp'' ∧ LJ S H μ Φ m' A' l' hp''
      | e => K e A' env' hp')) : LoopVC m0 body A env hp K :=
  ⟨LJ S H μ Φ, μ i0, σ0, S i0, H i0, hw, ⟨i0, rfl, rfl, rfl, h0⟩, fun m A l hp ⟨i, h1, h2, h3, h4⟩ => by
    subst h1; subst h2; subst h3
    exact step i A h4⟩

theorem next_i {ι : Type} {S : ι → List (Nat × SV)} {H : ι → List Chunk} {μ : ι → Nat} {Φ : ι → Anc → Prop} {m : Nat} {env : Env} (j : ι) (σ : List Nat) (hlt : μ j < m) {m0 : Nat} (hw : Weak m0 σ env hp (S j) (H j)) (h : Φ j A) :
    ∃ m' σ' l' hp'', m' < m ∧ Weak m0 σ' env hp l' hp'' ∧ LJ S H μ Φ m' A l' hp'' := ⟨μ j, σ, S j, H j, hlt, hw, j, rfl, rfl, rfl, h⟩

theorem guardP_mk {env : Env} {φ : Prop} (h : φ) : ∀ {p : List (Nat × Bool)}, guardP env p φ
  | [] => h
  | (s, b) :: r => by
    simp only [guardP]
    split
    · exact fun _ => guardP_mk h
    · exact guardP_mk h

theorem gcon_vc {f : Nat} {args : List SV} {r : Value} {env : Env} {p : List (Nat × Bool)} {T : Prop} {K : SV → Anc → Prop} (h : Con P f args r) (k : K (.v r) A) : GCallVC P B A hp f args (guardP env p) T K :=
  .ex r (guardP_mk fun O' w β vals site => h O' A.M w β vals site.rel ⟨site.MO, site.OS⟩) k

theorem Shape.id : Shape (fun s => s) (fun y => y) := ⟨fun _ _ _ _ h => h, fun _ _ _ y h => ⟨y, h, rfl⟩⟩

/-- what a function that answers with a row of its own leaves behind -/
def RowR (t k n : Nat) (els : Nat → List Value) (mk : Value → Value) : World → (Nat → Prop) → Ending → World → Prop := fun w M e w' =>
  ∃ L : Loc, RowAt w' L t k n els ∧ (L.nl = false → w.heap.size ≤ L.b ∧ L.b < w'.heap.size) ∧ e = .returned (mk (L.val n)) ∧ Stp M w w'
def ValR (r : Value) : World → (Nat → Prop) → Ending → World → Prop := fun w M e w' => e = .returned r ∧ Stp M w w'

theorem ext_congr {a : Option Addr} {n c k : Nat} {els els' : Nat → List Value} (h : ∀ i, i < n → els i = els' i) {y : Value} (hr : (SV.ext a n c k els).Rel β A y) : (SV.ext a n c k els').Rel β A y := by
  simp only [SV.Rel] at hr ⊢
  exact ⟨hr.1, hr.2.1, fun i hi => by rw [← h i hi]; exact hr.2.2 i hi⟩

theorem ConR.arg {f : Nat} {args args' : List SV} {Pre Pre' : Anc → Prop} {t k n : Nat} {els : Nat → List Value} {mk : Value → Value} (h : ConR P f args' Pre' t k n els mk) (hup : ∀ β A vals, RelL β A args vals → Pre A → RelL β A args' vals) (hp : ∀ A, Pre A → Pre' A) : ConR P f args Pre t k n els mk :=
  fun O M w β vals hr hat hpre => h O M w β vals (hup _ _ _ hr hpre) hat (hp _ hpre)

end
end Go.Eng
end

section
/-! The engine, part Y: entries, pages, deltas: as lists. -/
namespace Go.Eng

abbrev Str := ByteArray
def sLt (a b : Str) : Bool := Op.bytesLess a.toList b.toList
def sEq (a b : Str) : Bool := a.toList == b.toList
def s0 : Str := ⟨#[]⟩

structure En where
  key : Str
  slot : Int
  gen : Int
  child : Int
def En.zero : En := ⟨s0, 0, 0, 0⟩
def En.cells (e : En) : List Value := [.string e.key, .int .i64 e.slot, .int .i64 e.gen, .int .i64 e.child]
def En.sv (e : En) : SV := .agg [.v (.string e.key), .v (.int .i64 e.slot), .v (.int .i64 e.gen), .v (.int .i64 e.child)]
def entE (l : List En) (i : Nat) : List Value := (l.getD i En.zero).cells
def En.eq (x y : En) : Bool := cellsB x.cells y.cells

structure Pg where
  leaf : Bool
  low : Str
  high : Str
  right : Int
  list : List En
def Pg.sv (p : Pg) (a : Option Addr) (c : Nat) : SV := .agg [.v (.bool p.leaf), .v (.string p.low), .v (.string p.high), .v (.int .i64 p.right), .ext a p.list.length c 4 (entE p.list)]
def Pg.svL (p : Pg) (s : SV) : SV := .agg [.v (.bool p.leaf), .v (.string p.low), .v (.string p.high), .v (.int .i64 p.right), s]
def Pg.val (p : Pg) (y : Value) : Value := .agg #[.bool p.leaf, .string p.low, .string p.high, .int .i64 p.right, y]

def entsEq : List En → List En → Bool
  | [], [] => true
  | x :: r, y :: s => x.eq y && entsEq r s
  | _, _ => false
def Pg.eq (p q : Pg) : Bool := p.leaf == q.leaf && sEq p.low q.low && sEq p.high q.high && p.right == q.right && entsEq p.list q.list

structure De where
  kind : Int
  entry : En
  key : Str
  page : Int
  right : Pg
def De.sv (d : De) (a : Option Addr) (c : Nat) : SV := .agg [.v (.int .i64 d.kind), .v (.string d.entry.key), .v (.int .i64 d.entry.slot), .v (.int .i64 d.entry.gen), .v (.int .i64 d.entry.child), .v (.string d.key), .v (.int .i64 d.page),
  .v (.bool d.right.leaf), .v (.string d.right.low), .v (.string d.right.high), .v (.int .i64 d.right.right), .ext a d.right.list.length c 4 (entE d.right.list)]
def De.eq (x y : De) : Bool := x.kind == y.kind && x.entry.eq y.entry && sEq x.key y.key && x.page == y.page && x.right.eq y.right

theorem entsEq_at : ∀ (a b : List En), a.length = b.length → (entsEq a b = true ↔ ∀ i, i < a.length → (a.getD i En.zero).eq (b.getD i En.zero) = true)
  | [], [], _ => by simp [entsEq]
  | [], y :: s, h => by simp at h
  | x :: r, [], h => by simp at h
  | x :: r, y :: s, h => by
    simp only [entsEq, Bool.and_eq_true]
    rw [entsEq_at r s (by simpa using h)]
    constructor
    · rintro ⟨h1, h2⟩ i hi
      cases i with
      | zero => simpa using h1
      | succ i => simpa using h2 i (by simpa using hi)
    · intro hh
      exact ⟨by simpa using hh 0 (by simp), fun i hi => by simpa using hh (i + 1) (by simpa using hi)⟩

theorem entsEq_len : ∀ (a b : List En), entsEq a b = true → a.length = b.length
  | [], [], _ => rfl
  | [], y :: s, h => by simp [entsEq] at h
  | x :: r, [], h => by simp [entsEq] at h
  | x :: r, y :: s, h => by
    simp only [entsEq, Bool.and_eq_true] at h
    simp [entsEq_len r s h.2]

theorem wrap_in {z : Int} (h0 : -9223372036854775808 ≤ z) (h1 : z ≤ 9223372036854775807) : IntKind.i64.wrap z = z := by rw [IntKind.wrap_i64]; omega

/-- a list is not too long -/
def lim : Nat := 1099511627776

theorem w_succ (i : Nat) (h : i < 4611686018427387904) : (some ⟨[], .v (.int .i64 (IntKind.i64.wrap ((i : Int) + 1)))⟩ : Option Ent) = some ⟨[], .v (.int .i64 ((i + 1 : Nat) : Int))⟩ := by
  rw [wrap_in (by omega) (by omega)]; rfl

theorem w_pred (i : Nat) (h : i < 4611686018427387904) (h0 : 0 < i) : (some ⟨[], .v (.int .i64 (IntKind.i64.wrap ((i : Int) - 1)))⟩ : Option Ent) = some ⟨[], .v (.int .i64 ((i - 1 : Nat) : Int))⟩ := by
  rw [wrap_in (by omega) (by omega)]
  have : (i : Int) - 1 = ((i - 1 : Nat) : Int) := by omega
  rw [this]

theorem lt_of_dec {i n : Nat} (h : decide ((i : Int) < (n : Int)) = true) : i < n := by simpa using h
theorem ge_of_dec {i n : Nat} (h : decide ((i : Int) < (n : Int)) = false) : n ≤ i := by simp at h; omega

/-- lists, one behind the other -/
def cat (xs : Nat → List En) : Nat → List En
  | 0 => []
  | n + 1 => cat xs n ++ xs n
theorem cat_mono (xs : Nat → List En) : ∀ {n m : Nat}, n ≤ m → (cat xs n).length ≤ (cat xs m).length
  | n, 0, h => by have : n = 0 := by omega
                  subst this; exact Nat.le_refl _
  | n, m + 1, h => by
    by_cases e : n = m + 1
    · subst e; exact Nat.le_refl _
    · have := cat_mono xs (n := n) (m := m) (by omega)
      simp only [cat, List.length_append]; omega

theorem joinE_entE (x y : List En) (i : Nat) (_ : i < x.length + y.length) : joinE x.length (entE x) (entE y) i = entE (x ++ y) i := by
  unfold joinE entE
  cases hb : Nat.blt i x.length with
  | true =>
    have hi : i < x.length := Nat.le_of_ble_eq_true hb
    simp only [cond_true]
    rw [List.getD_eq_getElem?_getD, List.getD_eq_getElem?_getD, List.getElem?_append_left hi]
  | false =>
    have hi : x.length ≤ i := by
      rcases Nat.lt_or_ge i x.length with h1 | h1
      · rw [show Nat.blt i x.length = true from Nat.ble_eq_true_of_le h1] at hb; simp at hb
      · exact h1
    simp only [cond_false]
    rw [List.getD_eq_getElem?_getD, List.getD_eq_getElem?_getD, List.getElem?_append_right hi]

theorem entE_len (x : List En) (i : Nat) : (entE x i).length = 4 := rfl
theorem entE_one (x : List En) (i : Nat) : ∀ v ∈ entE x i, v.oneCell' = true := by
  intro v hv
  unfold entE En.cells at hv
  simp at hv
  rcases hv with rfl | rfl | rfl | rfl <;> rfl

theorem w_add (i j : Nat) (h : i + j < 4611686018427387904) : (some ⟨[], .v (.int .i64 (IntKind.i64.wrap ((i : Int) + (j : Int))))⟩ : Option Ent) = some ⟨[], .v (.int .i64 ((i + j : Nat) : Int))⟩ := by
  rw [wrap_in (by omega) (by omega)]; rfl

/-- parts of a list: where each lies, its room, its entries -/
abbrev Part := Option Addr × Nat × List En
def rowsP : List Part → List (List Value)
  | [] => []
  | (q, c, l) :: r => [.slice q l.length c] :: rowsP r
def joinP : List Part → List En
  | [] => []
  | (_, _, l) :: r => l ++ joinP r
def partI : List Part → Nat → Part
  | [], _ => (none, 0, [])
  | x :: _, 0 => x
  | _ :: r, n + 1 => partI r n
def PartsP (ps : List Part) (A : Anc) : Prop := ∀ i, i < ps.length → SliceAt A (partI ps i).1 (partI ps i).2.2.length 4 (entE (partI ps i).2.2) ∧ (partI ps i).2.2.length ≤ (partI ps i).2.1
theorem PartsP.later {ps : List Part} {A A' : Anc} (h : PartsP ps A) (hl : Later A A') : PartsP ps A' := fun i hi => ⟨(h i hi).1.later hl, (h i hi).2⟩

theorem cat_left (xs : Nat → List En) : ∀ n, cat xs (n + 1) = xs 0 ++ cat (fun i => xs (i + 1)) n
  | 0 => by simp [cat]
  | n + 1 => by
    rw [cat, cat_left xs n, cat]
    simp
theorem cat_join : ∀ (ps : List Part), cat (fun i => (partI ps i).2.2) ps.length = joinP ps
  | [] => rfl
  | (q, c, l) :: r => by
    rw [List.length_cons, cat_left]
    simp only [partI, joinP]
    rw [cat_join r]
theorem rowsP_at : ∀ (ps : List Part) (i : Nat), i < ps.length → tabE (rowsP ps) i = [.slice (partI ps i).1 (partI ps i).2.2.length (partI ps i).2.1]
  | [], i, h => by simp at h
  | (q, c, l) :: r, 0, _ => rfl
  | (q, c, l) :: r, i + 1, h => by simp only [rowsP, tabE, partI]; exact rowsP_at r i (by simpa using h)

theorem Pg.shape (p : Pg) : Shape p.svL p.val := ⟨fun β A s y h => by
  simp only [Pg.svL, Pg.val, SV.Rel, RelL]
  exact ⟨_, rfl, _, _, rfl, rfl, _, _, rfl, rfl, _, _, rfl, rfl, _, _, rfl, rfl, _, _, rfl, h, rfl⟩, fun β A s y h => by
  simp only [Pg.svL, SV.Rel, RelL] at h
  obtain ⟨ys, rfl, y1, t1, rfl, rfl, y2, t2, rfl, rfl, y3, t3, rfl, rfl, y4, t4, rfl, rfl, y5, t5, rfl, h, rfl⟩ := h
  exact ⟨y5, h, rfl⟩⟩

/-- where the first entry stands of which a test says yes; how many there are, if there is none -/
def fIx (pr : En → Bool) : List En → Nat
  | [] => 0
  | x :: r => bif pr x then 0 else fIx pr r + 1
def ixV (pr : En → Bool) (l : List En) : Int := bif Nat.blt (fIx pr l) l.length then (fIx pr l : Int) else -1
theorem fIx_le (pr : En → Bool) : ∀ l, fIx pr l ≤ l.length
  | [] => Nat.le_refl _
  | x :: r => by
    simp only [fIx]
    cases pr x with
    | true => simp
    | false => have := fIx_le pr r; simp; omega
theorem fIx_no (pr : En → Bool) : ∀ l j, j < fIx pr l → pr (l.getD j En.zero) = false
  | [], j, h => by simp [fIx] at h
  | x :: r, j, h => by
    simp only [fIx] at h
    cases hx : pr x with
    | true => rw [hx] at h; simp at h
    | false =>
      rw [hx] at h; simp only [cond_false] at h
      cases j with
      | zero => simpa using hx
      | succ j => simpa using fIx_no pr r j (by omega)
theorem fIx_yes (pr : En → Bool) : ∀ l, fIx pr l < l.length → pr (l.getD (fIx pr l) En.zero) = true
  | [], h => by simp at h
  | x :: r, h => by
    simp only [fIx] at h ⊢
    cases hx : pr x with
    | true => simpa using hx
    | false => rw [hx] at h; simp only [cond_false, List.length_cons] at h ⊢; simpa using fIx_yes pr r (by omega)
theorem fIx_is (pr : En → Bool) (l : List En) (i : Nat) (hi : i ≤ l.length) (hno : ∀ j, j < i → pr (l.getD j En.zero) = false) (hy : i < l.length → pr (l.getD i En.zero) = true) : fIx pr l = i := by
  rcases Nat.lt_trichotomy (fIx pr l) i with h | h | h
  · have h1 := hno _ h
    rw [fIx_yes pr l (by omega)] at h1; cases h1
  · exact h
  · have h1 := fIx_no pr l i h
    have := fIx_le pr l
    rw [hy (by omega)] at h1; cases h1
theorem ixV_yes (pr : En → Bool) (l : List En) (h : fIx pr l < l.length) : ixV pr l = (fIx pr l : Int) := by
  unfold ixV; rw [show Nat.blt (fIx pr l) l.length = true from Nat.ble_eq_true_of_le h]; rfl
theorem ixV_no (pr : En → Bool) (l : List En) (h : ¬ fIx pr l < l.length) : ixV pr l = -1 := by
  unfold ixV
  cases hb : Nat.blt (fIx pr l) l.length with
  | true => exact absurd (Nat.le_of_ble_eq_true hb) h
  | false => rfl

theorem SliceAt.congr {A : Anc} {a : Option Addr} {n k : Nat} {els els' : Nat → List Value} (h : SliceAt A a n k els) (he : ∀ i, i < n → els i = els' i) : SliceAt A a n k els' := fun i hi => by rw [← he i hi]; exact h i hi

/-- a part of a list, as a slice expression cuts it out -/
def cutQ (a : Option Addr) (l m : Nat) : Option Addr := if m = l then a else a.map (·.add (l * 4))
def cutL (L : List En) (l h : Nat) : List En := (L.drop l).take (h - l)
theorem cutL_len (L : List En) (l h : Nat) (hh : h ≤ L.length) : (cutL L l h).length = h - l := by simp [cutL]; omega
theorem cutL_at (L : List En) (l h j : Nat) (hj : j < h - l) : entE (cutL L l h) j = entE L (l + j) := by
  unfold entE cutL
  rw [List.getD_eq_getElem?_getD, List.getD_eq_getElem?_getD, List.getElem?_take_of_lt hj, List.getElem?_drop]
theorem cut_at {A : Anc} {a : Option Addr} {L : List En} {l h m : Nat} (hA : SliceAt A a L.length 4 (entE L)) (hlh : l ≤ h) (hh : h ≤ L.length) (hm : h ≤ m) :
    SliceAt A (cutQ a l m) (cutL L l h).length 4 (entE (cutL L l h)) := by
  rw [cutL_len L l h hh]
  intro j hj
  obtain ⟨q, rfl, hr⟩ := hA (l + j) (by omega)
  rw [cutL_at L l h j hj]
  refine ⟨q.add (l * 4), ?_, by rw [add_add, ← Nat.add_mul]; exact hr⟩
  unfold cutQ
  rw [if_neg (by omega)]
  rfl
theorem cutL_head (L : List En) (i : Nat) : cutL L 0 i = L.take i := by simp [cutL]
theorem cutL_tail (L : List En) (i : Nat) : cutL L i L.length = L.drop i := by
  unfold cutL
  exact List.take_of_length_le (by simp)

theorem Pg.shapeT (p : Pg) (err : Int) : Shape (fun s => .tup [p.svL s, .v (.int .i64 err)]) (fun y => .tuple #[p.val y, .int .i64 err]) := ⟨fun β A s y h => by
  have := p.shape.to β A s y h
  simp only [SV.Rel, RelL]
  exact ⟨_, rfl, _, _, rfl, this, _, _, rfl, rfl, rfl⟩, fun β A s y h => by
  simp only [SV.Rel, RelL] at h
  obtain ⟨ys, rfl, y1, t1, rfl, h1, y2, t2, rfl, rfl, rfl⟩ := h
  obtain ⟨z, hz, rfl⟩ := p.shape.back β A s y1 h1
  exact ⟨z, hz, rfl⟩⟩

/-- two results, as one value -/
theorem two_res {β : Lay} {A : Anc} {s1 s2 : SV} {vals : List Value} (h : RelL β A [s1, s2] vals) : (SV.tup [s1, s2]).Rel β A (retV vals) := by
  simp only [RelL] at h
  obtain ⟨y1, t1, rfl, h1, y2, t2, rfl, h2, rfl⟩ := h
  simp only [SV.Rel, RelL]
  exact ⟨[y1, y2], rfl, y1, [y2], rfl, h1, y2, [], rfl, h2, rfl⟩
theorem one_res {β : Lay} {A : Anc} {s : SV} {vals : List Value} (h : RelL β A [s] vals) : s.Rel β A (retV vals) := by
  simp only [RelL] at h
  obtain ⟨y, t, rfl, h1, rfl⟩ := h
  exact h1

def Pg.zero : Pg := ⟨false, s0, s0, 0, []⟩
def Pg.put (p : Pg) (l : List En) : Pg := ⟨p.leaf, p.low, p.high, p.right, l⟩

end Go.Eng
end

section
/-! The engine, part V: a row that is lent. -/
namespace Go.Eng
section
variable {P : Program} {C : Ctx} {β : Lay} {B A : Anc} {hp : List Chunk}

/-- a layout of one row -/
def Lay.one (L : Loc) : Lay := ⟨1, fun _ => L⟩
/-- who may turn: those who may, and the row -/
def orRow (M : Nat → Prop) (L : Loc) : Nat → Prop := fun g => M g ∨ (L.nl = false ∧ g = L.b)

/-- a function that is lent a row, and answers with a row in its place -/
def ConL (P : Program) (f : Nat) (args : List SV) (t k n : Nat) (els : Nat → List Value) (m : Nat) (els' : Nat → List Value) (mk : Value → Value) : Prop :=
  ∀ O M w L vals, RelL (Lay.one L) ⟨O, M, w⟩ args vals → At O M w → RowAt w L t k n els → (L.nl = false → O L.b ∧ ¬ M L.b) →
    Calls P f vals.toArray w fun e w' => ∃ L' : Loc, RowAt w' L' t k m els' ∧ (L'.nl = false → (w.heap.size ≤ L'.b ∨ (L.nl = false ∧ L'.b = L.b)) ∧ L'.b < w'.heap.size) ∧ e = .returned (mk (L'.val m)) ∧ Stp (orRow M L) w w'

theorem conL_of (hC : CtxOK P C) {f : Nat} {fn : Func} {c : Code} (hf : P.funcs[f]? = some fn) (hb : fn.body = some c) {args : List SV} {t k n : Nat} {els : Nat → List Value} {m : Nat} {els' : Nat → List Value} {mk : Value → Value} (hn : Nat.ble (lenL args) fn.ntmps = true)
    (h : ∀ (A : Anc) (L : Loc), At A.O A.M A.w → Snd P ⟨orRow A.M L, A.M, A.w⟩ DS.nil fn.ntmps c A (ofL (argE 0 args)) [.row t k n els] (fnK C ⟨orRow A.M L, A.M, A.w⟩ fn.results.toList (fun e w' =>
      ∃ L' : Loc, RowAt w' L' t k m els' ∧ (L'.nl = false → (A.w.heap.size ≤ L'.b ∨ (L.nl = false ∧ L'.b = L.b)) ∧ L'.b < w'.heap.size) ∧ e = .returned (mk (L'.val m)) ∧ Stp (orRow A.M L) A.w w'))) :
    ConL P f args t k n els m els' mk := fun O M w L vals hr hat hrow hown =>
  calls_of_snd hC hf hb ⟨O, M, w⟩ ⟨orRow M L, M, w⟩ (Lay.none_le _) (hp := [.row t k n els]) (β := Lay.one L)
    { m := rfl
      hpr := fun l ch hl => by
        cases l with
        | zero => simp at hl; subst hl; exact hrow
        | succ l => simp at hl
      own := fun l ch hl hv => by
        cases l with
        | zero => simp at hl; subst hl; exact hown (by simpa [Chunk.live, Lay.one] using hv)
        | succ l => simp at hl
      inj := fun l l' ch ch' hl hl' _ _ _ => by
        cases l <;> cases l' <;> simp at hl hl' ⊢
      MO := hat.MO
      OS := hat.OS }
    rfl (fun _ h => .inl h) (fun _ h => h) (fun l ch hl hv => by
      cases l with
      | zero => simp at hl; subst hl; exact .inr ⟨by simpa [Chunk.live, Lay.one] using hv, rfl⟩
      | succ l => simp at hl) hr (by rw [hr.length, ← lenL_eq]; exact Nat.le_of_ble_eq_true hn) (h ⟨O, M, w⟩ L hat)

/-- at a return: the lent row, or another one, in it -/
theorem ret_conL {M : Nat → Prop} {w0 : World} {L0 : Loc} {mk : Value → Value} {mkS : SV → SV} (hs : Shape mkS mk) {ss : List SV} {l t k n N : Nat} {els els' : Nat → List Value} (hss : ∀ β A vals, RelL β A ss vals → (mkS (.sl l k 0 n)).Rel β A (retV vals))
    (hl : nthL l hp = some (.row t k N els')) (hn : n ≤ N) (he : ∀ i, i < n → els' i = els i) :
    RetVC ⟨orRow M L0, M, w0⟩ A hp ss (fun e w' => ∃ L : Loc, RowAt w' L t k n els ∧ (L.nl = false → (w0.heap.size ≤ L.b ∨ (L0.nl = false ∧ L.b = L0.b)) ∧ L.b < w'.heap.size) ∧ e = .returned (mk (L.val n)) ∧ Stp (orRow M L0) w0 w') := by
  refine ⟨fun O' w β vals site => ?_⟩
  obtain ⟨z, hz, e⟩ := hs.back _ _ _ _ (hss _ _ _ site.rel)
  rw [nthL_eq] at hl
  have hrow : RowAt w (β.at_ l) t k N els' := site.hpr l _ hl
  refine ⟨β.at_ l, ⟨fun i hi => by rw [← he i hi]; exact hrow.len i (by omega), fun hh => by have := hrow.nil hh; omega, fun hnl => by
    obtain ⟨cur, q1, q2, q3, q4, q5⟩ := hrow.at_ hnl
    refine ⟨cur, q1, by omega, q3, q4, ?_⟩
    have h5 := congrArg (List.take (n * k)) q5
    rw [List.take_take, rowL_take hrow.len n hn, Nat.min_eq_left (Nat.mul_le_mul_right _ hn)] at h5
    rw [h5]; exact rowL_congr he⟩, fun hnl => ?_, ?_, site.bas⟩
  · have hlv : (Chunk.row t k N els').live (β.at_ l) = true := by simp [Chunk.live, hnl]
    obtain ⟨o1, o2⟩ := site.own l _ hl hlv
    refine ⟨?_, site.OS _ o1⟩
    rcases site.bown l _ hl hlv with h | h
    · exact .inl h
    · rcases h with h | h
      · exact absurd (site.BM _ h) o2
      · exact .inr h
  · rw [e]
    congr 2
    simp only [SV.Rel] at hz
    unfold Loc.val
    obtain ⟨_, ⟨h1, _, h3, h4⟩ | ⟨h1, h2, h3⟩⟩ := hz
    · rw [h1, h4]; rfl
    · rw [h1, h3]; simp

theorem sl_one {l k i n : Nat} {y : Value} (h : (SV.sl l k i n).Rel β A y) : (SV.sl 0 k i n).Rel (Lay.one (β.at_ l)) A y := by
  simp only [SV.Rel] at h ⊢
  exact ⟨Nat.zero_lt_one, h.2⟩

/-- a row is lent, together with a function value that reads a box of the caller's -/
theorem lend_fn {f : Nat} {fv : Fn} {t k n N n' : Nat} {els : Nat → List Value} {m : Nat} {els' : Nat → List Value} {mk : Value → Value} {mkS : SV → SV} {K : SV → Anc → List Chunk → Prop} (l l2 : Nat) {T : Nat} {cs : List SV} {xs : List Value} (hl : nthL l hp = some (.row t k n els)) (hl2 : nthL l2 hp = some (.box T cs)) (hraw : rawVs cs = some xs)
    (h : ∀ q, ConL P f [.sl 0 k 0 n', .fn fv [.xptr q xs]] t k n els m els' mk) (hs : Shape mkS mk)
    (kk : ∀ A', Later A A' → K (mkS (.sl (lenL hp) k 0 m)) A' (setL l .dead hp ++ [.row t k m els'])) (hN : N = n') : LendVC P B A hp f [.sl l k 0 N, .fn fv [.loc l2 0]] K := by
  subst hN
  refine ⟨l, t, k, n, els, hl, fun O' w β vals site => ?_⟩
  rw [nthL_eq] at hl hl2
  have hrow : RowAt w (β.at_ l) t k n els := site.hpr l _ hl
  have hne : (β.at_ l).nl = false → (β.at_ l).b ≠ (β.at_ l2).b := fun hnl e => by
    have := site.inj l l2 _ _ hl hl2 (by simp [Chunk.live, hnl]) rfl e
    subst this
    rw [hl] at hl2; simp at hl2
  have hrowO : (β.at_ l).nl = false → O' (β.at_ l).b ∧ ¬ A.M (β.at_ l).b := fun hnl => site.own l _ hl (by simp [Chunk.live, hnl])
  obtain ⟨h1, h2⟩ := frz_site site hl2 hraw
  have h1' : RelL (Lay.one (β.at_ l)) ⟨fun k => O' k ∧ k ≠ (β.at_ l2).b, A.M, w⟩ [.sl 0 k 0 N, .fn fv [.xptr ⟨(β.at_ l2).b, 0, none⟩ xs]] vals := by
    simp only [frzL, frzF, frzV, frzM, Nat.beq_refl, Bool.and_self, cond_true] at h1
    simp only [RelL] at h1 ⊢
    obtain ⟨y1, t1, rfl, g1, y2, t2, rfl, g2, rfl⟩ := h1
    refine ⟨y1, _, rfl, sl_one g1, y2, _, rfl, ?_, rfl⟩
    simpa only [SV.Rel, RelL] using g2
  refine (h _ _ _ w (β.at_ l) vals h1' h2 hrow (fun hnl => ⟨⟨(hrowO hnl).1, hne hnl⟩, (hrowO hnl).2⟩)).mono fun e w' he => ?_
  obtain ⟨L', q1, q2, rfl, q4⟩ := he
  let A' : Anc := ⟨fun g => O' g ∨ (L'.nl = false ∧ g = L'.b), A.M, w'⟩
  have hOS : ∀ g, A'.O g → g < w'.heap.size := fun g hg => by
    rcases hg with hg | ⟨h5, rfl⟩
    · exact Nat.lt_of_lt_of_le (site.OS _ hg) q4.size
    · exact (q2 h5).2
  have hO2 : ∀ g, A'.O g → O' g ∨ w.heap.size ≤ g := fun g hg => by
    rcases hg with hg | ⟨h5, rfl⟩
    · exact .inl hg
    · rcases (q2 h5).1 with h6 | ⟨h6, h7⟩
      · exact .inr h6
      · rw [h7]; exact .inl (hrowO h6).1
  have hat : (β.snoc L').at_ β.m = L' := by simp [Lay.snoc]
  have hM' : ∀ g, orRow A.M (β.at_ l) g → O' g := fun g hg => by
    rcases hg with hg | ⟨h5, rfl⟩
    · exact site.MO g hg
    · exact (hrowO h5).1
  have hlater : Later A A' := site.later.trans ⟨q4.mono (fun g _ hg => hM' g hg), hO2⟩
  refine ⟨_, A', mkS (.sl (lenL hp) k 0 m), [.row t k m els'], β.snoc L', rfl, rfl, ⟨q4, fun g hg => .inl hg, hO2, hOS, fun g hg => hg, fun g hg => .inl hg, fun g hg => ?_⟩, fun g hg => hg, fun hh => (hrowO hh.1).2 hh.2, β.le_snoc L', rfl, fun i ch hi => ?_, fun i ch hi hv => ?_, fun i j ch ch' hi hj _ _ _ => ?_, ?_, kk A' hlater⟩
  · exact .inl (hM' g hg)
  · cases i with
    | zero => simp at hi; subst hi; show RowAt _ _ _ _ _ _; rw [Nat.add_zero, hat]; exact q1
    | succ i => simp at hi
  · cases i with
    | zero =>
      simp at hi; subst hi
      rw [Nat.add_zero, hat] at hv ⊢
      have hn : L'.nl = false := by simpa [Chunk.live] using hv
      refine ⟨(q2 hn).1, .inr ⟨hn, rfl⟩, fun hm => ?_⟩
      rcases (q2 hn).1 with h6 | ⟨h6, h7⟩
      · have := site.OS _ (site.MO _ hm)
        omega
      · rw [h7] at hm; exact (hrowO h6).2 hm
    | succ i => simp at hi
  · cases i <;> cases j <;> simp at hi hj ⊢
  · apply hs.to
    simp only [SV.Rel]
    rw [lenL_eq, ← site.m]
    refine ⟨by simp [Lay.snoc], ?_⟩
    rw [hat]
    unfold Loc.val
    cases hn : L'.nl with
    | true => have := q1.nil hn; subst this; exact .inl ⟨by simp, by simp, rfl, rfl⟩
    | false => obtain ⟨cur, _, q, _⟩ := q1.at_ hn; exact .inr ⟨by simp, by omega, by simp⟩

/-- a row that is only read in a call -/
theorem con_frzR {f : Nat} {args : List SV} {r : Value} {K : SV → Anc → List Chunk → Prop} {Kp : List PanicEntry → Anc → Prop} (l : Nat) {t k n : Nat} {els : Nat → List Value} {rest : List SV} (hl : nthL l hp = some (.row t k n els)) (ha : args = .sl l k 0 n :: rest)
    (h : ∀ a c, Con P f (.ext a n c k els :: rest) r) (kk : K (.v r) A []) : CallVC P B A hp f args K Kp :=
  .scal r (fun O' w β vals site => by
    subst ha
    rw [nthL_eq] at hl
    have hrow : RowAt w (β.at_ l) t k n els := site.hpr l _ hl
    have hr := site.rel
    simp only [RelL] at hr
    obtain ⟨y, tl, rfl, hy, hrest⟩ := hr
    simp only [SV.Rel] at hy
    obtain ⟨_, ⟨g1, _, g3, rfl⟩ | ⟨g1, g2, rfl⟩⟩ := hy
    · subst g3
      refine h none 0 O' A.M w β _ ?_ ⟨site.MO, site.OS⟩
      simp only [RelL]
      exact ⟨_, _, rfl, by simp only [SV.Rel]; exact ⟨trivial, Nat.le_refl _, fun i hi => absurd hi (Nat.not_lt_zero i)⟩, hrest⟩
    · have hlv : (Chunk.row t k n els).live (β.at_ l) = true := by simp [Chunk.live, g1]
      obtain ⟨o1, o2⟩ := site.own l _ hl hlv
      refine h (some ⟨(β.at_ l).b, 0, none⟩) (β.at_ l).cap (fun k => O' k ∧ k ≠ (β.at_ l).b) A.M w β _ ?_ ⟨fun k hk => ⟨site.MO k hk, fun e => o2 (e ▸ hk)⟩, fun k hk => site.OS k hk.1⟩
      have hlat : Later ⟨O', A.M, w⟩ ⟨fun k => O' k ∧ k ≠ (β.at_ l).b, A.M, w⟩ := ⟨Stp.refl _ _, fun k hk => .inl (And.left hk)⟩
      simp only [RelL]
      refine ⟨_, _, rfl, ?_, RelL.later hlat _ _ hrest⟩
      simp only [SV.Rel, Nat.zero_mul, Nat.sub_zero]
      refine ⟨trivial, by omega, fun i hi => ⟨_, rfl, ?_⟩⟩
      rw [add_plain]
      refine ⟨rfl, fun hh => hh.2 rfl, site.OS _ o1, fun j v hv => ?_⟩
      simp only [Nat.zero_add]
      exact hrow.cell g1 hi hv) kk

/-- a caller's row, seen as one that nobody turns -/
theorem site_frz {args : List SV} {O' : Nat → Prop} {w : World} {vals : List Value} (site : Site B A hp args O' w β vals) {l t k n : Nat} {els : Nat → List Value} (hl : nthL l hp = some (.row t k n els)) :
    ∃ (a : Option Addr) (c : Nat) (O'' : Nat → Prop), (∀ k, O'' k → O' k) ∧ (∀ k, A.M k → O'' k) ∧ Later ⟨O', A.M, w⟩ ⟨O'', A.M, w⟩ ∧ SliceAt ⟨O'', A.M, w⟩ a n k els ∧ n ≤ c ∧ ∀ A' y, (SV.sl l k 0 n).Rel β A' y → y = .slice a n c := by
  rw [nthL_eq] at hl
  have hrow : RowAt w (β.at_ l) t k n els := site.hpr l _ hl
  cases hn : (β.at_ l).nl with
  | true =>
    have h0 := hrow.nil hn
    subst h0
    refine ⟨none, 0, O', fun _ h => h, site.MO, Later.refl _, fun i hi => absurd hi (Nat.not_lt_zero i), Nat.le_refl _, fun A' y hy => ?_⟩
    simp only [SV.Rel] at hy
    obtain ⟨_, ⟨_, _, _, h⟩ | ⟨g, _, _⟩⟩ := hy
    · exact h
    · rw [hn] at g; cases g
  | false =>
    have hlv : (Chunk.row t k n els).live (β.at_ l) = true := by simp [Chunk.live, hn]
    obtain ⟨o1, o2⟩ := site.own l _ hl hlv
    refine ⟨some ⟨(β.at_ l).b, 0, none⟩, (β.at_ l).cap, fun k => O' k ∧ k ≠ (β.at_ l).b, fun _ h => h.1, fun k hk => ⟨site.MO k hk, fun e => o2 (e ▸ hk)⟩, ⟨Stp.refl _ _, fun k hk => .inl (And.left hk)⟩, fun i hi => ⟨_, rfl, ?_⟩, ?_, fun A' y hy => ?_⟩
    · rw [add_plain]
      refine ⟨rfl, fun hh => hh.2 rfl, site.OS _ o1, fun j v hv => ?_⟩
      simp only [Nat.zero_add]
      exact hrow.cell hn hi hv
    · obtain ⟨cur, _, q, _⟩ := hrow.at_ hn; exact q
    · simp only [SV.Rel] at hy
      obtain ⟨_, ⟨g, _, _, _⟩ | ⟨_, _, h⟩⟩ := hy
      · rw [hn] at g; cases g
      · simpa using h

/-- what a site gives to a contract -/
def Gives (B A : Anc) (hp : List Chunk) (args : List SV) (X : List SV → (Anc → Prop) → Prop) : Prop :=
  ∀ O' w β vals, Site B A hp args O' w β vals → ∃ (O'' : Nat → Prop) (args' : List SV) (Pre : Anc → Prop), (∀ k, O'' k → O' k) ∧ (∀ k, A.M k → O'' k) ∧ RelL β ⟨O'', A.M, w⟩ args' vals ∧ Pre ⟨O'', A.M, w⟩ ∧ X args' Pre

theorem conG_vc {f : Nat} {args : List SV} {r : Value} {K : SV → Anc → List Chunk → Prop} {Kp : List PanicEntry → Anc → Prop} (h : Gives B A hp args (fun args' Pre => ConP P f args' Pre r)) (k : K (.v r) A []) : CallVC P B A hp f args K Kp :=
  .scal r (fun O' w β vals site => by
    obtain ⟨O'', args', Pre, h1, h2, h3, h4, h5⟩ := h O' w β vals site
    exact h5 O'' A.M w β vals h3 ⟨h2, fun k hk => site.OS k (h1 k hk)⟩ h4) k
theorem conXG_vc {f : Nat} {args : List SV} {ch : List PanicEntry} {K : SV → Anc → List Chunk → Prop} {Kp : List PanicEntry → Anc → Prop} (h : Gives B A hp args (fun args' Pre => ∀ O M w β vals, RelL β ⟨O, M, w⟩ args' vals → At O M w → Pre ⟨O, M, w⟩ → Calls P f vals.toArray w fun e w' => e = .panicked ch ∧ Stp M w w')) (k : Kp ch A) : CallVC P B A hp f args K Kp :=
  .pan ch (fun O' w β vals site => by
    obtain ⟨O'', args', Pre, h1, h2, h3, h4, h5⟩ := h O' w β vals site
    exact h5 O'' A.M w β vals h3 ⟨h2, fun k hk => site.OS k (h1 k hk)⟩ h4) k
theorem conRG_row {f : Nat} {args : List SV} {t k n : Nat} {els : Nat → List Value} {mk : Value → Value} {mkS : SV → SV} {K : SV → Anc → List Chunk → Prop} {Kp : List PanicEntry → Anc → Prop} (h : Gives B A hp args (fun args' Pre => ConR P f args' Pre t k n els mk)) (hs : Shape mkS mk)
    (kk : ∀ A', Later A A' → K (mkS (.sl (lenL hp) k 0 n)) A' [.row t k n els]) : CallVC P B A hp f args K Kp :=
  .gen fun O' w β vals site => by
    obtain ⟨O'', args', Pre, z1, z2, z3, z4, z5⟩ := h O' w β vals site
    refine (z5 O'' A.M w β vals z3 ⟨z2, fun k hk => site.OS k (z1 k hk)⟩ z4).mono fun e w' he => ?_
    obtain ⟨L, h1, h2, rfl, h4⟩ := he
    let A' : Anc := ⟨fun g => O' g ∨ (L.nl = false ∧ g = L.b), A.M, w'⟩
    have hnext : Next ⟨O', A.M, w⟩ A' := ⟨h4, fun _ h => .inl h, fun g hg => by
      rcases hg with hg | ⟨h5, rfl⟩
      · exact .inl hg
      · exact .inr (h2 h5).1, fun g hg => by
      rcases hg with hg | ⟨h5, rfl⟩
      · exact Nat.lt_of_lt_of_le (site.OS _ hg) h4.size
      · exact (h2 h5).2, fun _ h => h, fun _ h => .inl h, fun g hg => .inl (site.MO g hg)⟩
    have hat : (β.snoc L).at_ β.m = L := by simp [Lay.snoc]
    refine .inl ⟨_, A', _, [.row t k n els], β.snoc L, rfl, rfl, hnext, ⟨β.le_snoc L, rfl, fun i ch hi => ?_, fun i ch hi hv => ?_, fun i j ch ch' hi hj _ _ _ => ?_⟩, ?_, kk A' (site.later.trans ⟨hnext.stp.mono (fun k _ hk => site.MO k hk), hnext.O2⟩)⟩
    · cases i with
      | zero => simp at hi; subst hi; show RowAt _ _ _ _ _ _; rw [Nat.add_zero, hat]; exact h1
      | succ i => simp at hi
    · cases i with
      | zero =>
        simp at hi; subst hi
        rw [Nat.add_zero, hat] at hv ⊢
        have hn : L.nl = false := by simpa [Chunk.live] using hv
        refine ⟨(h2 hn).1, .inr ⟨hn, rfl⟩, fun hm => ?_⟩
        have := site.OS _ (site.MO _ hm)
        have := (h2 hn).1
        omega
      | succ i => simp at hi
    · cases i <;> cases j <;> simp at hi hj ⊢
    · apply hs.to
      simp only [SV.Rel]
      rw [lenL_eq, ← site.m]
      refine ⟨by simp [Lay.snoc], ?_⟩
      rw [hat]
      unfold Loc.val
      cases hn : L.nl with
      | true => have := h1.nil hn; subst this; exact .inl ⟨by simp, by simp, rfl, rfl⟩
      | false => obtain ⟨cur, _, q, _⟩ := h1.at_ hn; exact .inr ⟨by simp, by omega, by simp⟩

end
end Go.Eng
end
