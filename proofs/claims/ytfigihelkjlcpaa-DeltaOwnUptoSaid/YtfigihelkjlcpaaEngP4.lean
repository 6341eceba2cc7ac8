/- Lemmas for the proof of a law of the seat Ytfigihelkjlcpaa: an own evaluator of the model's programs, contracts of functions. -/
import Derived.Test.YtfigihelkjlcpaaEngP3
import Derived.Test.YtfigihelkjlcpaaProg
import Derived.KernelRfl
section
/-! The seat's table of types, as the engine asks it (written by gentab.py). -/
namespace Go.Eng

def tbL : List (Option TI) :=
  [none,
   some ⟨.func, 1, 8, [.nilFunc]⟩,
   some ⟨.int .i64, 1, 8, [.int .i64 0]⟩,
   some ⟨.int .i64, 1, 8, [.int .i64 0]⟩,
   some ⟨.bool, 1, 1, [.bool false]⟩,
   some ⟨.int .u8, 1, 1, [.int .u8 0]⟩,
   some ⟨.int .u8, 1, 1, [.int .u8 0]⟩,
   some ⟨.struct [(0, 2), (1, 3), (2, 4), (3, 6)], 4, 24, [.int .i64 0, .int .i64 0, .bool false, .int .u8 0]⟩,
   some ⟨.struct [(0, 2), (1, 3), (2, 4), (3, 6)], 4, 24, [.int .i64 0, .int .i64 0, .bool false, .int .u8 0]⟩,
   some ⟨.str, 1, 16, [.string ⟨#[]⟩]⟩,
   some ⟨.str, 1, 16, [.string ⟨#[]⟩]⟩,
   some ⟨.str, 1, 16, [.string ⟨#[]⟩]⟩,
   some ⟨.int .u64, 1, 8, [.int .u64 0]⟩,
   some ⟨.struct [(0, 9), (1, 12)], 2, 24, [.string ⟨#[]⟩, .int .u64 0]⟩,
   some ⟨.struct [(0, 9), (1, 12)], 2, 24, [.string ⟨#[]⟩, .int .u64 0]⟩,
   some ⟨.ptr, 1, 8, [.pointer none]⟩,
   some ⟨.ptr, 1, 8, [.pointer none]⟩,
   some ⟨.ptr, 1, 8, [.pointer none]⟩,
   some ⟨.struct [(0, 17)], 1, 8, [.pointer none]⟩,
   some ⟨.struct [(0, 17)], 1, 8, [.pointer none]⟩,
   some ⟨.iface, 1, 16, [.nilIface]⟩,
   some ⟨.int .i32, 1, 4, [.int .i32 0]⟩,
   some ⟨.slice 30, 1, 24, [.slice none 0 0]⟩,
   some ⟨.struct [(0, 4), (1, 9), (2, 9), (3, 3), (4, 22)], 5, 72, [.bool false, .string ⟨#[]⟩, .string ⟨#[]⟩, .int .i64 0, .slice none 0 0]⟩,
   some ⟨.struct [(0, 4), (1, 9), (2, 9), (3, 3), (4, 22)], 5, 72, [.bool false, .string ⟨#[]⟩, .string ⟨#[]⟩, .int .i64 0, .slice none 0 0]⟩,
   some ⟨.struct [(0, 9), (1, 3), (2, 9)], 3, 40, [.string ⟨#[]⟩, .int .i64 0, .string ⟨#[]⟩]⟩,
   some ⟨.struct [(0, 9), (1, 3), (2, 9)], 3, 40, [.string ⟨#[]⟩, .int .i64 0, .string ⟨#[]⟩]⟩,
   some ⟨.struct [(0, 3), (1, 2)], 2, 16, [.int .i64 0, .int .i64 0]⟩,
   some ⟨.struct [(0, 3), (1, 2)], 2, 16, [.int .i64 0, .int .i64 0]⟩,
   some ⟨.struct [(0, 9), (1, 28), (3, 3)], 4, 40, [.string ⟨#[]⟩, .int .i64 0, .int .i64 0, .int .i64 0]⟩,
   some ⟨.struct [(0, 9), (1, 28), (3, 3)], 4, 40, [.string ⟨#[]⟩, .int .i64 0, .int .i64 0, .int .i64 0]⟩,
   some ⟨.struct [(0, 3), (1, 30), (5, 9), (6, 3), (7, 24)], 12, 144, [.int .i64 0, .string ⟨#[]⟩, .int .i64 0, .int .i64 0, .int .i64 0, .string ⟨#[]⟩, .int .i64 0, .bool false, .string ⟨#[]⟩, .string ⟨#[]⟩, .int .i64 0, .slice none 0 0]⟩,
   some ⟨.struct [(0, 3), (1, 30), (5, 9), (6, 3), (7, 24)], 12, 144, [.int .i64 0, .string ⟨#[]⟩, .int .i64 0, .int .i64 0, .int .i64 0, .string ⟨#[]⟩, .int .i64 0, .bool false, .string ⟨#[]⟩, .string ⟨#[]⟩, .int .i64 0, .slice none 0 0]⟩,
   some ⟨.int .i64, 1, 8, [.int .i64 0]⟩,
   none,
   some ⟨.func, 1, 8, [.nilFunc]⟩,
   some ⟨.func, 1, 8, [.nilFunc]⟩,
   some ⟨.func, 1, 8, [.nilFunc]⟩,
   some ⟨.struct [(0, 30), (4, 4), (5, 3)], 6, 56, [.string ⟨#[]⟩, .int .i64 0, .int .i64 0, .int .i64 0, .bool false, .int .i64 0]⟩,
   some ⟨.struct [(0, 30), (4, 4), (5, 3)], 6, 56, [.string ⟨#[]⟩, .int .i64 0, .int .i64 0, .int .i64 0, .bool false, .int .i64 0]⟩,
   none,
   some ⟨.func, 1, 8, [.nilFunc]⟩,
   some ⟨.func, 1, 8, [.nilFunc]⟩,
   some ⟨.func, 1, 8, [.nilFunc]⟩,
   some ⟨.func, 1, 8, [.nilFunc]⟩,
   some ⟨.func, 1, 8, [.nilFunc]⟩,
   some ⟨.slice 32, 1, 24, [.slice none 0 0]⟩,
   some ⟨.func, 1, 8, [.nilFunc]⟩,
   some ⟨.func, 1, 8, [.nilFunc]⟩,
   some ⟨.func, 1, 8, [.nilFunc]⟩,
   some ⟨.func, 1, 8, [.nilFunc]⟩,
   none,
   some ⟨.func, 1, 8, [.nilFunc]⟩,
   some ⟨.func, 1, 8, [.nilFunc]⟩,
   some ⟨.func, 1, 8, [.nilFunc]⟩,
   some ⟨.ptr, 1, 8, [.pointer none]⟩,
   none,
   some ⟨.func, 1, 8, [.nilFunc]⟩,
   some ⟨.struct [(0, 4), (1, 24), (6, 32), (18, 28), (20, 3)], 21, 248, [.bool false, .bool false, .string ⟨#[]⟩, .string ⟨#[]⟩, .int .i64 0, .slice none 0 0, .int .i64 0, .string ⟨#[]⟩, .int .i64 0, .int .i64 0, .int .i64 0, .string ⟨#[]⟩, .int .i64 0, .bool false, .string ⟨#[]⟩, .string ⟨#[]⟩, .int .i64 0, .slice none 0 0, .int .i64 0, .int .i64 0, .int .i64 0]⟩,
   some ⟨.struct [(0, 4), (1, 24), (6, 32), (18, 28), (20, 3)], 21, 248, [.bool false, .bool false, .string ⟨#[]⟩, .string ⟨#[]⟩, .int .i64 0, .slice none 0 0, .int .i64 0, .string ⟨#[]⟩, .int .i64 0, .int .i64 0, .int .i64 0, .string ⟨#[]⟩, .int .i64 0, .bool false, .string ⟨#[]⟩, .string ⟨#[]⟩, .int .i64 0, .slice none 0 0, .int .i64 0, .int .i64 0, .int .i64 0]⟩,
   none,
   some ⟨.func, 1, 8, [.nilFunc]⟩,
   some ⟨.func, 1, 8, [.nilFunc]⟩,
   none,
   some ⟨.func, 1, 8, [.nilFunc]⟩,
   some ⟨.func, 1, 8, [.nilFunc]⟩,
   some ⟨.func, 1, 8, [.nilFunc]⟩,
   some ⟨.func, 1, 8, [.nilFunc]⟩,
   some ⟨.func, 1, 8, [.nilFunc]⟩,
   some ⟨.func, 1, 8, [.nilFunc]⟩,
   some ⟨.func, 1, 8, [.nilFunc]⟩,
   some ⟨.func, 1, 8, [.nilFunc]⟩,
   some ⟨.func, 1, 8, [.nilFunc]⟩,
   some ⟨.func, 1, 8, [.nilFunc]⟩,
   none,
   some ⟨.func, 1, 8, [.nilFunc]⟩,
   some ⟨.slice 126, 1, 24, [.slice none 0 0]⟩,
   some ⟨.slice 3, 1, 24, [.slice none 0 0]⟩,
   some ⟨.ptr, 1, 8, [.pointer none]⟩,
   some ⟨.struct [(0, 76), (1, 77), (2, 78)], 3, 56, [.slice none 0 0, .slice none 0 0, .pointer none]⟩,
   some ⟨.struct [(0, 76), (1, 77), (2, 78)], 3, 56, [.slice none 0 0, .slice none 0 0, .pointer none]⟩,
   some ⟨.slice 55, 1, 24, [.slice none 0 0]⟩,
   some ⟨.func, 1, 8, [.nilFunc]⟩,
   some ⟨.func, 1, 8, [.nilFunc]⟩,
   some ⟨.func, 1, 8, [.nilFunc]⟩,
   some ⟨.struct [(0, 9), (1, 9)], 2, 32, [.string ⟨#[]⟩, .string ⟨#[]⟩]⟩,
   some ⟨.struct [(0, 9), (1, 9)], 2, 32, [.string ⟨#[]⟩, .string ⟨#[]⟩]⟩,
   some ⟨.func, 1, 8, [.nilFunc]⟩,
   none,
   some ⟨.func, 1, 8, [.nilFunc]⟩,
   some ⟨.func, 1, 8, [.nilFunc]⟩,
   some ⟨.func, 1, 8, [.nilFunc]⟩,
   some ⟨.func, 1, 8, [.nilFunc]⟩,
   some ⟨.func, 1, 8, [.nilFunc]⟩,
   some ⟨.func, 1, 8, [.nilFunc]⟩,
   some ⟨.func, 1, 8, [.nilFunc]⟩,
   some ⟨.func, 1, 8, [.nilFunc]⟩,
   some ⟨.func, 1, 8, [.nilFunc]⟩,
   some ⟨.struct [], 0, 0, []⟩,
   some ⟨.struct [], 0, 0, []⟩,
   some ⟨.struct [], 0, 0, []⟩,
   some ⟨.struct [(0, 99), (0, 100), (0, 2)], 1, 8, [.int .i64 0]⟩,
   some ⟨.struct [(0, 99), (0, 100), (0, 2)], 1, 8, [.int .i64 0]⟩,
   some ⟨.func, 1, 8, [.nilFunc]⟩,
   some ⟨.func, 1, 8, [.nilFunc]⟩,
   none,
   some ⟨.func, 1, 8, [.nilFunc]⟩,
   some ⟨.func, 1, 8, [.nilFunc]⟩,
   some ⟨.func, 1, 8, [.nilFunc]⟩,
   none,
   some ⟨.func, 1, 8, [.nilFunc]⟩,
   some ⟨.func, 1, 8, [.nilFunc]⟩,
   some ⟨.func, 1, 8, [.nilFunc]⟩,
   some ⟨.func, 1, 8, [.nilFunc]⟩,
   some ⟨.func, 1, 8, [.nilFunc]⟩,
   some ⟨.func, 1, 8, [.nilFunc]⟩,
   some ⟨.func, 1, 8, [.nilFunc]⟩,
   some ⟨.func, 1, 8, [.nilFunc]⟩,
   some ⟨.struct [(0, 33)], 1, 8, [.int .i64 0]⟩,
   some ⟨.struct [(0, 33)], 1, 8, [.int .i64 0]⟩,
   none,
   some ⟨.func, 1, 8, [.nilFunc]⟩,
   some ⟨.func, 1, 8, [.nilFunc]⟩,
   some ⟨.func, 1, 8, [.nilFunc]⟩,
   some ⟨.ptr, 1, 8, [.pointer none]⟩,
   some ⟨.struct [(0, 59), (21, 2), (22, 4)], 23, 264, [.bool false, .bool false, .string ⟨#[]⟩, .string ⟨#[]⟩, .int .i64 0, .slice none 0 0, .int .i64 0, .string ⟨#[]⟩, .int .i64 0, .int .i64 0, .int .i64 0, .string ⟨#[]⟩, .int .i64 0, .bool false, .string ⟨#[]⟩, .string ⟨#[]⟩, .int .i64 0, .slice none 0 0, .int .i64 0, .int .i64 0, .int .i64 0, .int .i64 0, .bool false]⟩,
   some ⟨.struct [(0, 59), (21, 2), (22, 4)], 23, 264, [.bool false, .bool false, .string ⟨#[]⟩, .string ⟨#[]⟩, .int .i64 0, .slice none 0 0, .int .i64 0, .string ⟨#[]⟩, .int .i64 0, .int .i64 0, .int .i64 0, .string ⟨#[]⟩, .int .i64 0, .bool false, .string ⟨#[]⟩, .string ⟨#[]⟩, .int .i64 0, .slice none 0 0, .int .i64 0, .int .i64 0, .int .i64 0, .int .i64 0, .bool false]⟩,
   none,
   some ⟨.func, 1, 8, [.nilFunc]⟩,
   some ⟨.func, 1, 8, [.nilFunc]⟩,
   some ⟨.ptr, 1, 8, [.pointer none]⟩,
   some ⟨.slice 28, 1, 24, [.slice none 0 0]⟩,
   some ⟨.slice 59, 1, 24, [.slice none 0 0]⟩,
   some ⟨.func, 1, 8, [.nilFunc]⟩,
   some ⟨.func, 1, 8, [.nilFunc]⟩,
   some ⟨.func, 1, 8, [.nilFunc]⟩,
   some ⟨.slice 22, 1, 24, [.slice none 0 0]⟩,
   some ⟨.func, 1, 8, [.nilFunc]⟩,
   some ⟨.func, 1, 8, [.nilFunc]⟩,
   some ⟨.func, 1, 8, [.nilFunc]⟩,
   some ⟨.int .u64, 1, 8, [.int .u64 0]⟩,
   some ⟨.func, 1, 8, [.nilFunc]⟩,
   some ⟨.func, 1, 8, [.nilFunc]⟩,
   some ⟨.func, 1, 8, [.nilFunc]⟩,
   some ⟨.func, 1, 8, [.nilFunc]⟩,
   some ⟨.func, 1, 8, [.nilFunc]⟩,
   some ⟨.func, 1, 8, [.nilFunc]⟩,
   some ⟨.func, 1, 8, [.nilFunc]⟩,
   some ⟨.func, 1, 8, [.nilFunc]⟩,
   some ⟨.struct [(0, 17), (1, 17), (2, 17), (3, 9)], 4, 40, [.pointer none, .pointer none, .pointer none, .string ⟨#[]⟩]⟩,
   some ⟨.struct [(0, 17), (1, 17), (2, 17), (3, 9)], 4, 40, [.pointer none, .pointer none, .pointer none, .string ⟨#[]⟩]⟩,
   some ⟨.array 0 16, 0, 0, []⟩,
   some ⟨.struct [(0, 151)], 0, 0, []⟩,
   some ⟨.struct [(0, 151)], 0, 0, []⟩,
   some ⟨.int .u32, 1, 4, [.int .u32 0]⟩,
   some ⟨.int .u8, 1, 1, [.int .u8 0]⟩,
   some ⟨.int .u8, 1, 1, [.int .u8 0]⟩,
   some ⟨.func, 1, 8, [.nilFunc]⟩,
   some ⟨.ptr, 1, 8, [.pointer none]⟩,
   some ⟨.int .i32, 1, 4, [.int .i32 0]⟩,
   some ⟨.int .i32, 1, 4, [.int .i32 0]⟩,
   some ⟨.struct [(0, 12), (1, 12), (2, 154), (3, 155), (4, 5), (5, 5), (6, 156), (7, 157), (8, 158), (9, 159), (10, 160)], 11, 48, [.int .u64 0, .int .u64 0, .int .u32 0, .int .u8 0, .int .u8 0, .int .u8 0, .int .u8 0, .nilFunc, .pointer none, .int .i32 0, .int .i32 0]⟩,
   some ⟨.struct [(0, 12), (1, 12), (2, 154), (3, 155), (4, 5), (5, 5), (6, 156), (7, 157), (8, 158), (9, 159), (10, 160)], 11, 48, [.int .u64 0, .int .u64 0, .int .u32 0, .int .u8 0, .int .u8 0, .int .u8 0, .int .u8 0, .nilFunc, .pointer none, .int .i32 0, .int .i32 0]⟩,
   some ⟨.other, 1, 8, [.pointer none]⟩]

def tbN : List Bool := [false, true, true, true, true, true, true, true, true, true, true, true, true, true, true, true, true, true, true, true, true, true, true, true, true, true, true, true, true, true, true, true, true, true, false, true, true, true, true, true, false, true, true, true, true, true, true, true, true, true, true, false, true, true, true, true, false, true, true, true, false, true, true, false, true, true, true, true, true, true, true, true, true, true, false, true, true, true, true, true, true, true, true, true, true, true, true, true, false, true, true, true, true, true, true, true, true, true, true, true, true, true, true, true, true, false, true, true, true, false, true, true, true, true, true, true, true, true, true, true, false, true, true, true, true, true, true, false, true, true, true, true, true, true, true, true, true, true, true, true, true, true, true, true, true, true, true, true, true, true, true, true, true, true, true, true, true, true, true, true, true, true, true, true]

theorem tbL_eq : tbL = (List.range 164).map (fun t => if tbN.getD t false then mkTb Proofs.Try.prog t else none) := by kernel_rfl

def tb (t : Nat) : Option TI :=
  match nthL t tbL with
  | some x => x
  | none => none

theorem tb_ok (t : Nat) (ti : TI) (h : tb t = some ti) : mkTb Proofs.Try.prog t = some ti := by
  unfold tb at h
  split at h
  · rename_i x hx
    subst h
    rw [nthL_eq, tbL_eq, List.getElem?_map] at hx
    obtain ⟨u, hu, he⟩ := Option.map_eq_some_iff.1 hx
    have := List.getElem?_eq_some_iff.1 hu
    obtain ⟨h1, h2⟩ := this
    simp at h2
    subst h2
    split at he
    · exact he
    · simp at he
  · simp at h

def fnB (g : Nat) : Bool := Nat.blt 2 g && Nat.blt g 122 && (!Nat.beq g 86 && !Nat.beq g 99 && !Nat.beq g 102 && !Nat.beq g 106 && !Nat.beq g 107 && !Nat.beq g 108 && !Nat.beq g 109 && !Nat.beq g 110 && !Nat.beq g 111 && !Nat.beq g 112 && !Nat.beq g 113 && !Nat.beq g 114 && !Nat.beq g 115 && !Nat.beq g 116 && !Nat.beq g 117 && !Nat.beq g 118 && !Nat.beq g 119 && !Nat.beq g 120 && !Nat.beq g 121)

theorem fnB_all : ((List.range 122).all fun g => !fnB g || (match Proofs.Try.prog.funcs[g]? with | some fn => fn.body.isSome && !(fn.name == "runtime.NumGoroutine") | none => false)) = true := by kernel_rfl

theorem fn_ok (g : Nat) (h : fnB g = true) : ∃ fn c, Proofs.Try.prog.funcs[g]? = some fn ∧ fn.body = some c ∧ (fn.name == "runtime.NumGoroutine") = false := by
  have hg : g < 122 := by
    unfold fnB at h
    simp only [Bool.and_eq_true] at h
    simpa using h.1.2
  have := List.all_eq_true.1 fnB_all g (List.mem_range.2 hg)
  rw [h] at this
  simp only [Bool.not_true, Bool.false_or] at this
  split at this
  · rename_i fn hfn
    simp only [Bool.and_eq_true] at this
    obtain ⟨c, hc⟩ := Option.isSome_iff_exists.1 this.1
    exact ⟨fn, c, hfn, hc, by simpa using this.2⟩
  · simp at this

theorem mixed_ok : Proofs.Try.prog.follows .mixedOrders = true := by kernel_rfl

def eqT (t : Nat) : Option (List CK) :=

  bif Nat.beq t 28 then some [.int .i64, .int .i64] else
  bif Nat.beq t 30 then some [.str, .int .i64, .int .i64, .int .i64] else
  bif Nat.beq t 39 then some [.str, .int .i64, .int .i64, .int .i64, .bool, .int .i64] else
  none

theorem flat28 : flatT Proofs.Try.prog 9 28 = some [.int .i64, .int .i64] := by kernel_rfl
theorem guard28 : Proofs.Try.prog.eqGuardType Proofs.Try.prog.depth 28 = false := by kernel_rfl
theorem struct28 : (match tb 28 with | some ⟨.struct _, _, _, _⟩ => true | _ => false) = true := by kernel_rfl

theorem flat30 : flatT Proofs.Try.prog 9 30 = some [.str, .int .i64, .int .i64, .int .i64] := by kernel_rfl
theorem guard30 : Proofs.Try.prog.eqGuardType Proofs.Try.prog.depth 30 = false := by kernel_rfl
theorem struct30 : (match tb 30 with | some ⟨.struct _, _, _, _⟩ => true | _ => false) = true := by kernel_rfl

theorem flat39 : flatT Proofs.Try.prog 9 39 = some [.str, .int .i64, .int .i64, .int .i64, .bool, .int .i64] := by kernel_rfl
theorem guard39 : Proofs.Try.prog.eqGuardType Proofs.Try.prog.depth 39 = false := by kernel_rfl
theorem struct39 : (match tb 39 with | some ⟨.struct _, _, _, _⟩ => true | _ => false) = true := by kernel_rfl

theorem isStruct {t : Nat} (h : (match tb t with | some ⟨.struct _, _, _, _⟩ => true | _ => false) = true) : ∃ ti fs, mkTb Proofs.Try.prog t = some ti ∧ ti.td = .struct fs := by
  split at h
  · rename_i fs s b z ht
    exact ⟨_, fs, tb_ok _ _ ht, rfl⟩
  · simp at h

theorem eqT_ok (t : Nat) (ks : List CK) (h : eqT t = some ks) : ∀ (xs ys : List Value) (x y : Operand) (w : World), kindsOK ks xs → kindsOK ks ys →
    (do eqGuard .eql t x y (.agg xs.toArray) (.agg ys.toArray); binOp .eql t (.agg xs.toArray) (.agg ys.toArray) : Sem Value).run Proofs.Try.prog w = .ok (.bool (cellsB xs ys)) w ∧
    (do eqGuard .neq t x y (.agg xs.toArray) (.agg ys.toArray); binOp .neq t (.agg xs.toArray) (.agg ys.toArray) : Sem Value).run Proofs.Try.prog w = .ok (.bool (!cellsB xs ys)) w := by
  by_cases h28 : t = 28
  · subst h28
    have h' : some [.int .i64, .int .i64] = some ks := h
    have hk := (Option.some.inj h').symm
    subst hk
    exact flat_eqs flat28 (isStruct struct28) guard28
  by_cases h30 : t = 30
  · subst h30
    have h' : some [.str, .int .i64, .int .i64, .int .i64] = some ks := h
    have hk := (Option.some.inj h').symm
    subst hk
    exact flat_eqs flat30 (isStruct struct30) guard30
  by_cases h39 : t = 39
  · subst h39
    have h' : some [.str, .int .i64, .int .i64, .int .i64, .bool, .int .i64] = some ks := h
    have hk := (Option.some.inj h').symm
    subst hk
    exact flat_eqs flat39 (isStruct struct39) guard39
  exfalso
  have hb : ∀ n, t ≠ n → Nat.beq t n = false := fun n hn => by
    cases hb : Nat.beq t n with
    | false => rfl
    | true => exact absurd (Nat.eq_of_beq_eq_true hb) hn
  simp [eqT, hb _ h28, hb _ h30, hb _ h39] at h

def ldB (g : Nat) : Bool := Nat.beq g 80
def ctx : Ctx := ⟨tb, eqT, fnB, ldB, none, 0⟩
theorem ctx_ok : CtxOK Proofs.Try.prog ctx := ⟨fn_ok, mixed_ok, tb_ok, eqT_ok⟩
theorem tb_all0 : ((List.range 164).all fun t => match tb t with | some ⟨.struct fs, _, _, _⟩ => allTb ctx fs | _ => true) = true := by kernel_rfl
theorem tb_all : TbAll ctx := by
  intro t fs s b z h
  have ht : t < 164 := by
    have h' : tb t = some ⟨.struct fs, s, b, z⟩ := h
    unfold tb at h'
    split at h'
    · rename_i x hx
      rw [nthL_eq, tbL_eq] at hx
      have := (List.getElem?_eq_some_iff.1 hx).1
      simpa using this
    · simp at h'
  have := List.all_eq_true.1 tb_all0 t (List.mem_range.2 ht)
  have h' : tb t = some ⟨.struct fs, s, b, z⟩ := h
  rw [h'] at this
  exact this

end Go.Eng
end
