/-
  No cell of these rows narrows 'for every input' (looked for: loops, veiled, ifaces, maps, wideKeys, modest, calm, conditions, laid).
  DERIVED. THE GIVEN ROWS OF THIS SEAT. 10 by the template 'for every input the law returns true; each argument reads behind the call as it read before'; 0 by the template 'total and deterministic' (their statements: YtfigihelkjlcpaaTotals.lean).
  GIVEN WITH THE SEED: the statements are not yours to turn. If you find one false, say at which input.
  Laid BY PROGRAM, IN A SANDBOX (cutbox-rows.mjs): the forced cells as the released guide's own fill.sh prints them over the translation 9756ca8b936d8db1… (all of the seat's roots in one cut). By AI agents, Wed Nov 11 2026. No macro, syntax, notation, axiom, sorry.
-/
import Derived.Test.YtfigihelkjlcpaaChecked
import GoSem.Claim
import GoSem.ClaimJoined
import GoSem.ClaimMapViews
import Derived.JoinedTies
import Derived.KernelRfl
namespace Go.Proofs.Ytfigihelkjlcpaa
/- THE CELL 'sum', in the pinned program and in every row, IS THE sha256 OF THE DUMP (.gsa) THAT YtfigihelkjlcpaaProg.lean LOADS. Nothing in Lean hashes anything: it is a label: what it is worth is what the hold of that sum in a sandbox is worth. -/
noncomputable def Try.pinned : Pinned := { name := "ytfigihelkjlcpaa", sum := "9756ca8b936d8db1e282cfa3b29822e5b14f9085cf7cc40a36dc0027c91227a3", checked := Try.checked }
namespace Rows
def none {H : Type} : Left H := { results := [], args := [] }

/-- 'cressetlaw09.DeltaSplits': WHATEVER THE INPUT: true; the input reads as it did. -/
def deltaSplitsSpec : ChangeSpec := { name := "deltaSplits", fn := fun _ => fun
  | [d1, d2] => { results := [.lit (.bool true)], args := [d1, d2] }
  | _ => none }
def deltaSplitsRow : OpenClaim := { program := "ytfigihelkjlcpaa", sum := "9756ca8b936d8db1e282cfa3b29822e5b14f9085cf7cc40a36dc0027c91227a3", func := "cresset/cressetlaw09.DeltaSplits", spec := "deltaSplits", unfollowed := true, recurses := true, apart := false }
def DeltaSplitsSaid : Prop := deltaSplitsRow.holds Try.pinned (OpenSpec.ofChange deltaSplitsSpec)

/-- ITS FALSE NEIGHBOUR: 'it returns false'. Refute it at one input. -/
def deltaSplitsWrong : ChangeSpec := { name := "deltaSplits", fn := fun _ => fun
  | [d1, d2] => { results := [.lit (.bool false)], args := [d1, d2] }
  | _ => none }
def DeltaSplitsWrongFalsely : Prop := deltaSplitsRow.holds Try.pinned (OpenSpec.ofChange deltaSplitsWrong)

/-- 'cressetlaw09.DeltaSame': WHATEVER THE INPUT: true; the input reads as it did. -/
def deltaSameSpec : ChangeSpec := { name := "deltaSame", fn := fun _ => fun
  | [d1, d2] => { results := [.lit (.bool true)], args := [d1, d2] }
  | _ => none }
def deltaSameRow : OpenClaim := { program := "ytfigihelkjlcpaa", sum := "9756ca8b936d8db1e282cfa3b29822e5b14f9085cf7cc40a36dc0027c91227a3", func := "cresset/cressetlaw09.DeltaSame", spec := "deltaSame", unfollowed := true, recurses := true, apart := false }
def DeltaSameSaid : Prop := deltaSameRow.holds Try.pinned (OpenSpec.ofChange deltaSameSpec)

/-- ITS FALSE NEIGHBOUR: 'it returns false'. Refute it at one input. -/
def deltaSameWrong : ChangeSpec := { name := "deltaSame", fn := fun _ => fun
  | [d1, d2] => { results := [.lit (.bool false)], args := [d1, d2] }
  | _ => none }
def DeltaSameWrongFalsely : Prop := deltaSameRow.holds Try.pinned (OpenSpec.ofChange deltaSameWrong)

/-- 'cressetlaw09.DeltaOwn': WHATEVER THE INPUT: true; the input reads as it did. -/
def deltaOwnSpec : ChangeSpec := { name := "deltaOwn", fn := fun _ => fun
  | [d1, d2] => { results := [.lit (.bool true)], args := [d1, d2] }
  | _ => none }
def deltaOwnRow : OpenClaim := { program := "ytfigihelkjlcpaa", sum := "9756ca8b936d8db1e282cfa3b29822e5b14f9085cf7cc40a36dc0027c91227a3", func := "cresset/cressetlaw09.DeltaOwn", spec := "deltaOwn", unfollowed := true, recurses := true, apart := false }
def DeltaOwnSaid : Prop := deltaOwnRow.holds Try.pinned (OpenSpec.ofChange deltaOwnSpec)

/-- ITS FALSE NEIGHBOUR: 'it returns false'. Refute it at one input. -/
def deltaOwnWrong : ChangeSpec := { name := "deltaOwn", fn := fun _ => fun
  | [d1, d2] => { results := [.lit (.bool false)], args := [d1, d2] }
  | _ => none }
def DeltaOwnWrongFalsely : Prop := deltaOwnRow.holds Try.pinned (OpenSpec.ofChange deltaOwnWrong)

/-- 'cressetlaw09.DeltaApplies': WHATEVER THE INPUT: true; the input reads as it did. -/
def deltaAppliesSpec : ChangeSpec := { name := "deltaApplies", fn := fun _ => fun
  | [d1, d2] => { results := [.lit (.bool true)], args := [d1, d2] }
  | _ => none }
def deltaAppliesRow : OpenClaim := { program := "ytfigihelkjlcpaa", sum := "9756ca8b936d8db1e282cfa3b29822e5b14f9085cf7cc40a36dc0027c91227a3", func := "cresset/cressetlaw09.DeltaApplies", spec := "deltaApplies", unfollowed := true, recurses := true, apart := false }
def DeltaAppliesSaid : Prop := deltaAppliesRow.holds Try.pinned (OpenSpec.ofChange deltaAppliesSpec)

/-- ITS FALSE NEIGHBOUR: 'it returns false'. Refute it at one input. -/
def deltaAppliesWrong : ChangeSpec := { name := "deltaApplies", fn := fun _ => fun
  | [d1, d2] => { results := [.lit (.bool false)], args := [d1, d2] }
  | _ => none }
def DeltaAppliesWrongFalsely : Prop := deltaAppliesRow.holds Try.pinned (OpenSpec.ofChange deltaAppliesWrong)

/-- 'cressetlaw09.DeltaBack': WHATEVER THE INPUT: true; the input reads as it did. -/
def deltaBackSpec : ChangeSpec := { name := "deltaBack", fn := fun _ => fun
  | [d1, d2] => { results := [.lit (.bool true)], args := [d1, d2] }
  | _ => none }
def deltaBackRow : OpenClaim := { program := "ytfigihelkjlcpaa", sum := "9756ca8b936d8db1e282cfa3b29822e5b14f9085cf7cc40a36dc0027c91227a3", func := "cresset/cressetlaw09.DeltaBack", spec := "deltaBack", unfollowed := true, recurses := true, apart := false }
def DeltaBackSaid : Prop := deltaBackRow.holds Try.pinned (OpenSpec.ofChange deltaBackSpec)

/-- ITS FALSE NEIGHBOUR: 'it returns false'. Refute it at one input. -/
def deltaBackWrong : ChangeSpec := { name := "deltaBack", fn := fun _ => fun
  | [d1, d2] => { results := [.lit (.bool false)], args := [d1, d2] }
  | _ => none }
def DeltaBackWrongFalsely : Prop := deltaBackRow.holds Try.pinned (OpenSpec.ofChange deltaBackWrong)

/-- 'cressetlaw11.ChainOwn': WHATEVER THE INPUT: true; the input reads as it did. -/
def chainOwnSpec : ChangeSpec := { name := "chainOwn", fn := fun _ => fun
  | [d1, d2] => { results := [.lit (.bool true)], args := [d1, d2] }
  | _ => none }
def chainOwnRow : OpenClaim := { program := "ytfigihelkjlcpaa", sum := "9756ca8b936d8db1e282cfa3b29822e5b14f9085cf7cc40a36dc0027c91227a3", func := "cresset/cressetlaw11.ChainOwn", spec := "chainOwn", inPlace := ["sync/atomic.AddInt64"], unfollowed := true, recurses := true, apart := false }
def ChainOwnSaid : Prop := chainOwnRow.holds Try.pinned (OpenSpec.ofChange chainOwnSpec)

/-- ITS FALSE NEIGHBOUR: 'it returns false'. Refute it at one input. -/
def chainOwnWrong : ChangeSpec := { name := "chainOwn", fn := fun _ => fun
  | [d1, d2] => { results := [.lit (.bool false)], args := [d1, d2] }
  | _ => none }
def ChainOwnWrongFalsely : Prop := chainOwnRow.holds Try.pinned (OpenSpec.ofChange chainOwnWrong)

/-- 'cressetlaw11.ChainGrows': WHATEVER THE INPUT: true; the input reads as it did. -/
def chainGrowsSpec : ChangeSpec := { name := "chainGrows", fn := fun _ => fun
  | [d1, d2, d3] => { results := [.lit (.bool true)], args := [d1, d2, d3] }
  | _ => none }
def chainGrowsRow : OpenClaim := { program := "ytfigihelkjlcpaa", sum := "9756ca8b936d8db1e282cfa3b29822e5b14f9085cf7cc40a36dc0027c91227a3", func := "cresset/cressetlaw11.ChainGrows", spec := "chainGrows", inPlace := ["sync/atomic.AddInt64", "sync/atomic.LoadInt64"], unfollowed := true, recurses := true, apart := false }
def ChainGrowsSaid : Prop := chainGrowsRow.holds Try.pinned (OpenSpec.ofChange chainGrowsSpec)

/-- ITS FALSE NEIGHBOUR: 'it returns false'. Refute it at one input. -/
def chainGrowsWrong : ChangeSpec := { name := "chainGrows", fn := fun _ => fun
  | [d1, d2, d3] => { results := [.lit (.bool false)], args := [d1, d2, d3] }
  | _ => none }
def ChainGrowsWrongFalsely : Prop := chainGrowsRow.holds Try.pinned (OpenSpec.ofChange chainGrowsWrong)

/-- 'cressetlaw11.ChainAlone': WHATEVER THE INPUT: true; the input reads as it did. -/
def chainAloneSpec : ChangeSpec := { name := "chainAlone", fn := fun _ => fun
  | [d1, d2, d3] => { results := [.lit (.bool true)], args := [d1, d2, d3] }
  | _ => none }
def chainAloneRow : OpenClaim := { program := "ytfigihelkjlcpaa", sum := "9756ca8b936d8db1e282cfa3b29822e5b14f9085cf7cc40a36dc0027c91227a3", func := "cresset/cressetlaw11.ChainAlone", spec := "chainAlone", inPlace := ["sync/atomic.AddInt64", "slices.overlaps[int]"], unfollowed := true, recurses := true, apart := false }
def ChainAloneSaid : Prop := chainAloneRow.holds Try.pinned (OpenSpec.ofChange chainAloneSpec)

/-- ITS FALSE NEIGHBOUR: 'it returns false'. Refute it at one input. -/
def chainAloneWrong : ChangeSpec := { name := "chainAlone", fn := fun _ => fun
  | [d1, d2, d3] => { results := [.lit (.bool false)], args := [d1, d2, d3] }
  | _ => none }
def ChainAloneWrongFalsely : Prop := chainAloneRow.holds Try.pinned (OpenSpec.ofChange chainAloneWrong)

/-- 'cressetlaw11.ChainPacks': WHATEVER THE INPUT: true; the input reads as it did. -/
def chainPacksSpec : ChangeSpec := { name := "chainPacks", fn := fun _ => fun
  | [d1, d2] => { results := [.lit (.bool true)], args := [d1, d2] }
  | _ => none }
def chainPacksRow : OpenClaim := { program := "ytfigihelkjlcpaa", sum := "9756ca8b936d8db1e282cfa3b29822e5b14f9085cf7cc40a36dc0027c91227a3", func := "cresset/cressetlaw11.ChainPacks", spec := "chainPacks", inPlace := ["sync/atomic.AddInt64", "slices.overlaps[int]"], unfollowed := true, recurses := true, apart := false }
def ChainPacksSaid : Prop := chainPacksRow.holds Try.pinned (OpenSpec.ofChange chainPacksSpec)

/-- ITS FALSE NEIGHBOUR: 'it returns false'. Refute it at one input. -/
def chainPacksWrong : ChangeSpec := { name := "chainPacks", fn := fun _ => fun
  | [d1, d2] => { results := [.lit (.bool false)], args := [d1, d2] }
  | _ => none }
def ChainPacksWrongFalsely : Prop := chainPacksRow.holds Try.pinned (OpenSpec.ofChange chainPacksWrong)

/-- 'cressetlaw11.ChainNone': WHATEVER THE INPUT: true; the input reads as it did. -/
def chainNoneSpec : ChangeSpec := { name := "chainNone", fn := fun _ => fun
  | [d1, d2, d3] => { results := [.lit (.bool true)], args := [d1, d2, d3] }
  | _ => none }
def chainNoneRow : OpenClaim := { program := "ytfigihelkjlcpaa", sum := "9756ca8b936d8db1e282cfa3b29822e5b14f9085cf7cc40a36dc0027c91227a3", func := "cresset/cressetlaw11.ChainNone", spec := "chainNone", inPlace := ["sync/atomic.AddInt64", "slices.overlaps[int]"], unfollowed := true, recurses := true, apart := false }
def ChainNoneSaid : Prop := chainNoneRow.holds Try.pinned (OpenSpec.ofChange chainNoneSpec)

/-- ITS FALSE NEIGHBOUR: 'it returns false'. Refute it at one input. -/
def chainNoneWrong : ChangeSpec := { name := "chainNone", fn := fun _ => fun
  | [d1, d2, d3] => { results := [.lit (.bool false)], args := [d1, d2, d3] }
  | _ => none }
def ChainNoneWrongFalsely : Prop := chainNoneRow.holds Try.pinned (OpenSpec.ofChange chainNoneWrong)

/- THE SECOND FORM. 'bulk': how many values and letters a reading holds, each counted each time it is reached (what is shared counts as often as it is met; a slice's spare places count too). A statement '..UptoSaid' is the law's where the arguments, and the package variables that the reading takes, are together of bulk at most 1048576: NARROWER than '..Said'. Prove '..Said' where nothing that the law and all that it calls make is longer than what came in: it says more and counts as full. Else prove '..UptoSaid'. A law counts once. -/
mutual
def uptoBulk {H : Type} : DataW H → Nat
  | .lit (.string bytes) => bytes.length + 1
  | .lit _ => 1
  | .nil => 1
  | .ptr d => uptoBulk d + 1
  | .slice elems spare => uptoBulkAll elems + uptoBulkAll spare + 1
  | .agg parts => uptoBulkAll parts + 1
  | .iface _ d => uptoBulk d + 1
  | .map entries => uptoBulkEntries entries + 1
  | .held _ => 1
def uptoBulkAll {H : Type} : List (DataW H) → Nat
  | [] => 0
  | d :: r => uptoBulk d + uptoBulkAll r
def uptoBulkEntries {H : Type} : List (Lit × DataW H) → Nat
  | [] => 0
  | x :: r => uptoBulkEntry x + uptoBulkEntries r
def uptoBulkEntry {H : Type} : Lit × DataW H → Nat
  | (.string bytes, d) => bytes.length + uptoBulk d + 1
  | (_, d) => uptoBulk d + 1
 end
def uptoSmall : (H : Type) → List (DataW H) → Bool := fun _ ds => decide (uptoBulkAll ds ≤ 1048576)
def OpenSpec.upto (s : _root_.Go.ChangeSpec) : _root_.Go.OpenSpec := { _root_.Go.OpenSpec.ofChange s with cond := some uptoSmall }

/-- 'cressetlaw09.DeltaSplits', WHERE WHAT IT READS IS OF BULK AT MOST 1048576: true; the input reads as it did. -/
def deltaSplitsUptoRow : OpenClaim := { program := "ytfigihelkjlcpaa", sum := "9756ca8b936d8db1e282cfa3b29822e5b14f9085cf7cc40a36dc0027c91227a3", func := "cresset/cressetlaw09.DeltaSplits", spec := "deltaSplits", unfollowed := true, recurses := true, apart := false, narrowed := true }
def DeltaSplitsUptoSaid : Prop := deltaSplitsUptoRow.holds Try.pinned (OpenSpec.upto deltaSplitsSpec)

/-- 'cressetlaw09.DeltaSame', WHERE WHAT IT READS IS OF BULK AT MOST 1048576: true; the input reads as it did. -/
def deltaSameUptoRow : OpenClaim := { program := "ytfigihelkjlcpaa", sum := "9756ca8b936d8db1e282cfa3b29822e5b14f9085cf7cc40a36dc0027c91227a3", func := "cresset/cressetlaw09.DeltaSame", spec := "deltaSame", unfollowed := true, recurses := true, apart := false, narrowed := true }
def DeltaSameUptoSaid : Prop := deltaSameUptoRow.holds Try.pinned (OpenSpec.upto deltaSameSpec)

/-- 'cressetlaw09.DeltaOwn', WHERE WHAT IT READS IS OF BULK AT MOST 1048576: true; the input reads as it did. -/
def deltaOwnUptoRow : OpenClaim := { program := "ytfigihelkjlcpaa", sum := "9756ca8b936d8db1e282cfa3b29822e5b14f9085cf7cc40a36dc0027c91227a3", func := "cresset/cressetlaw09.DeltaOwn", spec := "deltaOwn", unfollowed := true, recurses := true, apart := false, narrowed := true }
def DeltaOwnUptoSaid : Prop := deltaOwnUptoRow.holds Try.pinned (OpenSpec.upto deltaOwnSpec)

/-- 'cressetlaw09.DeltaApplies', WHERE WHAT IT READS IS OF BULK AT MOST 1048576: true; the input reads as it did. -/
def deltaAppliesUptoRow : OpenClaim := { program := "ytfigihelkjlcpaa", sum := "9756ca8b936d8db1e282cfa3b29822e5b14f9085cf7cc40a36dc0027c91227a3", func := "cresset/cressetlaw09.DeltaApplies", spec := "deltaApplies", unfollowed := true, recurses := true, apart := false, narrowed := true }
def DeltaAppliesUptoSaid : Prop := deltaAppliesUptoRow.holds Try.pinned (OpenSpec.upto deltaAppliesSpec)

/-- 'cressetlaw09.DeltaBack', WHERE WHAT IT READS IS OF BULK AT MOST 1048576: true; the input reads as it did. -/
def deltaBackUptoRow : OpenClaim := { program := "ytfigihelkjlcpaa", sum := "9756ca8b936d8db1e282cfa3b29822e5b14f9085cf7cc40a36dc0027c91227a3", func := "cresset/cressetlaw09.DeltaBack", spec := "deltaBack", unfollowed := true, recurses := true, apart := false, narrowed := true }
def DeltaBackUptoSaid : Prop := deltaBackUptoRow.holds Try.pinned (OpenSpec.upto deltaBackSpec)

/-- 'cressetlaw11.ChainOwn', WHERE WHAT IT READS IS OF BULK AT MOST 1048576: true; the input reads as it did. -/
def chainOwnUptoRow : OpenClaim := { program := "ytfigihelkjlcpaa", sum := "9756ca8b936d8db1e282cfa3b29822e5b14f9085cf7cc40a36dc0027c91227a3", func := "cresset/cressetlaw11.ChainOwn", spec := "chainOwn", inPlace := ["sync/atomic.AddInt64"], unfollowed := true, recurses := true, apart := false, narrowed := true }
def ChainOwnUptoSaid : Prop := chainOwnUptoRow.holds Try.pinned (OpenSpec.upto chainOwnSpec)

/-- 'cressetlaw11.ChainGrows', WHERE WHAT IT READS IS OF BULK AT MOST 1048576: true; the input reads as it did. -/
def chainGrowsUptoRow : OpenClaim := { program := "ytfigihelkjlcpaa", sum := "9756ca8b936d8db1e282cfa3b29822e5b14f9085cf7cc40a36dc0027c91227a3", func := "cresset/cressetlaw11.ChainGrows", spec := "chainGrows", inPlace := ["sync/atomic.AddInt64", "sync/atomic.LoadInt64"], unfollowed := true, recurses := true, apart := false, narrowed := true }
def ChainGrowsUptoSaid : Prop := chainGrowsUptoRow.holds Try.pinned (OpenSpec.upto chainGrowsSpec)

/-- 'cressetlaw11.ChainAlone', WHERE WHAT IT READS IS OF BULK AT MOST 1048576: true; the input reads as it did. -/
def chainAloneUptoRow : OpenClaim := { program := "ytfigihelkjlcpaa", sum := "9756ca8b936d8db1e282cfa3b29822e5b14f9085cf7cc40a36dc0027c91227a3", func := "cresset/cressetlaw11.ChainAlone", spec := "chainAlone", inPlace := ["sync/atomic.AddInt64", "slices.overlaps[int]"], unfollowed := true, recurses := true, apart := false, narrowed := true }
def ChainAloneUptoSaid : Prop := chainAloneUptoRow.holds Try.pinned (OpenSpec.upto chainAloneSpec)

/-- 'cressetlaw11.ChainPacks', WHERE WHAT IT READS IS OF BULK AT MOST 1048576: true; the input reads as it did. -/
def chainPacksUptoRow : OpenClaim := { program := "ytfigihelkjlcpaa", sum := "9756ca8b936d8db1e282cfa3b29822e5b14f9085cf7cc40a36dc0027c91227a3", func := "cresset/cressetlaw11.ChainPacks", spec := "chainPacks", inPlace := ["sync/atomic.AddInt64", "slices.overlaps[int]"], unfollowed := true, recurses := true, apart := false, narrowed := true }
def ChainPacksUptoSaid : Prop := chainPacksUptoRow.holds Try.pinned (OpenSpec.upto chainPacksSpec)

/-- 'cressetlaw11.ChainNone', WHERE WHAT IT READS IS OF BULK AT MOST 1048576: true; the input reads as it did. -/
def chainNoneUptoRow : OpenClaim := { program := "ytfigihelkjlcpaa", sum := "9756ca8b936d8db1e282cfa3b29822e5b14f9085cf7cc40a36dc0027c91227a3", func := "cresset/cressetlaw11.ChainNone", spec := "chainNone", inPlace := ["sync/atomic.AddInt64", "slices.overlaps[int]"], unfollowed := true, recurses := true, apart := false, narrowed := true }
def ChainNoneUptoSaid : Prop := chainNoneUptoRow.holds Try.pinned (OpenSpec.upto chainNoneSpec)

end Rows
end Go.Proofs.Ytfigihelkjlcpaa
