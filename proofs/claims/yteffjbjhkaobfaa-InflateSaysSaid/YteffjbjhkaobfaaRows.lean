/-
  No cell of these rows narrows 'for every input' (looked for: loops, veiled, ifaces, maps, wideKeys, modest, calm, conditions, laid).
  DERIVED. THE GIVEN ROWS OF THIS SEAT. 6 by the template 'for every input the law returns true; each argument reads behind the call as it read before'; 0 by the template 'total and deterministic' (their statements: YteffjbjhkaobfaaTotals.lean).
  GIVEN WITH THE SEED: the statements are not yours to turn. If you find one false, say at which input.
  Laid BY PROGRAM, IN A SANDBOX (cutbox-rows.mjs): the forced cells as the released guide's own fill.sh prints them over the translation 9314f7d9c34d0782… (all of the seat's roots in one cut). By AI agents, Wed Nov 11 2026. No macro, syntax, notation, axiom, sorry.
-/
import Derived.Test.YteffjbjhkaobfaaChecked
import GoSem.Claim
import GoSem.ClaimJoined
import GoSem.ClaimMapViews
import Derived.JoinedTies
import Derived.KernelRfl
namespace Go.Proofs.Yteffjbjhkaobfaa
/- THE CELL 'sum', in the pinned program and in every row, IS THE sha256 OF THE DUMP (.gsa) THAT YteffjbjhkaobfaaProg.lean LOADS. Nothing in Lean hashes anything: it is a label: what it is worth is what the hold of that sum in a sandbox is worth. -/
noncomputable def Try.pinned : Pinned := { name := "yteffjbjhkaobfaa", sum := "9314f7d9c34d078259d3de95c9092a5a6356451d93b4422293ca7520c28f01be", checked := Try.checked }
namespace Rows
def none {H : Type} : Left H := { results := [], args := [] }

/-- 'postroadlaw04.InflateReads': WHATEVER THE INPUT: true; the input reads as it did. -/
def inflateReadsSpec : ChangeSpec := { name := "inflateReads", fn := fun _ => fun
  | [d1, d2] => { results := [.lit (.bool true)], args := [d1, d2] }
  | _ => none }
def inflateReadsRow : OpenClaim := { program := "yteffjbjhkaobfaa", sum := "9314f7d9c34d078259d3de95c9092a5a6356451d93b4422293ca7520c28f01be", func := "postroad/postroadlaw04.InflateReads", spec := "inflateReads", unfollowed := true, recurses := true, apart := false }
def InflateReadsSaid : Prop := inflateReadsRow.holds Try.pinned (OpenSpec.ofChange inflateReadsSpec)

/-- ITS FALSE NEIGHBOUR: 'it returns false'. Refute it at one input. -/
def inflateReadsWrong : ChangeSpec := { name := "inflateReads", fn := fun _ => fun
  | [d1, d2] => { results := [.lit (.bool false)], args := [d1, d2] }
  | _ => none }
def InflateReadsWrongFalsely : Prop := inflateReadsRow.holds Try.pinned (OpenSpec.ofChange inflateReadsWrong)

/-- 'postroadlaw04.InflateTail': WHATEVER THE INPUT: true; the input reads as it did. -/
def inflateTailSpec : ChangeSpec := { name := "inflateTail", fn := fun _ => fun
  | [d1, d2] => { results := [.lit (.bool true)], args := [d1, d2] }
  | _ => none }
def inflateTailRow : OpenClaim := { program := "yteffjbjhkaobfaa", sum := "9314f7d9c34d078259d3de95c9092a5a6356451d93b4422293ca7520c28f01be", func := "postroad/postroadlaw04.InflateTail", spec := "inflateTail", unfollowed := true, recurses := true, apart := false }
def InflateTailSaid : Prop := inflateTailRow.holds Try.pinned (OpenSpec.ofChange inflateTailSpec)

/-- ITS FALSE NEIGHBOUR: 'it returns false'. Refute it at one input. -/
def inflateTailWrong : ChangeSpec := { name := "inflateTail", fn := fun _ => fun
  | [d1, d2] => { results := [.lit (.bool false)], args := [d1, d2] }
  | _ => none }
def InflateTailWrongFalsely : Prop := inflateTailRow.holds Try.pinned (OpenSpec.ofChange inflateTailWrong)

/-- 'postroadlaw04.InflateMost': WHATEVER THE INPUT: true; the input reads as it did. -/
def inflateMostSpec : ChangeSpec := { name := "inflateMost", fn := fun _ => fun
  | [d1, d2] => { results := [.lit (.bool true)], args := [d1, d2] }
  | _ => none }
def inflateMostRow : OpenClaim := { program := "yteffjbjhkaobfaa", sum := "9314f7d9c34d078259d3de95c9092a5a6356451d93b4422293ca7520c28f01be", func := "postroad/postroadlaw04.InflateMost", spec := "inflateMost", unfollowed := true, recurses := true, apart := false }
def InflateMostSaid : Prop := inflateMostRow.holds Try.pinned (OpenSpec.ofChange inflateMostSpec)

/-- ITS FALSE NEIGHBOUR: 'it returns false'. Refute it at one input. -/
def inflateMostWrong : ChangeSpec := { name := "inflateMost", fn := fun _ => fun
  | [d1, d2] => { results := [.lit (.bool false)], args := [d1, d2] }
  | _ => none }
def InflateMostWrongFalsely : Prop := inflateMostRow.holds Try.pinned (OpenSpec.ofChange inflateMostWrong)

/-- 'postroadlaw04.InflateSays': WHATEVER THE INPUT: true; the input reads as it did. -/
def inflateSaysSpec : ChangeSpec := { name := "inflateSays", fn := fun _ => fun
  | [d] => { results := [.lit (.bool true)], args := [d] }
  | _ => none }
def inflateSaysRow : OpenClaim := { program := "yteffjbjhkaobfaa", sum := "9314f7d9c34d078259d3de95c9092a5a6356451d93b4422293ca7520c28f01be", func := "postroad/postroadlaw04.InflateSays", spec := "inflateSays", unfollowed := true, recurses := true, apart := false }
def InflateSaysSaid : Prop := inflateSaysRow.holds Try.pinned (OpenSpec.ofChange inflateSaysSpec)

/-- ITS FALSE NEIGHBOUR: 'it returns false'. Refute it at one input. -/
def inflateSaysWrong : ChangeSpec := { name := "inflateSays", fn := fun _ => fun
  | [d] => { results := [.lit (.bool false)], args := [d] }
  | _ => none }
def InflateSaysWrongFalsely : Prop := inflateSaysRow.holds Try.pinned (OpenSpec.ofChange inflateSaysWrong)

/-- 'postroadlaw04.InflateStored': WHATEVER THE INPUT: true; the input reads as it did. -/
def inflateStoredSpec : ChangeSpec := { name := "inflateStored", fn := fun _ => fun
  | [d] => { results := [.lit (.bool true)], args := [d] }
  | _ => none }
def inflateStoredRow : OpenClaim := { program := "yteffjbjhkaobfaa", sum := "9314f7d9c34d078259d3de95c9092a5a6356451d93b4422293ca7520c28f01be", func := "postroad/postroadlaw04.InflateStored", spec := "inflateStored", unfollowed := true, recurses := true, apart := false }
def InflateStoredSaid : Prop := inflateStoredRow.holds Try.pinned (OpenSpec.ofChange inflateStoredSpec)

/-- ITS FALSE NEIGHBOUR: 'it returns false'. Refute it at one input. -/
def inflateStoredWrong : ChangeSpec := { name := "inflateStored", fn := fun _ => fun
  | [d] => { results := [.lit (.bool false)], args := [d] }
  | _ => none }
def InflateStoredWrongFalsely : Prop := inflateStoredRow.holds Try.pinned (OpenSpec.ofChange inflateStoredWrong)

/-- 'postroadlaw04.InflateCuts': WHATEVER THE INPUT: true; the input reads as it did. -/
def inflateCutsSpec : ChangeSpec := { name := "inflateCuts", fn := fun _ => fun
  | [d1, d2] => { results := [.lit (.bool true)], args := [d1, d2] }
  | _ => none }
def inflateCutsRow : OpenClaim := { program := "yteffjbjhkaobfaa", sum := "9314f7d9c34d078259d3de95c9092a5a6356451d93b4422293ca7520c28f01be", func := "postroad/postroadlaw04.InflateCuts", spec := "inflateCuts", unfollowed := true, recurses := true, apart := false }
def InflateCutsSaid : Prop := inflateCutsRow.holds Try.pinned (OpenSpec.ofChange inflateCutsSpec)

/-- ITS FALSE NEIGHBOUR: 'it returns false'. Refute it at one input. -/
def inflateCutsWrong : ChangeSpec := { name := "inflateCuts", fn := fun _ => fun
  | [d1, d2] => { results := [.lit (.bool false)], args := [d1, d2] }
  | _ => none }
def InflateCutsWrongFalsely : Prop := inflateCutsRow.holds Try.pinned (OpenSpec.ofChange inflateCutsWrong)

/- THE SECOND FORM. 'bulk': how many values and letters a reading holds, each counted each time it is reached (what is shared counts as often as it is met; a slice's spare places count too). A statement '..UptoSaid' is the law's where the arguments, and the package variables that the reading takes, are together of bulk at most 1048576: NARROWER than '..Said'. Prove '..Said' where nothing that the law and all that it calls make is longer than what came in: it says more and counts as full. Else prove '..UptoSaid'. A law counts once. -/
mutual
def uptoBulk {H : Type} : DataW H → Nat
  | .lit (.string bytes) => bytes.length + 1
  | .lit _ => 1
  | .nil => 1
  | .ptr d => uptoBulk d + 1
  | .slice elems spare => uptoBulkAll elems + uptoBulkAll spare + 1
  | .agg parts => uptoBulkAll parts + 1
  | .iface _ d => uptoBulk d + 1
  | .map entries => uptoBulkEntries entries + 1
  | .held _ => 1
def uptoBulkAll {H : Type} : List (DataW H) → Nat
  | [] => 0
  | d :: r => uptoBulk d + uptoBulkAll r
def uptoBulkEntries {H : Type} : List (Lit × DataW H) → Nat
  | [] => 0
  | x :: r => uptoBulkEntry x + uptoBulkEntries r
def uptoBulkEntry {H : Type} : Lit × DataW H → Nat
  | (.string bytes, d) => bytes.length + uptoBulk d + 1
  | (_, d) => uptoBulk d + 1
 end
def uptoSmall : (H : Type) → List (DataW H) → Bool := fun _ ds => decide (uptoBulkAll ds ≤ 1048576)
def OpenSpec.upto (s : _root_.Go.ChangeSpec) : _root_.Go.OpenSpec := { _root_.Go.OpenSpec.ofChange s with cond := some uptoSmall }

/-- 'postroadlaw04.InflateReads', WHERE WHAT IT READS IS OF BULK AT MOST 1048576: true; the input reads as it did. -/
def inflateReadsUptoRow : OpenClaim := { program := "yteffjbjhkaobfaa", sum := "9314f7d9c34d078259d3de95c9092a5a6356451d93b4422293ca7520c28f01be", func := "postroad/postroadlaw04.InflateReads", spec := "inflateReads", unfollowed := true, recurses := true, apart := false, narrowed := true }
def InflateReadsUptoSaid : Prop := inflateReadsUptoRow.holds Try.pinned (OpenSpec.upto inflateReadsSpec)

/-- 'postroadlaw04.InflateTail', WHERE WHAT IT READS IS OF BULK AT MOST 1048576: true; the input reads as it did. -/
def inflateTailUptoRow : OpenClaim := { program := "yteffjbjhkaobfaa", sum := "9314f7d9c34d078259d3de95c9092a5a6356451d93b4422293ca7520c28f01be", func := "postroad/postroadlaw04.InflateTail", spec := "inflateTail", unfollowed := true, recurses := true, apart := false, narrowed := true }
def InflateTailUptoSaid : Prop := inflateTailUptoRow.holds Try.pinned (OpenSpec.upto inflateTailSpec)

/-- 'postroadlaw04.InflateMost', WHERE WHAT IT READS IS OF BULK AT MOST 1048576: true; the input reads as it did. -/
def inflateMostUptoRow : OpenClaim := { program := "yteffjbjhkaobfaa", sum := "9314f7d9c34d078259d3de95c9092a5a6356451d93b4422293ca7520c28f01be", func := "postroad/postroadlaw04.InflateMost", spec := "inflateMost", unfollowed := true, recurses := true, apart := false, narrowed := true }
def InflateMostUptoSaid : Prop := inflateMostUptoRow.holds Try.pinned (OpenSpec.upto inflateMostSpec)

/-- 'postroadlaw04.InflateSays', WHERE WHAT IT READS IS OF BULK AT MOST 1048576: true; the input reads as it did. -/
def inflateSaysUptoRow : OpenClaim := { program := "yteffjbjhkaobfaa", sum := "9314f7d9c34d078259d3de95c9092a5a6356451d93b4422293ca7520c28f01be", func := "postroad/postroadlaw04.InflateSays", spec := "inflateSays", unfollowed := true, recurses := true, apart := false, narrowed := true }
def InflateSaysUptoSaid : Prop := inflateSaysUptoRow.holds Try.pinned (OpenSpec.upto inflateSaysSpec)

/-- 'postroadlaw04.InflateStored', WHERE WHAT IT READS IS OF BULK AT MOST 1048576: true; the input reads as it did. -/
def inflateStoredUptoRow : OpenClaim := { program := "yteffjbjhkaobfaa", sum := "9314f7d9c34d078259d3de95c9092a5a6356451d93b4422293ca7520c28f01be", func := "postroad/postroadlaw04.InflateStored", spec := "inflateStored", unfollowed := true, recurses := true, apart := false, narrowed := true }
def InflateStoredUptoSaid : Prop := inflateStoredUptoRow.holds Try.pinned (OpenSpec.upto inflateStoredSpec)

/-- 'postroadlaw04.InflateCuts', WHERE WHAT IT READS IS OF BULK AT MOST 1048576: true; the input reads as it did. -/
def inflateCutsUptoRow : OpenClaim := { program := "yteffjbjhkaobfaa", sum := "9314f7d9c34d078259d3de95c9092a5a6356451d93b4422293ca7520c28f01be", func := "postroad/postroadlaw04.InflateCuts", spec := "inflateCuts", unfollowed := true, recurses := true, apart := false, narrowed := true }
def InflateCutsUptoSaid : Prop := inflateCutsUptoRow.holds Try.pinned (OpenSpec.upto inflateCutsSpec)

end Rows
end Go.Proofs.Yteffjbjhkaobfaa
