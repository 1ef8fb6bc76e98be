/-
  No cell of these rows narrows 'for every input' (looked for: loops, veiled, ifaces, maps, wideKeys, modest, calm, conditions, laid).
  DERIVED. THE GIVEN ROWS OF THIS SEAT. 5 by the template 'for every input the law returns true; each argument reads behind the call as it read before'; 0 by the template 'total and deterministic' (their statements: YtllgaikgpfionaaTotals.lean).
  GIVEN WITH THE SEED: the statements are not yours to turn. If you find one false, say at which input.
  Laid BY PROGRAM, IN A SANDBOX (cutbox-rows.mjs): the forced cells as the released guide's own fill.sh prints them over the translation 13918ce9449e0037… (all of the seat's roots in one cut). By AI agents, Wed Nov 11 2026. No macro, syntax, notation, axiom, sorry.
-/
import Derived.Test.YtllgaikgpfionaaChecked
import GoSem.Claim
import GoSem.ClaimJoined
import GoSem.ClaimMapViews
import Derived.JoinedTies
import Derived.KernelRfl
namespace Go.Proofs.Ytllgaikgpfionaa
/- THE CELL 'sum', in the pinned program and in every row, IS THE sha256 OF THE DUMP (.gsa) THAT YtllgaikgpfionaaProg.lean LOADS. Nothing in Lean hashes anything: it is a label: what it is worth is what the hold of that sum in a sandbox is worth. -/
noncomputable def Try.pinned : Pinned := { name := "ytllgaikgpfionaa", sum := "13918ce9449e0037c26ec4f4ef9dcc3133d4dbb6f4648d7ddbcceffef97f66a7", checked := Try.checked }
namespace Rows
def none {H : Type} : Left H := { results := [], args := [] }

/-- 'postroadlaw15.SessionOnce': WHATEVER THE INPUT: true; the input reads as it did. -/
def sessionOnceSpec : ChangeSpec := { name := "sessionOnce", fn := fun _ => fun
  | [d1, d2] => { results := [.lit (.bool true)], args := [d1, d2] }
  | _ => none }
def sessionOnceRow : OpenClaim := { program := "ytllgaikgpfionaa", sum := "13918ce9449e0037c26ec4f4ef9dcc3133d4dbb6f4648d7ddbcceffef97f66a7", func := "postroad/postroadlaw15.SessionOnce", spec := "sessionOnce", inPlace := ["internal/abi.NoEscape"], unfollowed := true, recurses := true, plainKeys := false, apart := false }
def SessionOnceSaid : Prop := sessionOnceRow.holds Try.pinned (OpenSpec.ofChange sessionOnceSpec)

/-- ITS FALSE NEIGHBOUR: 'it returns false'. Refute it at one input. -/
def sessionOnceWrong : ChangeSpec := { name := "sessionOnce", fn := fun _ => fun
  | [d1, d2] => { results := [.lit (.bool false)], args := [d1, d2] }
  | _ => none }
def SessionOnceWrongFalsely : Prop := sessionOnceRow.holds Try.pinned (OpenSpec.ofChange sessionOnceWrong)

/-- 'postroadlaw15.SessionQueue': WHATEVER THE INPUT: true; the input reads as it did. -/
def sessionQueueSpec : ChangeSpec := { name := "sessionQueue", fn := fun _ => fun
  | [d1, d2] => { results := [.lit (.bool true)], args := [d1, d2] }
  | _ => none }
def sessionQueueRow : OpenClaim := { program := "ytllgaikgpfionaa", sum := "13918ce9449e0037c26ec4f4ef9dcc3133d4dbb6f4648d7ddbcceffef97f66a7", func := "postroad/postroadlaw15.SessionQueue", spec := "sessionQueue", inPlace := ["internal/abi.NoEscape"], unfollowed := true, recurses := true, plainKeys := false, apart := false }
def SessionQueueSaid : Prop := sessionQueueRow.holds Try.pinned (OpenSpec.ofChange sessionQueueSpec)

/-- ITS FALSE NEIGHBOUR: 'it returns false'. Refute it at one input. -/
def sessionQueueWrong : ChangeSpec := { name := "sessionQueue", fn := fun _ => fun
  | [d1, d2] => { results := [.lit (.bool false)], args := [d1, d2] }
  | _ => none }
def SessionQueueWrongFalsely : Prop := sessionQueueRow.holds Try.pinned (OpenSpec.ofChange sessionQueueWrong)

/-- 'postroadlaw15.SessionLarge': WHATEVER THE INPUT: true; the input reads as it did. -/
def sessionLargeSpec : ChangeSpec := { name := "sessionLarge", fn := fun _ => fun
  | [d1, d2] => { results := [.lit (.bool true)], args := [d1, d2] }
  | _ => none }
def sessionLargeRow : OpenClaim := { program := "ytllgaikgpfionaa", sum := "13918ce9449e0037c26ec4f4ef9dcc3133d4dbb6f4648d7ddbcceffef97f66a7", func := "postroad/postroadlaw15.SessionLarge", spec := "sessionLarge", inPlace := ["internal/abi.NoEscape"], unfollowed := true, recurses := true, plainKeys := false, apart := false }
def SessionLargeSaid : Prop := sessionLargeRow.holds Try.pinned (OpenSpec.ofChange sessionLargeSpec)

/-- ITS FALSE NEIGHBOUR: 'it returns false'. Refute it at one input. -/
def sessionLargeWrong : ChangeSpec := { name := "sessionLarge", fn := fun _ => fun
  | [d1, d2] => { results := [.lit (.bool false)], args := [d1, d2] }
  | _ => none }
def SessionLargeWrongFalsely : Prop := sessionLargeRow.holds Try.pinned (OpenSpec.ofChange sessionLargeWrong)

/-- 'postroadlaw15.SessionForgets': WHATEVER THE INPUT: true; the input reads as it did. -/
def sessionForgetsSpec : ChangeSpec := { name := "sessionForgets", fn := fun _ => fun
  | [d1, d2] => { results := [.lit (.bool true)], args := [d1, d2] }
  | _ => none }
def sessionForgetsRow : OpenClaim := { program := "ytllgaikgpfionaa", sum := "13918ce9449e0037c26ec4f4ef9dcc3133d4dbb6f4648d7ddbcceffef97f66a7", func := "postroad/postroadlaw15.SessionForgets", spec := "sessionForgets", inPlace := ["internal/abi.NoEscape"], unfollowed := true, recurses := true, plainKeys := false, apart := false }
def SessionForgetsSaid : Prop := sessionForgetsRow.holds Try.pinned (OpenSpec.ofChange sessionForgetsSpec)

/-- ITS FALSE NEIGHBOUR: 'it returns false'. Refute it at one input. -/
def sessionForgetsWrong : ChangeSpec := { name := "sessionForgets", fn := fun _ => fun
  | [d1, d2] => { results := [.lit (.bool false)], args := [d1, d2] }
  | _ => none }
def SessionForgetsWrongFalsely : Prop := sessionForgetsRow.holds Try.pinned (OpenSpec.ofChange sessionForgetsWrong)

/-- 'postroadlaw15.SessionNobody': WHATEVER THE INPUT: true; the input reads as it did. -/
def sessionNobodySpec : ChangeSpec := { name := "sessionNobody", fn := fun _ => fun
  | [d1, d2] => { results := [.lit (.bool true)], args := [d1, d2] }
  | _ => none }
def sessionNobodyRow : OpenClaim := { program := "ytllgaikgpfionaa", sum := "13918ce9449e0037c26ec4f4ef9dcc3133d4dbb6f4648d7ddbcceffef97f66a7", func := "postroad/postroadlaw15.SessionNobody", spec := "sessionNobody", inPlace := ["internal/abi.NoEscape"], unfollowed := true, recurses := true, plainKeys := false, apart := false }
def SessionNobodySaid : Prop := sessionNobodyRow.holds Try.pinned (OpenSpec.ofChange sessionNobodySpec)

/-- ITS FALSE NEIGHBOUR: 'it returns false'. Refute it at one input. -/
def sessionNobodyWrong : ChangeSpec := { name := "sessionNobody", fn := fun _ => fun
  | [d1, d2] => { results := [.lit (.bool false)], args := [d1, d2] }
  | _ => none }
def SessionNobodyWrongFalsely : Prop := sessionNobodyRow.holds Try.pinned (OpenSpec.ofChange sessionNobodyWrong)

/- THE SECOND FORM. 'bulk': how many values and letters a reading holds, each counted each time it is reached (what is shared counts as often as it is met; a slice's spare places count too). A statement '..UptoSaid' is the law's where the arguments, and the package variables that the reading takes, are together of bulk at most 1048576: NARROWER than '..Said'. Prove '..Said' where nothing that the law and all that it calls make is longer than what came in: it says more and counts as full. Else prove '..UptoSaid'. A law counts once. -/
mutual
def uptoBulk {H : Type} : DataW H → Nat
  | .lit (.string bytes) => bytes.length + 1
  | .lit _ => 1
  | .nil => 1
  | .ptr d => uptoBulk d + 1
  | .slice elems spare => uptoBulkAll elems + uptoBulkAll spare + 1
  | .agg parts => uptoBulkAll parts + 1
  | .iface _ d => uptoBulk d + 1
  | .map entries => uptoBulkEntries entries + 1
  | .held _ => 1
def uptoBulkAll {H : Type} : List (DataW H) → Nat
  | [] => 0
  | d :: r => uptoBulk d + uptoBulkAll r
def uptoBulkEntries {H : Type} : List (Lit × DataW H) → Nat
  | [] => 0
  | x :: r => uptoBulkEntry x + uptoBulkEntries r
def uptoBulkEntry {H : Type} : Lit × DataW H → Nat
  | (.string bytes, d) => bytes.length + uptoBulk d + 1
  | (_, d) => uptoBulk d + 1
 end
def uptoSmall : (H : Type) → List (DataW H) → Bool := fun _ ds => decide (uptoBulkAll ds ≤ 1048576)
def OpenSpec.upto (s : _root_.Go.ChangeSpec) : _root_.Go.OpenSpec := { _root_.Go.OpenSpec.ofChange s with cond := some uptoSmall }

/-- 'postroadlaw15.SessionOnce', WHERE WHAT IT READS IS OF BULK AT MOST 1048576: true; the input reads as it did. -/
def sessionOnceUptoRow : OpenClaim := { program := "ytllgaikgpfionaa", sum := "13918ce9449e0037c26ec4f4ef9dcc3133d4dbb6f4648d7ddbcceffef97f66a7", func := "postroad/postroadlaw15.SessionOnce", spec := "sessionOnce", inPlace := ["internal/abi.NoEscape"], unfollowed := true, recurses := true, plainKeys := false, apart := false, narrowed := true }
def SessionOnceUptoSaid : Prop := sessionOnceUptoRow.holds Try.pinned (OpenSpec.upto sessionOnceSpec)

/-- 'postroadlaw15.SessionQueue', WHERE WHAT IT READS IS OF BULK AT MOST 1048576: true; the input reads as it did. -/
def sessionQueueUptoRow : OpenClaim := { program := "ytllgaikgpfionaa", sum := "13918ce9449e0037c26ec4f4ef9dcc3133d4dbb6f4648d7ddbcceffef97f66a7", func := "postroad/postroadlaw15.SessionQueue", spec := "sessionQueue", inPlace := ["internal/abi.NoEscape"], unfollowed := true, recurses := true, plainKeys := false, apart := false, narrowed := true }
def SessionQueueUptoSaid : Prop := sessionQueueUptoRow.holds Try.pinned (OpenSpec.upto sessionQueueSpec)

/-- 'postroadlaw15.SessionLarge', WHERE WHAT IT READS IS OF BULK AT MOST 1048576: true; the input reads as it did. -/
def sessionLargeUptoRow : OpenClaim := { program := "ytllgaikgpfionaa", sum := "13918ce9449e0037c26ec4f4ef9dcc3133d4dbb6f4648d7ddbcceffef97f66a7", func := "postroad/postroadlaw15.SessionLarge", spec := "sessionLarge", inPlace := ["internal/abi.NoEscape"], unfollowed := true, recurses := true, plainKeys := false, apart := false, narrowed := true }
def SessionLargeUptoSaid : Prop := sessionLargeUptoRow.holds Try.pinned (OpenSpec.upto sessionLargeSpec)

/-- 'postroadlaw15.SessionForgets', WHERE WHAT IT READS IS OF BULK AT MOST 1048576: true; the input reads as it did. -/
def sessionForgetsUptoRow : OpenClaim := { program := "ytllgaikgpfionaa", sum := "13918ce9449e0037c26ec4f4ef9dcc3133d4dbb6f4648d7ddbcceffef97f66a7", func := "postroad/postroadlaw15.SessionForgets", spec := "sessionForgets", inPlace := ["internal/abi.NoEscape"], unfollowed := true, recurses := true, plainKeys := false, apart := false, narrowed := true }
def SessionForgetsUptoSaid : Prop := sessionForgetsUptoRow.holds Try.pinned (OpenSpec.upto sessionForgetsSpec)

/-- 'postroadlaw15.SessionNobody', WHERE WHAT IT READS IS OF BULK AT MOST 1048576: true; the input reads as it did. -/
def sessionNobodyUptoRow : OpenClaim := { program := "ytllgaikgpfionaa", sum := "13918ce9449e0037c26ec4f4ef9dcc3133d4dbb6f4648d7ddbcceffef97f66a7", func := "postroad/postroadlaw15.SessionNobody", spec := "sessionNobody", inPlace := ["internal/abi.NoEscape"], unfollowed := true, recurses := true, plainKeys := false, apart := false, narrowed := true }
def SessionNobodyUptoSaid : Prop := sessionNobodyUptoRow.holds Try.pinned (OpenSpec.upto sessionNobodySpec)

end Rows
end Go.Proofs.Ytllgaikgpfionaa
