/-
  No cell of these rows narrows 'for every input' (looked for: loops, veiled, ifaces, maps, wideKeys, modest, calm, conditions, laid).
  DERIVED. THE GIVEN ROWS OF THIS SEAT. 7 by the template 'for every input the law returns true; each argument reads behind the call as it read before'; 0 by the template 'total and deterministic' (their statements: YtaghmhcccighgaaTotals.lean).
  GIVEN WITH THE SEED: the statements are not yours to turn. If you find one false, say at which input.
  Laid BY PROGRAM, IN A SANDBOX (cutbox-rows.mjs): the forced cells as the released guide's own fill.sh prints them over the translation e1cf2951bd85c981… (all of the seat's roots in one cut). By AI agents, Wed Nov 11 2026. No macro, syntax, notation, axiom, sorry.
-/
import Derived.Test.YtaghmhcccighgaaChecked
import GoSem.Claim
import GoSem.ClaimJoined
import GoSem.ClaimMapViews
import Derived.JoinedTies
import Derived.KernelRfl
namespace Go.Proofs.Ytaghmhcccighgaa
/- THE CELL 'sum', in the pinned program and in every row, IS THE sha256 OF THE DUMP (.gsa) THAT YtaghmhcccighgaaProg.lean LOADS. Nothing in Lean hashes anything: it is a label: what it is worth is what the hold of that sum in a sandbox is worth. -/
noncomputable def Try.pinned : Pinned := { name := "ytaghmhcccighgaa", sum := "e1cf2951bd85c9811fd893731513f4ade991579d76780583a913eee689d57d43", checked := Try.checked }
namespace Rows
def none {H : Type} : Left H := { results := [], args := [] }

/-- 'postroadlaw05.DeflateBack': WHATEVER THE INPUT: true; the input reads as it did. -/
def deflateBackSpec : ChangeSpec := { name := "deflateBack", fn := fun _ => fun
  | [d] => { results := [.lit (.bool true)], args := [d] }
  | _ => none }
def deflateBackRow : OpenClaim := { program := "ytaghmhcccighgaa", sum := "e1cf2951bd85c9811fd893731513f4ade991579d76780583a913eee689d57d43", func := "postroad/postroadlaw05.DeflateBack", spec := "deflateBack", unfollowed := true, recurses := true, plainKeys := false, apart := false }
def DeflateBackSaid : Prop := deflateBackRow.holds Try.pinned (OpenSpec.ofChange deflateBackSpec)

/-- ITS FALSE NEIGHBOUR: 'it returns false'. Refute it at one input. -/
def deflateBackWrong : ChangeSpec := { name := "deflateBack", fn := fun _ => fun
  | [d] => { results := [.lit (.bool false)], args := [d] }
  | _ => none }
def DeflateBackWrongFalsely : Prop := deflateBackRow.holds Try.pinned (OpenSpec.ofChange deflateBackWrong)

/-- 'postroadlaw05.DeflateStored': WHATEVER THE INPUT: true; the input reads as it did. -/
def deflateStoredSpec : ChangeSpec := { name := "deflateStored", fn := fun _ => fun
  | [d1, d2] => { results := [.lit (.bool true)], args := [d1, d2] }
  | _ => none }
def deflateStoredRow : OpenClaim := { program := "ytaghmhcccighgaa", sum := "e1cf2951bd85c9811fd893731513f4ade991579d76780583a913eee689d57d43", func := "postroad/postroadlaw05.DeflateStored", spec := "deflateStored", unfollowed := true, recurses := true, plainKeys := false, apart := false }
def DeflateStoredSaid : Prop := deflateStoredRow.holds Try.pinned (OpenSpec.ofChange deflateStoredSpec)

/-- ITS FALSE NEIGHBOUR: 'it returns false'. Refute it at one input. -/
def deflateStoredWrong : ChangeSpec := { name := "deflateStored", fn := fun _ => fun
  | [d1, d2] => { results := [.lit (.bool false)], args := [d1, d2] }
  | _ => none }
def DeflateStoredWrongFalsely : Prop := deflateStoredRow.holds Try.pinned (OpenSpec.ofChange deflateStoredWrong)

/-- 'postroadlaw05.DeflateAgain': WHATEVER THE INPUT: true; the input reads as it did. -/
def deflateAgainSpec : ChangeSpec := { name := "deflateAgain", fn := fun _ => fun
  | [d1, d2] => { results := [.lit (.bool true)], args := [d1, d2] }
  | _ => none }
def deflateAgainRow : OpenClaim := { program := "ytaghmhcccighgaa", sum := "e1cf2951bd85c9811fd893731513f4ade991579d76780583a913eee689d57d43", func := "postroad/postroadlaw05.DeflateAgain", spec := "deflateAgain", unfollowed := true, recurses := true, plainKeys := false, apart := false }
def DeflateAgainSaid : Prop := deflateAgainRow.holds Try.pinned (OpenSpec.ofChange deflateAgainSpec)

/-- ITS FALSE NEIGHBOUR: 'it returns false'. Refute it at one input. -/
def deflateAgainWrong : ChangeSpec := { name := "deflateAgain", fn := fun _ => fun
  | [d1, d2] => { results := [.lit (.bool false)], args := [d1, d2] }
  | _ => none }
def DeflateAgainWrongFalsely : Prop := deflateAgainRow.holds Try.pinned (OpenSpec.ofChange deflateAgainWrong)

/-- 'postroadlaw05.DeflateLong': WHATEVER THE INPUT: true; the input reads as it did. -/
def deflateLongSpec : ChangeSpec := { name := "deflateLong", fn := fun _ => fun
  | [d] => { results := [.lit (.bool true)], args := [d] }
  | _ => none }
def deflateLongRow : OpenClaim := { program := "ytaghmhcccighgaa", sum := "e1cf2951bd85c9811fd893731513f4ade991579d76780583a913eee689d57d43", func := "postroad/postroadlaw05.DeflateLong", spec := "deflateLong", unfollowed := true, recurses := true, plainKeys := false, apart := false }
def DeflateLongSaid : Prop := deflateLongRow.holds Try.pinned (OpenSpec.ofChange deflateLongSpec)

/-- ITS FALSE NEIGHBOUR: 'it returns false'. Refute it at one input. -/
def deflateLongWrong : ChangeSpec := { name := "deflateLong", fn := fun _ => fun
  | [d] => { results := [.lit (.bool false)], args := [d] }
  | _ => none }
def DeflateLongWrongFalsely : Prop := deflateLongRow.holds Try.pinned (OpenSpec.ofChange deflateLongWrong)

/-- 'postroadlaw05.DeflateKinds': WHATEVER THE INPUT: true; the input reads as it did. -/
def deflateKindsSpec : ChangeSpec := { name := "deflateKinds", fn := fun _ => fun
  | [d] => { results := [.lit (.bool true)], args := [d] }
  | _ => none }
def deflateKindsRow : OpenClaim := { program := "ytaghmhcccighgaa", sum := "e1cf2951bd85c9811fd893731513f4ade991579d76780583a913eee689d57d43", func := "postroad/postroadlaw05.DeflateKinds", spec := "deflateKinds", unfollowed := true, recurses := true, plainKeys := false, apart := false }
def DeflateKindsSaid : Prop := deflateKindsRow.holds Try.pinned (OpenSpec.ofChange deflateKindsSpec)

/-- ITS FALSE NEIGHBOUR: 'it returns false'. Refute it at one input. -/
def deflateKindsWrong : ChangeSpec := { name := "deflateKinds", fn := fun _ => fun
  | [d] => { results := [.lit (.bool false)], args := [d] }
  | _ => none }
def DeflateKindsWrongFalsely : Prop := deflateKindsRow.holds Try.pinned (OpenSpec.ofChange deflateKindsWrong)

/-- 'postroadlaw05.DeflateTwo': WHATEVER THE INPUT: true; the input reads as it did. -/
def deflateTwoSpec : ChangeSpec := { name := "deflateTwo", fn := fun _ => fun
  | [d] => { results := [.lit (.bool true)], args := [d] }
  | _ => none }
def deflateTwoRow : OpenClaim := { program := "ytaghmhcccighgaa", sum := "e1cf2951bd85c9811fd893731513f4ade991579d76780583a913eee689d57d43", func := "postroad/postroadlaw05.DeflateTwo", spec := "deflateTwo", unfollowed := true, recurses := true, plainKeys := false, apart := false }
def DeflateTwoSaid : Prop := deflateTwoRow.holds Try.pinned (OpenSpec.ofChange deflateTwoSpec)

/-- ITS FALSE NEIGHBOUR: 'it returns false'. Refute it at one input. -/
def deflateTwoWrong : ChangeSpec := { name := "deflateTwo", fn := fun _ => fun
  | [d] => { results := [.lit (.bool false)], args := [d] }
  | _ => none }
def DeflateTwoWrongFalsely : Prop := deflateTwoRow.holds Try.pinned (OpenSpec.ofChange deflateTwoWrong)

/-- 'postroadlaw05.DeflateFar': WHATEVER THE INPUT: true; the input reads as it did. -/
def deflateFarSpec : ChangeSpec := { name := "deflateFar", fn := fun _ => fun
  | [d1, d2] => { results := [.lit (.bool true)], args := [d1, d2] }
  | _ => none }
def deflateFarRow : OpenClaim := { program := "ytaghmhcccighgaa", sum := "e1cf2951bd85c9811fd893731513f4ade991579d76780583a913eee689d57d43", func := "postroad/postroadlaw05.DeflateFar", spec := "deflateFar", unfollowed := true, recurses := true, plainKeys := false, apart := false }
def DeflateFarSaid : Prop := deflateFarRow.holds Try.pinned (OpenSpec.ofChange deflateFarSpec)

/-- ITS FALSE NEIGHBOUR: 'it returns false'. Refute it at one input. -/
def deflateFarWrong : ChangeSpec := { name := "deflateFar", fn := fun _ => fun
  | [d1, d2] => { results := [.lit (.bool false)], args := [d1, d2] }
  | _ => none }
def DeflateFarWrongFalsely : Prop := deflateFarRow.holds Try.pinned (OpenSpec.ofChange deflateFarWrong)

/- THE SECOND FORM. 'bulk': how many values and letters a reading holds, each counted each time it is reached (what is shared counts as often as it is met; a slice's spare places count too). A statement '..UptoSaid' is the law's where the arguments, and the package variables that the reading takes, are together of bulk at most 1048576: NARROWER than '..Said'. Prove '..Said' where nothing that the law and all that it calls make is longer than what came in: it says more and counts as full. Else prove '..UptoSaid'. A law counts once. -/
mutual
def uptoBulk {H : Type} : DataW H → Nat
  | .lit (.string bytes) => bytes.length + 1
  | .lit _ => 1
  | .nil => 1
  | .ptr d => uptoBulk d + 1
  | .slice elems spare => uptoBulkAll elems + uptoBulkAll spare + 1
  | .agg parts => uptoBulkAll parts + 1
  | .iface _ d => uptoBulk d + 1
  | .map entries => uptoBulkEntries entries + 1
  | .held _ => 1
def uptoBulkAll {H : Type} : List (DataW H) → Nat
  | [] => 0
  | d :: r => uptoBulk d + uptoBulkAll r
def uptoBulkEntries {H : Type} : List (Lit × DataW H) → Nat
  | [] => 0
  | x :: r => uptoBulkEntry x + uptoBulkEntries r
def uptoBulkEntry {H : Type} : Lit × DataW H → Nat
  | (.string bytes, d) => bytes.length + uptoBulk d + 1
  | (_, d) => uptoBulk d + 1
 end
def uptoSmall : (H : Type) → List (DataW H) → Bool := fun _ ds => decide (uptoBulkAll ds ≤ 1048576)
def OpenSpec.upto (s : _root_.Go.ChangeSpec) : _root_.Go.OpenSpec := { _root_.Go.OpenSpec.ofChange s with cond := some uptoSmall }

/-- 'postroadlaw05.DeflateBack', WHERE WHAT IT READS IS OF BULK AT MOST 1048576: true; the input reads as it did. -/
def deflateBackUptoRow : OpenClaim := { program := "ytaghmhcccighgaa", sum := "e1cf2951bd85c9811fd893731513f4ade991579d76780583a913eee689d57d43", func := "postroad/postroadlaw05.DeflateBack", spec := "deflateBack", unfollowed := true, recurses := true, plainKeys := false, apart := false, narrowed := true }
def DeflateBackUptoSaid : Prop := deflateBackUptoRow.holds Try.pinned (OpenSpec.upto deflateBackSpec)

/-- 'postroadlaw05.DeflateStored', WHERE WHAT IT READS IS OF BULK AT MOST 1048576: true; the input reads as it did. -/
def deflateStoredUptoRow : OpenClaim := { program := "ytaghmhcccighgaa", sum := "e1cf2951bd85c9811fd893731513f4ade991579d76780583a913eee689d57d43", func := "postroad/postroadlaw05.DeflateStored", spec := "deflateStored", unfollowed := true, recurses := true, plainKeys := false, apart := false, narrowed := true }
def DeflateStoredUptoSaid : Prop := deflateStoredUptoRow.holds Try.pinned (OpenSpec.upto deflateStoredSpec)

/-- 'postroadlaw05.DeflateAgain', WHERE WHAT IT READS IS OF BULK AT MOST 1048576: true; the input reads as it did. -/
def deflateAgainUptoRow : OpenClaim := { program := "ytaghmhcccighgaa", sum := "e1cf2951bd85c9811fd893731513f4ade991579d76780583a913eee689d57d43", func := "postroad/postroadlaw05.DeflateAgain", spec := "deflateAgain", unfollowed := true, recurses := true, plainKeys := false, apart := false, narrowed := true }
def DeflateAgainUptoSaid : Prop := deflateAgainUptoRow.holds Try.pinned (OpenSpec.upto deflateAgainSpec)

/-- 'postroadlaw05.DeflateLong', WHERE WHAT IT READS IS OF BULK AT MOST 1048576: true; the input reads as it did. -/
def deflateLongUptoRow : OpenClaim := { program := "ytaghmhcccighgaa", sum := "e1cf2951bd85c9811fd893731513f4ade991579d76780583a913eee689d57d43", func := "postroad/postroadlaw05.DeflateLong", spec := "deflateLong", unfollowed := true, recurses := true, plainKeys := false, apart := false, narrowed := true }
def DeflateLongUptoSaid : Prop := deflateLongUptoRow.holds Try.pinned (OpenSpec.upto deflateLongSpec)

/-- 'postroadlaw05.DeflateKinds', WHERE WHAT IT READS IS OF BULK AT MOST 1048576: true; the input reads as it did. -/
def deflateKindsUptoRow : OpenClaim := { program := "ytaghmhcccighgaa", sum := "e1cf2951bd85c9811fd893731513f4ade991579d76780583a913eee689d57d43", func := "postroad/postroadlaw05.DeflateKinds", spec := "deflateKinds", unfollowed := true, recurses := true, plainKeys := false, apart := false, narrowed := true }
def DeflateKindsUptoSaid : Prop := deflateKindsUptoRow.holds Try.pinned (OpenSpec.upto deflateKindsSpec)

/-- 'postroadlaw05.DeflateTwo', WHERE WHAT IT READS IS OF BULK AT MOST 1048576: true; the input reads as it did. -/
def deflateTwoUptoRow : OpenClaim := { program := "ytaghmhcccighgaa", sum := "e1cf2951bd85c9811fd893731513f4ade991579d76780583a913eee689d57d43", func := "postroad/postroadlaw05.DeflateTwo", spec := "deflateTwo", unfollowed := true, recurses := true, plainKeys := false, apart := false, narrowed := true }
def DeflateTwoUptoSaid : Prop := deflateTwoUptoRow.holds Try.pinned (OpenSpec.upto deflateTwoSpec)

/-- 'postroadlaw05.DeflateFar', WHERE WHAT IT READS IS OF BULK AT MOST 1048576: true; the input reads as it did. -/
def deflateFarUptoRow : OpenClaim := { program := "ytaghmhcccighgaa", sum := "e1cf2951bd85c9811fd893731513f4ade991579d76780583a913eee689d57d43", func := "postroad/postroadlaw05.DeflateFar", spec := "deflateFar", unfollowed := true, recurses := true, plainKeys := false, apart := false, narrowed := true }
def DeflateFarUptoSaid : Prop := deflateFarUptoRow.holds Try.pinned (OpenSpec.upto deflateFarSpec)

end Rows
end Go.Proofs.Ytaghmhcccighgaa
