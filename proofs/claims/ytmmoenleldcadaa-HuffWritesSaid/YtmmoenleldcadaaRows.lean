/-
  No cell of these rows narrows 'for every input' (looked for: loops, veiled, ifaces, maps, wideKeys, modest, calm, conditions, laid).
  DERIVED. THE GIVEN ROWS OF THIS SEAT. 8 by the template 'for every input the law returns true; each argument reads behind the call as it read before'; 0 by the template 'total and deterministic' (their statements: YtmmoenleldcadaaTotals.lean).
  GIVEN WITH THE SEED: the statements are not yours to turn. If you find one false, say at which input.
  Laid BY PROGRAM, IN A SANDBOX (cutbox-rows.mjs): the forced cells as the released guide's own fill.sh prints them over the translation 6ddae3dedd08944f… (all of the seat's roots in one cut). By AI agents, Wed Nov 11 2026. No macro, syntax, notation, axiom, sorry.
-/
import Derived.Test.YtmmoenleldcadaaChecked
import GoSem.Claim
import GoSem.ClaimJoined
import GoSem.ClaimMapViews
import Derived.JoinedTies
import Derived.KernelRfl
namespace Go.Proofs.Ytmmoenleldcadaa
/- THE CELL 'sum', in the pinned program and in every row, IS THE sha256 OF THE DUMP (.gsa) THAT YtmmoenleldcadaaProg.lean LOADS. Nothing in Lean hashes anything: it is a label: what it is worth is what the hold of that sum in a sandbox is worth. -/
noncomputable def Try.pinned : Pinned := { name := "ytmmoenleldcadaa", sum := "6ddae3dedd08944f4cd3678b22bf325510783e58a9f3a11da7079875358f1515", checked := Try.checked }
namespace Rows
def none {H : Type} : Left H := { results := [], args := [] }

/-- 'postroadlaw03.HuffLengths': WHATEVER THE INPUT: true; the input reads as it did. -/
def huffLengthsSpec : ChangeSpec := { name := "huffLengths", fn := fun _ => fun
  | [d1, d2] => { results := [.lit (.bool true)], args := [d1, d2] }
  | _ => none }
def huffLengthsRow : OpenClaim := { program := "ytmmoenleldcadaa", sum := "6ddae3dedd08944f4cd3678b22bf325510783e58a9f3a11da7079875358f1515", func := "postroad/postroadlaw03.HuffLengths", spec := "huffLengths", unfollowed := true, recurses := true, apart := false }
def HuffLengthsSaid : Prop := huffLengthsRow.holds Try.pinned (OpenSpec.ofChange huffLengthsSpec)

/-- ITS FALSE NEIGHBOUR: 'it returns false'. Refute it at one input. -/
def huffLengthsWrong : ChangeSpec := { name := "huffLengths", fn := fun _ => fun
  | [d1, d2] => { results := [.lit (.bool false)], args := [d1, d2] }
  | _ => none }
def HuffLengthsWrongFalsely : Prop := huffLengthsRow.holds Try.pinned (OpenSpec.ofChange huffLengthsWrong)

/-- 'postroadlaw03.HuffApart': WHATEVER THE INPUT: true; the input reads as it did. -/
def huffApartSpec : ChangeSpec := { name := "huffApart", fn := fun _ => fun
  | [d] => { results := [.lit (.bool true)], args := [d] }
  | _ => none }
def huffApartRow : OpenClaim := { program := "ytmmoenleldcadaa", sum := "6ddae3dedd08944f4cd3678b22bf325510783e58a9f3a11da7079875358f1515", func := "postroad/postroadlaw03.HuffApart", spec := "huffApart", unfollowed := true, recurses := true, apart := false }
def HuffApartSaid : Prop := huffApartRow.holds Try.pinned (OpenSpec.ofChange huffApartSpec)

/-- ITS FALSE NEIGHBOUR: 'it returns false'. Refute it at one input. -/
def huffApartWrong : ChangeSpec := { name := "huffApart", fn := fun _ => fun
  | [d] => { results := [.lit (.bool false)], args := [d] }
  | _ => none }
def HuffApartWrongFalsely : Prop := huffApartRow.holds Try.pinned (OpenSpec.ofChange huffApartWrong)

/-- 'postroadlaw03.HuffOrder': WHATEVER THE INPUT: true; the input reads as it did. -/
def huffOrderSpec : ChangeSpec := { name := "huffOrder", fn := fun _ => fun
  | [d1, d2] => { results := [.lit (.bool true)], args := [d1, d2] }
  | _ => none }
def huffOrderRow : OpenClaim := { program := "ytmmoenleldcadaa", sum := "6ddae3dedd08944f4cd3678b22bf325510783e58a9f3a11da7079875358f1515", func := "postroad/postroadlaw03.HuffOrder", spec := "huffOrder", unfollowed := true, recurses := true, apart := false }
def HuffOrderSaid : Prop := huffOrderRow.holds Try.pinned (OpenSpec.ofChange huffOrderSpec)

/-- ITS FALSE NEIGHBOUR: 'it returns false'. Refute it at one input. -/
def huffOrderWrong : ChangeSpec := { name := "huffOrder", fn := fun _ => fun
  | [d1, d2] => { results := [.lit (.bool false)], args := [d1, d2] }
  | _ => none }
def HuffOrderWrongFalsely : Prop := huffOrderRow.holds Try.pinned (OpenSpec.ofChange huffOrderWrong)

/-- 'postroadlaw03.HuffCodes': WHATEVER THE INPUT: true; the input reads as it did. -/
def huffCodesSpec : ChangeSpec := { name := "huffCodes", fn := fun _ => fun
  | [d1, d2] => { results := [.lit (.bool true)], args := [d1, d2] }
  | _ => none }
def huffCodesRow : OpenClaim := { program := "ytmmoenleldcadaa", sum := "6ddae3dedd08944f4cd3678b22bf325510783e58a9f3a11da7079875358f1515", func := "postroad/postroadlaw03.HuffCodes", spec := "huffCodes", unfollowed := true, recurses := true, apart := false }
def HuffCodesSaid : Prop := huffCodesRow.holds Try.pinned (OpenSpec.ofChange huffCodesSpec)

/-- ITS FALSE NEIGHBOUR: 'it returns false'. Refute it at one input. -/
def huffCodesWrong : ChangeSpec := { name := "huffCodes", fn := fun _ => fun
  | [d1, d2] => { results := [.lit (.bool false)], args := [d1, d2] }
  | _ => none }
def HuffCodesWrongFalsely : Prop := huffCodesRow.holds Try.pinned (OpenSpec.ofChange huffCodesWrong)

/-- 'postroadlaw03.HuffWider': WHATEVER THE INPUT: true; the input reads as it did. -/
def huffWiderSpec : ChangeSpec := { name := "huffWider", fn := fun _ => fun
  | [d1, d2, d3] => { results := [.lit (.bool true)], args := [d1, d2, d3] }
  | _ => none }
def huffWiderRow : OpenClaim := { program := "ytmmoenleldcadaa", sum := "6ddae3dedd08944f4cd3678b22bf325510783e58a9f3a11da7079875358f1515", func := "postroad/postroadlaw03.HuffWider", spec := "huffWider", unfollowed := true, recurses := true, apart := false }
def HuffWiderSaid : Prop := huffWiderRow.holds Try.pinned (OpenSpec.ofChange huffWiderSpec)

/-- ITS FALSE NEIGHBOUR: 'it returns false'. Refute it at one input. -/
def huffWiderWrong : ChangeSpec := { name := "huffWider", fn := fun _ => fun
  | [d1, d2, d3] => { results := [.lit (.bool false)], args := [d1, d2, d3] }
  | _ => none }
def HuffWiderWrongFalsely : Prop := huffWiderRow.holds Try.pinned (OpenSpec.ofChange huffWiderWrong)

/-- 'postroadlaw03.HuffReads': WHATEVER THE INPUT: true; the input reads as it did. -/
def huffReadsSpec : ChangeSpec := { name := "huffReads", fn := fun _ => fun
  | [d1, d2, d3] => { results := [.lit (.bool true)], args := [d1, d2, d3] }
  | _ => none }
def huffReadsRow : OpenClaim := { program := "ytmmoenleldcadaa", sum := "6ddae3dedd08944f4cd3678b22bf325510783e58a9f3a11da7079875358f1515", func := "postroad/postroadlaw03.HuffReads", spec := "huffReads", unfollowed := true, recurses := true, apart := false }
def HuffReadsSaid : Prop := huffReadsRow.holds Try.pinned (OpenSpec.ofChange huffReadsSpec)

/-- ITS FALSE NEIGHBOUR: 'it returns false'. Refute it at one input. -/
def huffReadsWrong : ChangeSpec := { name := "huffReads", fn := fun _ => fun
  | [d1, d2, d3] => { results := [.lit (.bool false)], args := [d1, d2, d3] }
  | _ => none }
def HuffReadsWrongFalsely : Prop := huffReadsRow.holds Try.pinned (OpenSpec.ofChange huffReadsWrong)

/-- 'postroadlaw03.HuffNobody': WHATEVER THE INPUT: true; the input reads as it did. -/
def huffNobodySpec : ChangeSpec := { name := "huffNobody", fn := fun _ => fun
  | [d] => { results := [.lit (.bool true)], args := [d] }
  | _ => none }
def huffNobodyRow : OpenClaim := { program := "ytmmoenleldcadaa", sum := "6ddae3dedd08944f4cd3678b22bf325510783e58a9f3a11da7079875358f1515", func := "postroad/postroadlaw03.HuffNobody", spec := "huffNobody", unfollowed := true, recurses := true, apart := false }
def HuffNobodySaid : Prop := huffNobodyRow.holds Try.pinned (OpenSpec.ofChange huffNobodySpec)

/-- ITS FALSE NEIGHBOUR: 'it returns false'. Refute it at one input. -/
def huffNobodyWrong : ChangeSpec := { name := "huffNobody", fn := fun _ => fun
  | [d] => { results := [.lit (.bool false)], args := [d] }
  | _ => none }
def HuffNobodyWrongFalsely : Prop := huffNobodyRow.holds Try.pinned (OpenSpec.ofChange huffNobodyWrong)

/-- 'postroadlaw03.HuffWrites': WHATEVER THE INPUT: true; the input reads as it did. -/
def huffWritesSpec : ChangeSpec := { name := "huffWrites", fn := fun _ => fun
  | [d1, d2] => { results := [.lit (.bool true)], args := [d1, d2] }
  | _ => none }
def huffWritesRow : OpenClaim := { program := "ytmmoenleldcadaa", sum := "6ddae3dedd08944f4cd3678b22bf325510783e58a9f3a11da7079875358f1515", func := "postroad/postroadlaw03.HuffWrites", spec := "huffWrites", unfollowed := true, recurses := true, apart := false }
def HuffWritesSaid : Prop := huffWritesRow.holds Try.pinned (OpenSpec.ofChange huffWritesSpec)

/-- ITS FALSE NEIGHBOUR: 'it returns false'. Refute it at one input. -/
def huffWritesWrong : ChangeSpec := { name := "huffWrites", fn := fun _ => fun
  | [d1, d2] => { results := [.lit (.bool false)], args := [d1, d2] }
  | _ => none }
def HuffWritesWrongFalsely : Prop := huffWritesRow.holds Try.pinned (OpenSpec.ofChange huffWritesWrong)

/- THE SECOND FORM. 'bulk': how many values and letters a reading holds, each counted each time it is reached (what is shared counts as often as it is met; a slice's spare places count too). A statement '..UptoSaid' is the law's where the arguments, and the package variables that the reading takes, are together of bulk at most 1048576: NARROWER than '..Said'. Prove '..Said' where nothing that the law and all that it calls make is longer than what came in: it says more and counts as full. Else prove '..UptoSaid'. A law counts once. -/
mutual
def uptoBulk {H : Type} : DataW H → Nat
  | .lit (.string bytes) => bytes.length + 1
  | .lit _ => 1
  | .nil => 1
  | .ptr d => uptoBulk d + 1
  | .slice elems spare => uptoBulkAll elems + uptoBulkAll spare + 1
  | .agg parts => uptoBulkAll parts + 1
  | .iface _ d => uptoBulk d + 1
  | .map entries => uptoBulkEntries entries + 1
  | .held _ => 1
def uptoBulkAll {H : Type} : List (DataW H) → Nat
  | [] => 0
  | d :: r => uptoBulk d + uptoBulkAll r
def uptoBulkEntries {H : Type} : List (Lit × DataW H) → Nat
  | [] => 0
  | x :: r => uptoBulkEntry x + uptoBulkEntries r
def uptoBulkEntry {H : Type} : Lit × DataW H → Nat
  | (.string bytes, d) => bytes.length + uptoBulk d + 1
  | (_, d) => uptoBulk d + 1
 end
def uptoSmall : (H : Type) → List (DataW H) → Bool := fun _ ds => decide (uptoBulkAll ds ≤ 1048576)
def OpenSpec.upto (s : _root_.Go.ChangeSpec) : _root_.Go.OpenSpec := { _root_.Go.OpenSpec.ofChange s with cond := some uptoSmall }

/-- 'postroadlaw03.HuffLengths', WHERE WHAT IT READS IS OF BULK AT MOST 1048576: true; the input reads as it did. -/
def huffLengthsUptoRow : OpenClaim := { program := "ytmmoenleldcadaa", sum := "6ddae3dedd08944f4cd3678b22bf325510783e58a9f3a11da7079875358f1515", func := "postroad/postroadlaw03.HuffLengths", spec := "huffLengths", unfollowed := true, recurses := true, apart := false, narrowed := true }
def HuffLengthsUptoSaid : Prop := huffLengthsUptoRow.holds Try.pinned (OpenSpec.upto huffLengthsSpec)

/-- 'postroadlaw03.HuffApart', WHERE WHAT IT READS IS OF BULK AT MOST 1048576: true; the input reads as it did. -/
def huffApartUptoRow : OpenClaim := { program := "ytmmoenleldcadaa", sum := "6ddae3dedd08944f4cd3678b22bf325510783e58a9f3a11da7079875358f1515", func := "postroad/postroadlaw03.HuffApart", spec := "huffApart", unfollowed := true, recurses := true, apart := false, narrowed := true }
def HuffApartUptoSaid : Prop := huffApartUptoRow.holds Try.pinned (OpenSpec.upto huffApartSpec)

/-- 'postroadlaw03.HuffOrder', WHERE WHAT IT READS IS OF BULK AT MOST 1048576: true; the input reads as it did. -/
def huffOrderUptoRow : OpenClaim := { program := "ytmmoenleldcadaa", sum := "6ddae3dedd08944f4cd3678b22bf325510783e58a9f3a11da7079875358f1515", func := "postroad/postroadlaw03.HuffOrder", spec := "huffOrder", unfollowed := true, recurses := true, apart := false, narrowed := true }
def HuffOrderUptoSaid : Prop := huffOrderUptoRow.holds Try.pinned (OpenSpec.upto huffOrderSpec)

/-- 'postroadlaw03.HuffCodes', WHERE WHAT IT READS IS OF BULK AT MOST 1048576: true; the input reads as it did. -/
def huffCodesUptoRow : OpenClaim := { program := "ytmmoenleldcadaa", sum := "6ddae3dedd08944f4cd3678b22bf325510783e58a9f3a11da7079875358f1515", func := "postroad/postroadlaw03.HuffCodes", spec := "huffCodes", unfollowed := true, recurses := true, apart := false, narrowed := true }
def HuffCodesUptoSaid : Prop := huffCodesUptoRow.holds Try.pinned (OpenSpec.upto huffCodesSpec)

/-- 'postroadlaw03.HuffWider', WHERE WHAT IT READS IS OF BULK AT MOST 1048576: true; the input reads as it did. -/
def huffWiderUptoRow : OpenClaim := { program := "ytmmoenleldcadaa", sum := "6ddae3dedd08944f4cd3678b22bf325510783e58a9f3a11da7079875358f1515", func := "postroad/postroadlaw03.HuffWider", spec := "huffWider", unfollowed := true, recurses := true, apart := false, narrowed := true }
def HuffWiderUptoSaid : Prop := huffWiderUptoRow.holds Try.pinned (OpenSpec.upto huffWiderSpec)

/-- 'postroadlaw03.HuffReads', WHERE WHAT IT READS IS OF BULK AT MOST 1048576: true; the input reads as it did. -/
def huffReadsUptoRow : OpenClaim := { program := "ytmmoenleldcadaa", sum := "6ddae3dedd08944f4cd3678b22bf325510783e58a9f3a11da7079875358f1515", func := "postroad/postroadlaw03.HuffReads", spec := "huffReads", unfollowed := true, recurses := true, apart := false, narrowed := true }
def HuffReadsUptoSaid : Prop := huffReadsUptoRow.holds Try.pinned (OpenSpec.upto huffReadsSpec)

/-- 'postroadlaw03.HuffNobody', WHERE WHAT IT READS IS OF BULK AT MOST 1048576: true; the input reads as it did. -/
def huffNobodyUptoRow : OpenClaim := { program := "ytmmoenleldcadaa", sum := "6ddae3dedd08944f4cd3678b22bf325510783e58a9f3a11da7079875358f1515", func := "postroad/postroadlaw03.HuffNobody", spec := "huffNobody", unfollowed := true, recurses := true, apart := false, narrowed := true }
def HuffNobodyUptoSaid : Prop := huffNobodyUptoRow.holds Try.pinned (OpenSpec.upto huffNobodySpec)

/-- 'postroadlaw03.HuffWrites', WHERE WHAT IT READS IS OF BULK AT MOST 1048576: true; the input reads as it did. -/
def huffWritesUptoRow : OpenClaim := { program := "ytmmoenleldcadaa", sum := "6ddae3dedd08944f4cd3678b22bf325510783e58a9f3a11da7079875358f1515", func := "postroad/postroadlaw03.HuffWrites", spec := "huffWrites", unfollowed := true, recurses := true, apart := false, narrowed := true }
def HuffWritesUptoSaid : Prop := huffWritesUptoRow.holds Try.pinned (OpenSpec.upto huffWritesSpec)

end Rows
end Go.Proofs.Ytmmoenleldcadaa
