-- machine text of this session's own
import Derived.Test.YtllgaikgpfionaaFnx0
import Derived.Test.YtllgaikgpfionaaFnx1
import Derived.Test.YtllgaikgpfionaaHBytes
namespace Go.Proofs.Ytllgaikgpfionaa.Fn
open Go.RowKit Go.Proofs.YtllgaikgpfionaaW.PrintWords Go.Proofs.YtllgaikgpfionaaW.PrintLast Go.Proofs.YtllgaikgpfionaaW.PrintMore
attribute [local go_sem] max2_int min2_int max_two min_two max_three min_three max_four min_four   -- for this text's walks alone
set_option linter.unusedVariables false
set_option linter.unusedSimpArgs false

/-! ### hand: function 31 -/
def record_Bytes.f (l0 : List (S48)) (a1 : Int) : Option (ByteArray × Int) := RB.recBytes l0 a1
theorem record_Bytes.calls (A0 : Option Addr) (c0 : Nat) (l0 : List (S48)) (a1 : Int) (r1 : ByteArray) (r2 : Int) (w : World) (hr0 : Kd.C k48 w A0 l0.length l0) (hc0 : l0.length ≤ c0) (h : record_Bytes.f l0 a1 = some (r1, r2)) :
    Calls Try.prog 31 #[.slice A0 l0.length c0, .int .i64 a1] w fun e w' => e = .returned (.tuple #[.string r1, .int .i64 r2]) ∧ Below w.heap.size w w' := RB.bytes_any A0 c0 l0 a1 r1 r2 w hr0 hc0 h

end Go.Proofs.Ytllgaikgpfionaa.Fn
