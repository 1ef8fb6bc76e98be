-- machine text of this session's own
import Derived.Test.YtjdicocmajjojaaFnx0
import Derived.Test.YtjdicocmajjojaaFnx1
import Derived.Test.YtjdicocmajjojaaFnx2
import Derived.Test.YtjdicocmajjojaaFnx3
import Derived.Test.YtjdicocmajjojaaFnb
import Derived.Test.YtjdicocmajjojaaHOf
namespace Go.Proofs.Ytjdicocmajjojaa.Fn
open Go.RowKit Go.Proofs.YtjdicocmajjojaaW.PrintWords Go.Proofs.YtjdicocmajjojaaW.PrintLast Go.Proofs.YtjdicocmajjojaaW.PrintMore
attribute [local go_sem] max2_int min2_int max_two min_two max_three min_three max_four min_four   -- for this text's walks alone
set_option linter.unusedVariables false
set_option linter.unusedSimpArgs false

/-! ### record_Of: function 14 -/
def record_Of.f (a0 : ByteArray) (a1 : Int) (a2 : Int) : Option ((List (S28)) × Int) := RO.recOf a0 a1 a2
theorem record_Of.calls (a0 : ByteArray) (a1 : Int) (a2 : Int) (r1 : List (S28)) (r2 : Int) (w : World) (h : record_Of.f a0 a1 a2 = some (r1, r2)) :
    Calls Try.prog 14 #[.string a0, .int .i64 a1, .int .i64 a2] w fun e w' => ∃ v0_ : Value, e = .returned (.tuple #[v0_, .int .i64 r2]) ∧ Kd.R k28 28 w' w.heap.size (fun _ => True) v0_ r1 ∧ Below w.heap.size w w' := RO.of_any a0 a1 a2 r1 r2 w h

end Go.Proofs.Ytjdicocmajjojaa.Fn
