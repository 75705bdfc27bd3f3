/- ViewNil: the evaluator of the parts Det, over the given program, answers true whatever the two arguments are. No condition. -/
import Derived.Test.YtddblfiinmbifaaGreatProg
import Derived.Test.YtddblfiinmbifaaGreatDetZ4
import Derived.KernelRfl
namespace Go.Proofs.YtddblfiinmbifaaGreat
open Go.Det
set_option maxRecDepth 1000000 in
theorem vn (page : Int) (s : ByteArray) : isTrueK Tryz.prog (tbOf Tryz.prog) (orc1 373 cmpM) 100000 60 3 [.int .i64 page, .string s] = true := by kernel_rfl
end Go.Proofs.YtddblfiinmbifaaGreat
