/- ViewNil: what the evaluator of the parts Det is handed: the contract of the one function without a body. No condition. -/
import Derived.Test.YtddblfiinmbifaaGreatProg
import Derived.Test.YtddblfiinmbifaaGreatDetZ4
import Derived.KernelRfl
namespace Go.Proofs.YtddblfiinmbifaaGreat
open Go.Det

theorem mixed : Tryz.prog.follows .mixedOrders = true := by kernel_rfl

theorem cmp_ok : OrcOk Tryz.prog (orc1 373 cmpM) :=
  orc1_ok (cmpM_ok (fn := Tryz.f373) Tryz.func373 (by kernel_rfl) (by kernel_rfl) (by kernel_rfl) (by kernel_rfl))

theorem body3 : bodied (tbOf Tryz.prog) 3 = true := by kernel_rfl

end Go.Proofs.YtddblfiinmbifaaGreat
namespace Go.Proofs.YtddblfiinmbifaaGreat
