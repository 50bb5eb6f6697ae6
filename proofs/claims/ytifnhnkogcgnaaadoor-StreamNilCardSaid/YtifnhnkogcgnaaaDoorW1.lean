/- The law StreamNil, run by the evaluator at any number, returns true. -/
import Derived.Test.YtifnhnkogcgnaaaDoorW0
namespace Go.Proofs.YtifnhnkogcgnaaaDoor
open Go.Am
theorem nil_run (n : Int) : runFn Tryd.prog (fun _ => false) 1000 30 5 [.v (.int .i64 n)] [] = some (.v (.bool true), [], 0) := by kernel_rfl
theorem nil_ret (n : Int) : ARet Tryd.prog 5 [.v (.int .i64 n)] [] [] (.v (.bool true)) [] := (runFn_sound mixed _ _ _ _ _ _ _ _ _ (nil_run n)).1
end Go.Proofs.YtifnhnkogcgnaaaDoor
