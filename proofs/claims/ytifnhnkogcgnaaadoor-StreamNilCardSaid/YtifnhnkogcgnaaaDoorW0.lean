/- The law package's own small function wakes, run by the evaluator of AmR, AmS, returns true. -/
import Derived.Test.YtifnhnkogcgnaaaDoorRows
import Derived.Test.YtifnhnkogcgnaaaDoorAmU
namespace Go.Proofs.YtifnhnkogcgnaaaDoor
open Go.Am
theorem mixed : Tryd.prog.follows .mixedOrders = true := by kernel_rfl
theorem wakes_run : runFn Tryd.prog (fun _ => false) 1000 30 7 [] [] = some (.v (.bool true), [], 0) := by kernel_rfl
theorem wakes : ARet Tryd.prog 7 [] [] [] (.v (.bool true)) [] := (runFn_sound mixed _ _ _ _ _ _ _ _ _ wakes_run).1
end Go.Proofs.YtifnhnkogcgnaaaDoor
