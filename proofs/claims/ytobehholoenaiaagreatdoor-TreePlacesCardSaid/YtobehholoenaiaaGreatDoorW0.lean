/- The law package's own small function wakes, run by the evaluator of AmR, AmS, returns true. -/
import Derived.Test.YtobehholoenaiaaGreatDoorRows
import Derived.Test.YtobehholoenaiaaGreatDoorAmY
namespace Go.Proofs.YtobehholoenaiaaGreatDoor
open Go.Am
theorem mixed : Tryz.prog.follows .mixedOrders = true := by kernel_rfl
theorem wakes_run : runFn Tryz.prog (fun _ => false) 3000 60 6 [] .e 0 ⟨0, [], []⟩ = .ret (.v (.bool true)) .e 0 ⟨0, [], []⟩ := by kernel_rfl
theorem wakes_ret : ARet Tryz.prog 6 [] [] [] (.v (.bool true)) [] := ret_of_run (runFn_ok mixed _ _ _) wakes_run rfl
end Go.Proofs.YtobehholoenaiaaGreatDoor
