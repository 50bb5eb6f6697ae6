/- The program's check of that net. -/
import Derived.Test.YtdkhdmlidlffeaaGreatDoorR2
namespace Go.Proofs.YtdkhdmlidlffeaaGreatDoor
open Go.Am
theorem check_ret : ARet Tryz.prog 21 [nF] [] [] (.v (.int .i64 0)) [] :=
  ret_of_run (t1 := ⟨0, [], []⟩) (runFn_ok mixed (fun _ => false) 3000 60) (by kernel_rfl : runFn Tryz.prog (fun _ => false) 3000 60 21 [nF] .e 0 ⟨0, [], []⟩ = .ret (.v (.int .i64 0)) .e 0 ⟨0, [], []⟩) rfl
end Go.Proofs.YtdkhdmlidlffeaaGreatDoor
