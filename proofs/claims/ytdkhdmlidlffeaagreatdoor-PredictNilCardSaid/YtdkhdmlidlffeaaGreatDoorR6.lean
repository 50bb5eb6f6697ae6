/- No predictor does nothing. -/
import Derived.Test.YtdkhdmlidlffeaaGreatDoorR5
namespace Go.Proofs.YtdkhdmlidlffeaaGreatDoor
open Go.Am
noncomputable def kn7 : CallF := known 7 (.v (.bool true)) (runFn Tryz.prog (fun _ => false) 3000 60)
theorem kn7_ok : CallOk Tryz.prog kn7 := known_ok wakes_ret (runFn_ok mixed _ _ _)
theorem nil_run (a : Option Addr) (l c : Nat) (n : Int) : runOne Tryz.prog (fun _ => false) 3000 kn7 4 [.v (.slice a l c), .v (.int .i64 n)] .e 0 ⟨0, [], []⟩ = .ret (.v (.bool true)) .e 0 ⟨0, [], []⟩ := by kernel_rfl
theorem nil_ret (a : Option Addr) (l c : Nat) (n : Int) : ARet Tryz.prog 4 [.v (.slice a l c), .v (.int .i64 n)] [] [] (.v (.bool true)) [] :=
  ret_of_run (runOne_ok kn7_ok mixed _ _) (nil_run a l c n) rfl
end Go.Proofs.YtdkhdmlidlffeaaGreatDoor
