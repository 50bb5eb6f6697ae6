/- What a predictor tells of that grammar. -/
import Derived.Test.YtdkhdmlidlffeaaGreatDoorR3
import Derived.Test.YtdkhdmlidlffeaaGreatDoorR4
namespace Go.Proofs.YtdkhdmlidlffeaaGreatDoor
open Go.Am
noncomputable def kn5 : CallF := known1 21 (fun args => args = [nF]) (fun _ => .v (.int .i64 0)) (runFn Tryz.prog (fun _ => false) 3000 60)
theorem kn5_ok : CallOk Tryz.prog kn5 := known1_ok (fun args h => by subst h; exact ⟨check_ret, rfl, rfl⟩) (runFn_ok mixed _ _ _)
noncomputable def kn6 : CallF := known 20 nF (runOne Tryz.prog (fun _ => false) 3000 kn5)
theorem kn6_ok : CallOk Tryz.prog kn6 := known_ok grammar_ret (runOne_ok kn5_ok mixed _ _)
theorem wakes_run : runOne Tryz.prog (fun _ => false) 3000 kn6 7 [] .e 0 ⟨0, [], []⟩ = .ret (.v (.bool true)) .e 0 ⟨0, [], [dec ([nF] = [nF])]⟩ := by kernel_rfl
theorem wakes_ret : ARet Tryz.prog 7 [] [] [] (.v (.bool true)) [] :=
  ret_of_run (runOne_ok kn6_ok mixed _ _) wakes_run (by
    have a : dec ([nF] = [nF]) = true := dec_true.2 rfl
    show (dec _ && true) = true
    rw [a]
    rfl)
end Go.Proofs.YtdkhdmlidlffeaaGreatDoor
