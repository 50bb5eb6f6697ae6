/- The law PackNumbers, run by the evaluator at any number of each size, its comparisons told: what it answers, and what must be true for that. -/
import Derived.Test.YtkpdnjhkmjnnaaaGreatW0
import Derived.Test.YtkpdnjhkmjnnaaaGreatN0
namespace Go.Proofs.YtkpdnjhkmjnnaaaGreat
open Go.Am
def pu7 : FuncId → Bool := fun f => Nat.beq f 7
noncomputable def callN : CallF := runOne Tryz.prog pu7 3000 (known 7 (.v (.bool true)) (runFn Tryz.prog pu7 3000 60))
theorem callN_ok : CallOk Tryz.prog callN := runOne_ok (known_ok wakes (runFn_ok mixed _ _ _)) mixed _ _
theorem run1 (x : Int) (more : List (List AV)) : callN 5 [.v (.int .u64 x), .sl 1 more] .e 0 ⟨0, guides 1, []⟩ = .ret (.v (.bool true)) .e 0 ⟨0, [true], (asks 1 x more).reverse⟩ := by kernel_rfl
theorem run2 (x : Int) (more : List (List AV)) : callN 5 [.v (.int .u64 x), .sl 1 more] .e 0 ⟨0, guides 2, []⟩ = .ret (.v (.bool true)) .e 0 ⟨0, [true], (asks 2 x more).reverse⟩ := by kernel_rfl
theorem run3 (x : Int) (more : List (List AV)) : callN 5 [.v (.int .u64 x), .sl 1 more] .e 0 ⟨0, guides 3, []⟩ = .ret (.v (.bool true)) .e 0 ⟨0, [true], (asks 3 x more).reverse⟩ := by kernel_rfl
theorem run4 (x : Int) (more : List (List AV)) : callN 5 [.v (.int .u64 x), .sl 1 more] .e 0 ⟨0, guides 4, []⟩ = .ret (.v (.bool true)) .e 0 ⟨0, [true], (asks 4 x more).reverse⟩ := by kernel_rfl
theorem run5 (x : Int) (more : List (List AV)) : callN 5 [.v (.int .u64 x), .sl 1 more] .e 0 ⟨0, guides 5, []⟩ = .ret (.v (.bool true)) .e 0 ⟨0, [true], (asks 5 x more).reverse⟩ := by kernel_rfl
theorem run6 (x : Int) (more : List (List AV)) : callN 5 [.v (.int .u64 x), .sl 1 more] .e 0 ⟨0, guides 6, []⟩ = .ret (.v (.bool true)) .e 0 ⟨0, [true], (asks 6 x more).reverse⟩ := by kernel_rfl
theorem run7 (x : Int) (more : List (List AV)) : callN 5 [.v (.int .u64 x), .sl 1 more] .e 0 ⟨0, guides 7, []⟩ = .ret (.v (.bool true)) .e 0 ⟨0, [true], (asks 7 x more).reverse⟩ := by kernel_rfl
theorem run8 (x : Int) (more : List (List AV)) : callN 5 [.v (.int .u64 x), .sl 1 more] .e 0 ⟨0, guides 8, []⟩ = .ret (.v (.bool true)) .e 0 ⟨0, [true], (asks 8 x more).reverse⟩ := by kernel_rfl
theorem run9 (x : Int) (more : List (List AV)) : callN 5 [.v (.int .u64 x), .sl 1 more] .e 0 ⟨0, guides 9, []⟩ = .ret (.v (.bool true)) .e 0 ⟨0, [true], (asks 9 x more).reverse⟩ := by kernel_rfl
theorem run_big (x : Int) (more : List (List AV)) : callN 5 [.v (.int .u64 x), .sl 1 more] .e 0 ⟨0, [true, true, true, true], []⟩ = .ret (.v (.bool true)) .e 0 ⟨0, [true], [true, decide (x ≥ 9223372036854775808), x.fdiv (2 ^ 63) != 0]⟩ := by kernel_rfl
end Go.Proofs.YtkpdnjhkmjnnaaaGreat
