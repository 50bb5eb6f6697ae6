/-
  An abstract machine: which slice literals are never written again: none.
-/
import GoSem.Claim
namespace Go.Am
/-- slice literals that are never written again: their types, the slots they are put into -/
def frzT : List (Nat × Nat) := []
/-- functions whose results, where their arguments are plain, are never written again -/
def frzF : List Nat := []
end Go.Am
