/-
  An abstract machine: which slice literals are never written again: those of law21.
-/
import GoSem.Claim
namespace Go.Am
/-- slice literals that are never written again: their types, the slots they are put into -/
def frzT : List (Nat × Nat) := [(214, 55), (36, 33), (36, 47), (83, 40)]
/-- functions whose results, where their arguments are plain, are never written again -/
def frzF : List Nat := [43, 44]
end Go.Am
