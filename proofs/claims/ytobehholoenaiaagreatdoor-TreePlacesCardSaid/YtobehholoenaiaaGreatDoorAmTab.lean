/-
  An abstract machine: the tables that are known ahead: none.
-/
import GoSem.Claim
namespace Go.Am
/-- global variables that are never written, by their blocks -/
def tabs : List (Nat × List Value) := []
end Go.Am
