/-
  An abstract machine: the tables that are known ahead: those of unicode/utf8.
-/
import GoSem.Claim
import GoSem.PinnedTables
namespace Go.Am
/-- global variables that are never written, by their blocks -/
def tabs : List (Nat × List Value) := [(1, Go.Pinned.utf8FirstZ.map fun (n : Nat) => .int .u8 n), (2, ([128, 191, 160, 191, 128, 159, 144, 191, 128, 143, 0, 0, 0, 0, 0, 0, 0, 0, 0, 0, 0, 0, 0, 0, 0, 0, 0, 0, 0, 0, 0, 0] : List Nat).map fun (n : Nat) => .int .u8 n)]
end Go.Am
