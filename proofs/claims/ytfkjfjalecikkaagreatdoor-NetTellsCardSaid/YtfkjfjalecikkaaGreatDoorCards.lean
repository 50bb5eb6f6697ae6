/-
  DERIVED. GIVEN WITH THE SEED: THE CARDS: each row of YtfkjfjalecikkaaGreatDoorRows.lean that lists a variable, with what it lists TIED to the program's text (the seventh form; the later family's looks); each row that meets fmt, with fmt's text TOLD by the authors' own Lean function (tested against real Go, not proved from fmt's source: count such statements apart). THE CARD IS WHAT COUNTS. Prove the row's statement (the work); the ties are given (YtfkjfjalecikkaaGreatDoorTie.lean); close each card by the builder's one call (the guide's Derived/Test/ToyasCard.lean, 'card_holds'). Laid BY PROGRAM, IN A SANDBOX (cutbox-door.mjs). By AI agents, Wed Nov 11 2026. No macro, syntax, notation, axiom, sorry.
-/
import Derived.Test.YtfkjfjalecikkaaGreatDoorRows
import GoSem.ClaimSeven
namespace Go.Proofs.YtfkjfjalecikkaaGreatDoor
namespace Rows

/-- THE TIED CARD OF 'pollardlaw11.NetChecks'. -/
def netChecksCard : Claim7 := { stood := { row := netChecksRow, standIns := [], harness := (true, "352534e2f26a91c51b9674b3e344fffa23aae5d03246572f1cb5792805ff02f3"), looks := false }, kinds := [], alts := [], laidByText := true, laidKinds := [.data, .data, .data], laidTests := true, laidLooks := .later }
def NetChecksCardSaid : Prop := Claim7.holds Tryz.pinned (.plain (OpenSpec.ofChange netChecksSpec)) netChecksCard

/-- THE TIED CARD OF 'pollardlaw11.NetEnds'. -/
def netEndsCard : Claim7 := { stood := { row := netEndsRow, standIns := [], harness := (true, "352534e2f26a91c51b9674b3e344fffa23aae5d03246572f1cb5792805ff02f3"), looks := false }, kinds := [], alts := [], laidByText := true, laidKinds := [.data, .data, .data], laidTests := true, laidLooks := .later }
def NetEndsCardSaid : Prop := Claim7.holds Tryz.pinned (.plain (OpenSpec.ofChange netEndsSpec)) netEndsCard

/-- THE TIED CARD OF 'pollardlaw11.NetTells'. -/
def netTellsCard : Claim7 := { stood := { row := netTellsRow, standIns := [], harness := (true, "352534e2f26a91c51b9674b3e344fffa23aae5d03246572f1cb5792805ff02f3"), looks := false }, kinds := [], alts := [], laidByText := true, laidKinds := [.data, .data, .data], laidTests := true, laidLooks := .later }
def NetTellsCardSaid : Prop := Claim7.holds Tryz.pinned (.plain (OpenSpec.ofChange netTellsSpec)) netTellsCard

/-- THE SECOND FORM's CARD OF 'pollardlaw11.NetChecks'. -/
def netChecksUptoCard : Claim7 := { stood := { row := netChecksUptoRow, standIns := [], harness := (true, "352534e2f26a91c51b9674b3e344fffa23aae5d03246572f1cb5792805ff02f3"), looks := false }, kinds := [], alts := [], laidByText := true, laidKinds := [.data, .data, .data], laidTests := true, laidLooks := .later }
def NetChecksUptoCardSaid : Prop := Claim7.holds Tryz.pinned (.plain (OpenSpec.upto netChecksSpec)) netChecksUptoCard

/-- THE SECOND FORM's CARD OF 'pollardlaw11.NetEnds'. -/
def netEndsUptoCard : Claim7 := { stood := { row := netEndsUptoRow, standIns := [], harness := (true, "352534e2f26a91c51b9674b3e344fffa23aae5d03246572f1cb5792805ff02f3"), looks := false }, kinds := [], alts := [], laidByText := true, laidKinds := [.data, .data, .data], laidTests := true, laidLooks := .later }
def NetEndsUptoCardSaid : Prop := Claim7.holds Tryz.pinned (.plain (OpenSpec.upto netEndsSpec)) netEndsUptoCard

/-- THE SECOND FORM's CARD OF 'pollardlaw11.NetTells'. -/
def netTellsUptoCard : Claim7 := { stood := { row := netTellsUptoRow, standIns := [], harness := (true, "352534e2f26a91c51b9674b3e344fffa23aae5d03246572f1cb5792805ff02f3"), looks := false }, kinds := [], alts := [], laidByText := true, laidKinds := [.data, .data, .data], laidTests := true, laidLooks := .later }
def NetTellsUptoCardSaid : Prop := Claim7.holds Tryz.pinned (.plain (OpenSpec.upto netTellsSpec)) netTellsUptoCard
end Rows
end Go.Proofs.YtfkjfjalecikkaaGreatDoor
