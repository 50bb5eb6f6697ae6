/-
  DERIVED. GIVEN WITH THE SEED: THE CARDS: each row of YtdkhdmlidlffeaaGreatDoorRows.lean that lists a variable, with what it lists TIED to the program's text (the seventh form; the later family's looks); each row that meets fmt, with fmt's text TOLD by the authors' own Lean function (tested against real Go, not proved from fmt's source: count such statements apart). THE CARD IS WHAT COUNTS. Prove the row's statement (the work); the ties are given (YtdkhdmlidlffeaaGreatDoorTie.lean); close each card by the builder's one call (the guide's Derived/Test/ToyasCard.lean, 'card_holds'). Laid BY PROGRAM, IN A SANDBOX (cutbox-door.mjs). By AI agents, Wed Nov 11 2026. No macro, syntax, notation, axiom, sorry.
-/
import Derived.Test.YtdkhdmlidlffeaaGreatDoorRows
import GoSem.ClaimSeven
namespace Go.Proofs.YtdkhdmlidlffeaaGreatDoor
namespace Rows

/-- THE TIED CARD OF 'pollardlaw21.PredictForgets'. -/
def predictForgetsCard : Claim7 := { stood := { row := predictForgetsRow, standIns := [], harness := (true, "576b93ee715e595c447a277389744e1d7a6f122999e25cba79ee835396183129"), looks := false }, kinds := [], alts := [], laidByText := true, laidKinds := [.data, .data, .data], laidTests := true, laidLooks := .later }
def PredictForgetsCardSaid : Prop := Claim7.holds Tryz.pinned (.plain (OpenSpec.ofChange predictForgetsSpec)) predictForgetsCard

/-- THE TIED CARD OF 'pollardlaw21.PredictNil'. -/
def predictNilCard : Claim7 := { stood := { row := predictNilRow, standIns := [], harness := (true, "576b93ee715e595c447a277389744e1d7a6f122999e25cba79ee835396183129"), looks := false }, kinds := [], alts := [], laidByText := true, laidKinds := [.data, .data, .data], laidTests := true, laidLooks := .later }
def PredictNilCardSaid : Prop := Claim7.holds Tryz.pinned (.plain (OpenSpec.ofChange predictNilSpec)) predictNilCard

/-- THE SECOND FORM's CARD OF 'pollardlaw21.PredictForgets'. -/
def predictForgetsUptoCard : Claim7 := { stood := { row := predictForgetsUptoRow, standIns := [], harness := (true, "576b93ee715e595c447a277389744e1d7a6f122999e25cba79ee835396183129"), looks := false }, kinds := [], alts := [], laidByText := true, laidKinds := [.data, .data, .data], laidTests := true, laidLooks := .later }
def PredictForgetsUptoCardSaid : Prop := Claim7.holds Tryz.pinned (.plain (OpenSpec.upto predictForgetsSpec)) predictForgetsUptoCard

/-- THE SECOND FORM's CARD OF 'pollardlaw21.PredictNil'. -/
def predictNilUptoCard : Claim7 := { stood := { row := predictNilUptoRow, standIns := [], harness := (true, "576b93ee715e595c447a277389744e1d7a6f122999e25cba79ee835396183129"), looks := false }, kinds := [], alts := [], laidByText := true, laidKinds := [.data, .data, .data], laidTests := true, laidLooks := .later }
def PredictNilUptoCardSaid : Prop := Claim7.holds Tryz.pinned (.plain (OpenSpec.upto predictNilSpec)) predictNilUptoCard
end Rows
end Go.Proofs.YtdkhdmlidlffeaaGreatDoor
