/-
  DERIVED. GIVEN WITH THE SEED: THE CARDS: each row of YtiklliiamljogaaGreatDoorRows.lean that lists a variable, with what it lists TIED to the program's text (the seventh form; the later family's looks); each row that meets fmt, with fmt's text TOLD by the authors' own Lean function (tested against real Go, not proved from fmt's source: count such statements apart). THE CARD IS WHAT COUNTS. Prove the row's statement (the work); the ties are given (YtiklliiamljogaaGreatDoorTie.lean); close each card by the builder's one call (the guide's Derived/Test/ToyasCard.lean, 'card_holds'). Laid BY PROGRAM, IN A SANDBOX (cutbox-door.mjs). By AI agents, Wed Nov 11 2026. No macro, syntax, notation, axiom, sorry.
-/
import Derived.Test.YtiklliiamljogaaGreatDoorRows
import GoSem.ClaimSeven
namespace Go.Proofs.YtiklliiamljogaaGreatDoor
namespace Rows

/-- THE TIED CARD OF 'gantrylaw28.ProofWrites'. -/
def proofWritesCard : Claim7 := { stood := { row := proofWritesRow, standIns := [], harness := (true, "46c0e4c90d7891f958656d6794a160fb229e944f3a530de713ac79402b339339"), looks := false }, kinds := [], alts := [], laidByText := true, laidKinds := [.data, .data, .data], laidTests := true, laidLooks := .later }
def ProofWritesCardSaid : Prop := Claim7.holds Tryz.pinned (.plain (OpenSpec.ofChange proofWritesSpec)) proofWritesCard

/-- THE TIED CARD OF 'gantrylaw28.ProofReads'. -/
def proofReadsCard : Claim7 := { stood := { row := proofReadsRow, standIns := [], harness := (true, "46c0e4c90d7891f958656d6794a160fb229e944f3a530de713ac79402b339339"), looks := false }, kinds := [], alts := [], laidByText := true, laidKinds := [.data, .data, .data], laidTests := true, laidLooks := .later }
def ProofReadsCardSaid : Prop := Claim7.holds Tryz.pinned (.plain (OpenSpec.ofChange proofReadsSpec)) proofReadsCard

/-- THE TIED CARD OF 'gantrylaw28.ProofBack'. -/
def proofBackCard : Claim7 := { stood := { row := proofBackRow, standIns := [], harness := (true, "46c0e4c90d7891f958656d6794a160fb229e944f3a530de713ac79402b339339"), looks := false }, kinds := [], alts := [], laidByText := true, laidKinds := [.data, .data, .data], laidTests := true, laidLooks := .later }
def ProofBackCardSaid : Prop := Claim7.holds Tryz.pinned (.plain (OpenSpec.ofChange proofBackSpec)) proofBackCard

/-- THE TIED CARD OF 'gantrylaw28.ProofJoins'. -/
def proofJoinsCard : Claim7 := { stood := { row := proofJoinsRow, standIns := [], harness := (true, "46c0e4c90d7891f958656d6794a160fb229e944f3a530de713ac79402b339339"), looks := false }, kinds := [], alts := [], laidByText := true, laidKinds := [.data, .data, .data], laidTests := true, laidLooks := .later }
def ProofJoinsCardSaid : Prop := Claim7.holds Tryz.pinned (.plain (OpenSpec.ofChange proofJoinsSpec)) proofJoinsCard

/-- THE TIED CARD OF 'gantrylaw28.ProofTells'. -/
def proofTellsCard : Claim7 := { stood := { row := proofTellsRow, standIns := [], harness := (true, "46c0e4c90d7891f958656d6794a160fb229e944f3a530de713ac79402b339339"), looks := false }, kinds := [], alts := [], laidByText := true, laidKinds := [.data, .data, .data], laidTests := true, laidLooks := .later }
def ProofTellsCardSaid : Prop := Claim7.holds Tryz.pinned (.plain (OpenSpec.ofChange proofTellsSpec)) proofTellsCard

/-- THE SECOND FORM's CARD OF 'gantrylaw28.ProofWrites'. -/
def proofWritesUptoCard : Claim7 := { stood := { row := proofWritesUptoRow, standIns := [], harness := (true, "46c0e4c90d7891f958656d6794a160fb229e944f3a530de713ac79402b339339"), looks := false }, kinds := [], alts := [], laidByText := true, laidKinds := [.data, .data, .data], laidTests := true, laidLooks := .later }
def ProofWritesUptoCardSaid : Prop := Claim7.holds Tryz.pinned (.plain (OpenSpec.upto proofWritesSpec)) proofWritesUptoCard

/-- THE SECOND FORM's CARD OF 'gantrylaw28.ProofReads'. -/
def proofReadsUptoCard : Claim7 := { stood := { row := proofReadsUptoRow, standIns := [], harness := (true, "46c0e4c90d7891f958656d6794a160fb229e944f3a530de713ac79402b339339"), looks := false }, kinds := [], alts := [], laidByText := true, laidKinds := [.data, .data, .data], laidTests := true, laidLooks := .later }
def ProofReadsUptoCardSaid : Prop := Claim7.holds Tryz.pinned (.plain (OpenSpec.upto proofReadsSpec)) proofReadsUptoCard

/-- THE SECOND FORM's CARD OF 'gantrylaw28.ProofBack'. -/
def proofBackUptoCard : Claim7 := { stood := { row := proofBackUptoRow, standIns := [], harness := (true, "46c0e4c90d7891f958656d6794a160fb229e944f3a530de713ac79402b339339"), looks := false }, kinds := [], alts := [], laidByText := true, laidKinds := [.data, .data, .data], laidTests := true, laidLooks := .later }
def ProofBackUptoCardSaid : Prop := Claim7.holds Tryz.pinned (.plain (OpenSpec.upto proofBackSpec)) proofBackUptoCard

/-- THE SECOND FORM's CARD OF 'gantrylaw28.ProofJoins'. -/
def proofJoinsUptoCard : Claim7 := { stood := { row := proofJoinsUptoRow, standIns := [], harness := (true, "46c0e4c90d7891f958656d6794a160fb229e944f3a530de713ac79402b339339"), looks := false }, kinds := [], alts := [], laidByText := true, laidKinds := [.data, .data, .data], laidTests := true, laidLooks := .later }
def ProofJoinsUptoCardSaid : Prop := Claim7.holds Tryz.pinned (.plain (OpenSpec.upto proofJoinsSpec)) proofJoinsUptoCard

/-- THE SECOND FORM's CARD OF 'gantrylaw28.ProofTells'. -/
def proofTellsUptoCard : Claim7 := { stood := { row := proofTellsUptoRow, standIns := [], harness := (true, "46c0e4c90d7891f958656d6794a160fb229e944f3a530de713ac79402b339339"), looks := false }, kinds := [], alts := [], laidByText := true, laidKinds := [.data, .data, .data], laidTests := true, laidLooks := .later }
def ProofTellsUptoCardSaid : Prop := Claim7.holds Tryz.pinned (.plain (OpenSpec.upto proofTellsSpec)) proofTellsUptoCard
end Rows
end Go.Proofs.YtiklliiamljogaaGreatDoor
