/-
  DERIVED. GIVEN WITH THE SEED: THE CARDS: each row of YthofpbnbjkdpaaaDoorRows.lean that lists a variable, with what it lists TIED to the program's text (the seventh form; the later family's looks); each row that meets fmt, with fmt's text TOLD by the authors' own Lean function (tested against real Go, not proved from fmt's source: count such statements apart). THE CARD IS WHAT COUNTS. Prove the row's statement (the work); the ties are given (YthofpbnbjkdpaaaDoorTie.lean); close each card by the builder's one call (the guide's Derived/Test/ToyasCard.lean, 'card_holds'). Laid BY PROGRAM, IN A SANDBOX (cutbox-door.mjs). By AI agents, Wed Nov 11 2026. No macro, syntax, notation, axiom, sorry.
-/
import Derived.Test.YthofpbnbjkdpaaaDoorRows
import GoSem.ClaimSeven
namespace Go.Proofs.YthofpbnbjkdpaaaDoor
namespace Rows

/-- THE TIED CARD OF 'drifterlaw08.ContractClears'. -/
def contractClearsCard : Claim7 := { stood := { row := contractClearsRow, standIns := [], harness := (true, "c501e6b10dd79cabefa2efce01fc1bedaa80b2911bfeb7b29f1edcaf23635907"), looks := false }, kinds := [], alts := [], laidByText := true, laidKinds := [.funcs, .funcs], laidTests := true, laidLooks := .later }
def ContractClearsCardSaid : Prop := Claim7.holds Tryd.pinned (.plain (OpenSpec.ofChange contractClearsSpec)) contractClearsCard

/-- THE TIED CARD OF 'drifterlaw08.ContractBreaks'. -/
def contractBreaksCard : Claim7 := { stood := { row := contractBreaksRow, standIns := [], harness := (true, "c501e6b10dd79cabefa2efce01fc1bedaa80b2911bfeb7b29f1edcaf23635907"), looks := false }, kinds := [], alts := [], laidByText := true, laidKinds := [.funcs, .funcs], laidTests := true, laidLooks := .later }
def ContractBreaksCardSaid : Prop := Claim7.holds Tryd.pinned (.plain (OpenSpec.ofChange contractBreaksSpec)) contractBreaksCard

/-- THE TIED CARD OF 'drifterlaw08.ContractChains'. -/
def contractChainsCard : Claim7 := { stood := { row := contractChainsRow, standIns := [], harness := (true, "c501e6b10dd79cabefa2efce01fc1bedaa80b2911bfeb7b29f1edcaf23635907"), looks := false }, kinds := [], alts := [], laidByText := true, laidKinds := [.funcs, .funcs], laidTests := true, laidLooks := .later }
def ContractChainsCardSaid : Prop := Claim7.holds Tryd.pinned (.plain (OpenSpec.ofChange contractChainsSpec)) contractChainsCard

/-- THE TIED CARD OF 'drifterlaw08.ContractFair'. -/
def contractFairCard : Claim7 := { stood := { row := contractFairRow, standIns := [], harness := (true, "c501e6b10dd79cabefa2efce01fc1bedaa80b2911bfeb7b29f1edcaf23635907"), looks := false }, kinds := [], alts := [], laidByText := true, laidKinds := [.funcs, .funcs], laidTests := true, laidLooks := .later }
def ContractFairCardSaid : Prop := Claim7.holds Tryd.pinned (.plain (OpenSpec.ofChange contractFairSpec)) contractFairCard

/-- THE TIED CARD OF 'drifterlaw08.ContractKept'. -/
def contractKeptCard : Claim7 := { stood := { row := contractKeptRow, standIns := [], harness := (true, "c501e6b10dd79cabefa2efce01fc1bedaa80b2911bfeb7b29f1edcaf23635907"), looks := false }, kinds := [], alts := [], laidByText := true, laidKinds := [.funcs, .funcs], laidTests := true, laidLooks := .later }
def ContractKeptCardSaid : Prop := Claim7.holds Tryd.pinned (.plain (OpenSpec.ofChange contractKeptSpec)) contractKeptCard

/-- THE TIED CARD OF 'drifterlaw08.ContractMore'. -/
def contractMoreCard : Claim7 := { stood := { row := contractMoreRow, standIns := [], harness := (true, "c501e6b10dd79cabefa2efce01fc1bedaa80b2911bfeb7b29f1edcaf23635907"), looks := false }, kinds := [], alts := [], laidByText := true, laidKinds := [.funcs, .funcs], laidTests := true, laidLooks := .later }
def ContractMoreCardSaid : Prop := Claim7.holds Tryd.pinned (.plain (OpenSpec.ofChange contractMoreSpec)) contractMoreCard

/-- THE TIED CARD OF 'drifterlaw08.ContractBehind'. -/
def contractBehindCard : Claim7 := { stood := { row := contractBehindRow, standIns := [], harness := (true, "c501e6b10dd79cabefa2efce01fc1bedaa80b2911bfeb7b29f1edcaf23635907"), looks := false }, kinds := [], alts := [], laidByText := true, laidKinds := [.funcs, .funcs], laidTests := true, laidLooks := .later }
def ContractBehindCardSaid : Prop := Claim7.holds Tryd.pinned (.plain (OpenSpec.ofChange contractBehindSpec)) contractBehindCard

/-- THE TIED CARD OF 'drifterlaw08.ContractHolds'. -/
def contractHoldsCard : Claim7 := { stood := { row := contractHoldsRow, standIns := [], harness := (true, "c501e6b10dd79cabefa2efce01fc1bedaa80b2911bfeb7b29f1edcaf23635907"), looks := false }, kinds := [], alts := [], laidByText := true, laidKinds := [.funcs, .funcs], laidTests := true, laidLooks := .later }
def ContractHoldsCardSaid : Prop := Claim7.holds Tryd.pinned (.plain (OpenSpec.ofChange contractHoldsSpec)) contractHoldsCard

/-- THE TIED CARD OF 'drifterlaw08.ContractLent'. -/
def contractLentCard : Claim7 := { stood := { row := contractLentRow, standIns := [], harness := (true, "c501e6b10dd79cabefa2efce01fc1bedaa80b2911bfeb7b29f1edcaf23635907"), looks := false }, kinds := [], alts := [], laidByText := true, laidKinds := [.funcs, .funcs], laidTests := true, laidLooks := .later }
def ContractLentCardSaid : Prop := Claim7.holds Tryd.pinned (.plain (OpenSpec.ofChange contractLentSpec)) contractLentCard

/-- THE TIED CARD OF 'drifterlaw08.ContractSame'. -/
def contractSameCard : Claim7 := { stood := { row := contractSameRow, standIns := [], harness := (true, "c501e6b10dd79cabefa2efce01fc1bedaa80b2911bfeb7b29f1edcaf23635907"), looks := false }, kinds := [], alts := [], laidByText := true, laidKinds := [.funcs, .funcs], laidTests := true, laidLooks := .later }
def ContractSameCardSaid : Prop := Claim7.holds Tryd.pinned (.plain (OpenSpec.ofChange contractSameSpec)) contractSameCard

/-- THE TIED CARD OF 'drifterlaw08.ContractKnown'. -/
def contractKnownCard : Claim7 := { stood := { row := contractKnownRow, standIns := [], harness := (true, "c501e6b10dd79cabefa2efce01fc1bedaa80b2911bfeb7b29f1edcaf23635907"), looks := false }, kinds := [], alts := [], laidByText := true, laidKinds := [.funcs, .funcs], laidTests := true, laidLooks := .later }
def ContractKnownCardSaid : Prop := Claim7.holds Tryd.pinned (.plain (OpenSpec.ofChange contractKnownSpec)) contractKnownCard

/-- THE SECOND FORM's CARD OF 'drifterlaw08.ContractClears'. -/
def contractClearsUptoCard : Claim7 := { stood := { row := contractClearsUptoRow, standIns := [], harness := (true, "c501e6b10dd79cabefa2efce01fc1bedaa80b2911bfeb7b29f1edcaf23635907"), looks := false }, kinds := [], alts := [], laidByText := true, laidKinds := [.funcs, .funcs], laidTests := true, laidLooks := .later }
def ContractClearsUptoCardSaid : Prop := Claim7.holds Tryd.pinned (.plain (OpenSpec.upto contractClearsSpec)) contractClearsUptoCard

/-- THE SECOND FORM's CARD OF 'drifterlaw08.ContractBreaks'. -/
def contractBreaksUptoCard : Claim7 := { stood := { row := contractBreaksUptoRow, standIns := [], harness := (true, "c501e6b10dd79cabefa2efce01fc1bedaa80b2911bfeb7b29f1edcaf23635907"), looks := false }, kinds := [], alts := [], laidByText := true, laidKinds := [.funcs, .funcs], laidTests := true, laidLooks := .later }
def ContractBreaksUptoCardSaid : Prop := Claim7.holds Tryd.pinned (.plain (OpenSpec.upto contractBreaksSpec)) contractBreaksUptoCard

/-- THE SECOND FORM's CARD OF 'drifterlaw08.ContractChains'. -/
def contractChainsUptoCard : Claim7 := { stood := { row := contractChainsUptoRow, standIns := [], harness := (true, "c501e6b10dd79cabefa2efce01fc1bedaa80b2911bfeb7b29f1edcaf23635907"), looks := false }, kinds := [], alts := [], laidByText := true, laidKinds := [.funcs, .funcs], laidTests := true, laidLooks := .later }
def ContractChainsUptoCardSaid : Prop := Claim7.holds Tryd.pinned (.plain (OpenSpec.upto contractChainsSpec)) contractChainsUptoCard

/-- THE SECOND FORM's CARD OF 'drifterlaw08.ContractFair'. -/
def contractFairUptoCard : Claim7 := { stood := { row := contractFairUptoRow, standIns := [], harness := (true, "c501e6b10dd79cabefa2efce01fc1bedaa80b2911bfeb7b29f1edcaf23635907"), looks := false }, kinds := [], alts := [], laidByText := true, laidKinds := [.funcs, .funcs], laidTests := true, laidLooks := .later }
def ContractFairUptoCardSaid : Prop := Claim7.holds Tryd.pinned (.plain (OpenSpec.upto contractFairSpec)) contractFairUptoCard

/-- THE SECOND FORM's CARD OF 'drifterlaw08.ContractKept'. -/
def contractKeptUptoCard : Claim7 := { stood := { row := contractKeptUptoRow, standIns := [], harness := (true, "c501e6b10dd79cabefa2efce01fc1bedaa80b2911bfeb7b29f1edcaf23635907"), looks := false }, kinds := [], alts := [], laidByText := true, laidKinds := [.funcs, .funcs], laidTests := true, laidLooks := .later }
def ContractKeptUptoCardSaid : Prop := Claim7.holds Tryd.pinned (.plain (OpenSpec.upto contractKeptSpec)) contractKeptUptoCard

/-- THE SECOND FORM's CARD OF 'drifterlaw08.ContractMore'. -/
def contractMoreUptoCard : Claim7 := { stood := { row := contractMoreUptoRow, standIns := [], harness := (true, "c501e6b10dd79cabefa2efce01fc1bedaa80b2911bfeb7b29f1edcaf23635907"), looks := false }, kinds := [], alts := [], laidByText := true, laidKinds := [.funcs, .funcs], laidTests := true, laidLooks := .later }
def ContractMoreUptoCardSaid : Prop := Claim7.holds Tryd.pinned (.plain (OpenSpec.upto contractMoreSpec)) contractMoreUptoCard

/-- THE SECOND FORM's CARD OF 'drifterlaw08.ContractBehind'. -/
def contractBehindUptoCard : Claim7 := { stood := { row := contractBehindUptoRow, standIns := [], harness := (true, "c501e6b10dd79cabefa2efce01fc1bedaa80b2911bfeb7b29f1edcaf23635907"), looks := false }, kinds := [], alts := [], laidByText := true, laidKinds := [.funcs, .funcs], laidTests := true, laidLooks := .later }
def ContractBehindUptoCardSaid : Prop := Claim7.holds Tryd.pinned (.plain (OpenSpec.upto contractBehindSpec)) contractBehindUptoCard

/-- THE SECOND FORM's CARD OF 'drifterlaw08.ContractHolds'. -/
def contractHoldsUptoCard : Claim7 := { stood := { row := contractHoldsUptoRow, standIns := [], harness := (true, "c501e6b10dd79cabefa2efce01fc1bedaa80b2911bfeb7b29f1edcaf23635907"), looks := false }, kinds := [], alts := [], laidByText := true, laidKinds := [.funcs, .funcs], laidTests := true, laidLooks := .later }
def ContractHoldsUptoCardSaid : Prop := Claim7.holds Tryd.pinned (.plain (OpenSpec.upto contractHoldsSpec)) contractHoldsUptoCard

/-- THE SECOND FORM's CARD OF 'drifterlaw08.ContractLent'. -/
def contractLentUptoCard : Claim7 := { stood := { row := contractLentUptoRow, standIns := [], harness := (true, "c501e6b10dd79cabefa2efce01fc1bedaa80b2911bfeb7b29f1edcaf23635907"), looks := false }, kinds := [], alts := [], laidByText := true, laidKinds := [.funcs, .funcs], laidTests := true, laidLooks := .later }
def ContractLentUptoCardSaid : Prop := Claim7.holds Tryd.pinned (.plain (OpenSpec.upto contractLentSpec)) contractLentUptoCard

/-- THE SECOND FORM's CARD OF 'drifterlaw08.ContractSame'. -/
def contractSameUptoCard : Claim7 := { stood := { row := contractSameUptoRow, standIns := [], harness := (true, "c501e6b10dd79cabefa2efce01fc1bedaa80b2911bfeb7b29f1edcaf23635907"), looks := false }, kinds := [], alts := [], laidByText := true, laidKinds := [.funcs, .funcs], laidTests := true, laidLooks := .later }
def ContractSameUptoCardSaid : Prop := Claim7.holds Tryd.pinned (.plain (OpenSpec.upto contractSameSpec)) contractSameUptoCard

/-- THE SECOND FORM's CARD OF 'drifterlaw08.ContractKnown'. -/
def contractKnownUptoCard : Claim7 := { stood := { row := contractKnownUptoRow, standIns := [], harness := (true, "c501e6b10dd79cabefa2efce01fc1bedaa80b2911bfeb7b29f1edcaf23635907"), looks := false }, kinds := [], alts := [], laidByText := true, laidKinds := [.funcs, .funcs], laidTests := true, laidLooks := .later }
def ContractKnownUptoCardSaid : Prop := Claim7.holds Tryd.pinned (.plain (OpenSpec.upto contractKnownSpec)) contractKnownUptoCard
end Rows
end Go.Proofs.YthofpbnbjkdpaaaDoor
