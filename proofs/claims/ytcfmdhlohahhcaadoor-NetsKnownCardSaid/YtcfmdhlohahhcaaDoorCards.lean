/-
  DERIVED. GIVEN WITH THE SEED: THE CARDS: each row of YtcfmdhlohahhcaaDoorRows.lean that lists a variable, with what it lists TIED to the program's text (the seventh form; the later family's looks); each row that meets fmt, with fmt's text TOLD by the authors' own Lean function (tested against real Go, not proved from fmt's source: count such statements apart). THE CARD IS WHAT COUNTS. Prove the row's statement (the work); the ties are given (YtcfmdhlohahhcaaDoorTie.lean); close each card by the builder's one call (the guide's Derived/Test/ToyasCard.lean, 'card_holds'). Laid BY PROGRAM, IN A SANDBOX (cutbox-door.mjs). By AI agents, Wed Nov 11 2026. No macro, syntax, notation, axiom, sorry.
-/
import Derived.Test.YtcfmdhlohahhcaaDoorRows
import GoSem.ClaimSeven
namespace Go.Proofs.YtcfmdhlohahhcaaDoor
namespace Rows

/-- THE TIED CARD OF 'drifterlaw02.NetsLies'. -/
def netsLiesCard : Claim7 := { stood := { row := netsLiesRow, standIns := [], harness := (true, "df0422fb256f2105b59197f3c0c88d3a4abba69a461a4eb202cf82372d9ba91a"), looks := false }, kinds := [], alts := [], laidByText := true, laidKinds := [.funcs, .funcs, .data], laidTests := true, laidLooks := .later }
def NetsLiesCardSaid : Prop := Claim7.holds Tryd.pinned (.plain (OpenSpec.ofChange netsLiesSpec)) netsLiesCard

/-- THE TIED CARD OF 'drifterlaw02.NetsFinds'. -/
def netsFindsCard : Claim7 := { stood := { row := netsFindsRow, standIns := [], harness := (true, "df0422fb256f2105b59197f3c0c88d3a4abba69a461a4eb202cf82372d9ba91a"), looks := false }, kinds := [], alts := [], laidByText := true, laidKinds := [.funcs, .funcs, .data], laidTests := true, laidLooks := .later }
def NetsFindsCardSaid : Prop := Claim7.holds Tryd.pinned (.plain (OpenSpec.ofChange netsFindsSpec)) netsFindsCard

/-- THE TIED CARD OF 'drifterlaw02.NetsShifts'. -/
def netsShiftsCard : Claim7 := { stood := { row := netsShiftsRow, standIns := [], harness := (true, "df0422fb256f2105b59197f3c0c88d3a4abba69a461a4eb202cf82372d9ba91a"), looks := false }, kinds := [], alts := [], laidByText := true, laidKinds := [.funcs, .funcs, .data], laidTests := true, laidLooks := .later }
def NetsShiftsCardSaid : Prop := Claim7.holds Tryd.pinned (.plain (OpenSpec.ofChange netsShiftsSpec)) netsShiftsCard

/-- THE TIED CARD OF 'drifterlaw02.NetsMends'. -/
def netsMendsCard : Claim7 := { stood := { row := netsMendsRow, standIns := [], harness := (true, "df0422fb256f2105b59197f3c0c88d3a4abba69a461a4eb202cf82372d9ba91a"), looks := false }, kinds := [], alts := [], laidByText := true, laidKinds := [.funcs, .funcs, .data], laidTests := true, laidLooks := .later }
def NetsMendsCardSaid : Prop := Claim7.holds Tryd.pinned (.plain (OpenSpec.ofChange netsMendsSpec)) netsMendsCard

/-- THE TIED CARD OF 'drifterlaw02.NetsSafe'. -/
def netsSafeCard : Claim7 := { stood := { row := netsSafeRow, standIns := [], harness := (true, "df0422fb256f2105b59197f3c0c88d3a4abba69a461a4eb202cf82372d9ba91a"), looks := false }, kinds := [], alts := [], laidByText := true, laidKinds := [.funcs, .funcs, .data], laidTests := true, laidLooks := .later }
def NetsSafeCardSaid : Prop := Claim7.holds Tryd.pinned (.plain (OpenSpec.ofChange netsSafeSpec)) netsSafeCard

/-- THE TIED CARD OF 'drifterlaw02.NetsBetween'. -/
def netsBetweenCard : Claim7 := { stood := { row := netsBetweenRow, standIns := [], harness := (true, "df0422fb256f2105b59197f3c0c88d3a4abba69a461a4eb202cf82372d9ba91a"), looks := false }, kinds := [], alts := [], laidByText := true, laidKinds := [.funcs, .funcs, .data], laidTests := true, laidLooks := .later }
def NetsBetweenCardSaid : Prop := Claim7.holds Tryd.pinned (.plain (OpenSpec.ofChange netsBetweenSpec)) netsBetweenCard

/-- THE TIED CARD OF 'drifterlaw02.NetsCarried'. -/
def netsCarriedCard : Claim7 := { stood := { row := netsCarriedRow, standIns := [], harness := (true, "df0422fb256f2105b59197f3c0c88d3a4abba69a461a4eb202cf82372d9ba91a"), looks := false }, kinds := [], alts := [], laidByText := true, laidKinds := [.funcs, .funcs, .data], laidTests := true, laidLooks := .later }
def NetsCarriedCardSaid : Prop := Claim7.holds Tryd.pinned (.plain (OpenSpec.ofChange netsCarriedSpec)) netsCarriedCard

/-- THE TIED CARD OF 'drifterlaw02.NetsShifted'. -/
def netsShiftedCard : Claim7 := { stood := { row := netsShiftedRow, standIns := [], harness := (true, "df0422fb256f2105b59197f3c0c88d3a4abba69a461a4eb202cf82372d9ba91a"), looks := false }, kinds := [], alts := [], laidByText := true, laidKinds := [.funcs, .funcs, .data], laidTests := true, laidLooks := .later }
def NetsShiftedCardSaid : Prop := Claim7.holds Tryd.pinned (.plain (OpenSpec.ofChange netsShiftedSpec)) netsShiftedCard

/-- THE TIED CARD OF 'drifterlaw02.NetsFewer'. -/
def netsFewerCard : Claim7 := { stood := { row := netsFewerRow, standIns := [], harness := (true, "df0422fb256f2105b59197f3c0c88d3a4abba69a461a4eb202cf82372d9ba91a"), looks := false }, kinds := [], alts := [], laidByText := true, laidKinds := [.funcs, .funcs, .data], laidTests := true, laidLooks := .later }
def NetsFewerCardSaid : Prop := Claim7.holds Tryd.pinned (.plain (OpenSpec.ofChange netsFewerSpec)) netsFewerCard

/-- THE TIED CARD OF 'drifterlaw02.NetsMoved'. -/
def netsMovedCard : Claim7 := { stood := { row := netsMovedRow, standIns := [], harness := (true, "df0422fb256f2105b59197f3c0c88d3a4abba69a461a4eb202cf82372d9ba91a"), looks := false }, kinds := [], alts := [], laidByText := true, laidKinds := [.funcs, .funcs, .data], laidTests := true, laidLooks := .later }
def NetsMovedCardSaid : Prop := Claim7.holds Tryd.pinned (.plain (OpenSpec.ofChange netsMovedSpec)) netsMovedCard

/-- THE TIED CARD OF 'drifterlaw02.NetsTwine'. -/
def netsTwineCard : Claim7 := { stood := { row := netsTwineRow, standIns := [], harness := (true, "df0422fb256f2105b59197f3c0c88d3a4abba69a461a4eb202cf82372d9ba91a"), looks := false }, kinds := [], alts := [], laidByText := true, laidKinds := [.funcs, .funcs, .data], laidTests := true, laidLooks := .later }
def NetsTwineCardSaid : Prop := Claim7.holds Tryd.pinned (.plain (OpenSpec.ofChange netsTwineSpec)) netsTwineCard

/-- THE TIED CARD OF 'drifterlaw02.NetsKnown'. -/
def netsKnownCard : Claim7 := { stood := { row := netsKnownRow, standIns := [], harness := (true, "df0422fb256f2105b59197f3c0c88d3a4abba69a461a4eb202cf82372d9ba91a"), looks := false }, kinds := [], alts := [], laidByText := true, laidKinds := [.funcs, .funcs, .data], laidTests := true, laidLooks := .later }
def NetsKnownCardSaid : Prop := Claim7.holds Tryd.pinned (.plain (OpenSpec.ofChange netsKnownSpec)) netsKnownCard

/-- THE SECOND FORM's CARD OF 'drifterlaw02.NetsLies'. -/
def netsLiesUptoCard : Claim7 := { stood := { row := netsLiesUptoRow, standIns := [], harness := (true, "df0422fb256f2105b59197f3c0c88d3a4abba69a461a4eb202cf82372d9ba91a"), looks := false }, kinds := [], alts := [], laidByText := true, laidKinds := [.funcs, .funcs, .data], laidTests := true, laidLooks := .later }
def NetsLiesUptoCardSaid : Prop := Claim7.holds Tryd.pinned (.plain (OpenSpec.upto netsLiesSpec)) netsLiesUptoCard

/-- THE SECOND FORM's CARD OF 'drifterlaw02.NetsFinds'. -/
def netsFindsUptoCard : Claim7 := { stood := { row := netsFindsUptoRow, standIns := [], harness := (true, "df0422fb256f2105b59197f3c0c88d3a4abba69a461a4eb202cf82372d9ba91a"), looks := false }, kinds := [], alts := [], laidByText := true, laidKinds := [.funcs, .funcs, .data], laidTests := true, laidLooks := .later }
def NetsFindsUptoCardSaid : Prop := Claim7.holds Tryd.pinned (.plain (OpenSpec.upto netsFindsSpec)) netsFindsUptoCard

/-- THE SECOND FORM's CARD OF 'drifterlaw02.NetsShifts'. -/
def netsShiftsUptoCard : Claim7 := { stood := { row := netsShiftsUptoRow, standIns := [], harness := (true, "df0422fb256f2105b59197f3c0c88d3a4abba69a461a4eb202cf82372d9ba91a"), looks := false }, kinds := [], alts := [], laidByText := true, laidKinds := [.funcs, .funcs, .data], laidTests := true, laidLooks := .later }
def NetsShiftsUptoCardSaid : Prop := Claim7.holds Tryd.pinned (.plain (OpenSpec.upto netsShiftsSpec)) netsShiftsUptoCard

/-- THE SECOND FORM's CARD OF 'drifterlaw02.NetsMends'. -/
def netsMendsUptoCard : Claim7 := { stood := { row := netsMendsUptoRow, standIns := [], harness := (true, "df0422fb256f2105b59197f3c0c88d3a4abba69a461a4eb202cf82372d9ba91a"), looks := false }, kinds := [], alts := [], laidByText := true, laidKinds := [.funcs, .funcs, .data], laidTests := true, laidLooks := .later }
def NetsMendsUptoCardSaid : Prop := Claim7.holds Tryd.pinned (.plain (OpenSpec.upto netsMendsSpec)) netsMendsUptoCard

/-- THE SECOND FORM's CARD OF 'drifterlaw02.NetsSafe'. -/
def netsSafeUptoCard : Claim7 := { stood := { row := netsSafeUptoRow, standIns := [], harness := (true, "df0422fb256f2105b59197f3c0c88d3a4abba69a461a4eb202cf82372d9ba91a"), looks := false }, kinds := [], alts := [], laidByText := true, laidKinds := [.funcs, .funcs, .data], laidTests := true, laidLooks := .later }
def NetsSafeUptoCardSaid : Prop := Claim7.holds Tryd.pinned (.plain (OpenSpec.upto netsSafeSpec)) netsSafeUptoCard

/-- THE SECOND FORM's CARD OF 'drifterlaw02.NetsBetween'. -/
def netsBetweenUptoCard : Claim7 := { stood := { row := netsBetweenUptoRow, standIns := [], harness := (true, "df0422fb256f2105b59197f3c0c88d3a4abba69a461a4eb202cf82372d9ba91a"), looks := false }, kinds := [], alts := [], laidByText := true, laidKinds := [.funcs, .funcs, .data], laidTests := true, laidLooks := .later }
def NetsBetweenUptoCardSaid : Prop := Claim7.holds Tryd.pinned (.plain (OpenSpec.upto netsBetweenSpec)) netsBetweenUptoCard

/-- THE SECOND FORM's CARD OF 'drifterlaw02.NetsCarried'. -/
def netsCarriedUptoCard : Claim7 := { stood := { row := netsCarriedUptoRow, standIns := [], harness := (true, "df0422fb256f2105b59197f3c0c88d3a4abba69a461a4eb202cf82372d9ba91a"), looks := false }, kinds := [], alts := [], laidByText := true, laidKinds := [.funcs, .funcs, .data], laidTests := true, laidLooks := .later }
def NetsCarriedUptoCardSaid : Prop := Claim7.holds Tryd.pinned (.plain (OpenSpec.upto netsCarriedSpec)) netsCarriedUptoCard

/-- THE SECOND FORM's CARD OF 'drifterlaw02.NetsShifted'. -/
def netsShiftedUptoCard : Claim7 := { stood := { row := netsShiftedUptoRow, standIns := [], harness := (true, "df0422fb256f2105b59197f3c0c88d3a4abba69a461a4eb202cf82372d9ba91a"), looks := false }, kinds := [], alts := [], laidByText := true, laidKinds := [.funcs, .funcs, .data], laidTests := true, laidLooks := .later }
def NetsShiftedUptoCardSaid : Prop := Claim7.holds Tryd.pinned (.plain (OpenSpec.upto netsShiftedSpec)) netsShiftedUptoCard

/-- THE SECOND FORM's CARD OF 'drifterlaw02.NetsFewer'. -/
def netsFewerUptoCard : Claim7 := { stood := { row := netsFewerUptoRow, standIns := [], harness := (true, "df0422fb256f2105b59197f3c0c88d3a4abba69a461a4eb202cf82372d9ba91a"), looks := false }, kinds := [], alts := [], laidByText := true, laidKinds := [.funcs, .funcs, .data], laidTests := true, laidLooks := .later }
def NetsFewerUptoCardSaid : Prop := Claim7.holds Tryd.pinned (.plain (OpenSpec.upto netsFewerSpec)) netsFewerUptoCard

/-- THE SECOND FORM's CARD OF 'drifterlaw02.NetsMoved'. -/
def netsMovedUptoCard : Claim7 := { stood := { row := netsMovedUptoRow, standIns := [], harness := (true, "df0422fb256f2105b59197f3c0c88d3a4abba69a461a4eb202cf82372d9ba91a"), looks := false }, kinds := [], alts := [], laidByText := true, laidKinds := [.funcs, .funcs, .data], laidTests := true, laidLooks := .later }
def NetsMovedUptoCardSaid : Prop := Claim7.holds Tryd.pinned (.plain (OpenSpec.upto netsMovedSpec)) netsMovedUptoCard

/-- THE SECOND FORM's CARD OF 'drifterlaw02.NetsTwine'. -/
def netsTwineUptoCard : Claim7 := { stood := { row := netsTwineUptoRow, standIns := [], harness := (true, "df0422fb256f2105b59197f3c0c88d3a4abba69a461a4eb202cf82372d9ba91a"), looks := false }, kinds := [], alts := [], laidByText := true, laidKinds := [.funcs, .funcs, .data], laidTests := true, laidLooks := .later }
def NetsTwineUptoCardSaid : Prop := Claim7.holds Tryd.pinned (.plain (OpenSpec.upto netsTwineSpec)) netsTwineUptoCard

/-- THE SECOND FORM's CARD OF 'drifterlaw02.NetsKnown'. -/
def netsKnownUptoCard : Claim7 := { stood := { row := netsKnownUptoRow, standIns := [], harness := (true, "df0422fb256f2105b59197f3c0c88d3a4abba69a461a4eb202cf82372d9ba91a"), looks := false }, kinds := [], alts := [], laidByText := true, laidKinds := [.funcs, .funcs, .data], laidTests := true, laidLooks := .later }
def NetsKnownUptoCardSaid : Prop := Claim7.holds Tryd.pinned (.plain (OpenSpec.upto netsKnownSpec)) netsKnownUptoCard
end Rows
end Go.Proofs.YtcfmdhlohahhcaaDoor
