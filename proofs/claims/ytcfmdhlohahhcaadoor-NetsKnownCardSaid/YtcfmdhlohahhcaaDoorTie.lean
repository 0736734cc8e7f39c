/-
  DERIVED. GIVEN WITH THE SEED: THE PROGRAM's TIES (one call each: nine closed facts by the kernel) AND EACH ROW's TIE, after the 31st guide's Derived/Test/Toyas{Tie, Card}.lean. No idea stands in it: it is a product of the set-up. Laid BY PROGRAM, IN A SANDBOX (cutbox-door.mjs). By AI agents, Wed Nov 11 2026. No macro, syntax, notation, axiom, sorry.
-/
import Derived.Test.YtcfmdhlohahhcaaDoorRows
import Derived.LaidByTextLater
import Derived.SevenTiedAt
import Derived.LaidSub
import Derived.LaidOnce
namespace Go.Proofs.YtcfmdhlohahhcaaDoor
open Go
set_option maxRecDepth 100000
theorem seatTie1 : Tryd.prog.laidByTextLater [("drifter/nets.east", Rows.laid_drifter_nets_east), ("drifter/nets.north", Rows.laid_drifter_nets_north), ("drifter/nets.none", Rows.laid_drifter_nets_none)] [.funcs, .funcs, .data] true :=
  Program.laidByTextLater_by_one 24 8 3 (by kernel_rfl) (by kernel_rfl) (by kernel_rfl) (by kernel_rfl) (by kernel_rfl) (by kernel_rfl) (fun _ _ => by kernel_rfl)
theorem noOwnUnsafe : Tryd.pinned.checked.prog.headLifts.contains "ownunsafe" = false := by kernel_rfl
theorem tie : Tryd.prog.laidByTextLater [("drifter/nets.east", Rows.laid_drifter_nets_east), ("drifter/nets.north", Rows.laid_drifter_nets_north), ("drifter/nets.none", Rows.laid_drifter_nets_none)] [.funcs, .funcs, .data] true :=
  Program.laidByTextLater.sub seatTie1 ["drifter/nets.east", "drifter/nets.north", "drifter/nets.none"] (by kernel_rfl) (by kernel_rfl)
theorem netsLies_row_tie : Rows.netsLiesRow.laidByTextAt .later Tryd.pinned [.funcs, .funcs, .data] true :=
  OpenClaim.laidByTextAt_later rfl rfl tie noOwnUnsafe
theorem netsFinds_row_tie : Rows.netsFindsRow.laidByTextAt .later Tryd.pinned [.funcs, .funcs, .data] true :=
  OpenClaim.laidByTextAt_later rfl rfl tie noOwnUnsafe
theorem netsShifts_row_tie : Rows.netsShiftsRow.laidByTextAt .later Tryd.pinned [.funcs, .funcs, .data] true :=
  OpenClaim.laidByTextAt_later rfl rfl tie noOwnUnsafe
theorem netsMends_row_tie : Rows.netsMendsRow.laidByTextAt .later Tryd.pinned [.funcs, .funcs, .data] true :=
  OpenClaim.laidByTextAt_later rfl rfl tie noOwnUnsafe
theorem netsSafe_row_tie : Rows.netsSafeRow.laidByTextAt .later Tryd.pinned [.funcs, .funcs, .data] true :=
  OpenClaim.laidByTextAt_later rfl rfl tie noOwnUnsafe
theorem netsBetween_row_tie : Rows.netsBetweenRow.laidByTextAt .later Tryd.pinned [.funcs, .funcs, .data] true :=
  OpenClaim.laidByTextAt_later rfl rfl tie noOwnUnsafe
theorem netsCarried_row_tie : Rows.netsCarriedRow.laidByTextAt .later Tryd.pinned [.funcs, .funcs, .data] true :=
  OpenClaim.laidByTextAt_later rfl rfl tie noOwnUnsafe
theorem netsShifted_row_tie : Rows.netsShiftedRow.laidByTextAt .later Tryd.pinned [.funcs, .funcs, .data] true :=
  OpenClaim.laidByTextAt_later rfl rfl tie noOwnUnsafe
theorem netsFewer_row_tie : Rows.netsFewerRow.laidByTextAt .later Tryd.pinned [.funcs, .funcs, .data] true :=
  OpenClaim.laidByTextAt_later rfl rfl tie noOwnUnsafe
theorem netsMoved_row_tie : Rows.netsMovedRow.laidByTextAt .later Tryd.pinned [.funcs, .funcs, .data] true :=
  OpenClaim.laidByTextAt_later rfl rfl tie noOwnUnsafe
theorem netsTwine_row_tie : Rows.netsTwineRow.laidByTextAt .later Tryd.pinned [.funcs, .funcs, .data] true :=
  OpenClaim.laidByTextAt_later rfl rfl tie noOwnUnsafe
theorem netsKnown_row_tie : Rows.netsKnownRow.laidByTextAt .later Tryd.pinned [.funcs, .funcs, .data] true :=
  OpenClaim.laidByTextAt_later rfl rfl tie noOwnUnsafe
theorem netsLiesUpto_row_tie : Rows.netsLiesUptoRow.laidByTextAt .later Tryd.pinned [.funcs, .funcs, .data] true :=
  OpenClaim.laidByTextAt_later rfl rfl tie noOwnUnsafe
theorem netsFindsUpto_row_tie : Rows.netsFindsUptoRow.laidByTextAt .later Tryd.pinned [.funcs, .funcs, .data] true :=
  OpenClaim.laidByTextAt_later rfl rfl tie noOwnUnsafe
theorem netsShiftsUpto_row_tie : Rows.netsShiftsUptoRow.laidByTextAt .later Tryd.pinned [.funcs, .funcs, .data] true :=
  OpenClaim.laidByTextAt_later rfl rfl tie noOwnUnsafe
theorem netsMendsUpto_row_tie : Rows.netsMendsUptoRow.laidByTextAt .later Tryd.pinned [.funcs, .funcs, .data] true :=
  OpenClaim.laidByTextAt_later rfl rfl tie noOwnUnsafe
theorem netsSafeUpto_row_tie : Rows.netsSafeUptoRow.laidByTextAt .later Tryd.pinned [.funcs, .funcs, .data] true :=
  OpenClaim.laidByTextAt_later rfl rfl tie noOwnUnsafe
theorem netsBetweenUpto_row_tie : Rows.netsBetweenUptoRow.laidByTextAt .later Tryd.pinned [.funcs, .funcs, .data] true :=
  OpenClaim.laidByTextAt_later rfl rfl tie noOwnUnsafe
theorem netsCarriedUpto_row_tie : Rows.netsCarriedUptoRow.laidByTextAt .later Tryd.pinned [.funcs, .funcs, .data] true :=
  OpenClaim.laidByTextAt_later rfl rfl tie noOwnUnsafe
theorem netsShiftedUpto_row_tie : Rows.netsShiftedUptoRow.laidByTextAt .later Tryd.pinned [.funcs, .funcs, .data] true :=
  OpenClaim.laidByTextAt_later rfl rfl tie noOwnUnsafe
theorem netsFewerUpto_row_tie : Rows.netsFewerUptoRow.laidByTextAt .later Tryd.pinned [.funcs, .funcs, .data] true :=
  OpenClaim.laidByTextAt_later rfl rfl tie noOwnUnsafe
theorem netsMovedUpto_row_tie : Rows.netsMovedUptoRow.laidByTextAt .later Tryd.pinned [.funcs, .funcs, .data] true :=
  OpenClaim.laidByTextAt_later rfl rfl tie noOwnUnsafe
theorem netsTwineUpto_row_tie : Rows.netsTwineUptoRow.laidByTextAt .later Tryd.pinned [.funcs, .funcs, .data] true :=
  OpenClaim.laidByTextAt_later rfl rfl tie noOwnUnsafe
theorem netsKnownUpto_row_tie : Rows.netsKnownUptoRow.laidByTextAt .later Tryd.pinned [.funcs, .funcs, .data] true :=
  OpenClaim.laidByTextAt_later rfl rfl tie noOwnUnsafe
end Go.Proofs.YtcfmdhlohahhcaaDoor
