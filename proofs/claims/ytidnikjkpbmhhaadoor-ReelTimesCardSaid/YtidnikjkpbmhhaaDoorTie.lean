/-
  DERIVED. GIVEN WITH THE SEED: THE PROGRAM's TIES (one call each: nine closed facts by the kernel) AND EACH ROW's TIE, after the 31st guide's Derived/Test/Toyas{Tie, Card}.lean. No idea stands in it: it is a product of the set-up. Laid BY PROGRAM, IN A SANDBOX (cutbox-door.mjs). By AI agents, Wed Nov 11 2026. No macro, syntax, notation, axiom, sorry.
-/
import Derived.Test.YtidnikjkpbmhhaaDoorRows
import Derived.LaidByTextLater
import Derived.SevenTiedAt
import Derived.LaidSub
import Derived.LaidOnce
namespace Go.Proofs.YtidnikjkpbmhhaaDoor
open Go
set_option maxRecDepth 100000
theorem seatTie1 : Tryd.prog.laidByTextLater [("bioscope/reel.ends", Rows.laid_bioscope_reel_ends), ("bioscope/reel.nowhere", Rows.laid_bioscope_reel_nowhere), ("bioscope/reel.start", Rows.laid_bioscope_reel_start)] [.funcs, .data, .data] true :=
  Program.laidByTextLater_by_one 24 8 3 (by kernel_rfl) (by kernel_rfl) (by kernel_rfl) (by kernel_rfl) (by kernel_rfl) (by kernel_rfl) (fun _ _ => by kernel_rfl)
theorem noOwnUnsafe : Tryd.pinned.checked.prog.headLifts.contains "ownunsafe" = false := by kernel_rfl
theorem tie : Tryd.prog.laidByTextLater [("bioscope/reel.ends", Rows.laid_bioscope_reel_ends), ("bioscope/reel.nowhere", Rows.laid_bioscope_reel_nowhere), ("bioscope/reel.start", Rows.laid_bioscope_reel_start)] [.funcs, .data, .data] true :=
  Program.laidByTextLater.sub seatTie1 ["bioscope/reel.ends", "bioscope/reel.nowhere", "bioscope/reel.start"] (by kernel_rfl) (by kernel_rfl)
theorem reelOrders_row_tie : Rows.reelOrdersRow.laidByTextAt .later Tryd.pinned [.funcs, .data, .data] true :=
  OpenClaim.laidByTextAt_later rfl rfl tie noOwnUnsafe
theorem reelPlaces_row_tie : Rows.reelPlacesRow.laidByTextAt .later Tryd.pinned [.funcs, .data, .data] true :=
  OpenClaim.laidByTextAt_later rfl rfl tie noOwnUnsafe
theorem reelFeet_row_tie : Rows.reelFeetRow.laidByTextAt .later Tryd.pinned [.funcs, .data, .data] true :=
  OpenClaim.laidByTextAt_later rfl rfl tie noOwnUnsafe
theorem reelTimes_row_tie : Rows.reelTimesRow.laidByTextAt .later Tryd.pinned [.funcs, .data, .data] true :=
  OpenClaim.laidByTextAt_later rfl rfl tie noOwnUnsafe
theorem reelMixed_row_tie : Rows.reelMixedRow.laidByTextAt .later Tryd.pinned [.funcs, .data, .data] true :=
  OpenClaim.laidByTextAt_later rfl rfl tie noOwnUnsafe
theorem reelFirst_row_tie : Rows.reelFirstRow.laidByTextAt .later Tryd.pinned [.funcs, .data, .data] true :=
  OpenClaim.laidByTextAt_later rfl rfl tie noOwnUnsafe
theorem reelStrange_row_tie : Rows.reelStrangeRow.laidByTextAt .later Tryd.pinned [.funcs, .data, .data] true :=
  OpenClaim.laidByTextAt_later rfl rfl tie noOwnUnsafe
theorem reelNarrow_row_tie : Rows.reelNarrowRow.laidByTextAt .later Tryd.pinned [.funcs, .data, .data] true :=
  OpenClaim.laidByTextAt_later rfl rfl tie noOwnUnsafe
theorem reelTorn_row_tie : Rows.reelTornRow.laidByTextAt .later Tryd.pinned [.funcs, .data, .data] true :=
  OpenClaim.laidByTextAt_later rfl rfl tie noOwnUnsafe
theorem reelEnds_row_tie : Rows.reelEndsRow.laidByTextAt .later Tryd.pinned [.funcs, .data, .data] true :=
  OpenClaim.laidByTextAt_later rfl rfl tie noOwnUnsafe
theorem reelTime_row_tie : Rows.reelTimeRow.laidByTextAt .later Tryd.pinned [.funcs, .data, .data] true :=
  OpenClaim.laidByTextAt_later rfl rfl tie noOwnUnsafe
theorem reelSpools_row_tie : Rows.reelSpoolsRow.laidByTextAt .later Tryd.pinned [.funcs, .data, .data] true :=
  OpenClaim.laidByTextAt_later rfl rfl tie noOwnUnsafe
theorem reelKnown_row_tie : Rows.reelKnownRow.laidByTextAt .later Tryd.pinned [.funcs, .data, .data] true :=
  OpenClaim.laidByTextAt_later rfl rfl tie noOwnUnsafe
theorem reelOrdersUpto_row_tie : Rows.reelOrdersUptoRow.laidByTextAt .later Tryd.pinned [.funcs, .data, .data] true :=
  OpenClaim.laidByTextAt_later rfl rfl tie noOwnUnsafe
theorem reelPlacesUpto_row_tie : Rows.reelPlacesUptoRow.laidByTextAt .later Tryd.pinned [.funcs, .data, .data] true :=
  OpenClaim.laidByTextAt_later rfl rfl tie noOwnUnsafe
theorem reelFeetUpto_row_tie : Rows.reelFeetUptoRow.laidByTextAt .later Tryd.pinned [.funcs, .data, .data] true :=
  OpenClaim.laidByTextAt_later rfl rfl tie noOwnUnsafe
theorem reelTimesUpto_row_tie : Rows.reelTimesUptoRow.laidByTextAt .later Tryd.pinned [.funcs, .data, .data] true :=
  OpenClaim.laidByTextAt_later rfl rfl tie noOwnUnsafe
theorem reelMixedUpto_row_tie : Rows.reelMixedUptoRow.laidByTextAt .later Tryd.pinned [.funcs, .data, .data] true :=
  OpenClaim.laidByTextAt_later rfl rfl tie noOwnUnsafe
theorem reelFirstUpto_row_tie : Rows.reelFirstUptoRow.laidByTextAt .later Tryd.pinned [.funcs, .data, .data] true :=
  OpenClaim.laidByTextAt_later rfl rfl tie noOwnUnsafe
theorem reelStrangeUpto_row_tie : Rows.reelStrangeUptoRow.laidByTextAt .later Tryd.pinned [.funcs, .data, .data] true :=
  OpenClaim.laidByTextAt_later rfl rfl tie noOwnUnsafe
theorem reelNarrowUpto_row_tie : Rows.reelNarrowUptoRow.laidByTextAt .later Tryd.pinned [.funcs, .data, .data] true :=
  OpenClaim.laidByTextAt_later rfl rfl tie noOwnUnsafe
theorem reelTornUpto_row_tie : Rows.reelTornUptoRow.laidByTextAt .later Tryd.pinned [.funcs, .data, .data] true :=
  OpenClaim.laidByTextAt_later rfl rfl tie noOwnUnsafe
theorem reelEndsUpto_row_tie : Rows.reelEndsUptoRow.laidByTextAt .later Tryd.pinned [.funcs, .data, .data] true :=
  OpenClaim.laidByTextAt_later rfl rfl tie noOwnUnsafe
theorem reelTimeUpto_row_tie : Rows.reelTimeUptoRow.laidByTextAt .later Tryd.pinned [.funcs, .data, .data] true :=
  OpenClaim.laidByTextAt_later rfl rfl tie noOwnUnsafe
theorem reelSpoolsUpto_row_tie : Rows.reelSpoolsUptoRow.laidByTextAt .later Tryd.pinned [.funcs, .data, .data] true :=
  OpenClaim.laidByTextAt_later rfl rfl tie noOwnUnsafe
theorem reelKnownUpto_row_tie : Rows.reelKnownUptoRow.laidByTextAt .later Tryd.pinned [.funcs, .data, .data] true :=
  OpenClaim.laidByTextAt_later rfl rfl tie noOwnUnsafe
end Go.Proofs.YtidnikjkpbmhhaaDoor
