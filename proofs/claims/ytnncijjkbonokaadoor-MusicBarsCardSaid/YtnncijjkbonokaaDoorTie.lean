/-
  DERIVED. GIVEN WITH THE SEED: THE PROGRAM's TIES (one call each: nine closed facts by the kernel) AND EACH ROW's TIE, after the 31st guide's Derived/Test/Toyas{Tie, Card}.lean. No idea stands in it: it is a product of the set-up. Laid BY PROGRAM, IN A SANDBOX (cutbox-door.mjs). By AI agents, Wed Nov 11 2026. No macro, syntax, notation, axiom, sorry.
-/
import Derived.Test.YtnncijjkbonokaaDoorRows
import Derived.LaidByTextLater
import Derived.SevenTiedAt
import Derived.LaidSub
import Derived.LaidOnce
namespace Go.Proofs.YtnncijjkbonokaaDoor
open Go
set_option maxRecDepth 100000
theorem seatTie1 : Tryd.prog.laidByTextLater [("dactyl/music.octaves", Rows.laid_dactyl_music_octaves), ("dactyl/music.names", Rows.laid_dactyl_music_names), ("dactyl/music.lengths", Rows.laid_dactyl_music_lengths)] [.widerDeep, .data, .widerDeep] true :=
  Program.laidByTextLater_by_one 24 8 9 (by kernel_rfl) (by kernel_rfl) (by kernel_rfl) (by kernel_rfl) (by kernel_rfl) (by kernel_rfl) (fun _ _ => by kernel_rfl)
theorem noOwnUnsafe : Tryd.pinned.checked.prog.headLifts.contains "ownunsafe" = false := by kernel_rfl
theorem tie : Tryd.prog.laidByTextLater [("dactyl/music.octaves", Rows.laid_dactyl_music_octaves), ("dactyl/music.names", Rows.laid_dactyl_music_names), ("dactyl/music.lengths", Rows.laid_dactyl_music_lengths)] [.widerDeep, .data, .widerDeep] true :=
  Program.laidByTextLater.sub seatTie1 ["dactyl/music.octaves", "dactyl/music.names", "dactyl/music.lengths"] (by kernel_rfl) (by kernel_rfl)
theorem musicBars_row_tie : Rows.musicBarsRow.laidByTextAt .later Tryd.pinned [.widerDeep, .data, .widerDeep] true :=
  OpenClaim.laidByTextAt_later rfl rfl tie noOwnUnsafe
theorem musicEncodes_row_tie : Rows.musicEncodesRow.laidByTextAt .later Tryd.pinned [.widerDeep, .data, .widerDeep] true :=
  OpenClaim.laidByTextAt_later rfl rfl tie noOwnUnsafe
theorem musicReads_row_tie : Rows.musicReadsRow.laidByTextAt .later Tryd.pinned [.widerDeep, .data, .widerDeep] true :=
  OpenClaim.laidByTextAt_later rfl rfl tie noOwnUnsafe
theorem musicAligned_row_tie : Rows.musicAlignedRow.laidByTextAt .later Tryd.pinned [.widerDeep, .data, .widerDeep] true :=
  OpenClaim.laidByTextAt_later rfl rfl tie noOwnUnsafe
theorem musicNeeded_row_tie : Rows.musicNeededRow.laidByTextAt .later Tryd.pinned [.widerDeep, .data, .widerDeep] true :=
  OpenClaim.laidByTextAt_later rfl rfl tie noOwnUnsafe
theorem musicLines_row_tie : Rows.musicLinesRow.laidByTextAt .later Tryd.pinned [.widerDeep, .data, .widerDeep] true :=
  OpenClaim.laidByTextAt_later rfl rfl tie noOwnUnsafe
theorem musicValid_row_tie : Rows.musicValidRow.laidByTextAt .later Tryd.pinned [.widerDeep, .data, .widerDeep] true :=
  OpenClaim.laidByTextAt_later rfl rfl tie noOwnUnsafe
theorem musicBarsUpto_row_tie : Rows.musicBarsUptoRow.laidByTextAt .later Tryd.pinned [.widerDeep, .data, .widerDeep] true :=
  OpenClaim.laidByTextAt_later rfl rfl tie noOwnUnsafe
theorem musicEncodesUpto_row_tie : Rows.musicEncodesUptoRow.laidByTextAt .later Tryd.pinned [.widerDeep, .data, .widerDeep] true :=
  OpenClaim.laidByTextAt_later rfl rfl tie noOwnUnsafe
theorem musicReadsUpto_row_tie : Rows.musicReadsUptoRow.laidByTextAt .later Tryd.pinned [.widerDeep, .data, .widerDeep] true :=
  OpenClaim.laidByTextAt_later rfl rfl tie noOwnUnsafe
theorem musicAlignedUpto_row_tie : Rows.musicAlignedUptoRow.laidByTextAt .later Tryd.pinned [.widerDeep, .data, .widerDeep] true :=
  OpenClaim.laidByTextAt_later rfl rfl tie noOwnUnsafe
theorem musicNeededUpto_row_tie : Rows.musicNeededUptoRow.laidByTextAt .later Tryd.pinned [.widerDeep, .data, .widerDeep] true :=
  OpenClaim.laidByTextAt_later rfl rfl tie noOwnUnsafe
theorem musicLinesUpto_row_tie : Rows.musicLinesUptoRow.laidByTextAt .later Tryd.pinned [.widerDeep, .data, .widerDeep] true :=
  OpenClaim.laidByTextAt_later rfl rfl tie noOwnUnsafe
theorem musicValidUpto_row_tie : Rows.musicValidUptoRow.laidByTextAt .later Tryd.pinned [.widerDeep, .data, .widerDeep] true :=
  OpenClaim.laidByTextAt_later rfl rfl tie noOwnUnsafe
end Go.Proofs.YtnncijjkbonokaaDoor
