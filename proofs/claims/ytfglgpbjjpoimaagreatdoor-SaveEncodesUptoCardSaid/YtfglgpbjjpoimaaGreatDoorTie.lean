/-
  DERIVED. GIVEN WITH THE SEED: THE PROGRAM's TIES (one call each: nine closed facts by the kernel) AND EACH ROW's TIE, after the 31st guide's Derived/Test/Toyas{Tie, Card}.lean. No idea stands in it: it is a product of the set-up. Laid BY PROGRAM, IN A SANDBOX (cutbox-door.mjs). By AI agents, Wed Nov 11 2026. No macro, syntax, notation, axiom, sorry.
-/
import Derived.Test.YtfglgpbjjpoimaaGreatDoorRows
import Derived.LaidByTextLater
import Derived.SevenTiedAt
import Derived.LaidSub
import Derived.LaidOnce
namespace Go.Proofs.YtfglgpbjjpoimaaGreatDoor
open Go
set_option maxRecDepth 100000
theorem seatTie1 : Tryz.prog.laidByTextLater [("math/bits.deBruijn32tab", Rows.laid_math_bits_deBruijn32tab), ("math/bits.deBruijn64tab", Rows.laid_math_bits_deBruijn64tab), ("internal/strconv.uint64pow10", Rows.laid_internal_strconv_uint64pow10), ("errors.errorType", Rows.laid_errors_errorType), ("sluice/api.Keywords", Rows.laid_sluice_api_Keywords), ("sluice/lex.spellings", Rows.laid_sluice_lex_spellings), ("sluice/sluiceref5.signs", Rows.laid_sluice_sluiceref5_signs), ("sluice/sluiceref5.calls", Rows.laid_sluice_sluiceref5_calls), ("sluice/sluiceref17.first", Rows.laid_sluice_sluiceref17_first), ("sluice/show.levels", Rows.laid_sluice_show_levels), ("sluice/show.signs", Rows.laid_sluice_show_signs), ("sluice/show.afters", Rows.laid_sluice_show_afters)] [.data, .data, .data, .handle, .data, .data, .data, .data, .data, .data, .data, .data] true :=
  Program.laidByTextLater_by_one 71 8 65 (by kernel_rfl) (by kernel_rfl) (by kernel_rfl) (by kernel_rfl) (by kernel_rfl) (by kernel_rfl) (fun _ _ => by kernel_rfl)
theorem noOwnUnsafe : Tryz.pinned.checked.prog.headLifts.contains "ownunsafe" = false := by kernel_rfl
theorem tie : Tryz.prog.laidByTextLater [("math/bits.deBruijn32tab", Rows.laid_math_bits_deBruijn32tab), ("math/bits.deBruijn64tab", Rows.laid_math_bits_deBruijn64tab), ("internal/strconv.uint64pow10", Rows.laid_internal_strconv_uint64pow10), ("errors.errorType", Rows.laid_errors_errorType), ("sluice/api.Keywords", Rows.laid_sluice_api_Keywords), ("sluice/lex.spellings", Rows.laid_sluice_lex_spellings), ("sluice/sluiceref5.signs", Rows.laid_sluice_sluiceref5_signs), ("sluice/sluiceref5.calls", Rows.laid_sluice_sluiceref5_calls), ("sluice/sluiceref17.first", Rows.laid_sluice_sluiceref17_first), ("sluice/show.levels", Rows.laid_sluice_show_levels), ("sluice/show.signs", Rows.laid_sluice_show_signs), ("sluice/show.afters", Rows.laid_sluice_show_afters)] [.data, .data, .data, .handle, .data, .data, .data, .data, .data, .data, .data, .data] true :=
  Program.laidByTextLater.sub seatTie1 ["math/bits.deBruijn32tab", "math/bits.deBruijn64tab", "internal/strconv.uint64pow10", "errors.errorType", "sluice/api.Keywords", "sluice/lex.spellings", "sluice/sluiceref5.signs", "sluice/sluiceref5.calls", "sluice/sluiceref17.first", "sluice/show.levels", "sluice/show.signs", "sluice/show.afters"] (by kernel_rfl) (by kernel_rfl)
theorem saveEncodes_row_tie : Rows.saveEncodesRow.laidByTextAt .later Tryz.pinned [.data, .data, .data, .handle, .data, .data, .data, .data, .data, .data, .data, .data] true :=
  OpenClaim.laidByTextAt_later rfl rfl tie noOwnUnsafe
theorem saveEncodesUpto_row_tie : Rows.saveEncodesUptoRow.laidByTextAt .later Tryz.pinned [.data, .data, .data, .handle, .data, .data, .data, .data, .data, .data, .data, .data] true :=
  OpenClaim.laidByTextAt_later rfl rfl tie noOwnUnsafe
end Go.Proofs.YtfglgpbjjpoimaaGreatDoor
