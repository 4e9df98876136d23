/-
  DERIVED. GIVEN WITH THE SEED: THE PROGRAM's TIES (one call each: nine closed facts by the kernel) AND EACH ROW's TIE, after the 31st guide's Derived/Test/Toyas{Tie, Card}.lean. No idea stands in it: it is a product of the set-up. Laid BY PROGRAM, IN A SANDBOX (cutbox-door.mjs). By AI agents, Wed Nov 11 2026. No macro, syntax, notation, axiom, sorry.
-/
import Derived.Test.YtoakfcihcmmihaaDoorRows
import Derived.LaidByTextLater
import Derived.SevenTiedAt
import Derived.LaidSub
import Derived.LaidOnce
namespace Go.Proofs.YtoakfcihcmmihaaDoor
open Go
set_option maxRecDepth 100000
theorem seatTie1 : Tryd.prog.laidByTextLater [("veil/veilref03.round", Rows.laid_veil_veilref03_round), ("veil/veilref03.first", Rows.laid_veil_veilref03_first), ("veil/scalar.table", Rows.laid_veil_scalar_table), ("veil/veilref01.Zero", Rows.laid_veil_veilref01_Zero), ("veil/veilref01.One", Rows.laid_veil_veilref01_One), ("veil/veilref01.prime", Rows.laid_veil_veilref01_prime)] [.data, .data, .data, .data, .wider, .data] true :=
  Program.laidByTextLater_by_one 53 8 81 (by kernel_rfl) (by kernel_rfl) (by kernel_rfl) (by kernel_rfl) (by kernel_rfl) (by kernel_rfl) (fun _ _ => by kernel_rfl)
theorem seatTie2 : Tryd.prog.laidByTextLater [("veil/veilref03.round", Rows.laid_veil_veilref03_round), ("veil/veilref03.first", Rows.laid_veil_veilref03_first), ("veil/hash.rounds", Rows.laid_veil_hash_rounds), ("veil/hash.start", Rows.laid_veil_hash_start), ("veil/scalar.table", Rows.laid_veil_scalar_table)] [.data, .data, .data, .data, .data] true :=
  Program.laidByTextLater_by_one 53 8 81 (by kernel_rfl) (by kernel_rfl) (by kernel_rfl) (by kernel_rfl) (by kernel_rfl) (by kernel_rfl) (fun _ _ => by kernel_rfl)
theorem noOwnUnsafe : Tryd.pinned.checked.prog.headLifts.contains "ownunsafe" = false := by kernel_rfl
theorem tie : Tryd.prog.laidByTextLater [("veil/scalar.table", Rows.laid_veil_scalar_table)] [.data] true :=
  Program.laidByTextLater.sub seatTie1 ["veil/scalar.table"] (by kernel_rfl) (by kernel_rfl)
theorem sigmaClaims_row_tie : Rows.sigmaClaimsRow.laidByTextAt .later Tryd.pinned [.data] true :=
  OpenClaim.laidByTextAt_later rfl rfl tie noOwnUnsafe
theorem gensParts_row_tie : Rows.gensPartsRow.laidByTextAt .later Tryd.pinned [.data] true :=
  OpenClaim.laidByTextAt_later rfl rfl tie noOwnUnsafe
theorem gensBases_row_tie : Rows.gensBasesRow.laidByTextAt .later Tryd.pinned [.data] true :=
  OpenClaim.laidByTextAt_later rfl rfl tie noOwnUnsafe
theorem msmZips_row_tie : Rows.msmZipsRow.laidByTextAt .later Tryd.pinned [.data] true :=
  OpenClaim.laidByTextAt_later rfl rfl tie noOwnUnsafe
theorem tie2 : Tryd.prog.laidByTextLater [("veil/veilref03.round", Rows.laid_veil_veilref03_round), ("veil/veilref03.first", Rows.laid_veil_veilref03_first), ("veil/scalar.table", Rows.laid_veil_scalar_table), ("veil/veilref01.Zero", Rows.laid_veil_veilref01_Zero), ("veil/veilref01.One", Rows.laid_veil_veilref01_One), ("veil/veilref01.prime", Rows.laid_veil_veilref01_prime)] [.data, .data, .data, .data, .wider, .data] true :=
  Program.laidByTextLater.sub seatTie1 ["veil/veilref03.round", "veil/veilref03.first", "veil/scalar.table", "veil/veilref01.Zero", "veil/veilref01.One", "veil/veilref01.prime"] (by kernel_rfl) (by kernel_rfl)
theorem msmLines_row_tie : Rows.msmLinesRow.laidByTextAt .later Tryd.pinned [.data, .data, .data, .data, .wider, .data] true :=
  OpenClaim.laidByTextAt_later rfl rfl tie2 noOwnUnsafe
theorem tie3 : Tryd.prog.laidByTextLater [("veil/veilref03.round", Rows.laid_veil_veilref03_round), ("veil/veilref03.first", Rows.laid_veil_veilref03_first), ("veil/hash.rounds", Rows.laid_veil_hash_rounds), ("veil/hash.start", Rows.laid_veil_hash_start), ("veil/scalar.table", Rows.laid_veil_scalar_table)] [.data, .data, .data, .data, .data] true :=
  Program.laidByTextLater.sub seatTie2 ["veil/veilref03.round", "veil/veilref03.first", "veil/hash.rounds", "veil/hash.start", "veil/scalar.table"] (by kernel_rfl) (by kernel_rfl)
theorem gensLines_row_tie : Rows.gensLinesRow.laidByTextAt .later Tryd.pinned [.data, .data, .data, .data, .data] true :=
  OpenClaim.laidByTextAt_later rfl rfl tie3 noOwnUnsafe
theorem sigmaClaimsUpto_row_tie : Rows.sigmaClaimsUptoRow.laidByTextAt .later Tryd.pinned [.data] true :=
  OpenClaim.laidByTextAt_later rfl rfl tie noOwnUnsafe
theorem gensPartsUpto_row_tie : Rows.gensPartsUptoRow.laidByTextAt .later Tryd.pinned [.data] true :=
  OpenClaim.laidByTextAt_later rfl rfl tie noOwnUnsafe
theorem gensBasesUpto_row_tie : Rows.gensBasesUptoRow.laidByTextAt .later Tryd.pinned [.data] true :=
  OpenClaim.laidByTextAt_later rfl rfl tie noOwnUnsafe
theorem msmZipsUpto_row_tie : Rows.msmZipsUptoRow.laidByTextAt .later Tryd.pinned [.data] true :=
  OpenClaim.laidByTextAt_later rfl rfl tie noOwnUnsafe
theorem msmLinesUpto_row_tie : Rows.msmLinesUptoRow.laidByTextAt .later Tryd.pinned [.data, .data, .data, .data, .wider, .data] true :=
  OpenClaim.laidByTextAt_later rfl rfl tie2 noOwnUnsafe
theorem gensLinesUpto_row_tie : Rows.gensLinesUptoRow.laidByTextAt .later Tryd.pinned [.data, .data, .data, .data, .data] true :=
  OpenClaim.laidByTextAt_later rfl rfl tie3 noOwnUnsafe
end Go.Proofs.YtoakfcihcmmihaaDoor
