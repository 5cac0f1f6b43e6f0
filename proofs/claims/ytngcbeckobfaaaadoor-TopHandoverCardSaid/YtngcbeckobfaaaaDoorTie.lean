/-
  DERIVED. GIVEN WITH THE SEED: THE PROGRAM's TIES (one call each: nine closed facts by the kernel) AND EACH ROW's TIE, after the 31st guide's Derived/Test/Toyas{Tie, Card}.lean. No idea stands in it: it is a product of the set-up. Laid BY PROGRAM, IN A SANDBOX (cutbox-door.mjs). By AI agents, Wed Nov 11 2026. No macro, syntax, notation, axiom, sorry.
-/
import Derived.Test.YtngcbeckobfaaaaDoorRows
import Derived.LaidByTextLater
import Derived.SevenTiedAt
import Derived.LaidSub
import Derived.LaidOnce
namespace Go.Proofs.YtngcbeckobfaaaaDoor
open Go
set_option maxRecDepth 100000
theorem seatTie1 : Tryd.prog.laidByTextLater [("remontoir/beat.kinds", Rows.laid_remontoir_beat_kinds), ("remontoir/dial.parts", Rows.laid_remontoir_dial_parts), ("remontoir/scale.ways", Rows.laid_remontoir_scale_ways), ("remontoir/spare.lasts", Rows.laid_remontoir_spare_lasts), ("remontoir/star.kinds", Rows.laid_remontoir_star_kinds), ("remontoir/voice.parts", Rows.laid_remontoir_voice_parts)] [.funcs, .funcs, .funcs, .funcs, .funcs, .funcs] true :=
  Program.laidByTextLater_by_one 39 8 2 (by kernel_rfl) (by kernel_rfl) (by kernel_rfl) (by kernel_rfl) (by kernel_rfl) (by kernel_rfl) (fun _ _ => by kernel_rfl)
theorem noOwnUnsafe : Tryd.pinned.checked.prog.headLifts.contains "ownunsafe" = false := by kernel_rfl
theorem tie : Tryd.prog.laidByTextLater [("remontoir/beat.kinds", Rows.laid_remontoir_beat_kinds), ("remontoir/spare.lasts", Rows.laid_remontoir_spare_lasts)] [.funcs, .funcs] true :=
  Program.laidByTextLater.sub seatTie1 ["remontoir/beat.kinds", "remontoir/spare.lasts"] (by kernel_rfl) (by kernel_rfl)
theorem topHandover_row_tie : Rows.topHandoverRow.laidByTextAt .later Tryd.pinned [.funcs, .funcs] true :=
  OpenClaim.laidByTextAt_later rfl rfl tie noOwnUnsafe
theorem tie2 : Tryd.prog.laidByTextLater [("remontoir/dial.parts", Rows.laid_remontoir_dial_parts), ("remontoir/scale.ways", Rows.laid_remontoir_scale_ways), ("remontoir/star.kinds", Rows.laid_remontoir_star_kinds), ("remontoir/voice.parts", Rows.laid_remontoir_voice_parts)] [.funcs, .funcs, .funcs, .funcs] true :=
  Program.laidByTextLater.sub seatTie1 ["remontoir/dial.parts", "remontoir/scale.ways", "remontoir/star.kinds", "remontoir/voice.parts"] (by kernel_rfl) (by kernel_rfl)
theorem topDecreed_row_tie : Rows.topDecreedRow.laidByTextAt .later Tryd.pinned [.funcs, .funcs, .funcs, .funcs] true :=
  OpenClaim.laidByTextAt_later rfl rfl tie2 noOwnUnsafe
theorem tie3 : Tryd.prog.laidByTextLater [("remontoir/beat.kinds", Rows.laid_remontoir_beat_kinds), ("remontoir/dial.parts", Rows.laid_remontoir_dial_parts), ("remontoir/spare.lasts", Rows.laid_remontoir_spare_lasts), ("remontoir/voice.parts", Rows.laid_remontoir_voice_parts)] [.funcs, .funcs, .funcs, .funcs] true :=
  Program.laidByTextLater.sub seatTie1 ["remontoir/beat.kinds", "remontoir/dial.parts", "remontoir/spare.lasts", "remontoir/voice.parts"] (by kernel_rfl) (by kernel_rfl)
theorem topCaller_row_tie : Rows.topCallerRow.laidByTextAt .later Tryd.pinned [.funcs, .funcs, .funcs, .funcs] true :=
  OpenClaim.laidByTextAt_later rfl rfl tie3 noOwnUnsafe
theorem topHandoverUpto_row_tie : Rows.topHandoverUptoRow.laidByTextAt .later Tryd.pinned [.funcs, .funcs] true :=
  OpenClaim.laidByTextAt_later rfl rfl tie noOwnUnsafe
theorem topDecreedUpto_row_tie : Rows.topDecreedUptoRow.laidByTextAt .later Tryd.pinned [.funcs, .funcs, .funcs, .funcs] true :=
  OpenClaim.laidByTextAt_later rfl rfl tie2 noOwnUnsafe
theorem topCallerUpto_row_tie : Rows.topCallerUptoRow.laidByTextAt .later Tryd.pinned [.funcs, .funcs, .funcs, .funcs] true :=
  OpenClaim.laidByTextAt_later rfl rfl tie3 noOwnUnsafe
end Go.Proofs.YtngcbeckobfaaaaDoor
