/-
  DERIVED. GIVEN WITH THE SEED: THE PROGRAM's TIES (one call each: nine closed facts by the kernel) AND EACH ROW's TIE, after the 31st guide's Derived/Test/Toyas{Tie, Card}.lean. No idea stands in it: it is a product of the set-up. Laid BY PROGRAM, IN A SANDBOX (cutbox-door.mjs). By AI agents, Wed Nov 11 2026. No macro, syntax, notation, axiom, sorry.
-/
import Derived.Test.YtdpbbagllhfjbaaDoorRows
import Derived.LaidByTextLater
import Derived.SevenTiedAt
import Derived.LaidSub
import Derived.LaidOnce
namespace Go.Proofs.YtdpbbagllhfjbaaDoor
open Go
set_option maxRecDepth 100000
theorem seatTie1 : Tryd.prog.laidByTextLater [("unicode/utf8.acceptRanges", Rows.laid_unicode_utf8_acceptRanges), ("ephemeris/head.sizes", Rows.laid_ephemeris_head_sizes), ("ephemeris/sane.tests", Rows.laid_ephemeris_sane_tests)] [.data, .widerDeep, .funcs] true :=
  Program.laidByTextLater_by_one 34 8 33 (by kernel_rfl) (by kernel_rfl) (by kernel_rfl) (by kernel_rfl) (by kernel_rfl) (by kernel_rfl) (fun _ _ => by kernel_rfl)
theorem pin_laid_unicode_utf8_first : Tryd.pinned.checked.prog.pinnedFits "unicode/utf8.first" = true := by kernel_rfl
theorem noOwnUnsafe : Tryd.pinned.checked.prog.headLifts.contains "ownunsafe" = false := by kernel_rfl
theorem tie : Tryd.prog.laidByTextLater [("ephemeris/head.sizes", Rows.laid_ephemeris_head_sizes)] [.widerDeep] true :=
  Program.laidByTextLater.sub seatTie1 ["ephemeris/head.sizes"] (by kernel_rfl) (by kernel_rfl)
theorem serverTells_row_tie : Rows.serverTellsRow.laidByTextAt .later Tryd.pinned [.widerDeep] true :=
  OpenClaim.laidByTextAt_later rfl rfl tie noOwnUnsafe
theorem tie2 : Tryd.prog.laidByTextLater [("ephemeris/head.sizes", Rows.laid_ephemeris_head_sizes), ("ephemeris/sane.tests", Rows.laid_ephemeris_sane_tests)] [.widerDeep, .funcs] true :=
  Program.laidByTextLater.sub seatTie1 ["ephemeris/head.sizes", "ephemeris/sane.tests"] (by kernel_rfl) (by kernel_rfl)
theorem serverKnown_row_tie : Rows.serverKnownRow.laidByTextAt .later Tryd.pinned [.widerDeep, .funcs] true :=
  OpenClaim.laidByTextAt_later rfl rfl tie2 noOwnUnsafe
theorem serverHonest_row_tie : Rows.serverHonestRow.laidByTextAt .later Tryd.pinned [.widerDeep, .funcs] true :=
  OpenClaim.laidByTextAt_later rfl rfl tie2 noOwnUnsafe
theorem fits3 : Tryd.pinned.checked.prog.listedFits [("unicode/utf8.acceptRanges", Rows.laid_unicode_utf8_acceptRanges), ("ephemeris/head.sizes", Rows.laid_ephemeris_head_sizes), ("ephemeris/sane.tests", Rows.laid_ephemeris_sane_tests), ("unicode/utf8.first", Rows.laid_unicode_utf8_first)] = true := by
  unfold Program.listedFits
  rw [noOwnUnsafe]
  kernel_rfl
theorem tie3 : Tryd.prog.laidByTextLater [("unicode/utf8.acceptRanges", Rows.laid_unicode_utf8_acceptRanges), ("ephemeris/head.sizes", Rows.laid_ephemeris_head_sizes), ("ephemeris/sane.tests", Rows.laid_ephemeris_sane_tests)] [.data, .widerDeep, .funcs] true :=
  Program.laidByTextLater.sub seatTie1 ["unicode/utf8.acceptRanges", "ephemeris/head.sizes", "ephemeris/sane.tests"] (by kernel_rfl) (by kernel_rfl)
theorem serverKisses_row_tie : Rows.serverKissesRow.laidByTextAt .later Tryd.pinned [.data, .widerDeep, .funcs, .pinned] true :=
  OpenClaim.laidByTextAt_pinned rfl rfl tie3 rfl rfl rfl rfl (fun y hy _e => by
    simp only [Rows.serverKissesRow, List.zip_cons_cons, List.zip_nil_right, List.mem_cons, List.mem_nil_iff, or_false] at hy
    rcases hy with rfl | rfl | rfl | rfl
    · cases _e
    · cases _e
    · cases _e
    · exact ⟨pin_laid_unicode_utf8_first, by kernel_rfl⟩) fits3
theorem serverTellsUpto_row_tie : Rows.serverTellsUptoRow.laidByTextAt .later Tryd.pinned [.widerDeep] true :=
  OpenClaim.laidByTextAt_later rfl rfl tie noOwnUnsafe
theorem serverKnownUpto_row_tie : Rows.serverKnownUptoRow.laidByTextAt .later Tryd.pinned [.widerDeep, .funcs] true :=
  OpenClaim.laidByTextAt_later rfl rfl tie2 noOwnUnsafe
theorem serverHonestUpto_row_tie : Rows.serverHonestUptoRow.laidByTextAt .later Tryd.pinned [.widerDeep, .funcs] true :=
  OpenClaim.laidByTextAt_later rfl rfl tie2 noOwnUnsafe
theorem serverKissesUpto_row_tie : Rows.serverKissesUptoRow.laidByTextAt .later Tryd.pinned [.data, .widerDeep, .funcs, .pinned] true :=
  OpenClaim.laidByTextAt_pinned rfl rfl tie3 rfl rfl rfl rfl (fun y hy _e => by
    simp only [Rows.serverKissesUptoRow, List.zip_cons_cons, List.zip_nil_right, List.mem_cons, List.mem_nil_iff, or_false] at hy
    rcases hy with rfl | rfl | rfl | rfl
    · cases _e
    · cases _e
    · cases _e
    · exact ⟨pin_laid_unicode_utf8_first, by kernel_rfl⟩) fits3
end Go.Proofs.YtdpbbagllhfjbaaDoor
