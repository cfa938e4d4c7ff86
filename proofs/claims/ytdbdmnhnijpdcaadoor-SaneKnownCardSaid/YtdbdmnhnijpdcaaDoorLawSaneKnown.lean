/-
  SaneKnown returns true, whatever the world, where the variables that the row lists hold what the program's text lays (tied by the card). No other condition.
-/
import Derived.Test.YtdbdmnhnijpdcaaDoorRows
import Derived.Test.YtdbdmnhnijpdcaaDoorTie
import Derived.Test.YtdbdmnhnijpdcaaDoorCards
import Derived.Test.YtdbdmnhnijpdcaaDoorAICsane
import Derived.WalkKit
import Derived.ProofKit
import Derived.OpenShut
import Derived.ShutString
import Derived.ChangeOld
import Derived.Below
import Derived.SizedLaws
import Derived.Carry
import Derived.LaidMore
import Derived.Lay
import Derived.Stop.Joined
import Derived.SevenTiedAt
namespace Go.Proofs.YtdbdmnhnijpdcaaDoor.saneKnown
open Go Go.ChangeShapes Go.WideShapes Go.ChangeAt Go.RowKit
open Go.ChangeMaps (open_string shut_string)
set_option linter.unusedVariables false
theorem own : ownKnob Tryd.prog.godebug = none := by kernel_rfl
theorem laidOut : laidOutB Tryd.prog = true := by kernel_rfl
noncomputable def start0 (os : Os) : World := (World.doorLaid Tryd.prog 400 os).layVars Tryd.prog (([("unicode/utf8.acceptRanges", Rows.laid_unicode_utf8_acceptRanges), ("ephemeris/sane.tests", Rows.laid_ephemeris_sane_tests), ("unicode/utf8.first", Rows.laid_unicode_utf8_first)].filter fun x => x.2.handleName?.isNone).filter fun x => ["unicode/utf8.acceptRanges", "unicode/utf8.first"].contains x.1)
theorem start_os (os : Os) : (start0 os).os = os := World.layVars_os _ _ _
theorem start_shape (os : Os) (args : Array Value) : ((start0 os).forCall (fun _ _ => 0) ⟨#[], args, []⟩).Shaped Tryd.prog := World.shaped_of_ZipB (by kernel_rfl) (by kernel_rfl)
theorem door_met (os : Os) (args : Array Value) : laidMetH Tryd.prog [("unicode/utf8.acceptRanges", Rows.laid_unicode_utf8_acceptRanges), ("ephemeris/sane.tests", Rows.laid_ephemeris_sane_tests), ("unicode/utf8.first", Rows.laid_unicode_utf8_first)] ((start0 os).forCall (fun _ _ => 0) ⟨#[], args, []⟩).memory :=
  laidMetH_of_parts3 (fuel := 8) (laidMet_layVars (w0 := World.doorLaid Tryd.prog 400 os) ["unicode/utf8.acceptRanges", "unicode/utf8.first"] [] (by kernel_rfl) (by kernel_rfl) (by kernel_rfl) LaidIn.none) (by kernel_rfl) (by kernel_rfl)
set_option maxRecDepth 100000 in
theorem lifted (os : Os) (started : os.Started) (H : Type) (enc : TypeId × Value → H) :
    ReturnsInHanded {} Tryd.checked os 8 .any (fun w args => (Rows.saneKnownSpec.pre enc Tryd.prog Tryd.f8 [] false w args ∧ laidMetH Tryd.prog [("unicode/utf8.acceptRanges", Rows.laid_unicode_utf8_acceptRanges), ("ephemeris/sane.tests", Rows.laid_ephemeris_sane_tests), ("unicode/utf8.first", Rows.laid_unicode_utf8_first)] w) ∧ sizedMet enc Tryd.prog Tryd.f8 (OpenSpec.ofChange Rows.saneKnownSpec) false w args)
      (Rows.saneKnownSpec.post enc Tryd.prog Tryd.f8 false true false false) := by
  refine returnsInHanded_of_change_and (C := Tryd.checked) (X := fun w _ => laidMetH Tryd.prog [("unicode/utf8.acceptRanges", Rows.laid_unicode_utf8_acceptRanges), ("ephemeris/sane.tests", Rows.laid_ephemeris_sane_tests), ("unicode/utf8.first", Rows.laid_unicode_utf8_first)] w) (fun _ _ _ hh h => h.of_heap hh) own started (by kernel_rfl) Tryd.func8
    (ChangeSpec.witness_shaped (enc := enc) (C := Tryd.checked) (os := os) (X := fun w _ => laidMetH Tryd.prog [("unicode/utf8.acceptRanges", Rows.laid_unicode_utf8_acceptRanges), ("ephemeris/sane.tests", Rows.laid_ephemeris_sane_tests), ("unicode/utf8.first", Rows.laid_unicode_utf8_first)] w) false (start0 os) #[] 8 (start_os os) (start_shape os _) (by kernel_rfl) (by kernel_rfl) (by kernel_rfl) (door_met os _)) ?_
  intro W base args ds gs before hval0 hW _ _ hL _
  have hW' := hW
  obtain ⟨p, q, hA0, hV, rfl, hfz, hnd⟩ := hW
  have hA : DataW.TrodAll enc Tryd.prog W 0 (fun _ => true) true Tryd.f8.params.toList args.toList ds p := hA0
  rw [Tryd.params8] at hA
  obtain ⟨rfl, rfl, rfl⟩ := trodAll_none hA
  obtain ⟨rfl, rfl⟩ := trodVars_none hV
  clear hA0 hval0
  refine (Go.Proofs.YtdbdmnhnijpdcaaDoorW.AI.C.sane_walk W (Go.Proofs.YtdbdmnhnijpdcaaDoorW.AI.C.laid_sane hL)).mono fun e W' ⟨he, bel⟩ => ?_
  subst he
  exact ⟨_, rfl, _, _, _, [], _, [], hW', trodAll_mk1 (shut_bool Tryd.underlying4 _), trodAll_mk0, rfl, bel.frame _, fun h => by cases h⟩
theorem over : Rows.SaneKnownSaid :=
  OpenClaim.holds_of_wide 8 Tryd.f8 rfl rfl rfl rfl rfl rfl rfl ⟨rfl, rfl, rfl, rfl, rfl⟩ rfl rfl rfl rfl rfl (by kernel_rfl) Tryd.func8 (by kernel_rfl)
    (of_decide_eq_true (by kernel_rfl)) (by unfold Func.isWrapper; first | (rw [if_pos (by decide +kernel)]; kernel_rfl) | (rw [if_neg (by decide +kernel)]; exact ⟨rfl, rfl⟩))
    (fun os started H enc _ => lifted os started H enc)
theorem card_holds : Rows.SaneKnownCardSaid :=
  Claim7.holds_tied_plain_at .later [] [.data, .funcs, .pinned] true (true, "f1f887f019c7d9495c092a96f730513d62cec1127c450b8e60ece5fc6c103903") false
    over (fun _ h => by cases h) (by kernel_rfl) (fun _ h => by cases h) saneKnown_row_tie rfl ⟨rfl, rfl⟩ (by kernel_rfl) rfl
    (fun f fn hf hfn => by
      obtain rfl : f = 8 := Option.some.inj ((show Tryd.prog.funcNamed "ephemeris/ephemerislaw08.SaneKnown" = some 8 by kernel_rfl).symm.trans hf) |>.symm
      obtain rfl : fn = Tryd.f8 := (Option.some.inj (Tryd.func8.symm.trans hfn)).symm
      exact ⟨by kernel_rfl, fun j t ht => by
        rw [Tryd.params8] at ht
        simp at ht⟩)
    (by kernel_rfl)
end Go.Proofs.YtdbdmnhnijpdcaaDoor.saneKnown
namespace Go.Proofs.YtdbdmnhnijpdcaaDoor
theorem saneKnown_holds : Rows.SaneKnownCardSaid := saneKnown.card_holds
end Go.Proofs.YtdbdmnhnijpdcaaDoor

