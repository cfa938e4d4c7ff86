/-
  ServerKisses returns true, whatever it is handed and whatever the world, where the variables that the row lists hold what the program's text lays (tied by the card). No other condition.
-/
import Derived.Test.YtdpbbagllhfjbaaDoorRows
import Derived.Test.YtdpbbagllhfjbaaDoorTie
import Derived.Test.YtdpbbagllhfjbaaDoorCards
import Derived.Test.YtdpbbagllhfjbaaDoorAIGgkisA
import Derived.WalkKit
import Derived.ProofKit
import Derived.OpenShut
import Derived.ShutString
import Derived.ChangeOld
import Derived.Below
import Derived.SizedLaws
import Derived.Carry
import Derived.LaidMore
import Derived.Lay
import Derived.Stop.Joined
import Derived.SevenTiedAt
namespace Go.Proofs.YtdpbbagllhfjbaaDoor.serverKisses
open Go Go.ChangeShapes Go.WideShapes Go.ChangeAt Go.RowKit
open Go.ChangeMaps (open_string shut_string)
set_option linter.unusedVariables false
theorem own : ownKnob Tryd.prog.godebug = none := by kernel_rfl
theorem laidOut : laidOutB Tryd.prog = true := by kernel_rfl
noncomputable def start0 (os : Os) : World := (World.doorLaid Tryd.prog 400 os).layVars Tryd.prog (([("unicode/utf8.acceptRanges", Rows.laid_unicode_utf8_acceptRanges), ("ephemeris/head.sizes", Rows.laid_ephemeris_head_sizes), ("ephemeris/sane.tests", Rows.laid_ephemeris_sane_tests), ("unicode/utf8.first", Rows.laid_unicode_utf8_first)].filter fun x => x.2.handleName?.isNone).filter fun x => ["unicode/utf8.acceptRanges", "unicode/utf8.first"].contains x.1)
theorem start_os (os : Os) : (start0 os).os = os := World.layVars_os _ _ _
theorem start_shape (os : Os) (args : Array Value) : ((start0 os).forCall (fun _ _ => 0) ⟨#[], args, []⟩).Shaped Tryd.prog := World.shaped_of_ZipB (by kernel_rfl) (by kernel_rfl)
theorem door_met (os : Os) (args : Array Value) : laidMetH Tryd.prog [("unicode/utf8.acceptRanges", Rows.laid_unicode_utf8_acceptRanges), ("ephemeris/head.sizes", Rows.laid_ephemeris_head_sizes), ("ephemeris/sane.tests", Rows.laid_ephemeris_sane_tests), ("unicode/utf8.first", Rows.laid_unicode_utf8_first)] ((start0 os).forCall (fun _ _ => 0) ⟨#[], args, []⟩).memory :=
  laidMetH_of_parts3 (fuel := 8) (laidMet_layVars (w0 := World.doorLaid Tryd.prog 400 os) ["unicode/utf8.acceptRanges", "unicode/utf8.first"] [1] (by kernel_rfl) (by kernel_rfl) (by kernel_rfl) (LaidIn.of_run [1] 8 (by kernel_rfl) (by kernel_rfl) (by kernel_rfl) (by kernel_rfl))) (by kernel_rfl) (by kernel_rfl)
set_option maxRecDepth 100000 in
theorem lifted (os : Os) (started : os.Started) (H : Type) (enc : TypeId × Value → H) :
    ReturnsInHanded {} Tryd.checked os 6 .any (fun w args => (Rows.serverKissesSpec.pre enc Tryd.prog Tryd.f6 [] false w args ∧ laidMetH Tryd.prog [("unicode/utf8.acceptRanges", Rows.laid_unicode_utf8_acceptRanges), ("ephemeris/head.sizes", Rows.laid_ephemeris_head_sizes), ("ephemeris/sane.tests", Rows.laid_ephemeris_sane_tests), ("unicode/utf8.first", Rows.laid_unicode_utf8_first)] w) ∧ sizedMet enc Tryd.prog Tryd.f6 (OpenSpec.ofChange Rows.serverKissesSpec) false w args)
      (Rows.serverKissesSpec.post enc Tryd.prog Tryd.f6 false true false false) := by
  refine returnsInHanded_of_change_and (C := Tryd.checked) (X := fun w _ => laidMetH Tryd.prog [("unicode/utf8.acceptRanges", Rows.laid_unicode_utf8_acceptRanges), ("ephemeris/head.sizes", Rows.laid_ephemeris_head_sizes), ("ephemeris/sane.tests", Rows.laid_ephemeris_sane_tests), ("unicode/utf8.first", Rows.laid_unicode_utf8_first)] w) (fun _ _ _ hh h => h.of_heap hh) own started (by kernel_rfl) Tryd.func6
    (ChangeSpec.witness_shaped (enc := enc) (C := Tryd.checked) (os := os) (X := fun w _ => laidMetH Tryd.prog [("unicode/utf8.acceptRanges", Rows.laid_unicode_utf8_acceptRanges), ("ephemeris/head.sizes", Rows.laid_ephemeris_head_sizes), ("ephemeris/sane.tests", Rows.laid_ephemeris_sane_tests), ("unicode/utf8.first", Rows.laid_unicode_utf8_first)] w) false (start0 os) #[.agg #[.int .u8 0, .int .u32 0, .int .u32 0, .int .u64 0, .int .u64 0, .int .i64 0], .int .u64 0, .string ⟨#[]⟩, .agg #[.int .u32 0, .int .u64 0, .int .u64 0]] 8 (start_os os) (start_shape os _) (by kernel_rfl) (by kernel_rfl) (by kernel_rfl) (door_met os _)) ?_
  intro W base args ds gs before hval0 hW _ _ hL _
  have hval : ∀ (j : Nat) t v, Tryd.f6.params.toList[j]? = some t → args.toList[j]? = some v → Value.okWide Tryd.prog W .any base t v := fun j t v a b => hval0 j t v (by simpa using a) (by simpa using b)
  have hW' := hW
  obtain ⟨p, q, hA0, hV, rfl, hfz, hnd⟩ := hW
  have hA : DataW.TrodAll enc Tryd.prog W 0 (fun _ => true) true Tryd.f6.params.toList args.toList ds p := hA0
  obtain ⟨rfl, rfl⟩ := trodVars_none hV
  clear hA0 hval0
  have hB := hA
  rw [Tryd.params6] at hA hval
  obtain ⟨v0, vs0, d0, ds0, p0, q0, hargs, rfl, rfl, h0, r0⟩ := trodAll_cons hA
  obtain ⟨v1, vs1, d1, ds1, p1, q1, rfl, rfl, rfl, h1, r1⟩ := trodAll_cons r0
  obtain ⟨v2, vs2, d2, ds2, p2, q2, rfl, rfl, rfl, h2, r2⟩ := trodAll_cons r1
  obtain ⟨v3, vs3, d3, ds3, p3, q3, rfl, rfl, rfl, h3, r3⟩ := trodAll_cons r2
  obtain ⟨rfl, rfl, rfl⟩ := trodAll_nil r3
  rw [Tryd.params6] at hB
  refine (Go.Proofs.YtdpbbagllhfjbaaDoorW.AI.G.law_walkS Go.Proofs.YtdpbbagllhfjbaaDoorW.AI.G.kisses_law Go.Proofs.YtdpbbagllhfjbaaDoorW.AI.G.kisses_kinds (Go.Proofs.YtdpbbagllhfjbaaDoorW.AI.G.laid_four hL) hB hval).mono fun e W' ⟨he, bel⟩ => ?_
  subst he
  exact ⟨_, rfl, _, _, _, [], _, [], hW', trodAll_mk1 (shut_bool Tryd.underlying4 _), Go.Proofs.YtdpbbagllhfjbaaDoorW.AI.trodAll_stays laidOut bel (by rw [Tryd.params6]; kernel_rfl) (by rw [Tryd.params6]; exact hB), rfl, bel.frame _, fun h => by cases h⟩
theorem over : Rows.ServerKissesSaid :=
  OpenClaim.holds_of_wide 6 Tryd.f6 rfl rfl rfl rfl rfl rfl rfl ⟨rfl, rfl, rfl, rfl, rfl⟩ rfl rfl rfl rfl rfl (by kernel_rfl) Tryd.func6 (by kernel_rfl)
    (of_decide_eq_true (by kernel_rfl)) (by unfold Func.isWrapper; first | (rw [if_pos (by decide +kernel)]; kernel_rfl) | (rw [if_neg (by decide +kernel)]; exact ⟨rfl, rfl⟩))
    (fun os started H enc _ => lifted os started H enc)
theorem card_holds : Rows.ServerKissesCardSaid :=
  Claim7.holds_tied_plain_at .later [] [.data, .widerDeep, .funcs, .pinned] true (true, "0d73f5416a7720e2e0fb76b365682ca6af4135e416c68a6a9813d6d8803f73ab") false
    over (fun _ h => by cases h) (by kernel_rfl) (fun _ h => by cases h) serverKisses_row_tie rfl ⟨rfl, rfl⟩ (by kernel_rfl) rfl
    (fun f fn hf hfn => by
      obtain rfl : f = 6 := Option.some.inj ((show Tryd.prog.funcNamed "ephemeris/ephemerislaw28.ServerKisses" = some 6 by kernel_rfl).symm.trans hf) |>.symm
      obtain rfl : fn = Tryd.f6 := (Option.some.inj (Tryd.func6.symm.trans hfn)).symm
      exact ⟨by kernel_rfl, fun j t ht => by
        rw [Tryd.params6] at ht
        have hm : t ∈ [27, 23, 9, 25] := by simpa using Array.mem_of_getElem? ht
        have hall : ([27, 23, 9, 25].all fun u => !Tryd.prog.wantsStandIn u) = true := by kernel_rfl
        exact (show Tryd.prog.wantsStandIn t = false by simpa using List.all_eq_true.1 hall t hm)⟩)
    (by kernel_rfl)
end Go.Proofs.YtdpbbagllhfjbaaDoor.serverKisses
namespace Go.Proofs.YtdpbbagllhfjbaaDoor
theorem serverKisses_holds : Rows.ServerKissesCardSaid := serverKisses.card_holds
end Go.Proofs.YtdpbbagllhfjbaaDoor

