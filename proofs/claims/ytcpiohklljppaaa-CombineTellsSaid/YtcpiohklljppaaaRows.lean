/-
  No cell of these rows narrows 'for every input' (looked for: loops, veiled, ifaces, maps, wideKeys, modest, calm, conditions, laid).
  DERIVED. THE GIVEN ROWS OF THIS SEAT. 12 by the template 'for every input the law returns true; each argument reads behind the call as it read before'; 0 by the template 'total and deterministic' (their statements: YtcpiohklljppaaaTotals.lean).
  GIVEN WITH THE SEED: the statements are not yours to turn. If you find one false, say at which input.
  Laid BY PROGRAM, IN A SANDBOX (cutbox-rows.mjs): the forced cells as the released guide's own fill.sh prints them over the translation 77f27fdd31c6ff84… (all of the seat's roots in one cut). By AI agents, Wed Nov 11 2026. No macro, syntax, notation, axiom, sorry.
-/
import Derived.Test.YtcpiohklljppaaaChecked
import GoSem.Claim
import GoSem.ClaimJoined
import GoSem.ClaimMapViews
import Derived.JoinedTies
import Derived.KernelRfl
namespace Go.Proofs.Ytcpiohklljppaaa
/- THE CELL 'sum', in the pinned program and in every row, IS THE sha256 OF THE DUMP (.gsa) THAT YtcpiohklljppaaaProg.lean LOADS. Nothing in Lean hashes anything: it is a label: what it is worth is what the hold of that sum in a sandbox is worth. -/
noncomputable def Try.pinned : Pinned := { name := "ytcpiohklljppaaa", sum := "77f27fdd31c6ff84e110902eda8a7ad6731fc32cbeeedbe257bdf59d53b5d53b", checked := Try.checked }
namespace Rows
def none {H : Type} : Left H := { results := [], args := [] }

/-- 'ephemerislaw19.SpanRules': WHATEVER THE INPUT: true; the input reads as it did. -/
def spanRulesSpec : ChangeSpec := { name := "spanRules", fn := fun _ => fun
  | [d1, d2, d3] => { results := [.lit (.bool true)], args := [d1, d2, d3] }
  | _ => none }
def spanRulesRow : OpenClaim := { program := "ytcpiohklljppaaa", sum := "77f27fdd31c6ff84e110902eda8a7ad6731fc32cbeeedbe257bdf59d53b5d53b", func := "ephemeris/ephemerislaw19.SpanRules", spec := "spanRules", unfollowed := true, recurses := true, named := ["math/bits.divideError", "math/bits.overflowError"], apart := false }
def SpanRulesSaid : Prop := spanRulesRow.holds Try.pinned (OpenSpec.ofChange spanRulesSpec)

/-- ITS FALSE NEIGHBOUR: 'it returns false'. Refute it at one input. -/
def spanRulesWrong : ChangeSpec := { name := "spanRules", fn := fun _ => fun
  | [d1, d2, d3] => { results := [.lit (.bool false)], args := [d1, d2, d3] }
  | _ => none }
def SpanRulesWrongFalsely : Prop := spanRulesRow.holds Try.pinned (OpenSpec.ofChange spanRulesWrong)

/-- 'ephemerislaw19.SpanGrows': WHATEVER THE INPUT: true; the input reads as it did. -/
def spanGrowsSpec : ChangeSpec := { name := "spanGrows", fn := fun _ => fun
  | [d1, d2, d3] => { results := [.lit (.bool true)], args := [d1, d2, d3] }
  | _ => none }
def spanGrowsRow : OpenClaim := { program := "ytcpiohklljppaaa", sum := "77f27fdd31c6ff84e110902eda8a7ad6731fc32cbeeedbe257bdf59d53b5d53b", func := "ephemeris/ephemerislaw19.SpanGrows", spec := "spanGrows", unfollowed := true, recurses := true, named := ["math/bits.divideError", "math/bits.overflowError"], apart := false }
def SpanGrowsSaid : Prop := spanGrowsRow.holds Try.pinned (OpenSpec.ofChange spanGrowsSpec)

/-- ITS FALSE NEIGHBOUR: 'it returns false'. Refute it at one input. -/
def spanGrowsWrong : ChangeSpec := { name := "spanGrows", fn := fun _ => fun
  | [d1, d2, d3] => { results := [.lit (.bool false)], args := [d1, d2, d3] }
  | _ => none }
def SpanGrowsWrongFalsely : Prop := spanGrowsRow.holds Try.pinned (OpenSpec.ofChange spanGrowsWrong)

/-- 'ephemerislaw19.SpanSooner': WHATEVER THE INPUT: true; the input reads as it did. -/
def spanSoonerSpec : ChangeSpec := { name := "spanSooner", fn := fun _ => fun
  | [d1, d2, d3, d4] => { results := [.lit (.bool true)], args := [d1, d2, d3, d4] }
  | _ => none }
def spanSoonerRow : OpenClaim := { program := "ytcpiohklljppaaa", sum := "77f27fdd31c6ff84e110902eda8a7ad6731fc32cbeeedbe257bdf59d53b5d53b", func := "ephemeris/ephemerislaw19.SpanSooner", spec := "spanSooner", unfollowed := true, recurses := true, named := ["math/bits.divideError", "math/bits.overflowError"], apart := false }
def SpanSoonerSaid : Prop := spanSoonerRow.holds Try.pinned (OpenSpec.ofChange spanSoonerSpec)

/-- ITS FALSE NEIGHBOUR: 'it returns false'. Refute it at one input. -/
def spanSoonerWrong : ChangeSpec := { name := "spanSooner", fn := fun _ => fun
  | [d1, d2, d3, d4] => { results := [.lit (.bool false)], args := [d1, d2, d3, d4] }
  | _ => none }
def SpanSoonerWrongFalsely : Prop := spanSoonerRow.holds Try.pinned (OpenSpec.ofChange spanSoonerWrong)

/-- 'ephemerislaw19.SpanSound': WHATEVER THE INPUT: true; the input reads as it did. -/
def spanSoundSpec : ChangeSpec := { name := "spanSound", fn := fun _ => fun
  | [d1, d2, d3] => { results := [.lit (.bool true)], args := [d1, d2, d3] }
  | _ => none }
def spanSoundRow : OpenClaim := { program := "ytcpiohklljppaaa", sum := "77f27fdd31c6ff84e110902eda8a7ad6731fc32cbeeedbe257bdf59d53b5d53b", func := "ephemeris/ephemerislaw19.SpanSound", spec := "spanSound", unfollowed := true, recurses := true, named := ["math/bits.divideError", "math/bits.overflowError"], apart := false }
def SpanSoundSaid : Prop := spanSoundRow.holds Try.pinned (OpenSpec.ofChange spanSoundSpec)

/-- ITS FALSE NEIGHBOUR: 'it returns false'. Refute it at one input. -/
def spanSoundWrong : ChangeSpec := { name := "spanSound", fn := fun _ => fun
  | [d1, d2, d3] => { results := [.lit (.bool false)], args := [d1, d2, d3] }
  | _ => none }
def SpanSoundWrongFalsely : Prop := spanSoundRow.holds Try.pinned (OpenSpec.ofChange spanSoundWrong)

/-- 'ephemerislaw19.SpanKnown': WHATEVER THE INPUT: true; the input reads as it did. -/
def spanKnownSpec : ChangeSpec := { name := "spanKnown", fn := fun _ => fun
  | [] => { results := [.lit (.bool true)], args := [] }
  | _ => none }
def spanKnownRow : OpenClaim := { program := "ytcpiohklljppaaa", sum := "77f27fdd31c6ff84e110902eda8a7ad6731fc32cbeeedbe257bdf59d53b5d53b", func := "ephemeris/ephemerislaw19.SpanKnown", spec := "spanKnown", unfollowed := true, recurses := true, named := ["math/bits.divideError", "math/bits.overflowError"], apart := false }
def SpanKnownSaid : Prop := spanKnownRow.holds Try.pinned (OpenSpec.ofChange spanKnownSpec)

/-- ITS FALSE NEIGHBOUR: 'it returns false'. Refute it at one input. -/
def spanKnownWrong : ChangeSpec := { name := "spanKnown", fn := fun _ => fun
  | [] => { results := [.lit (.bool false)], args := [] }
  | _ => none }
def SpanKnownWrongFalsely : Prop := spanKnownRow.holds Try.pinned (OpenSpec.ofChange spanKnownWrong)

/-- 'ephemerislaw19.SpanMeets': WHATEVER THE INPUT: true; the input reads as it did. -/
def spanMeetsSpec : ChangeSpec := { name := "spanMeets", fn := fun _ => fun
  | [d1, d2, d3] => { results := [.lit (.bool true)], args := [d1, d2, d3] }
  | _ => none }
def spanMeetsRow : OpenClaim := { program := "ytcpiohklljppaaa", sum := "77f27fdd31c6ff84e110902eda8a7ad6731fc32cbeeedbe257bdf59d53b5d53b", func := "ephemeris/ephemerislaw19.SpanMeets", spec := "spanMeets", unfollowed := true, recurses := true, named := ["math/bits.divideError", "math/bits.overflowError"], apart := false }
def SpanMeetsSaid : Prop := spanMeetsRow.holds Try.pinned (OpenSpec.ofChange spanMeetsSpec)

/-- ITS FALSE NEIGHBOUR: 'it returns false'. Refute it at one input. -/
def spanMeetsWrong : ChangeSpec := { name := "spanMeets", fn := fun _ => fun
  | [d1, d2, d3] => { results := [.lit (.bool false)], args := [d1, d2, d3] }
  | _ => none }
def SpanMeetsWrongFalsely : Prop := spanMeetsRow.holds Try.pinned (OpenSpec.ofChange spanMeetsWrong)

/-- 'ephemerislaw24.CombineTells': WHATEVER THE INPUT: true; the input reads as it did. -/
def combineTellsSpec : ChangeSpec := { name := "combineTells", fn := fun _ => fun
  | [d1, d2] => { results := [.lit (.bool true)], args := [d1, d2] }
  | _ => none }
def combineTellsRow : OpenClaim := { program := "ytcpiohklljppaaa", sum := "77f27fdd31c6ff84e110902eda8a7ad6731fc32cbeeedbe257bdf59d53b5d53b", func := "ephemeris/ephemerislaw24.CombineTells", spec := "combineTells", unfollowed := true, recurses := true, named := ["math/bits.divideError", "math/bits.overflowError"], apart := false }
def CombineTellsSaid : Prop := combineTellsRow.holds Try.pinned (OpenSpec.ofChange combineTellsSpec)

/-- ITS FALSE NEIGHBOUR: 'it returns false'. Refute it at one input. -/
def combineTellsWrong : ChangeSpec := { name := "combineTells", fn := fun _ => fun
  | [d1, d2] => { results := [.lit (.bool false)], args := [d1, d2] }
  | _ => none }
def CombineTellsWrongFalsely : Prop := combineTellsRow.holds Try.pinned (OpenSpec.ofChange combineTellsWrong)

/-- 'ephemerislaw24.CombineMean': WHATEVER THE INPUT: true; the input reads as it did. -/
def combineMeanSpec : ChangeSpec := { name := "combineMean", fn := fun _ => fun
  | [d1, d2] => { results := [.lit (.bool true)], args := [d1, d2] }
  | _ => none }
def combineMeanRow : OpenClaim := { program := "ytcpiohklljppaaa", sum := "77f27fdd31c6ff84e110902eda8a7ad6731fc32cbeeedbe257bdf59d53b5d53b", func := "ephemeris/ephemerislaw24.CombineMean", spec := "combineMean", unfollowed := true, recurses := true, named := ["math/bits.divideError", "math/bits.overflowError"], apart := false }
def CombineMeanSaid : Prop := combineMeanRow.holds Try.pinned (OpenSpec.ofChange combineMeanSpec)

/-- ITS FALSE NEIGHBOUR: 'it returns false'. Refute it at one input. -/
def combineMeanWrong : ChangeSpec := { name := "combineMean", fn := fun _ => fun
  | [d1, d2] => { results := [.lit (.bool false)], args := [d1, d2] }
  | _ => none }
def CombineMeanWrongFalsely : Prop := combineMeanRow.holds Try.pinned (OpenSpec.ofChange combineMeanWrong)

/-- 'ephemerislaw24.CombineMoves': WHATEVER THE INPUT: true; the input reads as it did. -/
def combineMovesSpec : ChangeSpec := { name := "combineMoves", fn := fun _ => fun
  | [d1, d2, d3, d4] => { results := [.lit (.bool true)], args := [d1, d2, d3, d4] }
  | _ => none }
def combineMovesRow : OpenClaim := { program := "ytcpiohklljppaaa", sum := "77f27fdd31c6ff84e110902eda8a7ad6731fc32cbeeedbe257bdf59d53b5d53b", func := "ephemeris/ephemerislaw24.CombineMoves", spec := "combineMoves", unfollowed := true, recurses := true, named := ["math/bits.divideError", "math/bits.overflowError"], apart := false }
def CombineMovesSaid : Prop := combineMovesRow.holds Try.pinned (OpenSpec.ofChange combineMovesSpec)

/-- ITS FALSE NEIGHBOUR: 'it returns false'. Refute it at one input. -/
def combineMovesWrong : ChangeSpec := { name := "combineMoves", fn := fun _ => fun
  | [d1, d2, d3, d4] => { results := [.lit (.bool false)], args := [d1, d2, d3, d4] }
  | _ => none }
def CombineMovesWrongFalsely : Prop := combineMovesRow.holds Try.pinned (OpenSpec.ofChange combineMovesWrong)

/-- 'ephemerislaw24.CombineNearer': WHATEVER THE INPUT: true; the input reads as it did. -/
def combineNearerSpec : ChangeSpec := { name := "combineNearer", fn := fun _ => fun
  | [d1, d2] => { results := [.lit (.bool true)], args := [d1, d2] }
  | _ => none }
def combineNearerRow : OpenClaim := { program := "ytcpiohklljppaaa", sum := "77f27fdd31c6ff84e110902eda8a7ad6731fc32cbeeedbe257bdf59d53b5d53b", func := "ephemeris/ephemerislaw24.CombineNearer", spec := "combineNearer", unfollowed := true, recurses := true, named := ["math/bits.divideError", "math/bits.overflowError"], apart := false }
def CombineNearerSaid : Prop := combineNearerRow.holds Try.pinned (OpenSpec.ofChange combineNearerSpec)

/-- ITS FALSE NEIGHBOUR: 'it returns false'. Refute it at one input. -/
def combineNearerWrong : ChangeSpec := { name := "combineNearer", fn := fun _ => fun
  | [d1, d2] => { results := [.lit (.bool false)], args := [d1, d2] }
  | _ => none }
def CombineNearerWrongFalsely : Prop := combineNearerRow.holds Try.pinned (OpenSpec.ofChange combineNearerWrong)

/-- 'ephemerislaw24.CombineKnown': WHATEVER THE INPUT: true; the input reads as it did. -/
def combineKnownSpec : ChangeSpec := { name := "combineKnown", fn := fun _ => fun
  | [] => { results := [.lit (.bool true)], args := [] }
  | _ => none }
def combineKnownRow : OpenClaim := { program := "ytcpiohklljppaaa", sum := "77f27fdd31c6ff84e110902eda8a7ad6731fc32cbeeedbe257bdf59d53b5d53b", func := "ephemeris/ephemerislaw24.CombineKnown", spec := "combineKnown", unfollowed := true, recurses := true, named := ["math/bits.divideError", "math/bits.overflowError"], apart := false }
def CombineKnownSaid : Prop := combineKnownRow.holds Try.pinned (OpenSpec.ofChange combineKnownSpec)

/-- ITS FALSE NEIGHBOUR: 'it returns false'. Refute it at one input. -/
def combineKnownWrong : ChangeSpec := { name := "combineKnown", fn := fun _ => fun
  | [] => { results := [.lit (.bool false)], args := [] }
  | _ => none }
def CombineKnownWrongFalsely : Prop := combineKnownRow.holds Try.pinned (OpenSpec.ofChange combineKnownWrong)

/-- 'ephemerislaw19.SpanAges': WHATEVER THE INPUT: true; the input reads as it did. -/
def spanAgesSpec : ChangeSpec := { name := "spanAges", fn := fun _ => fun
  | [d1, d2, d3] => { results := [.lit (.bool true)], args := [d1, d2, d3] }
  | _ => none }
def spanAgesRow : OpenClaim := { program := "ytcpiohklljppaaa", sum := "77f27fdd31c6ff84e110902eda8a7ad6731fc32cbeeedbe257bdf59d53b5d53b", func := "ephemeris/ephemerislaw19.SpanAges", spec := "spanAges", unfollowed := true, recurses := true, named := ["math/bits.divideError", "math/bits.overflowError"], apart := false }
def SpanAgesSaid : Prop := spanAgesRow.holds Try.pinned (OpenSpec.ofChange spanAgesSpec)

/-- ITS FALSE NEIGHBOUR: 'it returns false'. Refute it at one input. -/
def spanAgesWrong : ChangeSpec := { name := "spanAges", fn := fun _ => fun
  | [d1, d2, d3] => { results := [.lit (.bool false)], args := [d1, d2, d3] }
  | _ => none }
def SpanAgesWrongFalsely : Prop := spanAgesRow.holds Try.pinned (OpenSpec.ofChange spanAgesWrong)

/- THE SECOND FORM. 'bulk': how many values and letters a reading holds, each counted each time it is reached (what is shared counts as often as it is met; a slice's spare places count too). A statement '..UptoSaid' is the law's where the arguments, and the package variables that the reading takes, are together of bulk at most 1048576: NARROWER than '..Said'. Prove '..Said' where nothing that the law and all that it calls make is longer than what came in: it says more and counts as full. Else prove '..UptoSaid'. A law counts once. -/
mutual
def uptoBulk {H : Type} : DataW H → Nat
  | .lit (.string bytes) => bytes.length + 1
  | .lit _ => 1
  | .nil => 1
  | .ptr d => uptoBulk d + 1
  | .slice elems spare => uptoBulkAll elems + uptoBulkAll spare + 1
  | .agg parts => uptoBulkAll parts + 1
  | .iface _ d => uptoBulk d + 1
  | .map entries => uptoBulkEntries entries + 1
  | .held _ => 1
def uptoBulkAll {H : Type} : List (DataW H) → Nat
  | [] => 0
  | d :: r => uptoBulk d + uptoBulkAll r
def uptoBulkEntries {H : Type} : List (Lit × DataW H) → Nat
  | [] => 0
  | x :: r => uptoBulkEntry x + uptoBulkEntries r
def uptoBulkEntry {H : Type} : Lit × DataW H → Nat
  | (.string bytes, d) => bytes.length + uptoBulk d + 1
  | (_, d) => uptoBulk d + 1
 end
def uptoSmall : (H : Type) → List (DataW H) → Bool := fun _ ds => decide (uptoBulkAll ds ≤ 1048576)
def OpenSpec.upto (s : _root_.Go.ChangeSpec) : _root_.Go.OpenSpec := { _root_.Go.OpenSpec.ofChange s with cond := some uptoSmall }

/-- 'ephemerislaw19.SpanRules', WHERE WHAT IT READS IS OF BULK AT MOST 1048576: true; the input reads as it did. -/
def spanRulesUptoRow : OpenClaim := { program := "ytcpiohklljppaaa", sum := "77f27fdd31c6ff84e110902eda8a7ad6731fc32cbeeedbe257bdf59d53b5d53b", func := "ephemeris/ephemerislaw19.SpanRules", spec := "spanRules", unfollowed := true, recurses := true, named := ["math/bits.divideError", "math/bits.overflowError"], apart := false, narrowed := true }
def SpanRulesUptoSaid : Prop := spanRulesUptoRow.holds Try.pinned (OpenSpec.upto spanRulesSpec)

/-- 'ephemerislaw19.SpanGrows', WHERE WHAT IT READS IS OF BULK AT MOST 1048576: true; the input reads as it did. -/
def spanGrowsUptoRow : OpenClaim := { program := "ytcpiohklljppaaa", sum := "77f27fdd31c6ff84e110902eda8a7ad6731fc32cbeeedbe257bdf59d53b5d53b", func := "ephemeris/ephemerislaw19.SpanGrows", spec := "spanGrows", unfollowed := true, recurses := true, named := ["math/bits.divideError", "math/bits.overflowError"], apart := false, narrowed := true }
def SpanGrowsUptoSaid : Prop := spanGrowsUptoRow.holds Try.pinned (OpenSpec.upto spanGrowsSpec)

/-- 'ephemerislaw19.SpanSooner', WHERE WHAT IT READS IS OF BULK AT MOST 1048576: true; the input reads as it did. -/
def spanSoonerUptoRow : OpenClaim := { program := "ytcpiohklljppaaa", sum := "77f27fdd31c6ff84e110902eda8a7ad6731fc32cbeeedbe257bdf59d53b5d53b", func := "ephemeris/ephemerislaw19.SpanSooner", spec := "spanSooner", unfollowed := true, recurses := true, named := ["math/bits.divideError", "math/bits.overflowError"], apart := false, narrowed := true }
def SpanSoonerUptoSaid : Prop := spanSoonerUptoRow.holds Try.pinned (OpenSpec.upto spanSoonerSpec)

/-- 'ephemerislaw19.SpanSound', WHERE WHAT IT READS IS OF BULK AT MOST 1048576: true; the input reads as it did. -/
def spanSoundUptoRow : OpenClaim := { program := "ytcpiohklljppaaa", sum := "77f27fdd31c6ff84e110902eda8a7ad6731fc32cbeeedbe257bdf59d53b5d53b", func := "ephemeris/ephemerislaw19.SpanSound", spec := "spanSound", unfollowed := true, recurses := true, named := ["math/bits.divideError", "math/bits.overflowError"], apart := false, narrowed := true }
def SpanSoundUptoSaid : Prop := spanSoundUptoRow.holds Try.pinned (OpenSpec.upto spanSoundSpec)

/-- 'ephemerislaw19.SpanKnown', WHERE WHAT IT READS IS OF BULK AT MOST 1048576: true; the input reads as it did. -/
def spanKnownUptoRow : OpenClaim := { program := "ytcpiohklljppaaa", sum := "77f27fdd31c6ff84e110902eda8a7ad6731fc32cbeeedbe257bdf59d53b5d53b", func := "ephemeris/ephemerislaw19.SpanKnown", spec := "spanKnown", unfollowed := true, recurses := true, named := ["math/bits.divideError", "math/bits.overflowError"], apart := false, narrowed := true }
def SpanKnownUptoSaid : Prop := spanKnownUptoRow.holds Try.pinned (OpenSpec.upto spanKnownSpec)

/-- 'ephemerislaw19.SpanMeets', WHERE WHAT IT READS IS OF BULK AT MOST 1048576: true; the input reads as it did. -/
def spanMeetsUptoRow : OpenClaim := { program := "ytcpiohklljppaaa", sum := "77f27fdd31c6ff84e110902eda8a7ad6731fc32cbeeedbe257bdf59d53b5d53b", func := "ephemeris/ephemerislaw19.SpanMeets", spec := "spanMeets", unfollowed := true, recurses := true, named := ["math/bits.divideError", "math/bits.overflowError"], apart := false, narrowed := true }
def SpanMeetsUptoSaid : Prop := spanMeetsUptoRow.holds Try.pinned (OpenSpec.upto spanMeetsSpec)

/-- 'ephemerislaw24.CombineTells', WHERE WHAT IT READS IS OF BULK AT MOST 1048576: true; the input reads as it did. -/
def combineTellsUptoRow : OpenClaim := { program := "ytcpiohklljppaaa", sum := "77f27fdd31c6ff84e110902eda8a7ad6731fc32cbeeedbe257bdf59d53b5d53b", func := "ephemeris/ephemerislaw24.CombineTells", spec := "combineTells", unfollowed := true, recurses := true, named := ["math/bits.divideError", "math/bits.overflowError"], apart := false, narrowed := true }
def CombineTellsUptoSaid : Prop := combineTellsUptoRow.holds Try.pinned (OpenSpec.upto combineTellsSpec)

/-- 'ephemerislaw24.CombineMean', WHERE WHAT IT READS IS OF BULK AT MOST 1048576: true; the input reads as it did. -/
def combineMeanUptoRow : OpenClaim := { program := "ytcpiohklljppaaa", sum := "77f27fdd31c6ff84e110902eda8a7ad6731fc32cbeeedbe257bdf59d53b5d53b", func := "ephemeris/ephemerislaw24.CombineMean", spec := "combineMean", unfollowed := true, recurses := true, named := ["math/bits.divideError", "math/bits.overflowError"], apart := false, narrowed := true }
def CombineMeanUptoSaid : Prop := combineMeanUptoRow.holds Try.pinned (OpenSpec.upto combineMeanSpec)

/-- 'ephemerislaw24.CombineMoves', WHERE WHAT IT READS IS OF BULK AT MOST 1048576: true; the input reads as it did. -/
def combineMovesUptoRow : OpenClaim := { program := "ytcpiohklljppaaa", sum := "77f27fdd31c6ff84e110902eda8a7ad6731fc32cbeeedbe257bdf59d53b5d53b", func := "ephemeris/ephemerislaw24.CombineMoves", spec := "combineMoves", unfollowed := true, recurses := true, named := ["math/bits.divideError", "math/bits.overflowError"], apart := false, narrowed := true }
def CombineMovesUptoSaid : Prop := combineMovesUptoRow.holds Try.pinned (OpenSpec.upto combineMovesSpec)

/-- 'ephemerislaw24.CombineNearer', WHERE WHAT IT READS IS OF BULK AT MOST 1048576: true; the input reads as it did. -/
def combineNearerUptoRow : OpenClaim := { program := "ytcpiohklljppaaa", sum := "77f27fdd31c6ff84e110902eda8a7ad6731fc32cbeeedbe257bdf59d53b5d53b", func := "ephemeris/ephemerislaw24.CombineNearer", spec := "combineNearer", unfollowed := true, recurses := true, named := ["math/bits.divideError", "math/bits.overflowError"], apart := false, narrowed := true }
def CombineNearerUptoSaid : Prop := combineNearerUptoRow.holds Try.pinned (OpenSpec.upto combineNearerSpec)

/-- 'ephemerislaw24.CombineKnown', WHERE WHAT IT READS IS OF BULK AT MOST 1048576: true; the input reads as it did. -/
def combineKnownUptoRow : OpenClaim := { program := "ytcpiohklljppaaa", sum := "77f27fdd31c6ff84e110902eda8a7ad6731fc32cbeeedbe257bdf59d53b5d53b", func := "ephemeris/ephemerislaw24.CombineKnown", spec := "combineKnown", unfollowed := true, recurses := true, named := ["math/bits.divideError", "math/bits.overflowError"], apart := false, narrowed := true }
def CombineKnownUptoSaid : Prop := combineKnownUptoRow.holds Try.pinned (OpenSpec.upto combineKnownSpec)

/-- 'ephemerislaw19.SpanAges', WHERE WHAT IT READS IS OF BULK AT MOST 1048576: true; the input reads as it did. -/
def spanAgesUptoRow : OpenClaim := { program := "ytcpiohklljppaaa", sum := "77f27fdd31c6ff84e110902eda8a7ad6731fc32cbeeedbe257bdf59d53b5d53b", func := "ephemeris/ephemerislaw19.SpanAges", spec := "spanAges", unfollowed := true, recurses := true, named := ["math/bits.divideError", "math/bits.overflowError"], apart := false, narrowed := true }
def SpanAgesUptoSaid : Prop := spanAgesUptoRow.holds Try.pinned (OpenSpec.upto spanAgesSpec)

end Rows
end Go.Proofs.Ytcpiohklljppaaa
