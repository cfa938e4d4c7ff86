/-
  No cell of these rows narrows 'for every input' (looked for: loops, veiled, ifaces, maps, wideKeys, modest, calm, conditions, laid).
  DERIVED. THE GIVEN ROWS OF THIS SEAT. 10 by the template 'for every input the law returns true; each argument reads behind the call as it read before'; 0 by the template 'total and deterministic' (their statements: YthcjmmngenogmaaTotals.lean).
  GIVEN WITH THE SEED: the statements are not yours to turn. If you find one false, say at which input.
  Laid BY PROGRAM, IN A SANDBOX (cutbox-rows.mjs): the forced cells as the released guide's own fill.sh prints them over the translation f3ed23feddf207cb… (all of the seat's roots in one cut). By AI agents, Wed Nov 11 2026. No macro, syntax, notation, axiom, sorry.
-/
import Derived.Test.YthcjmmngenogmaaChecked
import GoSem.Claim
import GoSem.ClaimJoined
import GoSem.ClaimMapViews
import Derived.JoinedTies
import Derived.KernelRfl
namespace Go.Proofs.Ythcjmmngenogmaa
/- THE CELL 'sum', in the pinned program and in every row, IS THE sha256 OF THE DUMP (.gsa) THAT YthcjmmngenogmaaProg.lean LOADS. Nothing in Lean hashes anything: it is a label: what it is worth is what the hold of that sum in a sandbox is worth. -/
noncomputable def Try.pinned : Pinned := { name := "ythcjmmngenogmaa", sum := "f3ed23feddf207cb1db0ce3bddf110fb7ba3e19f70890d7e7a480d7a45d18c41", checked := Try.checked }
namespace Rows
def none {H : Type} : Left H := { results := [], args := [] }

/-- 'ephemerislaw30.SkyGoes': WHATEVER THE INPUT: true; the input reads as it did. -/
def skyGoesSpec : ChangeSpec := { name := "skyGoes", fn := fun _ => fun
  | [d1, d2, d3, d4, d5] => { results := [.lit (.bool true)], args := [d1, d2, d3, d4, d5] }
  | _ => none }
def skyGoesRow : OpenClaim := { program := "ythcjmmngenogmaa", sum := "f3ed23feddf207cb1db0ce3bddf110fb7ba3e19f70890d7e7a480d7a45d18c41", func := "ephemeris/ephemerislaw30.SkyGoes", spec := "skyGoes", inPlace := ["math/bits.Add64"], unfollowed := true, recurses := true, named := ["math/bits.divideError", "math/bits.overflowError"], apart := false }
def SkyGoesSaid : Prop := skyGoesRow.holds Try.pinned (OpenSpec.ofChange skyGoesSpec)

/-- ITS FALSE NEIGHBOUR: 'it returns false'. Refute it at one input. -/
def skyGoesWrong : ChangeSpec := { name := "skyGoes", fn := fun _ => fun
  | [d1, d2, d3, d4, d5] => { results := [.lit (.bool false)], args := [d1, d2, d3, d4, d5] }
  | _ => none }
def SkyGoesWrongFalsely : Prop := skyGoesRow.holds Try.pinned (OpenSpec.ofChange skyGoesWrong)

/-- 'ephemerislaw30.SkyWhen': WHATEVER THE INPUT: true; the input reads as it did. -/
def skyWhenSpec : ChangeSpec := { name := "skyWhen", fn := fun _ => fun
  | [d1, d2, d3, d4, d5] => { results := [.lit (.bool true)], args := [d1, d2, d3, d4, d5] }
  | _ => none }
def skyWhenRow : OpenClaim := { program := "ythcjmmngenogmaa", sum := "f3ed23feddf207cb1db0ce3bddf110fb7ba3e19f70890d7e7a480d7a45d18c41", func := "ephemeris/ephemerislaw30.SkyWhen", spec := "skyWhen", inPlace := ["math/bits.Add64"], unfollowed := true, recurses := true, named := ["math/bits.divideError", "math/bits.overflowError"], apart := false }
def SkyWhenSaid : Prop := skyWhenRow.holds Try.pinned (OpenSpec.ofChange skyWhenSpec)

/-- ITS FALSE NEIGHBOUR: 'it returns false'. Refute it at one input. -/
def skyWhenWrong : ChangeSpec := { name := "skyWhen", fn := fun _ => fun
  | [d1, d2, d3, d4, d5] => { results := [.lit (.bool false)], args := [d1, d2, d3, d4, d5] }
  | _ => none }
def SkyWhenWrongFalsely : Prop := skyWhenRow.holds Try.pinned (OpenSpec.ofChange skyWhenWrong)

/-- 'ephemerislaw30.SkyTells': WHATEVER THE INPUT: true; the input reads as it did. -/
def skyTellsSpec : ChangeSpec := { name := "skyTells", fn := fun _ => fun
  | [d1, d2, d3, d4, d5] => { results := [.lit (.bool true)], args := [d1, d2, d3, d4, d5] }
  | _ => none }
def skyTellsRow : OpenClaim := { program := "ythcjmmngenogmaa", sum := "f3ed23feddf207cb1db0ce3bddf110fb7ba3e19f70890d7e7a480d7a45d18c41", func := "ephemeris/ephemerislaw30.SkyTells", spec := "skyTells", inPlace := ["math/bits.Add64"], unfollowed := true, recurses := true, named := ["math/bits.divideError", "math/bits.overflowError"], apart := false }
def SkyTellsSaid : Prop := skyTellsRow.holds Try.pinned (OpenSpec.ofChange skyTellsSpec)

/-- ITS FALSE NEIGHBOUR: 'it returns false'. Refute it at one input. -/
def skyTellsWrong : ChangeSpec := { name := "skyTells", fn := fun _ => fun
  | [d1, d2, d3, d4, d5] => { results := [.lit (.bool false)], args := [d1, d2, d3, d4, d5] }
  | _ => none }
def SkyTellsWrongFalsely : Prop := skyTellsRow.holds Try.pinned (OpenSpec.ofChange skyTellsWrong)

/-- 'ephemerislaw30.SkyParts': WHATEVER THE INPUT: true; the input reads as it did. -/
def skyPartsSpec : ChangeSpec := { name := "skyParts", fn := fun _ => fun
  | [d1, d2, d3, d4, d5] => { results := [.lit (.bool true)], args := [d1, d2, d3, d4, d5] }
  | _ => none }
def skyPartsRow : OpenClaim := { program := "ythcjmmngenogmaa", sum := "f3ed23feddf207cb1db0ce3bddf110fb7ba3e19f70890d7e7a480d7a45d18c41", func := "ephemeris/ephemerislaw30.SkyParts", spec := "skyParts", inPlace := ["math/bits.Add64"], unfollowed := true, recurses := true, named := ["math/bits.divideError", "math/bits.overflowError"], apart := false }
def SkyPartsSaid : Prop := skyPartsRow.holds Try.pinned (OpenSpec.ofChange skyPartsSpec)

/-- ITS FALSE NEIGHBOUR: 'it returns false'. Refute it at one input. -/
def skyPartsWrong : ChangeSpec := { name := "skyParts", fn := fun _ => fun
  | [d1, d2, d3, d4, d5] => { results := [.lit (.bool false)], args := [d1, d2, d3, d4, d5] }
  | _ => none }
def SkyPartsWrongFalsely : Prop := skyPartsRow.holds Try.pinned (OpenSpec.ofChange skyPartsWrong)

/-- 'ephemerislaw30.SkyRuled': WHATEVER THE INPUT: true; the input reads as it did. -/
def skyRuledSpec : ChangeSpec := { name := "skyRuled", fn := fun _ => fun
  | [d1, d2, d3, d4, d5, d6] => { results := [.lit (.bool true)], args := [d1, d2, d3, d4, d5, d6] }
  | _ => none }
def skyRuledRow : OpenClaim := { program := "ythcjmmngenogmaa", sum := "f3ed23feddf207cb1db0ce3bddf110fb7ba3e19f70890d7e7a480d7a45d18c41", func := "ephemeris/ephemerislaw30.SkyRuled", spec := "skyRuled", inPlace := ["math/bits.Add64"], unfollowed := true, recurses := true, named := ["math/bits.divideError", "math/bits.overflowError"], apart := false }
def SkyRuledSaid : Prop := skyRuledRow.holds Try.pinned (OpenSpec.ofChange skyRuledSpec)

/-- ITS FALSE NEIGHBOUR: 'it returns false'. Refute it at one input. -/
def skyRuledWrong : ChangeSpec := { name := "skyRuled", fn := fun _ => fun
  | [d1, d2, d3, d4, d5, d6] => { results := [.lit (.bool false)], args := [d1, d2, d3, d4, d5, d6] }
  | _ => none }
def SkyRuledWrongFalsely : Prop := skyRuledRow.holds Try.pinned (OpenSpec.ofChange skyRuledWrong)

/-- 'ephemerislaw20.FilterBest': WHATEVER THE INPUT: true; the input reads as it did. -/
def filterBestSpec : ChangeSpec := { name := "filterBest", fn := fun _ => fun
  | [d1, d2, d3, d4, d5, d6] => { results := [.lit (.bool true)], args := [d1, d2, d3, d4, d5, d6] }
  | _ => none }
def filterBestRow : OpenClaim := { program := "ythcjmmngenogmaa", sum := "f3ed23feddf207cb1db0ce3bddf110fb7ba3e19f70890d7e7a480d7a45d18c41", func := "ephemeris/ephemerislaw20.FilterBest", spec := "filterBest", unfollowed := true, recurses := true, named := ["math/bits.divideError", "math/bits.overflowError"], apart := false }
def FilterBestSaid : Prop := filterBestRow.holds Try.pinned (OpenSpec.ofChange filterBestSpec)

/-- ITS FALSE NEIGHBOUR: 'it returns false'. Refute it at one input. -/
def filterBestWrong : ChangeSpec := { name := "filterBest", fn := fun _ => fun
  | [d1, d2, d3, d4, d5, d6] => { results := [.lit (.bool false)], args := [d1, d2, d3, d4, d5, d6] }
  | _ => none }
def FilterBestWrongFalsely : Prop := filterBestRow.holds Try.pinned (OpenSpec.ofChange filterBestWrong)

/-- 'ephemerislaw20.FilterJumps': WHATEVER THE INPUT: true; the input reads as it did. -/
def filterJumpsSpec : ChangeSpec := { name := "filterJumps", fn := fun _ => fun
  | [d1, d2, d3] => { results := [.lit (.bool true)], args := [d1, d2, d3] }
  | _ => none }
def filterJumpsRow : OpenClaim := { program := "ythcjmmngenogmaa", sum := "f3ed23feddf207cb1db0ce3bddf110fb7ba3e19f70890d7e7a480d7a45d18c41", func := "ephemeris/ephemerislaw20.FilterJumps", spec := "filterJumps", unfollowed := true, recurses := true, named := ["math/bits.divideError", "math/bits.overflowError"], apart := false }
def FilterJumpsSaid : Prop := filterJumpsRow.holds Try.pinned (OpenSpec.ofChange filterJumpsSpec)

/-- ITS FALSE NEIGHBOUR: 'it returns false'. Refute it at one input. -/
def filterJumpsWrong : ChangeSpec := { name := "filterJumps", fn := fun _ => fun
  | [d1, d2, d3] => { results := [.lit (.bool false)], args := [d1, d2, d3] }
  | _ => none }
def FilterJumpsWrongFalsely : Prop := filterJumpsRow.holds Try.pinned (OpenSpec.ofChange filterJumpsWrong)

/-- 'ephemerislaw20.FilterMoves': WHATEVER THE INPUT: true; the input reads as it did. -/
def filterMovesSpec : ChangeSpec := { name := "filterMoves", fn := fun _ => fun
  | [d1, d2, d3, d4] => { results := [.lit (.bool true)], args := [d1, d2, d3, d4] }
  | _ => none }
def filterMovesRow : OpenClaim := { program := "ythcjmmngenogmaa", sum := "f3ed23feddf207cb1db0ce3bddf110fb7ba3e19f70890d7e7a480d7a45d18c41", func := "ephemeris/ephemerislaw20.FilterMoves", spec := "filterMoves", unfollowed := true, recurses := true, named := ["math/bits.divideError", "math/bits.overflowError"], apart := false }
def FilterMovesSaid : Prop := filterMovesRow.holds Try.pinned (OpenSpec.ofChange filterMovesSpec)

/-- ITS FALSE NEIGHBOUR: 'it returns false'. Refute it at one input. -/
def filterMovesWrong : ChangeSpec := { name := "filterMoves", fn := fun _ => fun
  | [d1, d2, d3, d4] => { results := [.lit (.bool false)], args := [d1, d2, d3, d4] }
  | _ => none }
def FilterMovesWrongFalsely : Prop := filterMovesRow.holds Try.pinned (OpenSpec.ofChange filterMovesWrong)

/-- 'ephemerislaw20.FilterTells': WHATEVER THE INPUT: true; the input reads as it did. -/
def filterTellsSpec : ChangeSpec := { name := "filterTells", fn := fun _ => fun
  | [d1, d2, d3] => { results := [.lit (.bool true)], args := [d1, d2, d3] }
  | _ => none }
def filterTellsRow : OpenClaim := { program := "ythcjmmngenogmaa", sum := "f3ed23feddf207cb1db0ce3bddf110fb7ba3e19f70890d7e7a480d7a45d18c41", func := "ephemeris/ephemerislaw20.FilterTells", spec := "filterTells", unfollowed := true, recurses := true, named := ["math/bits.divideError", "math/bits.overflowError"], apart := false }
def FilterTellsSaid : Prop := filterTellsRow.holds Try.pinned (OpenSpec.ofChange filterTellsSpec)

/-- ITS FALSE NEIGHBOUR: 'it returns false'. Refute it at one input. -/
def filterTellsWrong : ChangeSpec := { name := "filterTells", fn := fun _ => fun
  | [d1, d2, d3] => { results := [.lit (.bool false)], args := [d1, d2, d3] }
  | _ => none }
def FilterTellsWrongFalsely : Prop := filterTellsRow.holds Try.pinned (OpenSpec.ofChange filterTellsWrong)

/-- 'ephemerislaw20.FilterKnown': WHATEVER THE INPUT: true; the input reads as it did. -/
def filterKnownSpec : ChangeSpec := { name := "filterKnown", fn := fun _ => fun
  | [] => { results := [.lit (.bool true)], args := [] }
  | _ => none }
def filterKnownRow : OpenClaim := { program := "ythcjmmngenogmaa", sum := "f3ed23feddf207cb1db0ce3bddf110fb7ba3e19f70890d7e7a480d7a45d18c41", func := "ephemeris/ephemerislaw20.FilterKnown", spec := "filterKnown", unfollowed := true, recurses := true, named := ["math/bits.divideError", "math/bits.overflowError"], apart := false }
def FilterKnownSaid : Prop := filterKnownRow.holds Try.pinned (OpenSpec.ofChange filterKnownSpec)

/-- ITS FALSE NEIGHBOUR: 'it returns false'. Refute it at one input. -/
def filterKnownWrong : ChangeSpec := { name := "filterKnown", fn := fun _ => fun
  | [] => { results := [.lit (.bool false)], args := [] }
  | _ => none }
def FilterKnownWrongFalsely : Prop := filterKnownRow.holds Try.pinned (OpenSpec.ofChange filterKnownWrong)

/- THE SECOND FORM. 'bulk': how many values and letters a reading holds, each counted each time it is reached (what is shared counts as often as it is met; a slice's spare places count too). A statement '..UptoSaid' is the law's where the arguments, and the package variables that the reading takes, are together of bulk at most 1048576: NARROWER than '..Said'. Prove '..Said' where nothing that the law and all that it calls make is longer than what came in: it says more and counts as full. Else prove '..UptoSaid'. A law counts once. -/
mutual
def uptoBulk {H : Type} : DataW H → Nat
  | .lit (.string bytes) => bytes.length + 1
  | .lit _ => 1
  | .nil => 1
  | .ptr d => uptoBulk d + 1
  | .slice elems spare => uptoBulkAll elems + uptoBulkAll spare + 1
  | .agg parts => uptoBulkAll parts + 1
  | .iface _ d => uptoBulk d + 1
  | .map entries => uptoBulkEntries entries + 1
  | .held _ => 1
def uptoBulkAll {H : Type} : List (DataW H) → Nat
  | [] => 0
  | d :: r => uptoBulk d + uptoBulkAll r
def uptoBulkEntries {H : Type} : List (Lit × DataW H) → Nat
  | [] => 0
  | x :: r => uptoBulkEntry x + uptoBulkEntries r
def uptoBulkEntry {H : Type} : Lit × DataW H → Nat
  | (.string bytes, d) => bytes.length + uptoBulk d + 1
  | (_, d) => uptoBulk d + 1
 end
def uptoSmall : (H : Type) → List (DataW H) → Bool := fun _ ds => decide (uptoBulkAll ds ≤ 1048576)
def OpenSpec.upto (s : _root_.Go.ChangeSpec) : _root_.Go.OpenSpec := { _root_.Go.OpenSpec.ofChange s with cond := some uptoSmall }

/-- 'ephemerislaw30.SkyGoes', WHERE WHAT IT READS IS OF BULK AT MOST 1048576: true; the input reads as it did. -/
def skyGoesUptoRow : OpenClaim := { program := "ythcjmmngenogmaa", sum := "f3ed23feddf207cb1db0ce3bddf110fb7ba3e19f70890d7e7a480d7a45d18c41", func := "ephemeris/ephemerislaw30.SkyGoes", spec := "skyGoes", inPlace := ["math/bits.Add64"], unfollowed := true, recurses := true, named := ["math/bits.divideError", "math/bits.overflowError"], apart := false, narrowed := true }
def SkyGoesUptoSaid : Prop := skyGoesUptoRow.holds Try.pinned (OpenSpec.upto skyGoesSpec)

/-- 'ephemerislaw30.SkyWhen', WHERE WHAT IT READS IS OF BULK AT MOST 1048576: true; the input reads as it did. -/
def skyWhenUptoRow : OpenClaim := { program := "ythcjmmngenogmaa", sum := "f3ed23feddf207cb1db0ce3bddf110fb7ba3e19f70890d7e7a480d7a45d18c41", func := "ephemeris/ephemerislaw30.SkyWhen", spec := "skyWhen", inPlace := ["math/bits.Add64"], unfollowed := true, recurses := true, named := ["math/bits.divideError", "math/bits.overflowError"], apart := false, narrowed := true }
def SkyWhenUptoSaid : Prop := skyWhenUptoRow.holds Try.pinned (OpenSpec.upto skyWhenSpec)

/-- 'ephemerislaw30.SkyTells', WHERE WHAT IT READS IS OF BULK AT MOST 1048576: true; the input reads as it did. -/
def skyTellsUptoRow : OpenClaim := { program := "ythcjmmngenogmaa", sum := "f3ed23feddf207cb1db0ce3bddf110fb7ba3e19f70890d7e7a480d7a45d18c41", func := "ephemeris/ephemerislaw30.SkyTells", spec := "skyTells", inPlace := ["math/bits.Add64"], unfollowed := true, recurses := true, named := ["math/bits.divideError", "math/bits.overflowError"], apart := false, narrowed := true }
def SkyTellsUptoSaid : Prop := skyTellsUptoRow.holds Try.pinned (OpenSpec.upto skyTellsSpec)

/-- 'ephemerislaw30.SkyParts', WHERE WHAT IT READS IS OF BULK AT MOST 1048576: true; the input reads as it did. -/
def skyPartsUptoRow : OpenClaim := { program := "ythcjmmngenogmaa", sum := "f3ed23feddf207cb1db0ce3bddf110fb7ba3e19f70890d7e7a480d7a45d18c41", func := "ephemeris/ephemerislaw30.SkyParts", spec := "skyParts", inPlace := ["math/bits.Add64"], unfollowed := true, recurses := true, named := ["math/bits.divideError", "math/bits.overflowError"], apart := false, narrowed := true }
def SkyPartsUptoSaid : Prop := skyPartsUptoRow.holds Try.pinned (OpenSpec.upto skyPartsSpec)

/-- 'ephemerislaw30.SkyRuled', WHERE WHAT IT READS IS OF BULK AT MOST 1048576: true; the input reads as it did. -/
def skyRuledUptoRow : OpenClaim := { program := "ythcjmmngenogmaa", sum := "f3ed23feddf207cb1db0ce3bddf110fb7ba3e19f70890d7e7a480d7a45d18c41", func := "ephemeris/ephemerislaw30.SkyRuled", spec := "skyRuled", inPlace := ["math/bits.Add64"], unfollowed := true, recurses := true, named := ["math/bits.divideError", "math/bits.overflowError"], apart := false, narrowed := true }
def SkyRuledUptoSaid : Prop := skyRuledUptoRow.holds Try.pinned (OpenSpec.upto skyRuledSpec)

/-- 'ephemerislaw20.FilterBest', WHERE WHAT IT READS IS OF BULK AT MOST 1048576: true; the input reads as it did. -/
def filterBestUptoRow : OpenClaim := { program := "ythcjmmngenogmaa", sum := "f3ed23feddf207cb1db0ce3bddf110fb7ba3e19f70890d7e7a480d7a45d18c41", func := "ephemeris/ephemerislaw20.FilterBest", spec := "filterBest", unfollowed := true, recurses := true, named := ["math/bits.divideError", "math/bits.overflowError"], apart := false, narrowed := true }
def FilterBestUptoSaid : Prop := filterBestUptoRow.holds Try.pinned (OpenSpec.upto filterBestSpec)

/-- 'ephemerislaw20.FilterJumps', WHERE WHAT IT READS IS OF BULK AT MOST 1048576: true; the input reads as it did. -/
def filterJumpsUptoRow : OpenClaim := { program := "ythcjmmngenogmaa", sum := "f3ed23feddf207cb1db0ce3bddf110fb7ba3e19f70890d7e7a480d7a45d18c41", func := "ephemeris/ephemerislaw20.FilterJumps", spec := "filterJumps", unfollowed := true, recurses := true, named := ["math/bits.divideError", "math/bits.overflowError"], apart := false, narrowed := true }
def FilterJumpsUptoSaid : Prop := filterJumpsUptoRow.holds Try.pinned (OpenSpec.upto filterJumpsSpec)

/-- 'ephemerislaw20.FilterMoves', WHERE WHAT IT READS IS OF BULK AT MOST 1048576: true; the input reads as it did. -/
def filterMovesUptoRow : OpenClaim := { program := "ythcjmmngenogmaa", sum := "f3ed23feddf207cb1db0ce3bddf110fb7ba3e19f70890d7e7a480d7a45d18c41", func := "ephemeris/ephemerislaw20.FilterMoves", spec := "filterMoves", unfollowed := true, recurses := true, named := ["math/bits.divideError", "math/bits.overflowError"], apart := false, narrowed := true }
def FilterMovesUptoSaid : Prop := filterMovesUptoRow.holds Try.pinned (OpenSpec.upto filterMovesSpec)

/-- 'ephemerislaw20.FilterTells', WHERE WHAT IT READS IS OF BULK AT MOST 1048576: true; the input reads as it did. -/
def filterTellsUptoRow : OpenClaim := { program := "ythcjmmngenogmaa", sum := "f3ed23feddf207cb1db0ce3bddf110fb7ba3e19f70890d7e7a480d7a45d18c41", func := "ephemeris/ephemerislaw20.FilterTells", spec := "filterTells", unfollowed := true, recurses := true, named := ["math/bits.divideError", "math/bits.overflowError"], apart := false, narrowed := true }
def FilterTellsUptoSaid : Prop := filterTellsUptoRow.holds Try.pinned (OpenSpec.upto filterTellsSpec)

/-- 'ephemerislaw20.FilterKnown', WHERE WHAT IT READS IS OF BULK AT MOST 1048576: true; the input reads as it did. -/
def filterKnownUptoRow : OpenClaim := { program := "ythcjmmngenogmaa", sum := "f3ed23feddf207cb1db0ce3bddf110fb7ba3e19f70890d7e7a480d7a45d18c41", func := "ephemeris/ephemerislaw20.FilterKnown", spec := "filterKnown", unfollowed := true, recurses := true, named := ["math/bits.divideError", "math/bits.overflowError"], apart := false, narrowed := true }
def FilterKnownUptoSaid : Prop := filterKnownUptoRow.holds Try.pinned (OpenSpec.upto filterKnownSpec)

end Rows
end Go.Proofs.Ythcjmmngenogmaa
