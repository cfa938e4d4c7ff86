/-
  No cell of these rows narrows 'for every input' (looked for: loops, veiled, ifaces, maps, wideKeys, modest, calm, conditions, laid).
  DERIVED. THE GIVEN ROWS OF THIS SEAT. 6 by the template 'for every input the law returns true; each argument reads behind the call as it read before'; 0 by the template 'total and deterministic' (their statements: YtpmibaeajmfdpaaTotals.lean).
  GIVEN WITH THE SEED: the statements are not yours to turn. If you find one false, say at which input.
  Laid BY PROGRAM, IN A SANDBOX (cutbox-rows.mjs): the forced cells as the released guide's own fill.sh prints them over the translation 40f6307ca4e08fe8… (all of the seat's roots in one cut). By AI agents, Wed Nov 11 2026. No macro, syntax, notation, axiom, sorry.
-/
import Derived.Test.YtpmibaeajmfdpaaChecked
import GoSem.Claim
import GoSem.ClaimJoined
import GoSem.ClaimMapViews
import Derived.JoinedTies
import Derived.KernelRfl
namespace Go.Proofs.Ytpmibaeajmfdpaa
/- THE CELL 'sum', in the pinned program and in every row, IS THE sha256 OF THE DUMP (.gsa) THAT YtpmibaeajmfdpaaProg.lean LOADS. Nothing in Lean hashes anything: it is a label: what it is worth is what the hold of that sum in a sandbox is worth. -/
noncomputable def Try.pinned : Pinned := { name := "ytpmibaeajmfdpaa", sum := "40f6307ca4e08fe8e32d255a63a7e83fc2951468f4d0bd57e289ab0af80a68bf", checked := Try.checked }
namespace Rows
def none {H : Type} : Left H := { results := [], args := [] }

/-- 'ephemerislaw05.ExtFinds': WHATEVER THE INPUT: true; the input reads as it did. -/
def extFindsSpec : ChangeSpec := { name := "extFinds", fn := fun _ => fun
  | [d1, d2] => { results := [.lit (.bool true)], args := [d1, d2] }
  | _ => none }
def extFindsRow : OpenClaim := { program := "ytpmibaeajmfdpaa", sum := "40f6307ca4e08fe8e32d255a63a7e83fc2951468f4d0bd57e289ab0af80a68bf", func := "ephemeris/ephemerislaw05.ExtFinds", spec := "extFinds", unfollowed := true, recurses := true, apart := false }
def ExtFindsSaid : Prop := extFindsRow.holds Try.pinned (OpenSpec.ofChange extFindsSpec)

/-- ITS FALSE NEIGHBOUR: 'it returns false'. Refute it at one input. -/
def extFindsWrong : ChangeSpec := { name := "extFinds", fn := fun _ => fun
  | [d1, d2] => { results := [.lit (.bool false)], args := [d1, d2] }
  | _ => none }
def ExtFindsWrongFalsely : Prop := extFindsRow.holds Try.pinned (OpenSpec.ofChange extFindsWrong)

/-- 'ephemerislaw05.ExtParses': WHATEVER THE INPUT: true; the input reads as it did. -/
def extParsesSpec : ChangeSpec := { name := "extParses", fn := fun _ => fun
  | [d] => { results := [.lit (.bool true)], args := [d] }
  | _ => none }
def extParsesRow : OpenClaim := { program := "ytpmibaeajmfdpaa", sum := "40f6307ca4e08fe8e32d255a63a7e83fc2951468f4d0bd57e289ab0af80a68bf", func := "ephemeris/ephemerislaw05.ExtParses", spec := "extParses", unfollowed := true, recurses := true, apart := false }
def ExtParsesSaid : Prop := extParsesRow.holds Try.pinned (OpenSpec.ofChange extParsesSpec)

/-- ITS FALSE NEIGHBOUR: 'it returns false'. Refute it at one input. -/
def extParsesWrong : ChangeSpec := { name := "extParses", fn := fun _ => fun
  | [d] => { results := [.lit (.bool false)], args := [d] }
  | _ => none }
def ExtParsesWrongFalsely : Prop := extParsesRow.holds Try.pinned (OpenSpec.ofChange extParsesWrong)

/-- 'ephemerislaw05.ExtKnown': WHATEVER THE INPUT: true; the input reads as it did. -/
def extKnownSpec : ChangeSpec := { name := "extKnown", fn := fun _ => fun
  | [] => { results := [.lit (.bool true)], args := [] }
  | _ => none }
def extKnownRow : OpenClaim := { program := "ytpmibaeajmfdpaa", sum := "40f6307ca4e08fe8e32d255a63a7e83fc2951468f4d0bd57e289ab0af80a68bf", func := "ephemeris/ephemerislaw05.ExtKnown", spec := "extKnown", unfollowed := true, recurses := true, apart := false }
def ExtKnownSaid : Prop := extKnownRow.holds Try.pinned (OpenSpec.ofChange extKnownSpec)

/-- ITS FALSE NEIGHBOUR: 'it returns false'. Refute it at one input. -/
def extKnownWrong : ChangeSpec := { name := "extKnown", fn := fun _ => fun
  | [] => { results := [.lit (.bool false)], args := [] }
  | _ => none }
def ExtKnownWrongFalsely : Prop := extKnownRow.holds Try.pinned (OpenSpec.ofChange extKnownWrong)

/-- 'ephemerislaw05.ExtBack': WHATEVER THE INPUT: true; the input reads as it did. -/
def extBackSpec : ChangeSpec := { name := "extBack", fn := fun _ => fun
  | [d1, d2, d3] => { results := [.lit (.bool true)], args := [d1, d2, d3] }
  | _ => none }
def extBackRow : OpenClaim := { program := "ytpmibaeajmfdpaa", sum := "40f6307ca4e08fe8e32d255a63a7e83fc2951468f4d0bd57e289ab0af80a68bf", func := "ephemeris/ephemerislaw05.ExtBack", spec := "extBack", unfollowed := true, recurses := true, apart := false }
def ExtBackSaid : Prop := extBackRow.holds Try.pinned (OpenSpec.ofChange extBackSpec)

/-- ITS FALSE NEIGHBOUR: 'it returns false'. Refute it at one input. -/
def extBackWrong : ChangeSpec := { name := "extBack", fn := fun _ => fun
  | [d1, d2, d3] => { results := [.lit (.bool false)], args := [d1, d2, d3] }
  | _ => none }
def ExtBackWrongFalsely : Prop := extBackRow.holds Try.pinned (OpenSpec.ofChange extBackWrong)

/-- 'ephemerislaw05.ExtCuts': WHATEVER THE INPUT: true; the input reads as it did. -/
def extCutsSpec : ChangeSpec := { name := "extCuts", fn := fun _ => fun
  | [d1, d2] => { results := [.lit (.bool true)], args := [d1, d2] }
  | _ => none }
def extCutsRow : OpenClaim := { program := "ytpmibaeajmfdpaa", sum := "40f6307ca4e08fe8e32d255a63a7e83fc2951468f4d0bd57e289ab0af80a68bf", func := "ephemeris/ephemerislaw05.ExtCuts", spec := "extCuts", unfollowed := true, recurses := true, apart := false }
def ExtCutsSaid : Prop := extCutsRow.holds Try.pinned (OpenSpec.ofChange extCutsSpec)

/-- ITS FALSE NEIGHBOUR: 'it returns false'. Refute it at one input. -/
def extCutsWrong : ChangeSpec := { name := "extCuts", fn := fun _ => fun
  | [d1, d2] => { results := [.lit (.bool false)], args := [d1, d2] }
  | _ => none }
def ExtCutsWrongFalsely : Prop := extCutsRow.holds Try.pinned (OpenSpec.ofChange extCutsWrong)

/-- 'ephemerislaw05.ExtPuts': WHATEVER THE INPUT: true; the input reads as it did. -/
def extPutsSpec : ChangeSpec := { name := "extPuts", fn := fun _ => fun
  | [d1, d2, d3] => { results := [.lit (.bool true)], args := [d1, d2, d3] }
  | _ => none }
def extPutsRow : OpenClaim := { program := "ytpmibaeajmfdpaa", sum := "40f6307ca4e08fe8e32d255a63a7e83fc2951468f4d0bd57e289ab0af80a68bf", func := "ephemeris/ephemerislaw05.ExtPuts", spec := "extPuts", unfollowed := true, recurses := true, apart := false }
def ExtPutsSaid : Prop := extPutsRow.holds Try.pinned (OpenSpec.ofChange extPutsSpec)

/-- ITS FALSE NEIGHBOUR: 'it returns false'. Refute it at one input. -/
def extPutsWrong : ChangeSpec := { name := "extPuts", fn := fun _ => fun
  | [d1, d2, d3] => { results := [.lit (.bool false)], args := [d1, d2, d3] }
  | _ => none }
def ExtPutsWrongFalsely : Prop := extPutsRow.holds Try.pinned (OpenSpec.ofChange extPutsWrong)

/- THE SECOND FORM. 'bulk': how many values and letters a reading holds, each counted each time it is reached (what is shared counts as often as it is met; a slice's spare places count too). A statement '..UptoSaid' is the law's where the arguments, and the package variables that the reading takes, are together of bulk at most 1048576: NARROWER than '..Said'. Prove '..Said' where nothing that the law and all that it calls make is longer than what came in: it says more and counts as full. Else prove '..UptoSaid'. A law counts once. -/
mutual
def uptoBulk {H : Type} : DataW H → Nat
  | .lit (.string bytes) => bytes.length + 1
  | .lit _ => 1
  | .nil => 1
  | .ptr d => uptoBulk d + 1
  | .slice elems spare => uptoBulkAll elems + uptoBulkAll spare + 1
  | .agg parts => uptoBulkAll parts + 1
  | .iface _ d => uptoBulk d + 1
  | .map entries => uptoBulkEntries entries + 1
  | .held _ => 1
def uptoBulkAll {H : Type} : List (DataW H) → Nat
  | [] => 0
  | d :: r => uptoBulk d + uptoBulkAll r
def uptoBulkEntries {H : Type} : List (Lit × DataW H) → Nat
  | [] => 0
  | x :: r => uptoBulkEntry x + uptoBulkEntries r
def uptoBulkEntry {H : Type} : Lit × DataW H → Nat
  | (.string bytes, d) => bytes.length + uptoBulk d + 1
  | (_, d) => uptoBulk d + 1
 end
def uptoSmall : (H : Type) → List (DataW H) → Bool := fun _ ds => decide (uptoBulkAll ds ≤ 1048576)
def OpenSpec.upto (s : _root_.Go.ChangeSpec) : _root_.Go.OpenSpec := { _root_.Go.OpenSpec.ofChange s with cond := some uptoSmall }

/-- 'ephemerislaw05.ExtFinds', WHERE WHAT IT READS IS OF BULK AT MOST 1048576: true; the input reads as it did. -/
def extFindsUptoRow : OpenClaim := { program := "ytpmibaeajmfdpaa", sum := "40f6307ca4e08fe8e32d255a63a7e83fc2951468f4d0bd57e289ab0af80a68bf", func := "ephemeris/ephemerislaw05.ExtFinds", spec := "extFinds", unfollowed := true, recurses := true, apart := false, narrowed := true }
def ExtFindsUptoSaid : Prop := extFindsUptoRow.holds Try.pinned (OpenSpec.upto extFindsSpec)

/-- 'ephemerislaw05.ExtParses', WHERE WHAT IT READS IS OF BULK AT MOST 1048576: true; the input reads as it did. -/
def extParsesUptoRow : OpenClaim := { program := "ytpmibaeajmfdpaa", sum := "40f6307ca4e08fe8e32d255a63a7e83fc2951468f4d0bd57e289ab0af80a68bf", func := "ephemeris/ephemerislaw05.ExtParses", spec := "extParses", unfollowed := true, recurses := true, apart := false, narrowed := true }
def ExtParsesUptoSaid : Prop := extParsesUptoRow.holds Try.pinned (OpenSpec.upto extParsesSpec)

/-- 'ephemerislaw05.ExtKnown', WHERE WHAT IT READS IS OF BULK AT MOST 1048576: true; the input reads as it did. -/
def extKnownUptoRow : OpenClaim := { program := "ytpmibaeajmfdpaa", sum := "40f6307ca4e08fe8e32d255a63a7e83fc2951468f4d0bd57e289ab0af80a68bf", func := "ephemeris/ephemerislaw05.ExtKnown", spec := "extKnown", unfollowed := true, recurses := true, apart := false, narrowed := true }
def ExtKnownUptoSaid : Prop := extKnownUptoRow.holds Try.pinned (OpenSpec.upto extKnownSpec)

/-- 'ephemerislaw05.ExtBack', WHERE WHAT IT READS IS OF BULK AT MOST 1048576: true; the input reads as it did. -/
def extBackUptoRow : OpenClaim := { program := "ytpmibaeajmfdpaa", sum := "40f6307ca4e08fe8e32d255a63a7e83fc2951468f4d0bd57e289ab0af80a68bf", func := "ephemeris/ephemerislaw05.ExtBack", spec := "extBack", unfollowed := true, recurses := true, apart := false, narrowed := true }
def ExtBackUptoSaid : Prop := extBackUptoRow.holds Try.pinned (OpenSpec.upto extBackSpec)

/-- 'ephemerislaw05.ExtCuts', WHERE WHAT IT READS IS OF BULK AT MOST 1048576: true; the input reads as it did. -/
def extCutsUptoRow : OpenClaim := { program := "ytpmibaeajmfdpaa", sum := "40f6307ca4e08fe8e32d255a63a7e83fc2951468f4d0bd57e289ab0af80a68bf", func := "ephemeris/ephemerislaw05.ExtCuts", spec := "extCuts", unfollowed := true, recurses := true, apart := false, narrowed := true }
def ExtCutsUptoSaid : Prop := extCutsUptoRow.holds Try.pinned (OpenSpec.upto extCutsSpec)

/-- 'ephemerislaw05.ExtPuts', WHERE WHAT IT READS IS OF BULK AT MOST 1048576: true; the input reads as it did. -/
def extPutsUptoRow : OpenClaim := { program := "ytpmibaeajmfdpaa", sum := "40f6307ca4e08fe8e32d255a63a7e83fc2951468f4d0bd57e289ab0af80a68bf", func := "ephemeris/ephemerislaw05.ExtPuts", spec := "extPuts", unfollowed := true, recurses := true, apart := false, narrowed := true }
def ExtPutsUptoSaid : Prop := extPutsUptoRow.holds Try.pinned (OpenSpec.upto extPutsSpec)

end Rows
end Go.Proofs.Ytpmibaeajmfdpaa
