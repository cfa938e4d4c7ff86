/-
  No cell of these rows narrows 'for every input' (looked for: loops, veiled, ifaces, maps, wideKeys, modest, calm, conditions, laid).
  DERIVED. THE GIVEN ROWS OF THIS SEAT. 12 by the template 'for every input the law returns true; each argument reads behind the call as it read before'; 0 by the template 'total and deterministic' (their statements: YtimlhgpjmjmjhaaTotals.lean).
  GIVEN WITH THE SEED: the statements are not yours to turn. If you find one false, say at which input.
  Laid BY PROGRAM, IN A SANDBOX (cutbox-rows.mjs): the forced cells as the released guide's own fill.sh prints them over the translation ed0722dcf6798e18… (all of the seat's roots in one cut). By AI agents, Wed Nov 11 2026. No macro, syntax, notation, axiom, sorry.
-/
import Derived.Test.YtimlhgpjmjmjhaaChecked
import GoSem.Claim
import GoSem.ClaimJoined
import GoSem.ClaimMapViews
import Derived.JoinedTies
import Derived.KernelRfl
namespace Go.Proofs.Ytimlhgpjmjmjhaa
/- THE CELL 'sum', in the pinned program and in every row, IS THE sha256 OF THE DUMP (.gsa) THAT YtimlhgpjmjmjhaaProg.lean LOADS. Nothing in Lean hashes anything: it is a label: what it is worth is what the hold of that sum in a sandbox is worth. -/
noncomputable def Try.pinned : Pinned := { name := "ytimlhgpjmjmjhaa", sum := "ed0722dcf6798e1847d9a82e867828c2bc28c57664240cebcdea6e371128e26b", checked := Try.checked }
namespace Rows
def none {H : Type} : Left H := { results := [], args := [] }

/-- 'ephemerislaw17.PollDemand': WHATEVER THE INPUT: true; the input reads as it did. -/
def pollDemandSpec : ChangeSpec := { name := "pollDemand", fn := fun _ => fun
  | [d1, d2, d3] => { results := [.lit (.bool true)], args := [d1, d2, d3] }
  | _ => none }
def pollDemandRow : OpenClaim := { program := "ytimlhgpjmjmjhaa", sum := "ed0722dcf6798e1847d9a82e867828c2bc28c57664240cebcdea6e371128e26b", func := "ephemeris/ephemerislaw17.PollDemand", spec := "pollDemand", unfollowed := true, recurses := true, apart := false }
def PollDemandSaid : Prop := pollDemandRow.holds Try.pinned (OpenSpec.ofChange pollDemandSpec)

/-- ITS FALSE NEIGHBOUR: 'it returns false'. Refute it at one input. -/
def pollDemandWrong : ChangeSpec := { name := "pollDemand", fn := fun _ => fun
  | [d1, d2, d3] => { results := [.lit (.bool false)], args := [d1, d2, d3] }
  | _ => none }
def PollDemandWrongFalsely : Prop := pollDemandRow.holds Try.pinned (OpenSpec.ofChange pollDemandWrong)

/-- 'ephemerislaw17.PollSilent': WHATEVER THE INPUT: true; the input reads as it did. -/
def pollSilentSpec : ChangeSpec := { name := "pollSilent", fn := fun _ => fun
  | [d1, d2] => { results := [.lit (.bool true)], args := [d1, d2] }
  | _ => none }
def pollSilentRow : OpenClaim := { program := "ytimlhgpjmjmjhaa", sum := "ed0722dcf6798e1847d9a82e867828c2bc28c57664240cebcdea6e371128e26b", func := "ephemeris/ephemerislaw17.PollSilent", spec := "pollSilent", unfollowed := true, recurses := true, apart := false }
def PollSilentSaid : Prop := pollSilentRow.holds Try.pinned (OpenSpec.ofChange pollSilentSpec)

/-- ITS FALSE NEIGHBOUR: 'it returns false'. Refute it at one input. -/
def pollSilentWrong : ChangeSpec := { name := "pollSilent", fn := fun _ => fun
  | [d1, d2] => { results := [.lit (.bool false)], args := [d1, d2] }
  | _ => none }
def PollSilentWrongFalsely : Prop := pollSilentRow.holds Try.pinned (OpenSpec.ofChange pollSilentWrong)

/-- 'ephemerislaw17.PollReach': WHATEVER THE INPUT: true; the input reads as it did. -/
def pollReachSpec : ChangeSpec := { name := "pollReach", fn := fun _ => fun
  | [d] => { results := [.lit (.bool true)], args := [d] }
  | _ => none }
def pollReachRow : OpenClaim := { program := "ytimlhgpjmjmjhaa", sum := "ed0722dcf6798e1847d9a82e867828c2bc28c57664240cebcdea6e371128e26b", func := "ephemeris/ephemerislaw17.PollReach", spec := "pollReach", unfollowed := true, recurses := true, apart := false }
def PollReachSaid : Prop := pollReachRow.holds Try.pinned (OpenSpec.ofChange pollReachSpec)

/-- ITS FALSE NEIGHBOUR: 'it returns false'. Refute it at one input. -/
def pollReachWrong : ChangeSpec := { name := "pollReach", fn := fun _ => fun
  | [d] => { results := [.lit (.bool false)], args := [d] }
  | _ => none }
def PollReachWrongFalsely : Prop := pollReachRow.holds Try.pinned (OpenSpec.ofChange pollReachWrong)

/-- 'ephemerislaw17.PollPlays': WHATEVER THE INPUT: true; the input reads as it did. -/
def pollPlaysSpec : ChangeSpec := { name := "pollPlays", fn := fun _ => fun
  | [d1, d2] => { results := [.lit (.bool true)], args := [d1, d2] }
  | _ => none }
def pollPlaysRow : OpenClaim := { program := "ytimlhgpjmjmjhaa", sum := "ed0722dcf6798e1847d9a82e867828c2bc28c57664240cebcdea6e371128e26b", func := "ephemeris/ephemerislaw17.PollPlays", spec := "pollPlays", unfollowed := true, recurses := true, apart := false }
def PollPlaysSaid : Prop := pollPlaysRow.holds Try.pinned (OpenSpec.ofChange pollPlaysSpec)

/-- ITS FALSE NEIGHBOUR: 'it returns false'. Refute it at one input. -/
def pollPlaysWrong : ChangeSpec := { name := "pollPlays", fn := fun _ => fun
  | [d1, d2] => { results := [.lit (.bool false)], args := [d1, d2] }
  | _ => none }
def PollPlaysWrongFalsely : Prop := pollPlaysRow.holds Try.pinned (OpenSpec.ofChange pollPlaysWrong)

/-- 'ephemerislaw17.PollKnown': WHATEVER THE INPUT: true; the input reads as it did. -/
def pollKnownSpec : ChangeSpec := { name := "pollKnown", fn := fun _ => fun
  | [] => { results := [.lit (.bool true)], args := [] }
  | _ => none }
def pollKnownRow : OpenClaim := { program := "ytimlhgpjmjmjhaa", sum := "ed0722dcf6798e1847d9a82e867828c2bc28c57664240cebcdea6e371128e26b", func := "ephemeris/ephemerislaw17.PollKnown", spec := "pollKnown", unfollowed := true, recurses := true, apart := false }
def PollKnownSaid : Prop := pollKnownRow.holds Try.pinned (OpenSpec.ofChange pollKnownSpec)

/-- ITS FALSE NEIGHBOUR: 'it returns false'. Refute it at one input. -/
def pollKnownWrong : ChangeSpec := { name := "pollKnown", fn := fun _ => fun
  | [] => { results := [.lit (.bool false)], args := [] }
  | _ => none }
def PollKnownWrongFalsely : Prop := pollKnownRow.holds Try.pinned (OpenSpec.ofChange pollKnownWrong)

/-- 'ephemerislaw03.OctetRows': WHATEVER THE INPUT: true; the input reads as it did. -/
def octetRowsSpec : ChangeSpec := { name := "octetRows", fn := fun _ => fun
  | [d1, d2, d3] => { results := [.lit (.bool true)], args := [d1, d2, d3] }
  | _ => none }
def octetRowsRow : OpenClaim := { program := "ytimlhgpjmjmjhaa", sum := "ed0722dcf6798e1847d9a82e867828c2bc28c57664240cebcdea6e371128e26b", func := "ephemeris/ephemerislaw03.OctetRows", spec := "octetRows", unfollowed := true, recurses := true, apart := false }
def OctetRowsSaid : Prop := octetRowsRow.holds Try.pinned (OpenSpec.ofChange octetRowsSpec)

/-- ITS FALSE NEIGHBOUR: 'it returns false'. Refute it at one input. -/
def octetRowsWrong : ChangeSpec := { name := "octetRows", fn := fun _ => fun
  | [d1, d2, d3] => { results := [.lit (.bool false)], args := [d1, d2, d3] }
  | _ => none }
def OctetRowsWrongFalsely : Prop := octetRowsRow.holds Try.pinned (OpenSpec.ofChange octetRowsWrong)

/-- 'ephemerislaw03.OctetPlaces': WHATEVER THE INPUT: true; the input reads as it did. -/
def octetPlacesSpec : ChangeSpec := { name := "octetPlaces", fn := fun _ => fun
  | [d1, d2, d3] => { results := [.lit (.bool true)], args := [d1, d2, d3] }
  | _ => none }
def octetPlacesRow : OpenClaim := { program := "ytimlhgpjmjmjhaa", sum := "ed0722dcf6798e1847d9a82e867828c2bc28c57664240cebcdea6e371128e26b", func := "ephemeris/ephemerislaw03.OctetPlaces", spec := "octetPlaces", unfollowed := true, recurses := true, apart := false }
def OctetPlacesSaid : Prop := octetPlacesRow.holds Try.pinned (OpenSpec.ofChange octetPlacesSpec)

/-- ITS FALSE NEIGHBOUR: 'it returns false'. Refute it at one input. -/
def octetPlacesWrong : ChangeSpec := { name := "octetPlaces", fn := fun _ => fun
  | [d1, d2, d3] => { results := [.lit (.bool false)], args := [d1, d2, d3] }
  | _ => none }
def OctetPlacesWrongFalsely : Prop := octetPlacesRow.holds Try.pinned (OpenSpec.ofChange octetPlacesWrong)

/-- 'ephemerislaw03.OctetTwos': WHATEVER THE INPUT: true; the input reads as it did. -/
def octetTwosSpec : ChangeSpec := { name := "octetTwos", fn := fun _ => fun
  | [d1, d2] => { results := [.lit (.bool true)], args := [d1, d2] }
  | _ => none }
def octetTwosRow : OpenClaim := { program := "ytimlhgpjmjmjhaa", sum := "ed0722dcf6798e1847d9a82e867828c2bc28c57664240cebcdea6e371128e26b", func := "ephemeris/ephemerislaw03.OctetTwos", spec := "octetTwos", unfollowed := true, recurses := true, apart := false }
def OctetTwosSaid : Prop := octetTwosRow.holds Try.pinned (OpenSpec.ofChange octetTwosSpec)

/-- ITS FALSE NEIGHBOUR: 'it returns false'. Refute it at one input. -/
def octetTwosWrong : ChangeSpec := { name := "octetTwos", fn := fun _ => fun
  | [d1, d2] => { results := [.lit (.bool false)], args := [d1, d2] }
  | _ => none }
def OctetTwosWrongFalsely : Prop := octetTwosRow.holds Try.pinned (OpenSpec.ofChange octetTwosWrong)

/-- 'ephemerislaw03.OctetHole': WHATEVER THE INPUT: true; the input reads as it did. -/
def octetHoleSpec : ChangeSpec := { name := "octetHole", fn := fun _ => fun
  | [d1, d2, d3] => { results := [.lit (.bool true)], args := [d1, d2, d3] }
  | _ => none }
def octetHoleRow : OpenClaim := { program := "ytimlhgpjmjmjhaa", sum := "ed0722dcf6798e1847d9a82e867828c2bc28c57664240cebcdea6e371128e26b", func := "ephemeris/ephemerislaw03.OctetHole", spec := "octetHole", unfollowed := true, recurses := true, apart := false }
def OctetHoleSaid : Prop := octetHoleRow.holds Try.pinned (OpenSpec.ofChange octetHoleSpec)

/-- ITS FALSE NEIGHBOUR: 'it returns false'. Refute it at one input. -/
def octetHoleWrong : ChangeSpec := { name := "octetHole", fn := fun _ => fun
  | [d1, d2, d3] => { results := [.lit (.bool false)], args := [d1, d2, d3] }
  | _ => none }
def OctetHoleWrongFalsely : Prop := octetHoleRow.holds Try.pinned (OpenSpec.ofChange octetHoleWrong)

/-- 'ephemerislaw03.OctetKnown': WHATEVER THE INPUT: true; the input reads as it did. -/
def octetKnownSpec : ChangeSpec := { name := "octetKnown", fn := fun _ => fun
  | [] => { results := [.lit (.bool true)], args := [] }
  | _ => none }
def octetKnownRow : OpenClaim := { program := "ytimlhgpjmjmjhaa", sum := "ed0722dcf6798e1847d9a82e867828c2bc28c57664240cebcdea6e371128e26b", func := "ephemeris/ephemerislaw03.OctetKnown", spec := "octetKnown", unfollowed := true, recurses := true, apart := false }
def OctetKnownSaid : Prop := octetKnownRow.holds Try.pinned (OpenSpec.ofChange octetKnownSpec)

/-- ITS FALSE NEIGHBOUR: 'it returns false'. Refute it at one input. -/
def octetKnownWrong : ChangeSpec := { name := "octetKnown", fn := fun _ => fun
  | [] => { results := [.lit (.bool false)], args := [] }
  | _ => none }
def OctetKnownWrongFalsely : Prop := octetKnownRow.holds Try.pinned (OpenSpec.ofChange octetKnownWrong)

/-- 'ephemerislaw03.OctetOrder': WHATEVER THE INPUT: true; the input reads as it did. -/
def octetOrderSpec : ChangeSpec := { name := "octetOrder", fn := fun _ => fun
  | [d1, d2, d3] => { results := [.lit (.bool true)], args := [d1, d2, d3] }
  | _ => none }
def octetOrderRow : OpenClaim := { program := "ytimlhgpjmjmjhaa", sum := "ed0722dcf6798e1847d9a82e867828c2bc28c57664240cebcdea6e371128e26b", func := "ephemeris/ephemerislaw03.OctetOrder", spec := "octetOrder", inPlace := ["internal/bytealg.Compare"], unfollowed := true, recurses := true, apart := false }
def OctetOrderSaid : Prop := octetOrderRow.holds Try.pinned (OpenSpec.ofChange octetOrderSpec)

/-- ITS FALSE NEIGHBOUR: 'it returns false'. Refute it at one input. -/
def octetOrderWrong : ChangeSpec := { name := "octetOrder", fn := fun _ => fun
  | [d1, d2, d3] => { results := [.lit (.bool false)], args := [d1, d2, d3] }
  | _ => none }
def OctetOrderWrongFalsely : Prop := octetOrderRow.holds Try.pinned (OpenSpec.ofChange octetOrderWrong)

/-- 'ephemerislaw03.OctetBack': WHATEVER THE INPUT: true; the input reads as it did. -/
def octetBackSpec : ChangeSpec := { name := "octetBack", fn := fun _ => fun
  | [d1, d2, d3] => { results := [.lit (.bool true)], args := [d1, d2, d3] }
  | _ => none }
def octetBackRow : OpenClaim := { program := "ytimlhgpjmjmjhaa", sum := "ed0722dcf6798e1847d9a82e867828c2bc28c57664240cebcdea6e371128e26b", func := "ephemeris/ephemerislaw03.OctetBack", spec := "octetBack", unfollowed := true, recurses := true, apart := false }
def OctetBackSaid : Prop := octetBackRow.holds Try.pinned (OpenSpec.ofChange octetBackSpec)

/-- ITS FALSE NEIGHBOUR: 'it returns false'. Refute it at one input. -/
def octetBackWrong : ChangeSpec := { name := "octetBack", fn := fun _ => fun
  | [d1, d2, d3] => { results := [.lit (.bool false)], args := [d1, d2, d3] }
  | _ => none }
def OctetBackWrongFalsely : Prop := octetBackRow.holds Try.pinned (OpenSpec.ofChange octetBackWrong)

/- THE SECOND FORM. 'bulk': how many values and letters a reading holds, each counted each time it is reached (what is shared counts as often as it is met; a slice's spare places count too). A statement '..UptoSaid' is the law's where the arguments, and the package variables that the reading takes, are together of bulk at most 1048576: NARROWER than '..Said'. Prove '..Said' where nothing that the law and all that it calls make is longer than what came in: it says more and counts as full. Else prove '..UptoSaid'. A law counts once. -/
mutual
def uptoBulk {H : Type} : DataW H → Nat
  | .lit (.string bytes) => bytes.length + 1
  | .lit _ => 1
  | .nil => 1
  | .ptr d => uptoBulk d + 1
  | .slice elems spare => uptoBulkAll elems + uptoBulkAll spare + 1
  | .agg parts => uptoBulkAll parts + 1
  | .iface _ d => uptoBulk d + 1
  | .map entries => uptoBulkEntries entries + 1
  | .held _ => 1
def uptoBulkAll {H : Type} : List (DataW H) → Nat
  | [] => 0
  | d :: r => uptoBulk d + uptoBulkAll r
def uptoBulkEntries {H : Type} : List (Lit × DataW H) → Nat
  | [] => 0
  | x :: r => uptoBulkEntry x + uptoBulkEntries r
def uptoBulkEntry {H : Type} : Lit × DataW H → Nat
  | (.string bytes, d) => bytes.length + uptoBulk d + 1
  | (_, d) => uptoBulk d + 1
 end
def uptoSmall : (H : Type) → List (DataW H) → Bool := fun _ ds => decide (uptoBulkAll ds ≤ 1048576)
def OpenSpec.upto (s : _root_.Go.ChangeSpec) : _root_.Go.OpenSpec := { _root_.Go.OpenSpec.ofChange s with cond := some uptoSmall }

/-- 'ephemerislaw17.PollDemand', WHERE WHAT IT READS IS OF BULK AT MOST 1048576: true; the input reads as it did. -/
def pollDemandUptoRow : OpenClaim := { program := "ytimlhgpjmjmjhaa", sum := "ed0722dcf6798e1847d9a82e867828c2bc28c57664240cebcdea6e371128e26b", func := "ephemeris/ephemerislaw17.PollDemand", spec := "pollDemand", unfollowed := true, recurses := true, apart := false, narrowed := true }
def PollDemandUptoSaid : Prop := pollDemandUptoRow.holds Try.pinned (OpenSpec.upto pollDemandSpec)

/-- 'ephemerislaw17.PollSilent', WHERE WHAT IT READS IS OF BULK AT MOST 1048576: true; the input reads as it did. -/
def pollSilentUptoRow : OpenClaim := { program := "ytimlhgpjmjmjhaa", sum := "ed0722dcf6798e1847d9a82e867828c2bc28c57664240cebcdea6e371128e26b", func := "ephemeris/ephemerislaw17.PollSilent", spec := "pollSilent", unfollowed := true, recurses := true, apart := false, narrowed := true }
def PollSilentUptoSaid : Prop := pollSilentUptoRow.holds Try.pinned (OpenSpec.upto pollSilentSpec)

/-- 'ephemerislaw17.PollReach', WHERE WHAT IT READS IS OF BULK AT MOST 1048576: true; the input reads as it did. -/
def pollReachUptoRow : OpenClaim := { program := "ytimlhgpjmjmjhaa", sum := "ed0722dcf6798e1847d9a82e867828c2bc28c57664240cebcdea6e371128e26b", func := "ephemeris/ephemerislaw17.PollReach", spec := "pollReach", unfollowed := true, recurses := true, apart := false, narrowed := true }
def PollReachUptoSaid : Prop := pollReachUptoRow.holds Try.pinned (OpenSpec.upto pollReachSpec)

/-- 'ephemerislaw17.PollPlays', WHERE WHAT IT READS IS OF BULK AT MOST 1048576: true; the input reads as it did. -/
def pollPlaysUptoRow : OpenClaim := { program := "ytimlhgpjmjmjhaa", sum := "ed0722dcf6798e1847d9a82e867828c2bc28c57664240cebcdea6e371128e26b", func := "ephemeris/ephemerislaw17.PollPlays", spec := "pollPlays", unfollowed := true, recurses := true, apart := false, narrowed := true }
def PollPlaysUptoSaid : Prop := pollPlaysUptoRow.holds Try.pinned (OpenSpec.upto pollPlaysSpec)

/-- 'ephemerislaw17.PollKnown', WHERE WHAT IT READS IS OF BULK AT MOST 1048576: true; the input reads as it did. -/
def pollKnownUptoRow : OpenClaim := { program := "ytimlhgpjmjmjhaa", sum := "ed0722dcf6798e1847d9a82e867828c2bc28c57664240cebcdea6e371128e26b", func := "ephemeris/ephemerislaw17.PollKnown", spec := "pollKnown", unfollowed := true, recurses := true, apart := false, narrowed := true }
def PollKnownUptoSaid : Prop := pollKnownUptoRow.holds Try.pinned (OpenSpec.upto pollKnownSpec)

/-- 'ephemerislaw03.OctetRows', WHERE WHAT IT READS IS OF BULK AT MOST 1048576: true; the input reads as it did. -/
def octetRowsUptoRow : OpenClaim := { program := "ytimlhgpjmjmjhaa", sum := "ed0722dcf6798e1847d9a82e867828c2bc28c57664240cebcdea6e371128e26b", func := "ephemeris/ephemerislaw03.OctetRows", spec := "octetRows", unfollowed := true, recurses := true, apart := false, narrowed := true }
def OctetRowsUptoSaid : Prop := octetRowsUptoRow.holds Try.pinned (OpenSpec.upto octetRowsSpec)

/-- 'ephemerislaw03.OctetPlaces', WHERE WHAT IT READS IS OF BULK AT MOST 1048576: true; the input reads as it did. -/
def octetPlacesUptoRow : OpenClaim := { program := "ytimlhgpjmjmjhaa", sum := "ed0722dcf6798e1847d9a82e867828c2bc28c57664240cebcdea6e371128e26b", func := "ephemeris/ephemerislaw03.OctetPlaces", spec := "octetPlaces", unfollowed := true, recurses := true, apart := false, narrowed := true }
def OctetPlacesUptoSaid : Prop := octetPlacesUptoRow.holds Try.pinned (OpenSpec.upto octetPlacesSpec)

/-- 'ephemerislaw03.OctetTwos', WHERE WHAT IT READS IS OF BULK AT MOST 1048576: true; the input reads as it did. -/
def octetTwosUptoRow : OpenClaim := { program := "ytimlhgpjmjmjhaa", sum := "ed0722dcf6798e1847d9a82e867828c2bc28c57664240cebcdea6e371128e26b", func := "ephemeris/ephemerislaw03.OctetTwos", spec := "octetTwos", unfollowed := true, recurses := true, apart := false, narrowed := true }
def OctetTwosUptoSaid : Prop := octetTwosUptoRow.holds Try.pinned (OpenSpec.upto octetTwosSpec)

/-- 'ephemerislaw03.OctetHole', WHERE WHAT IT READS IS OF BULK AT MOST 1048576: true; the input reads as it did. -/
def octetHoleUptoRow : OpenClaim := { program := "ytimlhgpjmjmjhaa", sum := "ed0722dcf6798e1847d9a82e867828c2bc28c57664240cebcdea6e371128e26b", func := "ephemeris/ephemerislaw03.OctetHole", spec := "octetHole", unfollowed := true, recurses := true, apart := false, narrowed := true }
def OctetHoleUptoSaid : Prop := octetHoleUptoRow.holds Try.pinned (OpenSpec.upto octetHoleSpec)

/-- 'ephemerislaw03.OctetKnown', WHERE WHAT IT READS IS OF BULK AT MOST 1048576: true; the input reads as it did. -/
def octetKnownUptoRow : OpenClaim := { program := "ytimlhgpjmjmjhaa", sum := "ed0722dcf6798e1847d9a82e867828c2bc28c57664240cebcdea6e371128e26b", func := "ephemeris/ephemerislaw03.OctetKnown", spec := "octetKnown", unfollowed := true, recurses := true, apart := false, narrowed := true }
def OctetKnownUptoSaid : Prop := octetKnownUptoRow.holds Try.pinned (OpenSpec.upto octetKnownSpec)

/-- 'ephemerislaw03.OctetOrder', WHERE WHAT IT READS IS OF BULK AT MOST 1048576: true; the input reads as it did. -/
def octetOrderUptoRow : OpenClaim := { program := "ytimlhgpjmjmjhaa", sum := "ed0722dcf6798e1847d9a82e867828c2bc28c57664240cebcdea6e371128e26b", func := "ephemeris/ephemerislaw03.OctetOrder", spec := "octetOrder", inPlace := ["internal/bytealg.Compare"], unfollowed := true, recurses := true, apart := false, narrowed := true }
def OctetOrderUptoSaid : Prop := octetOrderUptoRow.holds Try.pinned (OpenSpec.upto octetOrderSpec)

/-- 'ephemerislaw03.OctetBack', WHERE WHAT IT READS IS OF BULK AT MOST 1048576: true; the input reads as it did. -/
def octetBackUptoRow : OpenClaim := { program := "ytimlhgpjmjmjhaa", sum := "ed0722dcf6798e1847d9a82e867828c2bc28c57664240cebcdea6e371128e26b", func := "ephemeris/ephemerislaw03.OctetBack", spec := "octetBack", unfollowed := true, recurses := true, apart := false, narrowed := true }
def OctetBackUptoSaid : Prop := octetBackUptoRow.holds Try.pinned (OpenSpec.upto octetBackSpec)

end Rows
end Go.Proofs.Ytimlhgpjmjmjhaa
