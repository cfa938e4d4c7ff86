/-
  NARROWER THAN 'FOR EVERY INPUT', by the rows' own cells (each row's printed sentence says how): HeadPuts: laid · HeadParses: laid · HeadForm: laid · HeadBits: laid · HeadKnown: laid.
  DERIVED. THE GIVEN ROWS OF THIS SEAT. 5 by the template 'for every input the law returns true; each argument reads behind the call as it read before'; 0 by the template 'total and deterministic' (their statements: YtpmibaeajmfdpaaDoorTotals.lean).
  GIVEN WITH THE SEED: the statements are not yours to turn. If you find one false, say at which input.
  Laid BY PROGRAM, IN A SANDBOX (cutbox-rows.mjs): the forced cells as the released guide's own fill.sh prints them over the translation cb91610186e572cf… (all of the seat's roots in one cut). By AI agents, Wed Nov 11 2026. No macro, syntax, notation, axiom, sorry.
-/
import Derived.Test.YtpmibaeajmfdpaaDoorChecked
import GoSem.Claim
import GoSem.ClaimJoined
import GoSem.ClaimMapViews
import Derived.JoinedTies
import Derived.KernelRfl
namespace Go.Proofs.YtpmibaeajmfdpaaDoor
/- THE CELL 'sum', in the pinned program and in every row, IS THE sha256 OF THE DUMP (.gsa) THAT YtpmibaeajmfdpaaDoorProg.lean LOADS. Nothing in Lean hashes anything: it is a label: what it is worth is what the hold of that sum in a sandbox is worth. -/
noncomputable def Tryd.pinned : Pinned := { name := "ytpmibaeajmfdpaadoor", sum := "cb91610186e572cf4ebbe49e8461d981204c9f733c1f07c2409a8fb1d2239054", checked := Tryd.checked }
namespace Rows
def none {H : Type} : Left H := { results := [], args := [] }

/- WHAT THE LISTED PACKAGE-LEVEL VARIABLES READ AS WHEN THE CALL BEGINS. Each datum BY PROGRAM (the guide's laid-datum.mjs) off the statement by which the dump's own 'gosem.cut.vars' lays the variable. In a bare row this is a premise. The card (YtpmibaeajmfdpaaDoorCards.lean) ties it to the program's text. -/
def laid_ephemeris_head_sizes {H : Type} : DataW H := .agg [.lit (.int .i64 1), .lit (.int .i64 1), .lit (.int .i64 1), .lit (.int .i64 1), .lit (.int .i64 4), .lit (.int .i64 4), .lit (.int .i64 4), .lit (.int .i64 8), .lit (.int .i64 8), .lit (.int .i64 8), .lit (.int .i64 8)]

/-- 'ephemerislaw04.HeadPuts': WHATEVER THE INPUT: true; the input reads as it did. -/
def headPutsSpec : ChangeSpec := { name := "headPuts", fn := fun _ => fun
  | [d1, d2] => { results := [.lit (.bool true)], args := [d1, d2] }
  | _ => none }
def headPutsRow : OpenClaim := { program := "ytpmibaeajmfdpaadoor", sum := "cb91610186e572cf4ebbe49e8461d981204c9f733c1f07c2409a8fb1d2239054", func := "ephemeris/ephemerislaw04.HeadPuts", spec := "headPuts", unfollowed := true, recurses := true, named := ["ephemeris/head.sizes"], apart := false, laid := [("ephemeris/head.sizes", laid_ephemeris_head_sizes)] }
def HeadPutsSaid : Prop := headPutsRow.holds Tryd.pinned (OpenSpec.ofChange headPutsSpec)

/-- ITS FALSE NEIGHBOUR: 'it returns false'. Refute it at one input. -/
def headPutsWrong : ChangeSpec := { name := "headPuts", fn := fun _ => fun
  | [d1, d2] => { results := [.lit (.bool false)], args := [d1, d2] }
  | _ => none }
def HeadPutsWrongFalsely : Prop := headPutsRow.holds Tryd.pinned (OpenSpec.ofChange headPutsWrong)

/-- 'ephemerislaw04.HeadParses': WHATEVER THE INPUT: true; the input reads as it did. -/
def headParsesSpec : ChangeSpec := { name := "headParses", fn := fun _ => fun
  | [d] => { results := [.lit (.bool true)], args := [d] }
  | _ => none }
def headParsesRow : OpenClaim := { program := "ytpmibaeajmfdpaadoor", sum := "cb91610186e572cf4ebbe49e8461d981204c9f733c1f07c2409a8fb1d2239054", func := "ephemeris/ephemerislaw04.HeadParses", spec := "headParses", unfollowed := true, recurses := true, named := ["ephemeris/head.sizes"], apart := false, laid := [("ephemeris/head.sizes", laid_ephemeris_head_sizes)] }
def HeadParsesSaid : Prop := headParsesRow.holds Tryd.pinned (OpenSpec.ofChange headParsesSpec)

/-- ITS FALSE NEIGHBOUR: 'it returns false'. Refute it at one input. -/
def headParsesWrong : ChangeSpec := { name := "headParses", fn := fun _ => fun
  | [d] => { results := [.lit (.bool false)], args := [d] }
  | _ => none }
def HeadParsesWrongFalsely : Prop := headParsesRow.holds Tryd.pinned (OpenSpec.ofChange headParsesWrong)

/-- 'ephemerislaw04.HeadForm': WHATEVER THE INPUT: true; the input reads as it did. -/
def headFormSpec : ChangeSpec := { name := "headForm", fn := fun _ => fun
  | [d1, d2, d3] => { results := [.lit (.bool true)], args := [d1, d2, d3] }
  | _ => none }
def headFormRow : OpenClaim := { program := "ytpmibaeajmfdpaadoor", sum := "cb91610186e572cf4ebbe49e8461d981204c9f733c1f07c2409a8fb1d2239054", func := "ephemeris/ephemerislaw04.HeadForm", spec := "headForm", unfollowed := true, recurses := true, named := ["ephemeris/head.sizes"], apart := false, laid := [("ephemeris/head.sizes", laid_ephemeris_head_sizes)] }
def HeadFormSaid : Prop := headFormRow.holds Tryd.pinned (OpenSpec.ofChange headFormSpec)

/-- ITS FALSE NEIGHBOUR: 'it returns false'. Refute it at one input. -/
def headFormWrong : ChangeSpec := { name := "headForm", fn := fun _ => fun
  | [d1, d2, d3] => { results := [.lit (.bool false)], args := [d1, d2, d3] }
  | _ => none }
def HeadFormWrongFalsely : Prop := headFormRow.holds Tryd.pinned (OpenSpec.ofChange headFormWrong)

/-- 'ephemerislaw04.HeadBits': WHATEVER THE INPUT: true; the input reads as it did. -/
def headBitsSpec : ChangeSpec := { name := "headBits", fn := fun _ => fun
  | [d1, d2] => { results := [.lit (.bool true)], args := [d1, d2] }
  | _ => none }
def headBitsRow : OpenClaim := { program := "ytpmibaeajmfdpaadoor", sum := "cb91610186e572cf4ebbe49e8461d981204c9f733c1f07c2409a8fb1d2239054", func := "ephemeris/ephemerislaw04.HeadBits", spec := "headBits", unfollowed := true, recurses := true, named := ["ephemeris/head.sizes"], apart := false, laid := [("ephemeris/head.sizes", laid_ephemeris_head_sizes)] }
def HeadBitsSaid : Prop := headBitsRow.holds Tryd.pinned (OpenSpec.ofChange headBitsSpec)

/-- ITS FALSE NEIGHBOUR: 'it returns false'. Refute it at one input. -/
def headBitsWrong : ChangeSpec := { name := "headBits", fn := fun _ => fun
  | [d1, d2] => { results := [.lit (.bool false)], args := [d1, d2] }
  | _ => none }
def HeadBitsWrongFalsely : Prop := headBitsRow.holds Tryd.pinned (OpenSpec.ofChange headBitsWrong)

/-- 'ephemerislaw04.HeadKnown': WHATEVER THE INPUT: true; the input reads as it did. -/
def headKnownSpec : ChangeSpec := { name := "headKnown", fn := fun _ => fun
  | [] => { results := [.lit (.bool true)], args := [] }
  | _ => none }
def headKnownRow : OpenClaim := { program := "ytpmibaeajmfdpaadoor", sum := "cb91610186e572cf4ebbe49e8461d981204c9f733c1f07c2409a8fb1d2239054", func := "ephemeris/ephemerislaw04.HeadKnown", spec := "headKnown", unfollowed := true, recurses := true, named := ["ephemeris/head.sizes"], apart := false, laid := [("ephemeris/head.sizes", laid_ephemeris_head_sizes)] }
def HeadKnownSaid : Prop := headKnownRow.holds Tryd.pinned (OpenSpec.ofChange headKnownSpec)

/-- ITS FALSE NEIGHBOUR: 'it returns false'. Refute it at one input. -/
def headKnownWrong : ChangeSpec := { name := "headKnown", fn := fun _ => fun
  | [] => { results := [.lit (.bool false)], args := [] }
  | _ => none }
def HeadKnownWrongFalsely : Prop := headKnownRow.holds Tryd.pinned (OpenSpec.ofChange headKnownWrong)

/- THE SECOND FORM. 'bulk': how many values and letters a reading holds, each counted each time it is reached (what is shared counts as often as it is met; a slice's spare places count too). A statement '..UptoSaid' is the law's where the arguments, and the package variables that the reading takes, are together of bulk at most 1048576: NARROWER than '..Said'. Prove '..Said' where nothing that the law and all that it calls make is longer than what came in: it says more and counts as full. Else prove '..UptoSaid'. A law counts once. -/
mutual
def uptoBulk {H : Type} : DataW H → Nat
  | .lit (.string bytes) => bytes.length + 1
  | .lit _ => 1
  | .nil => 1
  | .ptr d => uptoBulk d + 1
  | .slice elems spare => uptoBulkAll elems + uptoBulkAll spare + 1
  | .agg parts => uptoBulkAll parts + 1
  | .iface _ d => uptoBulk d + 1
  | .map entries => uptoBulkEntries entries + 1
  | .held _ => 1
def uptoBulkAll {H : Type} : List (DataW H) → Nat
  | [] => 0
  | d :: r => uptoBulk d + uptoBulkAll r
def uptoBulkEntries {H : Type} : List (Lit × DataW H) → Nat
  | [] => 0
  | x :: r => uptoBulkEntry x + uptoBulkEntries r
def uptoBulkEntry {H : Type} : Lit × DataW H → Nat
  | (.string bytes, d) => bytes.length + uptoBulk d + 1
  | (_, d) => uptoBulk d + 1
 end
def uptoSmall : (H : Type) → List (DataW H) → Bool := fun _ ds => decide (uptoBulkAll ds ≤ 1048576)
def OpenSpec.upto (s : _root_.Go.ChangeSpec) : _root_.Go.OpenSpec := { _root_.Go.OpenSpec.ofChange s with cond := some uptoSmall }

/-- 'ephemerislaw04.HeadPuts', WHERE WHAT IT READS IS OF BULK AT MOST 1048576: true; the input reads as it did. -/
def headPutsUptoRow : OpenClaim := { program := "ytpmibaeajmfdpaadoor", sum := "cb91610186e572cf4ebbe49e8461d981204c9f733c1f07c2409a8fb1d2239054", func := "ephemeris/ephemerislaw04.HeadPuts", spec := "headPuts", unfollowed := true, recurses := true, named := ["ephemeris/head.sizes"], apart := false, laid := [("ephemeris/head.sizes", laid_ephemeris_head_sizes)], narrowed := true }
def HeadPutsUptoSaid : Prop := headPutsUptoRow.holds Tryd.pinned (OpenSpec.upto headPutsSpec)

/-- 'ephemerislaw04.HeadParses', WHERE WHAT IT READS IS OF BULK AT MOST 1048576: true; the input reads as it did. -/
def headParsesUptoRow : OpenClaim := { program := "ytpmibaeajmfdpaadoor", sum := "cb91610186e572cf4ebbe49e8461d981204c9f733c1f07c2409a8fb1d2239054", func := "ephemeris/ephemerislaw04.HeadParses", spec := "headParses", unfollowed := true, recurses := true, named := ["ephemeris/head.sizes"], apart := false, laid := [("ephemeris/head.sizes", laid_ephemeris_head_sizes)], narrowed := true }
def HeadParsesUptoSaid : Prop := headParsesUptoRow.holds Tryd.pinned (OpenSpec.upto headParsesSpec)

/-- 'ephemerislaw04.HeadForm', WHERE WHAT IT READS IS OF BULK AT MOST 1048576: true; the input reads as it did. -/
def headFormUptoRow : OpenClaim := { program := "ytpmibaeajmfdpaadoor", sum := "cb91610186e572cf4ebbe49e8461d981204c9f733c1f07c2409a8fb1d2239054", func := "ephemeris/ephemerislaw04.HeadForm", spec := "headForm", unfollowed := true, recurses := true, named := ["ephemeris/head.sizes"], apart := false, laid := [("ephemeris/head.sizes", laid_ephemeris_head_sizes)], narrowed := true }
def HeadFormUptoSaid : Prop := headFormUptoRow.holds Tryd.pinned (OpenSpec.upto headFormSpec)

/-- 'ephemerislaw04.HeadBits', WHERE WHAT IT READS IS OF BULK AT MOST 1048576: true; the input reads as it did. -/
def headBitsUptoRow : OpenClaim := { program := "ytpmibaeajmfdpaadoor", sum := "cb91610186e572cf4ebbe49e8461d981204c9f733c1f07c2409a8fb1d2239054", func := "ephemeris/ephemerislaw04.HeadBits", spec := "headBits", unfollowed := true, recurses := true, named := ["ephemeris/head.sizes"], apart := false, laid := [("ephemeris/head.sizes", laid_ephemeris_head_sizes)], narrowed := true }
def HeadBitsUptoSaid : Prop := headBitsUptoRow.holds Tryd.pinned (OpenSpec.upto headBitsSpec)

/-- 'ephemerislaw04.HeadKnown', WHERE WHAT IT READS IS OF BULK AT MOST 1048576: true; the input reads as it did. -/
def headKnownUptoRow : OpenClaim := { program := "ytpmibaeajmfdpaadoor", sum := "cb91610186e572cf4ebbe49e8461d981204c9f733c1f07c2409a8fb1d2239054", func := "ephemeris/ephemerislaw04.HeadKnown", spec := "headKnown", unfollowed := true, recurses := true, named := ["ephemeris/head.sizes"], apart := false, laid := [("ephemeris/head.sizes", laid_ephemeris_head_sizes)], narrowed := true }
def HeadKnownUptoSaid : Prop := headKnownUptoRow.holds Tryd.pinned (OpenSpec.upto headKnownSpec)

end Rows
end Go.Proofs.YtpmibaeajmfdpaaDoor
