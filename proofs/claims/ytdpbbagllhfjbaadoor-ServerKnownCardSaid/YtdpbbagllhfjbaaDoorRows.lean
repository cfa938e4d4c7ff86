/-
  NARROWER THAN 'FOR EVERY INPUT', by the rows' own cells (each row's printed sentence says how): ServerTells: laid · ServerKnown: laid · ServerHonest: laid · ServerKisses: laid.
  DERIVED. THE GIVEN ROWS OF THIS SEAT. 4 by the template 'for every input the law returns true; each argument reads behind the call as it read before'; 0 by the template 'total and deterministic' (their statements: YtdpbbagllhfjbaaDoorTotals.lean).
  GIVEN WITH THE SEED: the statements are not yours to turn. If you find one false, say at which input.
  Laid BY PROGRAM, IN A SANDBOX (cutbox-rows.mjs): the forced cells as the released guide's own fill.sh prints them over the translation d25ca3dba18ecb81… (all of the seat's roots in one cut). By AI agents, Wed Nov 11 2026. No macro, syntax, notation, axiom, sorry.
-/
import Derived.Test.YtdpbbagllhfjbaaDoorChecked
import GoSem.PinnedTables
import GoSem.Claim
import GoSem.ClaimJoined
import GoSem.ClaimMapViews
import Derived.JoinedTies
import Derived.KernelRfl
namespace Go.Proofs.YtdpbbagllhfjbaaDoor
/- THE CELL 'sum', in the pinned program and in every row, IS THE sha256 OF THE DUMP (.gsa) THAT YtdpbbagllhfjbaaDoorProg.lean LOADS. Nothing in Lean hashes anything: it is a label: what it is worth is what the hold of that sum in a sandbox is worth. -/
noncomputable def Tryd.pinned : Pinned := { name := "ytdpbbagllhfjbaadoor", sum := "d25ca3dba18ecb81cf6b01ec1e1bbfbbc14b50166ddc294521db77af2650c515", checked := Tryd.checked }
namespace Rows
def none {H : Type} : Left H := { results := [], args := [] }

/- WHAT THE LISTED PACKAGE-LEVEL VARIABLES READ AS WHEN THE CALL BEGINS. Each datum BY PROGRAM (the guide's laid-datum.mjs) off the statement by which the dump's own 'gosem.cut.vars' lays the variable. In a bare row this is a premise. The card (YtdpbbagllhfjbaaDoorCards.lean) ties it to the program's text. -/
def laid_ephemeris_head_sizes {H : Type} : DataW H := .agg [.lit (.int .i64 1), .lit (.int .i64 1), .lit (.int .i64 1), .lit (.int .i64 1), .lit (.int .i64 4), .lit (.int .i64 4), .lit (.int .i64 4), .lit (.int .i64 8), .lit (.int .i64 8), .lit (.int .i64 8), .lit (.int .i64 8)]
def laid_ephemeris_sane_tests {H : Type} : DataW H := .iface "func table" (.agg [.agg [.lit (.int .i64 22), .iface "func" (.lit (.string [101, 112, 104, 101, 109, 101, 114, 105, 115, 47, 115, 97, 110, 101, 46, 116, 101, 115, 116, 115, 36, 49]))], .agg [.lit (.int .i64 23), .iface "func" (.lit (.string [101, 112, 104, 101, 109, 101, 114, 105, 115, 47, 115, 97, 110, 101, 46, 116, 101, 115, 116, 115, 36, 50]))], .agg [.lit (.int .i64 24), .iface "func" (.lit (.string [101, 112, 104, 101, 109, 101, 114, 105, 115, 47, 115, 97, 110, 101, 46, 116, 101, 115, 116, 115, 36, 51]))], .agg [.lit (.int .i64 24), .iface "func" (.lit (.string [101, 112, 104, 101, 109, 101, 114, 105, 115, 47, 115, 97, 110, 101, 46, 116, 101, 115, 116, 115, 36, 52]))], .agg [.lit (.int .i64 24), .iface "func" (.lit (.string [101, 112, 104, 101, 109, 101, 114, 105, 115, 47, 115, 97, 110, 101, 46, 116, 101, 115, 116, 115, 36, 53]))]])
def laid_unicode_utf8_acceptRanges {H : Type} : DataW H := .agg [.agg [.lit (.int .u8 128), .lit (.int .u8 191)], .agg [.lit (.int .u8 160), .lit (.int .u8 191)], .agg [.lit (.int .u8 128), .lit (.int .u8 159)], .agg [.lit (.int .u8 144), .lit (.int .u8 191)], .agg [.lit (.int .u8 128), .lit (.int .u8 143)], .agg [.lit (.int .u8 0), .lit (.int .u8 0)], .agg [.lit (.int .u8 0), .lit (.int .u8 0)], .agg [.lit (.int .u8 0), .lit (.int .u8 0)], .agg [.lit (.int .u8 0), .lit (.int .u8 0)], .agg [.lit (.int .u8 0), .lit (.int .u8 0)], .agg [.lit (.int .u8 0), .lit (.int .u8 0)], .agg [.lit (.int .u8 0), .lit (.int .u8 0)], .agg [.lit (.int .u8 0), .lit (.int .u8 0)], .agg [.lit (.int .u8 0), .lit (.int .u8 0)], .agg [.lit (.int .u8 0), .lit (.int .u8 0)], .agg [.lit (.int .u8 0), .lit (.int .u8 0)]]
/-- One of Go's own tables, pinned by name: the form's constant. -/
def laid_unicode_utf8_first : DataW Unit := Go.Pinned.utf8First

/-- 'ephemerislaw28.ServerTells': WHATEVER THE INPUT: true; the input reads as it did. -/
def serverTellsSpec : ChangeSpec := { name := "serverTells", fn := fun _ => fun
  | [d1, d2] => { results := [.lit (.bool true)], args := [d1, d2] }
  | _ => none }
def serverTellsRow : OpenClaim := { program := "ytdpbbagllhfjbaadoor", sum := "d25ca3dba18ecb81cf6b01ec1e1bbfbbc14b50166ddc294521db77af2650c515", func := "ephemeris/ephemerislaw28.ServerTells", spec := "serverTells", unfollowed := true, recurses := true, named := ["ephemeris/head.sizes", "math/bits.divideError", "math/bits.overflowError"], apart := false, laid := [("ephemeris/head.sizes", laid_ephemeris_head_sizes)] }
def ServerTellsSaid : Prop := serverTellsRow.holds Tryd.pinned (OpenSpec.ofChange serverTellsSpec)

/-- ITS FALSE NEIGHBOUR: 'it returns false'. Refute it at one input. -/
def serverTellsWrong : ChangeSpec := { name := "serverTells", fn := fun _ => fun
  | [d1, d2] => { results := [.lit (.bool false)], args := [d1, d2] }
  | _ => none }
def ServerTellsWrongFalsely : Prop := serverTellsRow.holds Tryd.pinned (OpenSpec.ofChange serverTellsWrong)

/-- 'ephemerislaw28.ServerKnown': WHATEVER THE INPUT: true; the input reads as it did. -/
def serverKnownSpec : ChangeSpec := { name := "serverKnown", fn := fun _ => fun
  | [] => { results := [.lit (.bool true)], args := [] }
  | _ => none }
def serverKnownRow : OpenClaim := { program := "ytdpbbagllhfjbaadoor", sum := "d25ca3dba18ecb81cf6b01ec1e1bbfbbc14b50166ddc294521db77af2650c515", func := "ephemeris/ephemerislaw28.ServerKnown", spec := "serverKnown", unfollowed := true, recurses := true, named := ["ephemeris/head.sizes", "math/bits.divideError", "math/bits.overflowError", "ephemeris/sane.tests"], apart := false, laid := [("ephemeris/head.sizes", laid_ephemeris_head_sizes), ("ephemeris/sane.tests", laid_ephemeris_sane_tests)] }
def ServerKnownSaid : Prop := serverKnownRow.holds Tryd.pinned (OpenSpec.ofChange serverKnownSpec)

/-- ITS FALSE NEIGHBOUR: 'it returns false'. Refute it at one input. -/
def serverKnownWrong : ChangeSpec := { name := "serverKnown", fn := fun _ => fun
  | [] => { results := [.lit (.bool false)], args := [] }
  | _ => none }
def ServerKnownWrongFalsely : Prop := serverKnownRow.holds Tryd.pinned (OpenSpec.ofChange serverKnownWrong)

/-- 'ephemerislaw28.ServerHonest': WHATEVER THE INPUT: true; the input reads as it did. -/
def serverHonestSpec : ChangeSpec := { name := "serverHonest", fn := fun _ => fun
  | [d1, d2, d3, d4, d5, d6] => { results := [.lit (.bool true)], args := [d1, d2, d3, d4, d5, d6] }
  | _ => none }
def serverHonestRow : OpenClaim := { program := "ytdpbbagllhfjbaadoor", sum := "d25ca3dba18ecb81cf6b01ec1e1bbfbbc14b50166ddc294521db77af2650c515", func := "ephemeris/ephemerislaw28.ServerHonest", spec := "serverHonest", unfollowed := true, recurses := true, named := ["ephemeris/head.sizes", "math/bits.divideError", "math/bits.overflowError", "ephemeris/sane.tests"], apart := false, laid := [("ephemeris/head.sizes", laid_ephemeris_head_sizes), ("ephemeris/sane.tests", laid_ephemeris_sane_tests)] }
def ServerHonestSaid : Prop := serverHonestRow.holds Tryd.pinned (OpenSpec.ofChange serverHonestSpec)

/-- ITS FALSE NEIGHBOUR: 'it returns false'. Refute it at one input. -/
def serverHonestWrong : ChangeSpec := { name := "serverHonest", fn := fun _ => fun
  | [d1, d2, d3, d4, d5, d6] => { results := [.lit (.bool false)], args := [d1, d2, d3, d4, d5, d6] }
  | _ => none }
def ServerHonestWrongFalsely : Prop := serverHonestRow.holds Tryd.pinned (OpenSpec.ofChange serverHonestWrong)

/-- 'ephemerislaw28.ServerKisses': WHATEVER THE INPUT: true; the input reads as it did. -/
def serverKissesSpec : ChangeSpec := { name := "serverKisses", fn := fun _ => fun
  | [d1, d2, d3, d4] => { results := [.lit (.bool true)], args := [d1, d2, d3, d4] }
  | _ => none }
def serverKissesRow : OpenClaim := { program := "ytdpbbagllhfjbaadoor", sum := "d25ca3dba18ecb81cf6b01ec1e1bbfbbc14b50166ddc294521db77af2650c515", func := "ephemeris/ephemerislaw28.ServerKisses", spec := "serverKisses", inPlace := ["internal/bytealg.IndexByteString", "internal/bytealg.IndexString"], unfollowed := true, recurses := true, named := ["ephemeris/head.sizes", "math/bits.divideError", "math/bits.overflowError", "unicode/utf8.first", "unicode/utf8.acceptRanges", "ephemeris/sane.tests", "internal/bytealg.MaxLen"], apart := false, laid := [("unicode/utf8.acceptRanges", laid_unicode_utf8_acceptRanges), ("ephemeris/head.sizes", laid_ephemeris_head_sizes), ("ephemeris/sane.tests", laid_ephemeris_sane_tests), ("unicode/utf8.first", laid_unicode_utf8_first)] }
def ServerKissesSaid : Prop := serverKissesRow.holds Tryd.pinned (OpenSpec.ofChange serverKissesSpec)

/-- ITS FALSE NEIGHBOUR: 'it returns false'. Refute it at one input. -/
def serverKissesWrong : ChangeSpec := { name := "serverKisses", fn := fun _ => fun
  | [d1, d2, d3, d4] => { results := [.lit (.bool false)], args := [d1, d2, d3, d4] }
  | _ => none }
def ServerKissesWrongFalsely : Prop := serverKissesRow.holds Tryd.pinned (OpenSpec.ofChange serverKissesWrong)

/- THE SECOND FORM. 'bulk': how many values and letters a reading holds, each counted each time it is reached (what is shared counts as often as it is met; a slice's spare places count too). A statement '..UptoSaid' is the law's where the arguments, and the package variables that the reading takes, are together of bulk at most 1048576: NARROWER than '..Said'. Prove '..Said' where nothing that the law and all that it calls make is longer than what came in: it says more and counts as full. Else prove '..UptoSaid'. A law counts once. -/
mutual
def uptoBulk {H : Type} : DataW H → Nat
  | .lit (.string bytes) => bytes.length + 1
  | .lit _ => 1
  | .nil => 1
  | .ptr d => uptoBulk d + 1
  | .slice elems spare => uptoBulkAll elems + uptoBulkAll spare + 1
  | .agg parts => uptoBulkAll parts + 1
  | .iface _ d => uptoBulk d + 1
  | .map entries => uptoBulkEntries entries + 1
  | .held _ => 1
def uptoBulkAll {H : Type} : List (DataW H) → Nat
  | [] => 0
  | d :: r => uptoBulk d + uptoBulkAll r
def uptoBulkEntries {H : Type} : List (Lit × DataW H) → Nat
  | [] => 0
  | x :: r => uptoBulkEntry x + uptoBulkEntries r
def uptoBulkEntry {H : Type} : Lit × DataW H → Nat
  | (.string bytes, d) => bytes.length + uptoBulk d + 1
  | (_, d) => uptoBulk d + 1
 end
def uptoSmall : (H : Type) → List (DataW H) → Bool := fun _ ds => decide (uptoBulkAll ds ≤ 1048576)
def OpenSpec.upto (s : _root_.Go.ChangeSpec) : _root_.Go.OpenSpec := { _root_.Go.OpenSpec.ofChange s with cond := some uptoSmall }

/-- 'ephemerislaw28.ServerTells', WHERE WHAT IT READS IS OF BULK AT MOST 1048576: true; the input reads as it did. -/
def serverTellsUptoRow : OpenClaim := { program := "ytdpbbagllhfjbaadoor", sum := "d25ca3dba18ecb81cf6b01ec1e1bbfbbc14b50166ddc294521db77af2650c515", func := "ephemeris/ephemerislaw28.ServerTells", spec := "serverTells", unfollowed := true, recurses := true, named := ["ephemeris/head.sizes", "math/bits.divideError", "math/bits.overflowError"], apart := false, laid := [("ephemeris/head.sizes", laid_ephemeris_head_sizes)], narrowed := true }
def ServerTellsUptoSaid : Prop := serverTellsUptoRow.holds Tryd.pinned (OpenSpec.upto serverTellsSpec)

/-- 'ephemerislaw28.ServerKnown', WHERE WHAT IT READS IS OF BULK AT MOST 1048576: true; the input reads as it did. -/
def serverKnownUptoRow : OpenClaim := { program := "ytdpbbagllhfjbaadoor", sum := "d25ca3dba18ecb81cf6b01ec1e1bbfbbc14b50166ddc294521db77af2650c515", func := "ephemeris/ephemerislaw28.ServerKnown", spec := "serverKnown", unfollowed := true, recurses := true, named := ["ephemeris/head.sizes", "math/bits.divideError", "math/bits.overflowError", "ephemeris/sane.tests"], apart := false, laid := [("ephemeris/head.sizes", laid_ephemeris_head_sizes), ("ephemeris/sane.tests", laid_ephemeris_sane_tests)], narrowed := true }
def ServerKnownUptoSaid : Prop := serverKnownUptoRow.holds Tryd.pinned (OpenSpec.upto serverKnownSpec)

/-- 'ephemerislaw28.ServerHonest', WHERE WHAT IT READS IS OF BULK AT MOST 1048576: true; the input reads as it did. -/
def serverHonestUptoRow : OpenClaim := { program := "ytdpbbagllhfjbaadoor", sum := "d25ca3dba18ecb81cf6b01ec1e1bbfbbc14b50166ddc294521db77af2650c515", func := "ephemeris/ephemerislaw28.ServerHonest", spec := "serverHonest", unfollowed := true, recurses := true, named := ["ephemeris/head.sizes", "math/bits.divideError", "math/bits.overflowError", "ephemeris/sane.tests"], apart := false, laid := [("ephemeris/head.sizes", laid_ephemeris_head_sizes), ("ephemeris/sane.tests", laid_ephemeris_sane_tests)], narrowed := true }
def ServerHonestUptoSaid : Prop := serverHonestUptoRow.holds Tryd.pinned (OpenSpec.upto serverHonestSpec)

/-- 'ephemerislaw28.ServerKisses', WHERE WHAT IT READS IS OF BULK AT MOST 1048576: true; the input reads as it did. -/
def serverKissesUptoRow : OpenClaim := { program := "ytdpbbagllhfjbaadoor", sum := "d25ca3dba18ecb81cf6b01ec1e1bbfbbc14b50166ddc294521db77af2650c515", func := "ephemeris/ephemerislaw28.ServerKisses", spec := "serverKisses", inPlace := ["internal/bytealg.IndexByteString", "internal/bytealg.IndexString"], unfollowed := true, recurses := true, named := ["ephemeris/head.sizes", "math/bits.divideError", "math/bits.overflowError", "unicode/utf8.first", "unicode/utf8.acceptRanges", "ephemeris/sane.tests", "internal/bytealg.MaxLen"], apart := false, laid := [("unicode/utf8.acceptRanges", laid_unicode_utf8_acceptRanges), ("ephemeris/head.sizes", laid_ephemeris_head_sizes), ("ephemeris/sane.tests", laid_ephemeris_sane_tests), ("unicode/utf8.first", laid_unicode_utf8_first)], narrowed := true }
def ServerKissesUptoSaid : Prop := serverKissesUptoRow.holds Tryd.pinned (OpenSpec.upto serverKissesSpec)

end Rows
end Go.Proofs.YtdpbbagllhfjbaaDoor
