/-
  NARROWER THAN 'FOR EVERY INPUT', by the rows' own cells (each row's printed sentence says how): PacketParses: laid · SaneTests: laid · SaneActs: laid · SaneUses: laid · SaneFar: laid · SaneKnown: laid · PacketForm: laid · PacketLong: laid · PacketKnown: laid · PacketPuts: laid · PacketSigns: laid.
  DERIVED. THE GIVEN ROWS OF THIS SEAT. 11 by the template 'for every input the law returns true; each argument reads behind the call as it read before'; 0 by the template 'total and deterministic' (their statements: YtdbdmnhnijpdcaaDoorTotals.lean).
  GIVEN WITH THE SEED: the statements are not yours to turn. If you find one false, say at which input.
  Laid BY PROGRAM, IN A SANDBOX (cutbox-rows.mjs): the forced cells as the released guide's own fill.sh prints them over the translation 40f3df303c6854f7… (all of the seat's roots in one cut). By AI agents, Wed Nov 11 2026. No macro, syntax, notation, axiom, sorry.
-/
import Derived.Test.YtdbdmnhnijpdcaaDoorChecked
import GoSem.PinnedTables
import GoSem.Claim
import GoSem.ClaimJoined
import GoSem.ClaimMapViews
import Derived.JoinedTies
import Derived.KernelRfl
namespace Go.Proofs.YtdbdmnhnijpdcaaDoor
/- THE CELL 'sum', in the pinned program and in every row, IS THE sha256 OF THE DUMP (.gsa) THAT YtdbdmnhnijpdcaaDoorProg.lean LOADS. Nothing in Lean hashes anything: it is a label: what it is worth is what the hold of that sum in a sandbox is worth. -/
noncomputable def Tryd.pinned : Pinned := { name := "ytdbdmnhnijpdcaadoor", sum := "40f3df303c6854f703e2dee5c4957c47b383d04c52fa789cecdf31067c658983", checked := Tryd.checked }
namespace Rows
def none {H : Type} : Left H := { results := [], args := [] }

/- WHAT THE LISTED PACKAGE-LEVEL VARIABLES READ AS WHEN THE CALL BEGINS. Each datum BY PROGRAM (the guide's laid-datum.mjs) off the statement by which the dump's own 'gosem.cut.vars' lays the variable. In a bare row this is a premise. The card (YtdbdmnhnijpdcaaDoorCards.lean) ties it to the program's text. -/
def laid_ephemeris_head_sizes {H : Type} : DataW H := .agg [.lit (.int .i64 1), .lit (.int .i64 1), .lit (.int .i64 1), .lit (.int .i64 1), .lit (.int .i64 4), .lit (.int .i64 4), .lit (.int .i64 4), .lit (.int .i64 8), .lit (.int .i64 8), .lit (.int .i64 8), .lit (.int .i64 8)]
def laid_unicode_utf8_acceptRanges {H : Type} : DataW H := .agg [.agg [.lit (.int .u8 128), .lit (.int .u8 191)], .agg [.lit (.int .u8 160), .lit (.int .u8 191)], .agg [.lit (.int .u8 128), .lit (.int .u8 159)], .agg [.lit (.int .u8 144), .lit (.int .u8 191)], .agg [.lit (.int .u8 128), .lit (.int .u8 143)], .agg [.lit (.int .u8 0), .lit (.int .u8 0)], .agg [.lit (.int .u8 0), .lit (.int .u8 0)], .agg [.lit (.int .u8 0), .lit (.int .u8 0)], .agg [.lit (.int .u8 0), .lit (.int .u8 0)], .agg [.lit (.int .u8 0), .lit (.int .u8 0)], .agg [.lit (.int .u8 0), .lit (.int .u8 0)], .agg [.lit (.int .u8 0), .lit (.int .u8 0)], .agg [.lit (.int .u8 0), .lit (.int .u8 0)], .agg [.lit (.int .u8 0), .lit (.int .u8 0)], .agg [.lit (.int .u8 0), .lit (.int .u8 0)], .agg [.lit (.int .u8 0), .lit (.int .u8 0)]]
def laid_ephemeris_sane_tests {H : Type} : DataW H := .iface "func table" (.agg [.agg [.lit (.int .i64 22), .iface "func" (.lit (.string [101, 112, 104, 101, 109, 101, 114, 105, 115, 47, 115, 97, 110, 101, 46, 116, 101, 115, 116, 115, 36, 49]))], .agg [.lit (.int .i64 23), .iface "func" (.lit (.string [101, 112, 104, 101, 109, 101, 114, 105, 115, 47, 115, 97, 110, 101, 46, 116, 101, 115, 116, 115, 36, 50]))], .agg [.lit (.int .i64 24), .iface "func" (.lit (.string [101, 112, 104, 101, 109, 101, 114, 105, 115, 47, 115, 97, 110, 101, 46, 116, 101, 115, 116, 115, 36, 51]))], .agg [.lit (.int .i64 24), .iface "func" (.lit (.string [101, 112, 104, 101, 109, 101, 114, 105, 115, 47, 115, 97, 110, 101, 46, 116, 101, 115, 116, 115, 36, 52]))], .agg [.lit (.int .i64 24), .iface "func" (.lit (.string [101, 112, 104, 101, 109, 101, 114, 105, 115, 47, 115, 97, 110, 101, 46, 116, 101, 115, 116, 115, 36, 53]))]])
/-- One of Go's own tables, pinned by name: the form's constant. -/
def laid_unicode_utf8_first : DataW Unit := Go.Pinned.utf8First

/-- 'ephemerislaw07.PacketParses': WHATEVER THE INPUT: true; the input reads as it did. -/
def packetParsesSpec : ChangeSpec := { name := "packetParses", fn := fun _ => fun
  | [d] => { results := [.lit (.bool true)], args := [d] }
  | _ => none }
def packetParsesRow : OpenClaim := { program := "ytdbdmnhnijpdcaadoor", sum := "40f3df303c6854f703e2dee5c4957c47b383d04c52fa789cecdf31067c658983", func := "ephemeris/ephemerislaw07.PacketParses", spec := "packetParses", unfollowed := true, recurses := true, named := ["ephemeris/head.sizes"], apart := false, laid := [("ephemeris/head.sizes", laid_ephemeris_head_sizes)] }
def PacketParsesSaid : Prop := packetParsesRow.holds Tryd.pinned (OpenSpec.ofChange packetParsesSpec)

/-- ITS FALSE NEIGHBOUR: 'it returns false'. Refute it at one input. -/
def packetParsesWrong : ChangeSpec := { name := "packetParses", fn := fun _ => fun
  | [d] => { results := [.lit (.bool false)], args := [d] }
  | _ => none }
def PacketParsesWrongFalsely : Prop := packetParsesRow.holds Tryd.pinned (OpenSpec.ofChange packetParsesWrong)

/-- 'ephemerislaw08.SaneTests': WHATEVER THE INPUT: true; the input reads as it did. -/
def saneTestsSpec : ChangeSpec := { name := "saneTests", fn := fun _ => fun
  | [d] => { results := [.lit (.bool true)], args := [d] }
  | _ => none }
def saneTestsRow : OpenClaim := { program := "ytdbdmnhnijpdcaadoor", sum := "40f3df303c6854f703e2dee5c4957c47b383d04c52fa789cecdf31067c658983", func := "ephemeris/ephemerislaw08.SaneTests", spec := "saneTests", inPlace := ["internal/bytealg.IndexByteString", "internal/bytealg.IndexString"], unfollowed := true, recurses := true, named := ["unicode/utf8.first", "unicode/utf8.acceptRanges", "ephemeris/sane.tests", "internal/bytealg.MaxLen"], apart := false, laid := [("unicode/utf8.acceptRanges", laid_unicode_utf8_acceptRanges), ("ephemeris/sane.tests", laid_ephemeris_sane_tests), ("unicode/utf8.first", laid_unicode_utf8_first)] }
def SaneTestsSaid : Prop := saneTestsRow.holds Tryd.pinned (OpenSpec.ofChange saneTestsSpec)

/-- ITS FALSE NEIGHBOUR: 'it returns false'. Refute it at one input. -/
def saneTestsWrong : ChangeSpec := { name := "saneTests", fn := fun _ => fun
  | [d] => { results := [.lit (.bool false)], args := [d] }
  | _ => none }
def SaneTestsWrongFalsely : Prop := saneTestsRow.holds Tryd.pinned (OpenSpec.ofChange saneTestsWrong)

/-- 'ephemerislaw08.SaneActs': WHATEVER THE INPUT: true; the input reads as it did. -/
def saneActsSpec : ChangeSpec := { name := "saneActs", fn := fun _ => fun
  | [d] => { results := [.lit (.bool true)], args := [d] }
  | _ => none }
def saneActsRow : OpenClaim := { program := "ytdbdmnhnijpdcaadoor", sum := "40f3df303c6854f703e2dee5c4957c47b383d04c52fa789cecdf31067c658983", func := "ephemeris/ephemerislaw08.SaneActs", spec := "saneActs", inPlace := ["internal/bytealg.IndexByteString", "internal/bytealg.IndexString"], unfollowed := true, recurses := true, named := ["unicode/utf8.first", "unicode/utf8.acceptRanges", "ephemeris/sane.tests", "internal/bytealg.MaxLen"], apart := false, laid := [("unicode/utf8.acceptRanges", laid_unicode_utf8_acceptRanges), ("ephemeris/sane.tests", laid_ephemeris_sane_tests), ("unicode/utf8.first", laid_unicode_utf8_first)] }
def SaneActsSaid : Prop := saneActsRow.holds Tryd.pinned (OpenSpec.ofChange saneActsSpec)

/-- ITS FALSE NEIGHBOUR: 'it returns false'. Refute it at one input. -/
def saneActsWrong : ChangeSpec := { name := "saneActs", fn := fun _ => fun
  | [d] => { results := [.lit (.bool false)], args := [d] }
  | _ => none }
def SaneActsWrongFalsely : Prop := saneActsRow.holds Tryd.pinned (OpenSpec.ofChange saneActsWrong)

/-- 'ephemerislaw08.SaneUses': WHATEVER THE INPUT: true; the input reads as it did. -/
def saneUsesSpec : ChangeSpec := { name := "saneUses", fn := fun _ => fun
  | [d1, d2] => { results := [.lit (.bool true)], args := [d1, d2] }
  | _ => none }
def saneUsesRow : OpenClaim := { program := "ytdbdmnhnijpdcaadoor", sum := "40f3df303c6854f703e2dee5c4957c47b383d04c52fa789cecdf31067c658983", func := "ephemeris/ephemerislaw08.SaneUses", spec := "saneUses", inPlace := ["internal/bytealg.IndexByteString", "internal/bytealg.IndexString"], unfollowed := true, recurses := true, named := ["ephemeris/sane.tests", "unicode/utf8.first", "unicode/utf8.acceptRanges", "internal/bytealg.MaxLen"], apart := false, laid := [("unicode/utf8.acceptRanges", laid_unicode_utf8_acceptRanges), ("ephemeris/sane.tests", laid_ephemeris_sane_tests), ("unicode/utf8.first", laid_unicode_utf8_first)] }
def SaneUsesSaid : Prop := saneUsesRow.holds Tryd.pinned (OpenSpec.ofChange saneUsesSpec)

/-- ITS FALSE NEIGHBOUR: 'it returns false'. Refute it at one input. -/
def saneUsesWrong : ChangeSpec := { name := "saneUses", fn := fun _ => fun
  | [d1, d2] => { results := [.lit (.bool false)], args := [d1, d2] }
  | _ => none }
def SaneUsesWrongFalsely : Prop := saneUsesRow.holds Tryd.pinned (OpenSpec.ofChange saneUsesWrong)

/-- 'ephemerislaw08.SaneFar': WHATEVER THE INPUT: true; the input reads as it did. -/
def saneFarSpec : ChangeSpec := { name := "saneFar", fn := fun _ => fun
  | [d1, d2, d3] => { results := [.lit (.bool true)], args := [d1, d2, d3] }
  | _ => none }
def saneFarRow : OpenClaim := { program := "ytdbdmnhnijpdcaadoor", sum := "40f3df303c6854f703e2dee5c4957c47b383d04c52fa789cecdf31067c658983", func := "ephemeris/ephemerislaw08.SaneFar", spec := "saneFar", inPlace := ["internal/bytealg.IndexByteString", "internal/bytealg.IndexString"], unfollowed := true, recurses := true, named := ["ephemeris/sane.tests", "unicode/utf8.first", "unicode/utf8.acceptRanges", "internal/bytealg.MaxLen"], apart := false, laid := [("unicode/utf8.acceptRanges", laid_unicode_utf8_acceptRanges), ("ephemeris/sane.tests", laid_ephemeris_sane_tests), ("unicode/utf8.first", laid_unicode_utf8_first)] }
def SaneFarSaid : Prop := saneFarRow.holds Tryd.pinned (OpenSpec.ofChange saneFarSpec)

/-- ITS FALSE NEIGHBOUR: 'it returns false'. Refute it at one input. -/
def saneFarWrong : ChangeSpec := { name := "saneFar", fn := fun _ => fun
  | [d1, d2, d3] => { results := [.lit (.bool false)], args := [d1, d2, d3] }
  | _ => none }
def SaneFarWrongFalsely : Prop := saneFarRow.holds Tryd.pinned (OpenSpec.ofChange saneFarWrong)

/-- 'ephemerislaw08.SaneKnown': WHATEVER THE INPUT: true; the input reads as it did. -/
def saneKnownSpec : ChangeSpec := { name := "saneKnown", fn := fun _ => fun
  | [] => { results := [.lit (.bool true)], args := [] }
  | _ => none }
def saneKnownRow : OpenClaim := { program := "ytdbdmnhnijpdcaadoor", sum := "40f3df303c6854f703e2dee5c4957c47b383d04c52fa789cecdf31067c658983", func := "ephemeris/ephemerislaw08.SaneKnown", spec := "saneKnown", inPlace := ["internal/bytealg.IndexByteString", "internal/bytealg.IndexString"], unfollowed := true, recurses := true, named := ["unicode/utf8.first", "unicode/utf8.acceptRanges", "ephemeris/sane.tests", "internal/bytealg.MaxLen"], apart := false, laid := [("unicode/utf8.acceptRanges", laid_unicode_utf8_acceptRanges), ("ephemeris/sane.tests", laid_ephemeris_sane_tests), ("unicode/utf8.first", laid_unicode_utf8_first)] }
def SaneKnownSaid : Prop := saneKnownRow.holds Tryd.pinned (OpenSpec.ofChange saneKnownSpec)

/-- ITS FALSE NEIGHBOUR: 'it returns false'. Refute it at one input. -/
def saneKnownWrong : ChangeSpec := { name := "saneKnown", fn := fun _ => fun
  | [] => { results := [.lit (.bool false)], args := [] }
  | _ => none }
def SaneKnownWrongFalsely : Prop := saneKnownRow.holds Tryd.pinned (OpenSpec.ofChange saneKnownWrong)

/-- 'ephemerislaw07.PacketForm': WHATEVER THE INPUT: true; the input reads as it did. -/
def packetFormSpec : ChangeSpec := { name := "packetForm", fn := fun _ => fun
  | [d1, d2] => { results := [.lit (.bool true)], args := [d1, d2] }
  | _ => none }
def packetFormRow : OpenClaim := { program := "ytdbdmnhnijpdcaadoor", sum := "40f3df303c6854f703e2dee5c4957c47b383d04c52fa789cecdf31067c658983", func := "ephemeris/ephemerislaw07.PacketForm", spec := "packetForm", unfollowed := true, recurses := true, named := ["ephemeris/head.sizes"], apart := false, laid := [("ephemeris/head.sizes", laid_ephemeris_head_sizes)] }
def PacketFormSaid : Prop := packetFormRow.holds Tryd.pinned (OpenSpec.ofChange packetFormSpec)

/-- ITS FALSE NEIGHBOUR: 'it returns false'. Refute it at one input. -/
def packetFormWrong : ChangeSpec := { name := "packetForm", fn := fun _ => fun
  | [d1, d2] => { results := [.lit (.bool false)], args := [d1, d2] }
  | _ => none }
def PacketFormWrongFalsely : Prop := packetFormRow.holds Tryd.pinned (OpenSpec.ofChange packetFormWrong)

/-- 'ephemerislaw07.PacketLong': WHATEVER THE INPUT: true; the input reads as it did. -/
def packetLongSpec : ChangeSpec := { name := "packetLong", fn := fun _ => fun
  | [d1, d2] => { results := [.lit (.bool true)], args := [d1, d2] }
  | _ => none }
def packetLongRow : OpenClaim := { program := "ytdbdmnhnijpdcaadoor", sum := "40f3df303c6854f703e2dee5c4957c47b383d04c52fa789cecdf31067c658983", func := "ephemeris/ephemerislaw07.PacketLong", spec := "packetLong", unfollowed := true, recurses := true, named := ["ephemeris/head.sizes"], apart := false, laid := [("ephemeris/head.sizes", laid_ephemeris_head_sizes)] }
def PacketLongSaid : Prop := packetLongRow.holds Tryd.pinned (OpenSpec.ofChange packetLongSpec)

/-- ITS FALSE NEIGHBOUR: 'it returns false'. Refute it at one input. -/
def packetLongWrong : ChangeSpec := { name := "packetLong", fn := fun _ => fun
  | [d1, d2] => { results := [.lit (.bool false)], args := [d1, d2] }
  | _ => none }
def PacketLongWrongFalsely : Prop := packetLongRow.holds Tryd.pinned (OpenSpec.ofChange packetLongWrong)

/-- 'ephemerislaw07.PacketKnown': WHATEVER THE INPUT: true; the input reads as it did. -/
def packetKnownSpec : ChangeSpec := { name := "packetKnown", fn := fun _ => fun
  | [] => { results := [.lit (.bool true)], args := [] }
  | _ => none }
def packetKnownRow : OpenClaim := { program := "ytdbdmnhnijpdcaadoor", sum := "40f3df303c6854f703e2dee5c4957c47b383d04c52fa789cecdf31067c658983", func := "ephemeris/ephemerislaw07.PacketKnown", spec := "packetKnown", unfollowed := true, recurses := true, named := ["ephemeris/head.sizes"], apart := false, laid := [("ephemeris/head.sizes", laid_ephemeris_head_sizes)] }
def PacketKnownSaid : Prop := packetKnownRow.holds Tryd.pinned (OpenSpec.ofChange packetKnownSpec)

/-- ITS FALSE NEIGHBOUR: 'it returns false'. Refute it at one input. -/
def packetKnownWrong : ChangeSpec := { name := "packetKnown", fn := fun _ => fun
  | [] => { results := [.lit (.bool false)], args := [] }
  | _ => none }
def PacketKnownWrongFalsely : Prop := packetKnownRow.holds Tryd.pinned (OpenSpec.ofChange packetKnownWrong)

/-- 'ephemerislaw07.PacketPuts': WHATEVER THE INPUT: true; the input reads as it did. -/
def packetPutsSpec : ChangeSpec := { name := "packetPuts", fn := fun _ => fun
  | [d1, d2, d3] => { results := [.lit (.bool true)], args := [d1, d2, d3] }
  | _ => none }
def packetPutsRow : OpenClaim := { program := "ytdbdmnhnijpdcaadoor", sum := "40f3df303c6854f703e2dee5c4957c47b383d04c52fa789cecdf31067c658983", func := "ephemeris/ephemerislaw07.PacketPuts", spec := "packetPuts", unfollowed := true, recurses := true, named := ["ephemeris/head.sizes"], apart := false, laid := [("ephemeris/head.sizes", laid_ephemeris_head_sizes)] }
def PacketPutsSaid : Prop := packetPutsRow.holds Tryd.pinned (OpenSpec.ofChange packetPutsSpec)

/-- ITS FALSE NEIGHBOUR: 'it returns false'. Refute it at one input. -/
def packetPutsWrong : ChangeSpec := { name := "packetPuts", fn := fun _ => fun
  | [d1, d2, d3] => { results := [.lit (.bool false)], args := [d1, d2, d3] }
  | _ => none }
def PacketPutsWrongFalsely : Prop := packetPutsRow.holds Tryd.pinned (OpenSpec.ofChange packetPutsWrong)

/-- 'ephemerislaw07.PacketSigns': WHATEVER THE INPUT: true; the input reads as it did. -/
def packetSignsSpec : ChangeSpec := { name := "packetSigns", fn := fun _ => fun
  | [d1, d2, d3] => { results := [.lit (.bool true)], args := [d1, d2, d3] }
  | _ => none }
def packetSignsRow : OpenClaim := { program := "ytdbdmnhnijpdcaadoor", sum := "40f3df303c6854f703e2dee5c4957c47b383d04c52fa789cecdf31067c658983", func := "ephemeris/ephemerislaw07.PacketSigns", spec := "packetSigns", unfollowed := true, recurses := true, named := ["ephemeris/head.sizes"], apart := false, laid := [("ephemeris/head.sizes", laid_ephemeris_head_sizes)] }
def PacketSignsSaid : Prop := packetSignsRow.holds Tryd.pinned (OpenSpec.ofChange packetSignsSpec)

/-- ITS FALSE NEIGHBOUR: 'it returns false'. Refute it at one input. -/
def packetSignsWrong : ChangeSpec := { name := "packetSigns", fn := fun _ => fun
  | [d1, d2, d3] => { results := [.lit (.bool false)], args := [d1, d2, d3] }
  | _ => none }
def PacketSignsWrongFalsely : Prop := packetSignsRow.holds Tryd.pinned (OpenSpec.ofChange packetSignsWrong)

/- THE SECOND FORM. 'bulk': how many values and letters a reading holds, each counted each time it is reached (what is shared counts as often as it is met; a slice's spare places count too). A statement '..UptoSaid' is the law's where the arguments, and the package variables that the reading takes, are together of bulk at most 1048576: NARROWER than '..Said'. Prove '..Said' where nothing that the law and all that it calls make is longer than what came in: it says more and counts as full. Else prove '..UptoSaid'. A law counts once. -/
mutual
def uptoBulk {H : Type} : DataW H → Nat
  | .lit (.string bytes) => bytes.length + 1
  | .lit _ => 1
  | .nil => 1
  | .ptr d => uptoBulk d + 1
  | .slice elems spare => uptoBulkAll elems + uptoBulkAll spare + 1
  | .agg parts => uptoBulkAll parts + 1
  | .iface _ d => uptoBulk d + 1
  | .map entries => uptoBulkEntries entries + 1
  | .held _ => 1
def uptoBulkAll {H : Type} : List (DataW H) → Nat
  | [] => 0
  | d :: r => uptoBulk d + uptoBulkAll r
def uptoBulkEntries {H : Type} : List (Lit × DataW H) → Nat
  | [] => 0
  | x :: r => uptoBulkEntry x + uptoBulkEntries r
def uptoBulkEntry {H : Type} : Lit × DataW H → Nat
  | (.string bytes, d) => bytes.length + uptoBulk d + 1
  | (_, d) => uptoBulk d + 1
 end
def uptoSmall : (H : Type) → List (DataW H) → Bool := fun _ ds => decide (uptoBulkAll ds ≤ 1048576)
def OpenSpec.upto (s : _root_.Go.ChangeSpec) : _root_.Go.OpenSpec := { _root_.Go.OpenSpec.ofChange s with cond := some uptoSmall }

/-- 'ephemerislaw07.PacketParses', WHERE WHAT IT READS IS OF BULK AT MOST 1048576: true; the input reads as it did. -/
def packetParsesUptoRow : OpenClaim := { program := "ytdbdmnhnijpdcaadoor", sum := "40f3df303c6854f703e2dee5c4957c47b383d04c52fa789cecdf31067c658983", func := "ephemeris/ephemerislaw07.PacketParses", spec := "packetParses", unfollowed := true, recurses := true, named := ["ephemeris/head.sizes"], apart := false, laid := [("ephemeris/head.sizes", laid_ephemeris_head_sizes)], narrowed := true }
def PacketParsesUptoSaid : Prop := packetParsesUptoRow.holds Tryd.pinned (OpenSpec.upto packetParsesSpec)

/-- 'ephemerislaw08.SaneTests', WHERE WHAT IT READS IS OF BULK AT MOST 1048576: true; the input reads as it did. -/
def saneTestsUptoRow : OpenClaim := { program := "ytdbdmnhnijpdcaadoor", sum := "40f3df303c6854f703e2dee5c4957c47b383d04c52fa789cecdf31067c658983", func := "ephemeris/ephemerislaw08.SaneTests", spec := "saneTests", inPlace := ["internal/bytealg.IndexByteString", "internal/bytealg.IndexString"], unfollowed := true, recurses := true, named := ["unicode/utf8.first", "unicode/utf8.acceptRanges", "ephemeris/sane.tests", "internal/bytealg.MaxLen"], apart := false, laid := [("unicode/utf8.acceptRanges", laid_unicode_utf8_acceptRanges), ("ephemeris/sane.tests", laid_ephemeris_sane_tests), ("unicode/utf8.first", laid_unicode_utf8_first)], narrowed := true }
def SaneTestsUptoSaid : Prop := saneTestsUptoRow.holds Tryd.pinned (OpenSpec.upto saneTestsSpec)

/-- 'ephemerislaw08.SaneActs', WHERE WHAT IT READS IS OF BULK AT MOST 1048576: true; the input reads as it did. -/
def saneActsUptoRow : OpenClaim := { program := "ytdbdmnhnijpdcaadoor", sum := "40f3df303c6854f703e2dee5c4957c47b383d04c52fa789cecdf31067c658983", func := "ephemeris/ephemerislaw08.SaneActs", spec := "saneActs", inPlace := ["internal/bytealg.IndexByteString", "internal/bytealg.IndexString"], unfollowed := true, recurses := true, named := ["unicode/utf8.first", "unicode/utf8.acceptRanges", "ephemeris/sane.tests", "internal/bytealg.MaxLen"], apart := false, laid := [("unicode/utf8.acceptRanges", laid_unicode_utf8_acceptRanges), ("ephemeris/sane.tests", laid_ephemeris_sane_tests), ("unicode/utf8.first", laid_unicode_utf8_first)], narrowed := true }
def SaneActsUptoSaid : Prop := saneActsUptoRow.holds Tryd.pinned (OpenSpec.upto saneActsSpec)

/-- 'ephemerislaw08.SaneUses', WHERE WHAT IT READS IS OF BULK AT MOST 1048576: true; the input reads as it did. -/
def saneUsesUptoRow : OpenClaim := { program := "ytdbdmnhnijpdcaadoor", sum := "40f3df303c6854f703e2dee5c4957c47b383d04c52fa789cecdf31067c658983", func := "ephemeris/ephemerislaw08.SaneUses", spec := "saneUses", inPlace := ["internal/bytealg.IndexByteString", "internal/bytealg.IndexString"], unfollowed := true, recurses := true, named := ["ephemeris/sane.tests", "unicode/utf8.first", "unicode/utf8.acceptRanges", "internal/bytealg.MaxLen"], apart := false, laid := [("unicode/utf8.acceptRanges", laid_unicode_utf8_acceptRanges), ("ephemeris/sane.tests", laid_ephemeris_sane_tests), ("unicode/utf8.first", laid_unicode_utf8_first)], narrowed := true }
def SaneUsesUptoSaid : Prop := saneUsesUptoRow.holds Tryd.pinned (OpenSpec.upto saneUsesSpec)

/-- 'ephemerislaw08.SaneFar', WHERE WHAT IT READS IS OF BULK AT MOST 1048576: true; the input reads as it did. -/
def saneFarUptoRow : OpenClaim := { program := "ytdbdmnhnijpdcaadoor", sum := "40f3df303c6854f703e2dee5c4957c47b383d04c52fa789cecdf31067c658983", func := "ephemeris/ephemerislaw08.SaneFar", spec := "saneFar", inPlace := ["internal/bytealg.IndexByteString", "internal/bytealg.IndexString"], unfollowed := true, recurses := true, named := ["ephemeris/sane.tests", "unicode/utf8.first", "unicode/utf8.acceptRanges", "internal/bytealg.MaxLen"], apart := false, laid := [("unicode/utf8.acceptRanges", laid_unicode_utf8_acceptRanges), ("ephemeris/sane.tests", laid_ephemeris_sane_tests), ("unicode/utf8.first", laid_unicode_utf8_first)], narrowed := true }
def SaneFarUptoSaid : Prop := saneFarUptoRow.holds Tryd.pinned (OpenSpec.upto saneFarSpec)

/-- 'ephemerislaw08.SaneKnown', WHERE WHAT IT READS IS OF BULK AT MOST 1048576: true; the input reads as it did. -/
def saneKnownUptoRow : OpenClaim := { program := "ytdbdmnhnijpdcaadoor", sum := "40f3df303c6854f703e2dee5c4957c47b383d04c52fa789cecdf31067c658983", func := "ephemeris/ephemerislaw08.SaneKnown", spec := "saneKnown", inPlace := ["internal/bytealg.IndexByteString", "internal/bytealg.IndexString"], unfollowed := true, recurses := true, named := ["unicode/utf8.first", "unicode/utf8.acceptRanges", "ephemeris/sane.tests", "internal/bytealg.MaxLen"], apart := false, laid := [("unicode/utf8.acceptRanges", laid_unicode_utf8_acceptRanges), ("ephemeris/sane.tests", laid_ephemeris_sane_tests), ("unicode/utf8.first", laid_unicode_utf8_first)], narrowed := true }
def SaneKnownUptoSaid : Prop := saneKnownUptoRow.holds Tryd.pinned (OpenSpec.upto saneKnownSpec)

/-- 'ephemerislaw07.PacketForm', WHERE WHAT IT READS IS OF BULK AT MOST 1048576: true; the input reads as it did. -/
def packetFormUptoRow : OpenClaim := { program := "ytdbdmnhnijpdcaadoor", sum := "40f3df303c6854f703e2dee5c4957c47b383d04c52fa789cecdf31067c658983", func := "ephemeris/ephemerislaw07.PacketForm", spec := "packetForm", unfollowed := true, recurses := true, named := ["ephemeris/head.sizes"], apart := false, laid := [("ephemeris/head.sizes", laid_ephemeris_head_sizes)], narrowed := true }
def PacketFormUptoSaid : Prop := packetFormUptoRow.holds Tryd.pinned (OpenSpec.upto packetFormSpec)

/-- 'ephemerislaw07.PacketLong', WHERE WHAT IT READS IS OF BULK AT MOST 1048576: true; the input reads as it did. -/
def packetLongUptoRow : OpenClaim := { program := "ytdbdmnhnijpdcaadoor", sum := "40f3df303c6854f703e2dee5c4957c47b383d04c52fa789cecdf31067c658983", func := "ephemeris/ephemerislaw07.PacketLong", spec := "packetLong", unfollowed := true, recurses := true, named := ["ephemeris/head.sizes"], apart := false, laid := [("ephemeris/head.sizes", laid_ephemeris_head_sizes)], narrowed := true }
def PacketLongUptoSaid : Prop := packetLongUptoRow.holds Tryd.pinned (OpenSpec.upto packetLongSpec)

/-- 'ephemerislaw07.PacketKnown', WHERE WHAT IT READS IS OF BULK AT MOST 1048576: true; the input reads as it did. -/
def packetKnownUptoRow : OpenClaim := { program := "ytdbdmnhnijpdcaadoor", sum := "40f3df303c6854f703e2dee5c4957c47b383d04c52fa789cecdf31067c658983", func := "ephemeris/ephemerislaw07.PacketKnown", spec := "packetKnown", unfollowed := true, recurses := true, named := ["ephemeris/head.sizes"], apart := false, laid := [("ephemeris/head.sizes", laid_ephemeris_head_sizes)], narrowed := true }
def PacketKnownUptoSaid : Prop := packetKnownUptoRow.holds Tryd.pinned (OpenSpec.upto packetKnownSpec)

/-- 'ephemerislaw07.PacketPuts', WHERE WHAT IT READS IS OF BULK AT MOST 1048576: true; the input reads as it did. -/
def packetPutsUptoRow : OpenClaim := { program := "ytdbdmnhnijpdcaadoor", sum := "40f3df303c6854f703e2dee5c4957c47b383d04c52fa789cecdf31067c658983", func := "ephemeris/ephemerislaw07.PacketPuts", spec := "packetPuts", unfollowed := true, recurses := true, named := ["ephemeris/head.sizes"], apart := false, laid := [("ephemeris/head.sizes", laid_ephemeris_head_sizes)], narrowed := true }
def PacketPutsUptoSaid : Prop := packetPutsUptoRow.holds Tryd.pinned (OpenSpec.upto packetPutsSpec)

/-- 'ephemerislaw07.PacketSigns', WHERE WHAT IT READS IS OF BULK AT MOST 1048576: true; the input reads as it did. -/
def packetSignsUptoRow : OpenClaim := { program := "ytdbdmnhnijpdcaadoor", sum := "40f3df303c6854f703e2dee5c4957c47b383d04c52fa789cecdf31067c658983", func := "ephemeris/ephemerislaw07.PacketSigns", spec := "packetSigns", unfollowed := true, recurses := true, named := ["ephemeris/head.sizes"], apart := false, laid := [("ephemeris/head.sizes", laid_ephemeris_head_sizes)], narrowed := true }
def PacketSignsUptoSaid : Prop := packetSignsUptoRow.holds Tryd.pinned (OpenSpec.upto packetSignsSpec)

end Rows
end Go.Proofs.YtdbdmnhnijpdcaaDoor
