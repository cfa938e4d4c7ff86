/-
  DERIVED. GIVEN WITH THE SEED: THE CARDS: each row of YtdbdmnhnijpdcaaDoorRows.lean that lists a variable, with what it lists TIED to the program's text (the seventh form; the later family's looks); each row that meets fmt, with fmt's text TOLD by the authors' own Lean function (tested against real Go, not proved from fmt's source: count such statements apart). THE CARD IS WHAT COUNTS. Prove the row's statement (the work); the ties are given (YtdbdmnhnijpdcaaDoorTie.lean); close each card by the builder's one call (the guide's Derived/Test/ToyasCard.lean, 'card_holds'). Laid BY PROGRAM, IN A SANDBOX (cutbox-door.mjs). By AI agents, Wed Nov 11 2026. No macro, syntax, notation, axiom, sorry.
-/
import Derived.Test.YtdbdmnhnijpdcaaDoorRows
import GoSem.ClaimSeven
namespace Go.Proofs.YtdbdmnhnijpdcaaDoor
namespace Rows

/-- THE TIED CARD OF 'ephemerislaw07.PacketParses'. -/
def packetParsesCard : Claim7 := { stood := { row := packetParsesRow, standIns := [], harness := (true, "f1f887f019c7d9495c092a96f730513d62cec1127c450b8e60ece5fc6c103903"), looks := false }, kinds := [], alts := [], laidByText := true, laidKinds := [.widerDeep], laidTests := true, laidLooks := .later }
def PacketParsesCardSaid : Prop := Claim7.holds Tryd.pinned (.plain (OpenSpec.ofChange packetParsesSpec)) packetParsesCard

/-- THE TIED CARD OF 'ephemerislaw08.SaneTests'. -/
def saneTestsCard : Claim7 := { stood := { row := saneTestsRow, standIns := [], harness := (true, "f1f887f019c7d9495c092a96f730513d62cec1127c450b8e60ece5fc6c103903"), looks := false }, kinds := [], alts := [], laidByText := true, laidKinds := [.data, .funcs, .pinned], laidTests := true, laidLooks := .later }
def SaneTestsCardSaid : Prop := Claim7.holds Tryd.pinned (.plain (OpenSpec.ofChange saneTestsSpec)) saneTestsCard

/-- THE TIED CARD OF 'ephemerislaw08.SaneActs'. -/
def saneActsCard : Claim7 := { stood := { row := saneActsRow, standIns := [], harness := (true, "f1f887f019c7d9495c092a96f730513d62cec1127c450b8e60ece5fc6c103903"), looks := false }, kinds := [], alts := [], laidByText := true, laidKinds := [.data, .funcs, .pinned], laidTests := true, laidLooks := .later }
def SaneActsCardSaid : Prop := Claim7.holds Tryd.pinned (.plain (OpenSpec.ofChange saneActsSpec)) saneActsCard

/-- THE TIED CARD OF 'ephemerislaw08.SaneUses'. -/
def saneUsesCard : Claim7 := { stood := { row := saneUsesRow, standIns := [], harness := (true, "f1f887f019c7d9495c092a96f730513d62cec1127c450b8e60ece5fc6c103903"), looks := false }, kinds := [], alts := [], laidByText := true, laidKinds := [.data, .funcs, .pinned], laidTests := true, laidLooks := .later }
def SaneUsesCardSaid : Prop := Claim7.holds Tryd.pinned (.plain (OpenSpec.ofChange saneUsesSpec)) saneUsesCard

/-- THE TIED CARD OF 'ephemerislaw08.SaneFar'. -/
def saneFarCard : Claim7 := { stood := { row := saneFarRow, standIns := [], harness := (true, "f1f887f019c7d9495c092a96f730513d62cec1127c450b8e60ece5fc6c103903"), looks := false }, kinds := [], alts := [], laidByText := true, laidKinds := [.data, .funcs, .pinned], laidTests := true, laidLooks := .later }
def SaneFarCardSaid : Prop := Claim7.holds Tryd.pinned (.plain (OpenSpec.ofChange saneFarSpec)) saneFarCard

/-- THE TIED CARD OF 'ephemerislaw08.SaneKnown'. -/
def saneKnownCard : Claim7 := { stood := { row := saneKnownRow, standIns := [], harness := (true, "f1f887f019c7d9495c092a96f730513d62cec1127c450b8e60ece5fc6c103903"), looks := false }, kinds := [], alts := [], laidByText := true, laidKinds := [.data, .funcs, .pinned], laidTests := true, laidLooks := .later }
def SaneKnownCardSaid : Prop := Claim7.holds Tryd.pinned (.plain (OpenSpec.ofChange saneKnownSpec)) saneKnownCard

/-- THE TIED CARD OF 'ephemerislaw07.PacketForm'. -/
def packetFormCard : Claim7 := { stood := { row := packetFormRow, standIns := [], harness := (true, "f1f887f019c7d9495c092a96f730513d62cec1127c450b8e60ece5fc6c103903"), looks := false }, kinds := [], alts := [], laidByText := true, laidKinds := [.widerDeep], laidTests := true, laidLooks := .later }
def PacketFormCardSaid : Prop := Claim7.holds Tryd.pinned (.plain (OpenSpec.ofChange packetFormSpec)) packetFormCard

/-- THE TIED CARD OF 'ephemerislaw07.PacketLong'. -/
def packetLongCard : Claim7 := { stood := { row := packetLongRow, standIns := [], harness := (true, "f1f887f019c7d9495c092a96f730513d62cec1127c450b8e60ece5fc6c103903"), looks := false }, kinds := [], alts := [], laidByText := true, laidKinds := [.widerDeep], laidTests := true, laidLooks := .later }
def PacketLongCardSaid : Prop := Claim7.holds Tryd.pinned (.plain (OpenSpec.ofChange packetLongSpec)) packetLongCard

/-- THE TIED CARD OF 'ephemerislaw07.PacketKnown'. -/
def packetKnownCard : Claim7 := { stood := { row := packetKnownRow, standIns := [], harness := (true, "f1f887f019c7d9495c092a96f730513d62cec1127c450b8e60ece5fc6c103903"), looks := false }, kinds := [], alts := [], laidByText := true, laidKinds := [.widerDeep], laidTests := true, laidLooks := .later }
def PacketKnownCardSaid : Prop := Claim7.holds Tryd.pinned (.plain (OpenSpec.ofChange packetKnownSpec)) packetKnownCard

/-- THE TIED CARD OF 'ephemerislaw07.PacketPuts'. -/
def packetPutsCard : Claim7 := { stood := { row := packetPutsRow, standIns := [], harness := (true, "f1f887f019c7d9495c092a96f730513d62cec1127c450b8e60ece5fc6c103903"), looks := false }, kinds := [], alts := [], laidByText := true, laidKinds := [.widerDeep], laidTests := true, laidLooks := .later }
def PacketPutsCardSaid : Prop := Claim7.holds Tryd.pinned (.plain (OpenSpec.ofChange packetPutsSpec)) packetPutsCard

/-- THE TIED CARD OF 'ephemerislaw07.PacketSigns'. -/
def packetSignsCard : Claim7 := { stood := { row := packetSignsRow, standIns := [], harness := (true, "f1f887f019c7d9495c092a96f730513d62cec1127c450b8e60ece5fc6c103903"), looks := false }, kinds := [], alts := [], laidByText := true, laidKinds := [.widerDeep], laidTests := true, laidLooks := .later }
def PacketSignsCardSaid : Prop := Claim7.holds Tryd.pinned (.plain (OpenSpec.ofChange packetSignsSpec)) packetSignsCard

/-- THE SECOND FORM's CARD OF 'ephemerislaw07.PacketParses'. -/
def packetParsesUptoCard : Claim7 := { stood := { row := packetParsesUptoRow, standIns := [], harness := (true, "f1f887f019c7d9495c092a96f730513d62cec1127c450b8e60ece5fc6c103903"), looks := false }, kinds := [], alts := [], laidByText := true, laidKinds := [.widerDeep], laidTests := true, laidLooks := .later }
def PacketParsesUptoCardSaid : Prop := Claim7.holds Tryd.pinned (.plain (OpenSpec.upto packetParsesSpec)) packetParsesUptoCard

/-- THE SECOND FORM's CARD OF 'ephemerislaw08.SaneTests'. -/
def saneTestsUptoCard : Claim7 := { stood := { row := saneTestsUptoRow, standIns := [], harness := (true, "f1f887f019c7d9495c092a96f730513d62cec1127c450b8e60ece5fc6c103903"), looks := false }, kinds := [], alts := [], laidByText := true, laidKinds := [.data, .funcs, .pinned], laidTests := true, laidLooks := .later }
def SaneTestsUptoCardSaid : Prop := Claim7.holds Tryd.pinned (.plain (OpenSpec.upto saneTestsSpec)) saneTestsUptoCard

/-- THE SECOND FORM's CARD OF 'ephemerislaw08.SaneActs'. -/
def saneActsUptoCard : Claim7 := { stood := { row := saneActsUptoRow, standIns := [], harness := (true, "f1f887f019c7d9495c092a96f730513d62cec1127c450b8e60ece5fc6c103903"), looks := false }, kinds := [], alts := [], laidByText := true, laidKinds := [.data, .funcs, .pinned], laidTests := true, laidLooks := .later }
def SaneActsUptoCardSaid : Prop := Claim7.holds Tryd.pinned (.plain (OpenSpec.upto saneActsSpec)) saneActsUptoCard

/-- THE SECOND FORM's CARD OF 'ephemerislaw08.SaneUses'. -/
def saneUsesUptoCard : Claim7 := { stood := { row := saneUsesUptoRow, standIns := [], harness := (true, "f1f887f019c7d9495c092a96f730513d62cec1127c450b8e60ece5fc6c103903"), looks := false }, kinds := [], alts := [], laidByText := true, laidKinds := [.data, .funcs, .pinned], laidTests := true, laidLooks := .later }
def SaneUsesUptoCardSaid : Prop := Claim7.holds Tryd.pinned (.plain (OpenSpec.upto saneUsesSpec)) saneUsesUptoCard

/-- THE SECOND FORM's CARD OF 'ephemerislaw08.SaneFar'. -/
def saneFarUptoCard : Claim7 := { stood := { row := saneFarUptoRow, standIns := [], harness := (true, "f1f887f019c7d9495c092a96f730513d62cec1127c450b8e60ece5fc6c103903"), looks := false }, kinds := [], alts := [], laidByText := true, laidKinds := [.data, .funcs, .pinned], laidTests := true, laidLooks := .later }
def SaneFarUptoCardSaid : Prop := Claim7.holds Tryd.pinned (.plain (OpenSpec.upto saneFarSpec)) saneFarUptoCard

/-- THE SECOND FORM's CARD OF 'ephemerislaw08.SaneKnown'. -/
def saneKnownUptoCard : Claim7 := { stood := { row := saneKnownUptoRow, standIns := [], harness := (true, "f1f887f019c7d9495c092a96f730513d62cec1127c450b8e60ece5fc6c103903"), looks := false }, kinds := [], alts := [], laidByText := true, laidKinds := [.data, .funcs, .pinned], laidTests := true, laidLooks := .later }
def SaneKnownUptoCardSaid : Prop := Claim7.holds Tryd.pinned (.plain (OpenSpec.upto saneKnownSpec)) saneKnownUptoCard

/-- THE SECOND FORM's CARD OF 'ephemerislaw07.PacketForm'. -/
def packetFormUptoCard : Claim7 := { stood := { row := packetFormUptoRow, standIns := [], harness := (true, "f1f887f019c7d9495c092a96f730513d62cec1127c450b8e60ece5fc6c103903"), looks := false }, kinds := [], alts := [], laidByText := true, laidKinds := [.widerDeep], laidTests := true, laidLooks := .later }
def PacketFormUptoCardSaid : Prop := Claim7.holds Tryd.pinned (.plain (OpenSpec.upto packetFormSpec)) packetFormUptoCard

/-- THE SECOND FORM's CARD OF 'ephemerislaw07.PacketLong'. -/
def packetLongUptoCard : Claim7 := { stood := { row := packetLongUptoRow, standIns := [], harness := (true, "f1f887f019c7d9495c092a96f730513d62cec1127c450b8e60ece5fc6c103903"), looks := false }, kinds := [], alts := [], laidByText := true, laidKinds := [.widerDeep], laidTests := true, laidLooks := .later }
def PacketLongUptoCardSaid : Prop := Claim7.holds Tryd.pinned (.plain (OpenSpec.upto packetLongSpec)) packetLongUptoCard

/-- THE SECOND FORM's CARD OF 'ephemerislaw07.PacketKnown'. -/
def packetKnownUptoCard : Claim7 := { stood := { row := packetKnownUptoRow, standIns := [], harness := (true, "f1f887f019c7d9495c092a96f730513d62cec1127c450b8e60ece5fc6c103903"), looks := false }, kinds := [], alts := [], laidByText := true, laidKinds := [.widerDeep], laidTests := true, laidLooks := .later }
def PacketKnownUptoCardSaid : Prop := Claim7.holds Tryd.pinned (.plain (OpenSpec.upto packetKnownSpec)) packetKnownUptoCard

/-- THE SECOND FORM's CARD OF 'ephemerislaw07.PacketPuts'. -/
def packetPutsUptoCard : Claim7 := { stood := { row := packetPutsUptoRow, standIns := [], harness := (true, "f1f887f019c7d9495c092a96f730513d62cec1127c450b8e60ece5fc6c103903"), looks := false }, kinds := [], alts := [], laidByText := true, laidKinds := [.widerDeep], laidTests := true, laidLooks := .later }
def PacketPutsUptoCardSaid : Prop := Claim7.holds Tryd.pinned (.plain (OpenSpec.upto packetPutsSpec)) packetPutsUptoCard

/-- THE SECOND FORM's CARD OF 'ephemerislaw07.PacketSigns'. -/
def packetSignsUptoCard : Claim7 := { stood := { row := packetSignsUptoRow, standIns := [], harness := (true, "f1f887f019c7d9495c092a96f730513d62cec1127c450b8e60ece5fc6c103903"), looks := false }, kinds := [], alts := [], laidByText := true, laidKinds := [.widerDeep], laidTests := true, laidLooks := .later }
def PacketSignsUptoCardSaid : Prop := Claim7.holds Tryd.pinned (.plain (OpenSpec.upto packetSignsSpec)) packetSignsUptoCard
end Rows
end Go.Proofs.YtdbdmnhnijpdcaaDoor
