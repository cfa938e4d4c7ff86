/-
  DERIVED. GIVEN WITH THE SEED: THE CARDS: each row of YtpmibaeajmfdpaaDoorRows.lean that lists a variable, with what it lists TIED to the program's text (the seventh form; the later family's looks); each row that meets fmt, with fmt's text TOLD by the authors' own Lean function (tested against real Go, not proved from fmt's source: count such statements apart). THE CARD IS WHAT COUNTS. Prove the row's statement (the work); the ties are given (YtpmibaeajmfdpaaDoorTie.lean); close each card by the builder's one call (the guide's Derived/Test/ToyasCard.lean, 'card_holds'). Laid BY PROGRAM, IN A SANDBOX (cutbox-door.mjs). By AI agents, Wed Nov 11 2026. No macro, syntax, notation, axiom, sorry.
-/
import Derived.Test.YtpmibaeajmfdpaaDoorRows
import GoSem.ClaimSeven
namespace Go.Proofs.YtpmibaeajmfdpaaDoor
namespace Rows

/-- THE TIED CARD OF 'ephemerislaw04.HeadPuts'. -/
def headPutsCard : Claim7 := { stood := { row := headPutsRow, standIns := [], harness := (true, "08aa453f7a3d62343a62674d210dd8de11412c463d3fa674c93a429a2d22cc17"), looks := false }, kinds := [], alts := [], laidByText := true, laidKinds := [.widerDeep], laidTests := true, laidLooks := .later }
def HeadPutsCardSaid : Prop := Claim7.holds Tryd.pinned (.plain (OpenSpec.ofChange headPutsSpec)) headPutsCard

/-- THE TIED CARD OF 'ephemerislaw04.HeadParses'. -/
def headParsesCard : Claim7 := { stood := { row := headParsesRow, standIns := [], harness := (true, "08aa453f7a3d62343a62674d210dd8de11412c463d3fa674c93a429a2d22cc17"), looks := false }, kinds := [], alts := [], laidByText := true, laidKinds := [.widerDeep], laidTests := true, laidLooks := .later }
def HeadParsesCardSaid : Prop := Claim7.holds Tryd.pinned (.plain (OpenSpec.ofChange headParsesSpec)) headParsesCard

/-- THE TIED CARD OF 'ephemerislaw04.HeadForm'. -/
def headFormCard : Claim7 := { stood := { row := headFormRow, standIns := [], harness := (true, "08aa453f7a3d62343a62674d210dd8de11412c463d3fa674c93a429a2d22cc17"), looks := false }, kinds := [], alts := [], laidByText := true, laidKinds := [.widerDeep], laidTests := true, laidLooks := .later }
def HeadFormCardSaid : Prop := Claim7.holds Tryd.pinned (.plain (OpenSpec.ofChange headFormSpec)) headFormCard

/-- THE TIED CARD OF 'ephemerislaw04.HeadBits'. -/
def headBitsCard : Claim7 := { stood := { row := headBitsRow, standIns := [], harness := (true, "08aa453f7a3d62343a62674d210dd8de11412c463d3fa674c93a429a2d22cc17"), looks := false }, kinds := [], alts := [], laidByText := true, laidKinds := [.widerDeep], laidTests := true, laidLooks := .later }
def HeadBitsCardSaid : Prop := Claim7.holds Tryd.pinned (.plain (OpenSpec.ofChange headBitsSpec)) headBitsCard

/-- THE TIED CARD OF 'ephemerislaw04.HeadKnown'. -/
def headKnownCard : Claim7 := { stood := { row := headKnownRow, standIns := [], harness := (true, "08aa453f7a3d62343a62674d210dd8de11412c463d3fa674c93a429a2d22cc17"), looks := false }, kinds := [], alts := [], laidByText := true, laidKinds := [.widerDeep], laidTests := true, laidLooks := .later }
def HeadKnownCardSaid : Prop := Claim7.holds Tryd.pinned (.plain (OpenSpec.ofChange headKnownSpec)) headKnownCard

/-- THE SECOND FORM's CARD OF 'ephemerislaw04.HeadPuts'. -/
def headPutsUptoCard : Claim7 := { stood := { row := headPutsUptoRow, standIns := [], harness := (true, "08aa453f7a3d62343a62674d210dd8de11412c463d3fa674c93a429a2d22cc17"), looks := false }, kinds := [], alts := [], laidByText := true, laidKinds := [.widerDeep], laidTests := true, laidLooks := .later }
def HeadPutsUptoCardSaid : Prop := Claim7.holds Tryd.pinned (.plain (OpenSpec.upto headPutsSpec)) headPutsUptoCard

/-- THE SECOND FORM's CARD OF 'ephemerislaw04.HeadParses'. -/
def headParsesUptoCard : Claim7 := { stood := { row := headParsesUptoRow, standIns := [], harness := (true, "08aa453f7a3d62343a62674d210dd8de11412c463d3fa674c93a429a2d22cc17"), looks := false }, kinds := [], alts := [], laidByText := true, laidKinds := [.widerDeep], laidTests := true, laidLooks := .later }
def HeadParsesUptoCardSaid : Prop := Claim7.holds Tryd.pinned (.plain (OpenSpec.upto headParsesSpec)) headParsesUptoCard

/-- THE SECOND FORM's CARD OF 'ephemerislaw04.HeadForm'. -/
def headFormUptoCard : Claim7 := { stood := { row := headFormUptoRow, standIns := [], harness := (true, "08aa453f7a3d62343a62674d210dd8de11412c463d3fa674c93a429a2d22cc17"), looks := false }, kinds := [], alts := [], laidByText := true, laidKinds := [.widerDeep], laidTests := true, laidLooks := .later }
def HeadFormUptoCardSaid : Prop := Claim7.holds Tryd.pinned (.plain (OpenSpec.upto headFormSpec)) headFormUptoCard

/-- THE SECOND FORM's CARD OF 'ephemerislaw04.HeadBits'. -/
def headBitsUptoCard : Claim7 := { stood := { row := headBitsUptoRow, standIns := [], harness := (true, "08aa453f7a3d62343a62674d210dd8de11412c463d3fa674c93a429a2d22cc17"), looks := false }, kinds := [], alts := [], laidByText := true, laidKinds := [.widerDeep], laidTests := true, laidLooks := .later }
def HeadBitsUptoCardSaid : Prop := Claim7.holds Tryd.pinned (.plain (OpenSpec.upto headBitsSpec)) headBitsUptoCard

/-- THE SECOND FORM's CARD OF 'ephemerislaw04.HeadKnown'. -/
def headKnownUptoCard : Claim7 := { stood := { row := headKnownUptoRow, standIns := [], harness := (true, "08aa453f7a3d62343a62674d210dd8de11412c463d3fa674c93a429a2d22cc17"), looks := false }, kinds := [], alts := [], laidByText := true, laidKinds := [.widerDeep], laidTests := true, laidLooks := .later }
def HeadKnownUptoCardSaid : Prop := Claim7.holds Tryd.pinned (.plain (OpenSpec.upto headKnownSpec)) headKnownUptoCard
end Rows
end Go.Proofs.YtpmibaeajmfdpaaDoor
