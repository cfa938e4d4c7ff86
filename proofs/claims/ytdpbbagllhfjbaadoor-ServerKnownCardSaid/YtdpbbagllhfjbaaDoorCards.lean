/-
  DERIVED. GIVEN WITH THE SEED: THE CARDS: each row of YtdpbbagllhfjbaaDoorRows.lean that lists a variable, with what it lists TIED to the program's text (the seventh form; the later family's looks); each row that meets fmt, with fmt's text TOLD by the authors' own Lean function (tested against real Go, not proved from fmt's source: count such statements apart). THE CARD IS WHAT COUNTS. Prove the row's statement (the work); the ties are given (YtdpbbagllhfjbaaDoorTie.lean); close each card by the builder's one call (the guide's Derived/Test/ToyasCard.lean, 'card_holds'). Laid BY PROGRAM, IN A SANDBOX (cutbox-door.mjs). By AI agents, Wed Nov 11 2026. No macro, syntax, notation, axiom, sorry.
-/
import Derived.Test.YtdpbbagllhfjbaaDoorRows
import GoSem.ClaimSeven
namespace Go.Proofs.YtdpbbagllhfjbaaDoor
namespace Rows

/-- THE TIED CARD OF 'ephemerislaw28.ServerTells'. -/
def serverTellsCard : Claim7 := { stood := { row := serverTellsRow, standIns := [], harness := (true, "0d73f5416a7720e2e0fb76b365682ca6af4135e416c68a6a9813d6d8803f73ab"), looks := false }, kinds := [], alts := [], laidByText := true, laidKinds := [.widerDeep], laidTests := true, laidLooks := .later }
def ServerTellsCardSaid : Prop := Claim7.holds Tryd.pinned (.plain (OpenSpec.ofChange serverTellsSpec)) serverTellsCard

/-- THE TIED CARD OF 'ephemerislaw28.ServerKnown'. -/
def serverKnownCard : Claim7 := { stood := { row := serverKnownRow, standIns := [], harness := (true, "0d73f5416a7720e2e0fb76b365682ca6af4135e416c68a6a9813d6d8803f73ab"), looks := false }, kinds := [], alts := [], laidByText := true, laidKinds := [.widerDeep, .funcs], laidTests := true, laidLooks := .later }
def ServerKnownCardSaid : Prop := Claim7.holds Tryd.pinned (.plain (OpenSpec.ofChange serverKnownSpec)) serverKnownCard

/-- THE TIED CARD OF 'ephemerislaw28.ServerHonest'. -/
def serverHonestCard : Claim7 := { stood := { row := serverHonestRow, standIns := [], harness := (true, "0d73f5416a7720e2e0fb76b365682ca6af4135e416c68a6a9813d6d8803f73ab"), looks := false }, kinds := [], alts := [], laidByText := true, laidKinds := [.widerDeep, .funcs], laidTests := true, laidLooks := .later }
def ServerHonestCardSaid : Prop := Claim7.holds Tryd.pinned (.plain (OpenSpec.ofChange serverHonestSpec)) serverHonestCard

/-- THE TIED CARD OF 'ephemerislaw28.ServerKisses'. -/
def serverKissesCard : Claim7 := { stood := { row := serverKissesRow, standIns := [], harness := (true, "0d73f5416a7720e2e0fb76b365682ca6af4135e416c68a6a9813d6d8803f73ab"), looks := false }, kinds := [], alts := [], laidByText := true, laidKinds := [.data, .widerDeep, .funcs, .pinned], laidTests := true, laidLooks := .later }
def ServerKissesCardSaid : Prop := Claim7.holds Tryd.pinned (.plain (OpenSpec.ofChange serverKissesSpec)) serverKissesCard

/-- THE SECOND FORM's CARD OF 'ephemerislaw28.ServerTells'. -/
def serverTellsUptoCard : Claim7 := { stood := { row := serverTellsUptoRow, standIns := [], harness := (true, "0d73f5416a7720e2e0fb76b365682ca6af4135e416c68a6a9813d6d8803f73ab"), looks := false }, kinds := [], alts := [], laidByText := true, laidKinds := [.widerDeep], laidTests := true, laidLooks := .later }
def ServerTellsUptoCardSaid : Prop := Claim7.holds Tryd.pinned (.plain (OpenSpec.upto serverTellsSpec)) serverTellsUptoCard

/-- THE SECOND FORM's CARD OF 'ephemerislaw28.ServerKnown'. -/
def serverKnownUptoCard : Claim7 := { stood := { row := serverKnownUptoRow, standIns := [], harness := (true, "0d73f5416a7720e2e0fb76b365682ca6af4135e416c68a6a9813d6d8803f73ab"), looks := false }, kinds := [], alts := [], laidByText := true, laidKinds := [.widerDeep, .funcs], laidTests := true, laidLooks := .later }
def ServerKnownUptoCardSaid : Prop := Claim7.holds Tryd.pinned (.plain (OpenSpec.upto serverKnownSpec)) serverKnownUptoCard

/-- THE SECOND FORM's CARD OF 'ephemerislaw28.ServerHonest'. -/
def serverHonestUptoCard : Claim7 := { stood := { row := serverHonestUptoRow, standIns := [], harness := (true, "0d73f5416a7720e2e0fb76b365682ca6af4135e416c68a6a9813d6d8803f73ab"), looks := false }, kinds := [], alts := [], laidByText := true, laidKinds := [.widerDeep, .funcs], laidTests := true, laidLooks := .later }
def ServerHonestUptoCardSaid : Prop := Claim7.holds Tryd.pinned (.plain (OpenSpec.upto serverHonestSpec)) serverHonestUptoCard

/-- THE SECOND FORM's CARD OF 'ephemerislaw28.ServerKisses'. -/
def serverKissesUptoCard : Claim7 := { stood := { row := serverKissesUptoRow, standIns := [], harness := (true, "0d73f5416a7720e2e0fb76b365682ca6af4135e416c68a6a9813d6d8803f73ab"), looks := false }, kinds := [], alts := [], laidByText := true, laidKinds := [.data, .widerDeep, .funcs, .pinned], laidTests := true, laidLooks := .later }
def ServerKissesUptoCardSaid : Prop := Claim7.holds Tryd.pinned (.plain (OpenSpec.upto serverKissesSpec)) serverKissesUptoCard
end Rows
end Go.Proofs.YtdpbbagllhfjbaaDoor
