/-
  DERIVED. GIVEN WITH THE SEED: THE CARDS: each row of YtbeolahmnoeicaaGreatDoorRows.lean that lists a variable, with what it lists TIED to the program's text (the seventh form; the later family's looks); each row that meets fmt, with fmt's text TOLD by the authors' own Lean function (tested against real Go, not proved from fmt's source: count such statements apart). THE CARD IS WHAT COUNTS. Prove the row's statement (the work); the ties are given (YtbeolahmnoeicaaGreatDoorTie.lean); close each card by the builder's one call (the guide's Derived/Test/ToyasCard.lean, 'card_holds'). Laid BY PROGRAM, IN A SANDBOX (cutbox-door.mjs). By AI agents, Wed Nov 11 2026. No macro, syntax, notation, axiom, sorry.
-/
import Derived.Test.YtbeolahmnoeicaaGreatDoorRows
import GoSem.ClaimSeven
namespace Go.Proofs.YtbeolahmnoeicaaGreatDoor
namespace Rows

/-- THE TIED CARD OF 'laws.FnExpected'. -/
def fnExpectedCard : Claim7 := { stood := { row := fnExpectedRow, standIns := [], harness := (true, "71dcaf2fb17335835338daa9cbdcb2910e79d7ec5f3c233cbe97aa0a7b50b1bd"), looks := true }, kinds := [], alts := [], laidByText := true, laidKinds := [.data, .pinned], laidTests := true, laidLooks := .later }
def FnExpectedCardSaid : Prop := Claim7.holds Tryz.pinned (.plain (OpenSpec.ofChange fnExpectedSpec)) fnExpectedCard

/-- THE TIED CARD OF 'laws.FnExactReadPeer'. -/
def fnExactReadPeerCard : Claim7 := { stood := { row := fnExactReadPeerRow, standIns := [], harness := (true, "71dcaf2fb17335835338daa9cbdcb2910e79d7ec5f3c233cbe97aa0a7b50b1bd"), looks := true }, kinds := [], alts := [], laidByText := true, laidKinds := [.data, .data, .data, .data, .sentinel, .sentinel, .pinned], laidTests := true, laidLooks := .later }
def FnExactReadPeerCardSaid : Prop := Claim7.holds Tryz.pinned (.plain (OpenSpec.ofChange fnExactReadPeerSpec)) fnExactReadPeerCard

/-- THE TIED CARD OF 'laws.FnKleene'. -/
def fnKleeneCard : Claim7 := { stood := { row := fnKleeneRow, standIns := [], harness := (true, "71dcaf2fb17335835338daa9cbdcb2910e79d7ec5f3c233cbe97aa0a7b50b1bd"), looks := true }, kinds := [], alts := [], laidByText := true, laidKinds := [.data, .data, .data], laidTests := true, laidLooks := .later }
def FnKleeneCardSaid : Prop := Claim7.holds Tryz.pinned (.plain (OpenSpec.ofChange fnKleeneSpec)) fnKleeneCard

/-- THE SECOND FORM's CARD OF 'laws.FnExpected'. -/
def fnExpectedUptoCard : Claim7 := { stood := { row := fnExpectedUptoRow, standIns := [], harness := (true, "71dcaf2fb17335835338daa9cbdcb2910e79d7ec5f3c233cbe97aa0a7b50b1bd"), looks := true }, kinds := [], alts := [], laidByText := true, laidKinds := [.data, .pinned], laidTests := true, laidLooks := .later }
def FnExpectedUptoCardSaid : Prop := Claim7.holds Tryz.pinned (.plain (OpenSpec.upto fnExpectedSpec)) fnExpectedUptoCard

/-- THE SECOND FORM's CARD OF 'laws.FnExactReadPeer'. -/
def fnExactReadPeerUptoCard : Claim7 := { stood := { row := fnExactReadPeerUptoRow, standIns := [], harness := (true, "71dcaf2fb17335835338daa9cbdcb2910e79d7ec5f3c233cbe97aa0a7b50b1bd"), looks := true }, kinds := [], alts := [], laidByText := true, laidKinds := [.data, .data, .data, .data, .sentinel, .sentinel, .pinned], laidTests := true, laidLooks := .later }
def FnExactReadPeerUptoCardSaid : Prop := Claim7.holds Tryz.pinned (.plain (OpenSpec.upto fnExactReadPeerSpec)) fnExactReadPeerUptoCard

/-- THE SECOND FORM's CARD OF 'laws.FnKleene'. -/
def fnKleeneUptoCard : Claim7 := { stood := { row := fnKleeneUptoRow, standIns := [], harness := (true, "71dcaf2fb17335835338daa9cbdcb2910e79d7ec5f3c233cbe97aa0a7b50b1bd"), looks := true }, kinds := [], alts := [], laidByText := true, laidKinds := [.data, .data, .data], laidTests := true, laidLooks := .later }
def FnKleeneUptoCardSaid : Prop := Claim7.holds Tryz.pinned (.plain (OpenSpec.upto fnKleeneSpec)) fnKleeneUptoCard
end Rows
end Go.Proofs.YtbeolahmnoeicaaGreatDoor
