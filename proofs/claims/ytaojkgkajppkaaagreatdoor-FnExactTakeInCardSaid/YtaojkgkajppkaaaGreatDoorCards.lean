/-
  DERIVED. GIVEN WITH THE SEED: THE CARDS: each row of YtaojkgkajppkaaaGreatDoorRows.lean that lists a variable, with what it lists TIED to the program's text (the seventh form; the later family's looks); each row that meets fmt, with fmt's text TOLD by the authors' own Lean function (tested against real Go, not proved from fmt's source: count such statements apart). THE CARD IS WHAT COUNTS. Prove the row's statement (the work); the ties are given (YtaojkgkajppkaaaGreatDoorTie.lean); close each card by the builder's one call (the guide's Derived/Test/ToyasCard.lean, 'card_holds'). Laid BY PROGRAM, IN A SANDBOX (cutbox-door.mjs). By AI agents, Wed Nov 11 2026. No macro, syntax, notation, axiom, sorry.
-/
import Derived.Test.YtaojkgkajppkaaaGreatDoorRows
import GoSem.ClaimSeven
namespace Go.Proofs.YtaojkgkajppkaaaGreatDoor
namespace Rows

/-- THE TIED CARD OF 'laws.FnExactTakeIn'. -/
def fnExactTakeInCard : Claim7 := { stood := { row := fnExactTakeInRow, standIns := [], harness := (true, "be58e86c8e8e0389b7c172e67b4340efcaf8c261ef2608c1c6ba611b0c1fe0b3"), looks := true }, kinds := [], alts := [], laidByText := true, laidKinds := [.data, .pinned], laidTests := true, laidLooks := .later }
def FnExactTakeInCardSaid : Prop := Claim7.holds Tryz.pinned (.plain (OpenSpec.ofChange fnExactTakeInSpec)) fnExactTakeInCard

/-- THE TIED CARD OF 'laws.FnExpected'. -/
def fnExpectedCard : Claim7 := { stood := { row := fnExpectedRow, standIns := [], harness := (true, "be58e86c8e8e0389b7c172e67b4340efcaf8c261ef2608c1c6ba611b0c1fe0b3"), looks := true }, kinds := [], alts := [], laidByText := true, laidKinds := [.data, .pinned], laidTests := true, laidLooks := .later }
def FnExpectedCardSaid : Prop := Claim7.holds Tryz.pinned (.plain (OpenSpec.ofChange fnExpectedSpec)) fnExpectedCard

/-- THE TIED CARD OF 'laws.FnExactReadPeer'. -/
def fnExactReadPeerCard : Claim7 := { stood := { row := fnExactReadPeerRow, standIns := [], harness := (true, "be58e86c8e8e0389b7c172e67b4340efcaf8c261ef2608c1c6ba611b0c1fe0b3"), looks := true }, kinds := [], alts := [], laidByText := true, laidKinds := [.data, .data, .data, .data, .sentinel, .sentinel, .pinned], laidTests := true, laidLooks := .later }
def FnExactReadPeerCardSaid : Prop := Claim7.holds Tryz.pinned (.plain (OpenSpec.ofChange fnExactReadPeerSpec)) fnExactReadPeerCard

/-- THE SECOND FORM's CARD OF 'laws.FnExactTakeIn'. -/
def fnExactTakeInUptoCard : Claim7 := { stood := { row := fnExactTakeInUptoRow, standIns := [], harness := (true, "be58e86c8e8e0389b7c172e67b4340efcaf8c261ef2608c1c6ba611b0c1fe0b3"), looks := true }, kinds := [], alts := [], laidByText := true, laidKinds := [.data, .pinned], laidTests := true, laidLooks := .later }
def FnExactTakeInUptoCardSaid : Prop := Claim7.holds Tryz.pinned (.plain (OpenSpec.upto fnExactTakeInSpec)) fnExactTakeInUptoCard

/-- THE SECOND FORM's CARD OF 'laws.FnExpected'. -/
def fnExpectedUptoCard : Claim7 := { stood := { row := fnExpectedUptoRow, standIns := [], harness := (true, "be58e86c8e8e0389b7c172e67b4340efcaf8c261ef2608c1c6ba611b0c1fe0b3"), looks := true }, kinds := [], alts := [], laidByText := true, laidKinds := [.data, .pinned], laidTests := true, laidLooks := .later }
def FnExpectedUptoCardSaid : Prop := Claim7.holds Tryz.pinned (.plain (OpenSpec.upto fnExpectedSpec)) fnExpectedUptoCard

/-- THE SECOND FORM's CARD OF 'laws.FnExactReadPeer'. -/
def fnExactReadPeerUptoCard : Claim7 := { stood := { row := fnExactReadPeerUptoRow, standIns := [], harness := (true, "be58e86c8e8e0389b7c172e67b4340efcaf8c261ef2608c1c6ba611b0c1fe0b3"), looks := true }, kinds := [], alts := [], laidByText := true, laidKinds := [.data, .data, .data, .data, .sentinel, .sentinel, .pinned], laidTests := true, laidLooks := .later }
def FnExactReadPeerUptoCardSaid : Prop := Claim7.holds Tryz.pinned (.plain (OpenSpec.upto fnExactReadPeerSpec)) fnExactReadPeerUptoCard
end Rows
end Go.Proofs.YtaojkgkajppkaaaGreatDoor
