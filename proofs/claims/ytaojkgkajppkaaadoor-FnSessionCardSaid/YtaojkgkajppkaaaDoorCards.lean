/-
  DERIVED. GIVEN WITH THE SEED: THE CARDS: each row of YtaojkgkajppkaaaDoorRows.lean that lists a variable, with what it lists TIED to the program's text (the seventh form; the later family's looks); each row that meets fmt, with fmt's text TOLD by the authors' own Lean function (tested against real Go, not proved from fmt's source: count such statements apart). THE CARD IS WHAT COUNTS. Prove the row's statement (the work); the ties are given (YtaojkgkajppkaaaDoorTie.lean); close each card by the builder's one call (the guide's Derived/Test/ToyasCard.lean, 'card_holds'). Laid BY PROGRAM, IN A SANDBOX (cutbox-door.mjs). By AI agents, Wed Nov 11 2026. No macro, syntax, notation, axiom, sorry.
-/
import Derived.Test.YtaojkgkajppkaaaDoorRows
import GoSem.ClaimSeven
namespace Go.Proofs.YtaojkgkajppkaaaDoor
namespace Rows

/-- THE TIED CARD OF 'laws.FnExactEndSession'. -/
def fnExactEndSessionCard : Claim7 := { stood := { row := fnExactEndSessionRow, standIns := [], harness := (true, "75d40f4c2f222e0c4a490f9457a7f4685a816f111e4a2065f30f7c8d618f2876"), looks := false }, kinds := [], alts := [], laidByText := true, laidKinds := [.data, .pinned], laidTests := true, laidLooks := .later }
def FnExactEndSessionCardSaid : Prop := Claim7.holds Tryd.pinned (.plain (OpenSpec.ofChange fnExactEndSessionSpec)) fnExactEndSessionCard

/-- THE TIED CARD OF 'laws.FnExactTalkText'. -/
def fnExactTalkTextCard : Claim7 := { stood := { row := fnExactTalkTextRow, standIns := [], harness := (true, "75d40f4c2f222e0c4a490f9457a7f4685a816f111e4a2065f30f7c8d618f2876"), looks := false }, kinds := [], alts := [], laidByText := true, laidKinds := [.data, .data, .data], laidTests := true, laidLooks := .later }
def FnExactTalkTextCardSaid : Prop := Claim7.holds Tryd.pinned (.plain (OpenSpec.ofChange fnExactTalkTextSpec)) fnExactTalkTextCard

/-- THE TIED CARD OF 'laws.FnExactFeedSession'. -/
def fnExactFeedSessionCard : Claim7 := { stood := { row := fnExactFeedSessionRow, standIns := [], harness := (true, "75d40f4c2f222e0c4a490f9457a7f4685a816f111e4a2065f30f7c8d618f2876"), looks := false }, kinds := [], alts := [], laidByText := true, laidKinds := [.data, .pinned], laidTests := true, laidLooks := .later }
def FnExactFeedSessionCardSaid : Prop := Claim7.holds Tryd.pinned (.plain (OpenSpec.ofChange fnExactFeedSessionSpec)) fnExactFeedSessionCard

/-- THE TIED CARD OF 'laws.FnSession'. -/
def fnSessionCard : Claim7 := { stood := { row := fnSessionRow, standIns := [], harness := (true, "75d40f4c2f222e0c4a490f9457a7f4685a816f111e4a2065f30f7c8d618f2876"), looks := false }, kinds := [], alts := [], laidByText := true, laidKinds := [.data, .pinned], laidTests := true, laidLooks := .later }
def FnSessionCardSaid : Prop := Claim7.holds Tryd.pinned (.plain (OpenSpec.ofChange fnSessionSpec)) fnSessionCard

/-- THE SECOND FORM's CARD OF 'laws.FnExactEndSession'. -/
def fnExactEndSessionUptoCard : Claim7 := { stood := { row := fnExactEndSessionUptoRow, standIns := [], harness := (true, "75d40f4c2f222e0c4a490f9457a7f4685a816f111e4a2065f30f7c8d618f2876"), looks := false }, kinds := [], alts := [], laidByText := true, laidKinds := [.data, .pinned], laidTests := true, laidLooks := .later }
def FnExactEndSessionUptoCardSaid : Prop := Claim7.holds Tryd.pinned (.plain (OpenSpec.upto fnExactEndSessionSpec)) fnExactEndSessionUptoCard

/-- THE SECOND FORM's CARD OF 'laws.FnExactTalkText'. -/
def fnExactTalkTextUptoCard : Claim7 := { stood := { row := fnExactTalkTextUptoRow, standIns := [], harness := (true, "75d40f4c2f222e0c4a490f9457a7f4685a816f111e4a2065f30f7c8d618f2876"), looks := false }, kinds := [], alts := [], laidByText := true, laidKinds := [.data, .data, .data], laidTests := true, laidLooks := .later }
def FnExactTalkTextUptoCardSaid : Prop := Claim7.holds Tryd.pinned (.plain (OpenSpec.upto fnExactTalkTextSpec)) fnExactTalkTextUptoCard

/-- THE SECOND FORM's CARD OF 'laws.FnExactFeedSession'. -/
def fnExactFeedSessionUptoCard : Claim7 := { stood := { row := fnExactFeedSessionUptoRow, standIns := [], harness := (true, "75d40f4c2f222e0c4a490f9457a7f4685a816f111e4a2065f30f7c8d618f2876"), looks := false }, kinds := [], alts := [], laidByText := true, laidKinds := [.data, .pinned], laidTests := true, laidLooks := .later }
def FnExactFeedSessionUptoCardSaid : Prop := Claim7.holds Tryd.pinned (.plain (OpenSpec.upto fnExactFeedSessionSpec)) fnExactFeedSessionUptoCard

/-- THE SECOND FORM's CARD OF 'laws.FnSession'. -/
def fnSessionUptoCard : Claim7 := { stood := { row := fnSessionUptoRow, standIns := [], harness := (true, "75d40f4c2f222e0c4a490f9457a7f4685a816f111e4a2065f30f7c8d618f2876"), looks := false }, kinds := [], alts := [], laidByText := true, laidKinds := [.data, .pinned], laidTests := true, laidLooks := .later }
def FnSessionUptoCardSaid : Prop := Claim7.holds Tryd.pinned (.plain (OpenSpec.upto fnSessionSpec)) fnSessionUptoCard
end Rows
end Go.Proofs.YtaojkgkajppkaaaDoor
