/-
  DERIVED. GIVEN WITH THE SEED: THE CARDS: each row of YtidjlmjibfbmjaaGreatDoorRows.lean that lists a variable, with what it lists TIED to the program's text (the seventh form; the later family's looks); each row that meets fmt, with fmt's text TOLD by the authors' own Lean function (tested against real Go, not proved from fmt's source: count such statements apart). THE CARD IS WHAT COUNTS. Prove the row's statement (the work); the ties are given (YtidjlmjibfbmjaaGreatDoorTie.lean); close each card by the builder's one call (the guide's Derived/Test/ToyasCard.lean, 'card_holds'). Laid BY PROGRAM, IN A SANDBOX (cutbox-door.mjs). By AI agents, Wed Nov 11 2026. No macro, syntax, notation, axiom, sorry.
-/
import Derived.Test.YtidjlmjibfbmjaaGreatDoorRows
import GoSem.ClaimSeven
namespace Go.Proofs.YtidjlmjibfbmjaaGreatDoor
namespace Rows

/-- THE TIED CARD OF 'millwrightlaw44.DeadTells'. -/
def deadTellsCard : Claim7 := { stood := { row := deadTellsRow, standIns := [], harness := (true, "a7e62a19ff521828d1e00a0ad056f5845b5b83884f30ee566001380ef37b3dea"), looks := false }, kinds := [], alts := [], laidByText := true, laidKinds := [.listed, .data], laidTests := true, laidLooks := .later }
def DeadTellsCardSaid : Prop := Claim7.holds Tryz.pinned (.plain (OpenSpec.ofChange deadTellsSpec)) deadTellsCard

/-- THE TIED CARD OF 'millwrightlaw44.DeadTakes'. -/
def deadTakesCard : Claim7 := { stood := { row := deadTakesRow, standIns := [], harness := (true, "a7e62a19ff521828d1e00a0ad056f5845b5b83884f30ee566001380ef37b3dea"), looks := false }, kinds := [], alts := [], laidByText := true, laidKinds := [.listed, .data], laidTests := true, laidLooks := .later }
def DeadTakesCardSaid : Prop := Claim7.holds Tryz.pinned (.plain (OpenSpec.ofChange deadTakesSpec)) deadTakesCard

/-- THE TIED CARD OF 'millwrightlaw44.DeadRight'. -/
def deadRightCard : Claim7 := { stood := { row := deadRightRow, standIns := [], harness := (true, "a7e62a19ff521828d1e00a0ad056f5845b5b83884f30ee566001380ef37b3dea"), looks := false }, kinds := [], alts := [], laidByText := true, laidKinds := [.listed, .data], laidTests := true, laidLooks := .later }
def DeadRightCardSaid : Prop := Claim7.holds Tryz.pinned (.plain (OpenSpec.ofChange deadRightSpec)) deadRightCard

/-- THE TIED CARD OF 'millwrightlaw44.DeadKeeps'. -/
def deadKeepsCard : Claim7 := { stood := { row := deadKeepsRow, standIns := [], harness := (true, "a7e62a19ff521828d1e00a0ad056f5845b5b83884f30ee566001380ef37b3dea"), looks := false }, kinds := [], alts := [], laidByText := true, laidKinds := [.listed, .data], laidTests := true, laidLooks := .later }
def DeadKeepsCardSaid : Prop := Claim7.holds Tryz.pinned (.plain (OpenSpec.ofChange deadKeepsSpec)) deadKeepsCard

/-- THE TIED CARD OF 'millwrightlaw44.DeadMore'. -/
def deadMoreCard : Claim7 := { stood := { row := deadMoreRow, standIns := [], harness := (true, "a7e62a19ff521828d1e00a0ad056f5845b5b83884f30ee566001380ef37b3dea"), looks := false }, kinds := [], alts := [], laidByText := true, laidKinds := [.listed, .data], laidTests := true, laidLooks := .later }
def DeadMoreCardSaid : Prop := Claim7.holds Tryz.pinned (.plain (OpenSpec.ofChange deadMoreSpec)) deadMoreCard

/-- THE SECOND FORM's CARD OF 'millwrightlaw44.DeadTells'. -/
def deadTellsUptoCard : Claim7 := { stood := { row := deadTellsUptoRow, standIns := [], harness := (true, "a7e62a19ff521828d1e00a0ad056f5845b5b83884f30ee566001380ef37b3dea"), looks := false }, kinds := [], alts := [], laidByText := true, laidKinds := [.listed, .data], laidTests := true, laidLooks := .later }
def DeadTellsUptoCardSaid : Prop := Claim7.holds Tryz.pinned (.plain (OpenSpec.upto deadTellsSpec)) deadTellsUptoCard

/-- THE SECOND FORM's CARD OF 'millwrightlaw44.DeadTakes'. -/
def deadTakesUptoCard : Claim7 := { stood := { row := deadTakesUptoRow, standIns := [], harness := (true, "a7e62a19ff521828d1e00a0ad056f5845b5b83884f30ee566001380ef37b3dea"), looks := false }, kinds := [], alts := [], laidByText := true, laidKinds := [.listed, .data], laidTests := true, laidLooks := .later }
def DeadTakesUptoCardSaid : Prop := Claim7.holds Tryz.pinned (.plain (OpenSpec.upto deadTakesSpec)) deadTakesUptoCard

/-- THE SECOND FORM's CARD OF 'millwrightlaw44.DeadRight'. -/
def deadRightUptoCard : Claim7 := { stood := { row := deadRightUptoRow, standIns := [], harness := (true, "a7e62a19ff521828d1e00a0ad056f5845b5b83884f30ee566001380ef37b3dea"), looks := false }, kinds := [], alts := [], laidByText := true, laidKinds := [.listed, .data], laidTests := true, laidLooks := .later }
def DeadRightUptoCardSaid : Prop := Claim7.holds Tryz.pinned (.plain (OpenSpec.upto deadRightSpec)) deadRightUptoCard

/-- THE SECOND FORM's CARD OF 'millwrightlaw44.DeadKeeps'. -/
def deadKeepsUptoCard : Claim7 := { stood := { row := deadKeepsUptoRow, standIns := [], harness := (true, "a7e62a19ff521828d1e00a0ad056f5845b5b83884f30ee566001380ef37b3dea"), looks := false }, kinds := [], alts := [], laidByText := true, laidKinds := [.listed, .data], laidTests := true, laidLooks := .later }
def DeadKeepsUptoCardSaid : Prop := Claim7.holds Tryz.pinned (.plain (OpenSpec.upto deadKeepsSpec)) deadKeepsUptoCard

/-- THE SECOND FORM's CARD OF 'millwrightlaw44.DeadMore'. -/
def deadMoreUptoCard : Claim7 := { stood := { row := deadMoreUptoRow, standIns := [], harness := (true, "a7e62a19ff521828d1e00a0ad056f5845b5b83884f30ee566001380ef37b3dea"), looks := false }, kinds := [], alts := [], laidByText := true, laidKinds := [.listed, .data], laidTests := true, laidLooks := .later }
def DeadMoreUptoCardSaid : Prop := Claim7.holds Tryz.pinned (.plain (OpenSpec.upto deadMoreSpec)) deadMoreUptoCard
end Rows
end Go.Proofs.YtidjlmjibfbmjaaGreatDoor
