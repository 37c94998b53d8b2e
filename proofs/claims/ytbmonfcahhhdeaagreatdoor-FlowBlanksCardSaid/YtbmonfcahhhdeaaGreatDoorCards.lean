/-
  DERIVED. GIVEN WITH THE SEED: THE CARDS: each row of YtbmonfcahhhdeaaGreatDoorRows.lean that lists a variable, with what it lists TIED to the program's text (the seventh form; the later family's looks); each row that meets fmt, with fmt's text TOLD by the authors' own Lean function (tested against real Go, not proved from fmt's source: count such statements apart). THE CARD IS WHAT COUNTS. Prove the row's statement (the work); the ties are given (YtbmonfcahhhdeaaGreatDoorTie.lean); close each card by the builder's one call (the guide's Derived/Test/ToyasCard.lean, 'card_holds'). Laid BY PROGRAM, IN A SANDBOX (cutbox-door.mjs). By AI agents, Wed Nov 11 2026. No macro, syntax, notation, axiom, sorry.
-/
import Derived.Test.YtbmonfcahhhdeaaGreatDoorRows
import GoSem.ClaimSeven
namespace Go.Proofs.YtbmonfcahhhdeaaGreatDoor
namespace Rows

/-- THE TIED CARD OF 'grommetlaw09.FlowBack'. -/
def flowBackCard : Claim7 := { stood := { row := flowBackRow, standIns := [], harness := (true, "8cc187d820ae95a3b88a5d1543109cd4dfc5322c4b259238029edabc64c9c56d"), looks := true }, kinds := [], alts := [], laidByText := true, laidKinds := [.data, .data, .data, .data, .sentinel, .sentinel, .pinned], laidTests := true, laidLooks := .later }
def FlowBackCardSaid : Prop := Claim7.holds Tryz.pinned (.plain (OpenSpec.ofChange flowBackSpec)) flowBackCard

/-- THE TIED CARD OF 'grommetlaw09.FlowAgain'. -/
def flowAgainCard : Claim7 := { stood := { row := flowAgainRow, standIns := [], harness := (true, "8cc187d820ae95a3b88a5d1543109cd4dfc5322c4b259238029edabc64c9c56d"), looks := true }, kinds := [], alts := [], laidByText := true, laidKinds := [.data, .data, .data, .data, .sentinel, .sentinel, .pinned], laidTests := true, laidLooks := .later }
def FlowAgainCardSaid : Prop := Claim7.holds Tryz.pinned (.plain (OpenSpec.ofChange flowAgainSpec)) flowAgainCard

/-- THE TIED CARD OF 'grommetlaw09.FlowBlanks'. -/
def flowBlanksCard : Claim7 := { stood := { row := flowBlanksRow, standIns := [], harness := (true, "8cc187d820ae95a3b88a5d1543109cd4dfc5322c4b259238029edabc64c9c56d"), looks := true }, kinds := [], alts := [], laidByText := true, laidKinds := [.data, .data, .data, .data, .sentinel, .sentinel, .pinned], laidTests := true, laidLooks := .later }
def FlowBlanksCardSaid : Prop := Claim7.holds Tryz.pinned (.plain (OpenSpec.ofChange flowBlanksSpec)) flowBlanksCard

/-- THE TIED CARD OF 'grommetlaw09.FlowDeep'. -/
def flowDeepCard : Claim7 := { stood := { row := flowDeepRow, standIns := [], harness := (true, "8cc187d820ae95a3b88a5d1543109cd4dfc5322c4b259238029edabc64c9c56d"), looks := true }, kinds := [], alts := [], laidByText := true, laidKinds := [.data, .data, .data, .data, .sentinel, .sentinel, .pinned], laidTests := true, laidLooks := .later }
def FlowDeepCardSaid : Prop := Claim7.holds Tryz.pinned (.plain (OpenSpec.ofChange flowDeepSpec)) flowDeepCard

/-- THE TIED CARD OF 'grommetlaw09.FlowReads'. -/
def flowReadsCard : Claim7 := { stood := { row := flowReadsRow, standIns := [], harness := (true, "8cc187d820ae95a3b88a5d1543109cd4dfc5322c4b259238029edabc64c9c56d"), looks := true }, kinds := [], alts := [], laidByText := true, laidKinds := [.data, .data, .data, .data, .sentinel, .sentinel, .pinned], laidTests := true, laidLooks := .later }
def FlowReadsCardSaid : Prop := Claim7.holds Tryz.pinned (.plain (OpenSpec.ofChange flowReadsSpec)) flowReadsCard

/-- THE TIED CARD OF 'grommetlaw09.FlowWrites'. -/
def flowWritesCard : Claim7 := { stood := { row := flowWritesRow, standIns := [], harness := (true, "8cc187d820ae95a3b88a5d1543109cd4dfc5322c4b259238029edabc64c9c56d"), looks := true }, kinds := [], alts := [], laidByText := true, laidKinds := [.data, .data, .data, .data, .sentinel, .sentinel, .pinned], laidTests := true, laidLooks := .later }
def FlowWritesCardSaid : Prop := Claim7.holds Tryz.pinned (.plain (OpenSpec.ofChange flowWritesSpec)) flowWritesCard

/-- THE SECOND FORM's CARD OF 'grommetlaw09.FlowBack'. -/
def flowBackUptoCard : Claim7 := { stood := { row := flowBackUptoRow, standIns := [], harness := (true, "8cc187d820ae95a3b88a5d1543109cd4dfc5322c4b259238029edabc64c9c56d"), looks := true }, kinds := [], alts := [], laidByText := true, laidKinds := [.data, .data, .data, .data, .sentinel, .sentinel, .pinned], laidTests := true, laidLooks := .later }
def FlowBackUptoCardSaid : Prop := Claim7.holds Tryz.pinned (.plain (OpenSpec.upto flowBackSpec)) flowBackUptoCard

/-- THE SECOND FORM's CARD OF 'grommetlaw09.FlowAgain'. -/
def flowAgainUptoCard : Claim7 := { stood := { row := flowAgainUptoRow, standIns := [], harness := (true, "8cc187d820ae95a3b88a5d1543109cd4dfc5322c4b259238029edabc64c9c56d"), looks := true }, kinds := [], alts := [], laidByText := true, laidKinds := [.data, .data, .data, .data, .sentinel, .sentinel, .pinned], laidTests := true, laidLooks := .later }
def FlowAgainUptoCardSaid : Prop := Claim7.holds Tryz.pinned (.plain (OpenSpec.upto flowAgainSpec)) flowAgainUptoCard

/-- THE SECOND FORM's CARD OF 'grommetlaw09.FlowBlanks'. -/
def flowBlanksUptoCard : Claim7 := { stood := { row := flowBlanksUptoRow, standIns := [], harness := (true, "8cc187d820ae95a3b88a5d1543109cd4dfc5322c4b259238029edabc64c9c56d"), looks := true }, kinds := [], alts := [], laidByText := true, laidKinds := [.data, .data, .data, .data, .sentinel, .sentinel, .pinned], laidTests := true, laidLooks := .later }
def FlowBlanksUptoCardSaid : Prop := Claim7.holds Tryz.pinned (.plain (OpenSpec.upto flowBlanksSpec)) flowBlanksUptoCard

/-- THE SECOND FORM's CARD OF 'grommetlaw09.FlowDeep'. -/
def flowDeepUptoCard : Claim7 := { stood := { row := flowDeepUptoRow, standIns := [], harness := (true, "8cc187d820ae95a3b88a5d1543109cd4dfc5322c4b259238029edabc64c9c56d"), looks := true }, kinds := [], alts := [], laidByText := true, laidKinds := [.data, .data, .data, .data, .sentinel, .sentinel, .pinned], laidTests := true, laidLooks := .later }
def FlowDeepUptoCardSaid : Prop := Claim7.holds Tryz.pinned (.plain (OpenSpec.upto flowDeepSpec)) flowDeepUptoCard

/-- THE SECOND FORM's CARD OF 'grommetlaw09.FlowReads'. -/
def flowReadsUptoCard : Claim7 := { stood := { row := flowReadsUptoRow, standIns := [], harness := (true, "8cc187d820ae95a3b88a5d1543109cd4dfc5322c4b259238029edabc64c9c56d"), looks := true }, kinds := [], alts := [], laidByText := true, laidKinds := [.data, .data, .data, .data, .sentinel, .sentinel, .pinned], laidTests := true, laidLooks := .later }
def FlowReadsUptoCardSaid : Prop := Claim7.holds Tryz.pinned (.plain (OpenSpec.upto flowReadsSpec)) flowReadsUptoCard

/-- THE SECOND FORM's CARD OF 'grommetlaw09.FlowWrites'. -/
def flowWritesUptoCard : Claim7 := { stood := { row := flowWritesUptoRow, standIns := [], harness := (true, "8cc187d820ae95a3b88a5d1543109cd4dfc5322c4b259238029edabc64c9c56d"), looks := true }, kinds := [], alts := [], laidByText := true, laidKinds := [.data, .data, .data, .data, .sentinel, .sentinel, .pinned], laidTests := true, laidLooks := .later }
def FlowWritesUptoCardSaid : Prop := Claim7.holds Tryz.pinned (.plain (OpenSpec.upto flowWritesSpec)) flowWritesUptoCard
end Rows
end Go.Proofs.YtbmonfcahhhdeaaGreatDoor
