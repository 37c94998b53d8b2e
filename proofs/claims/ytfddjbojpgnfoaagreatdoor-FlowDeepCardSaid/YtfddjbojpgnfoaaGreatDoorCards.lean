/-
  DERIVED. GIVEN WITH THE SEED: THE CARDS: each row of YtfddjbojpgnfoaaGreatDoorRows.lean that lists a variable, with what it lists TIED to the program's text (the seventh form; the later family's looks); each row that meets fmt, with fmt's text TOLD by the authors' own Lean function (tested against real Go, not proved from fmt's source: count such statements apart). THE CARD IS WHAT COUNTS. Prove the row's statement (the work); the ties are given (YtfddjbojpgnfoaaGreatDoorTie.lean); close each card by the builder's one call (the guide's Derived/Test/ToyasCard.lean, 'card_holds'). Laid BY PROGRAM, IN A SANDBOX (cutbox-door.mjs). By AI agents, Wed Nov 11 2026. No macro, syntax, notation, axiom, sorry.
-/
import Derived.Test.YtfddjbojpgnfoaaGreatDoorRows
import GoSem.ClaimSeven
namespace Go.Proofs.YtfddjbojpgnfoaaGreatDoor
namespace Rows

/-- THE TIED CARD OF 'grommetlaw09.FlowBlanks'. -/
def flowBlanksCard : Claim7 := { stood := { row := flowBlanksRow, standIns := [], harness := (true, "e4414ebfba9630d7aebbc44447270cc24d73affad48f9895ce43adc6f8d2b1c7"), looks := true }, kinds := [], alts := [], laidByText := true, laidKinds := [.data, .data, .data, .data, .sentinel, .sentinel, .pinned], laidTests := true, laidLooks := .later }
def FlowBlanksCardSaid : Prop := Claim7.holds Tryz.pinned (.plain (OpenSpec.ofChange flowBlanksSpec)) flowBlanksCard

/-- THE TIED CARD OF 'grommetlaw09.FlowDeep'. -/
def flowDeepCard : Claim7 := { stood := { row := flowDeepRow, standIns := [], harness := (true, "e4414ebfba9630d7aebbc44447270cc24d73affad48f9895ce43adc6f8d2b1c7"), looks := true }, kinds := [], alts := [], laidByText := true, laidKinds := [.data, .data, .data, .data, .sentinel, .sentinel, .pinned], laidTests := true, laidLooks := .later }
def FlowDeepCardSaid : Prop := Claim7.holds Tryz.pinned (.plain (OpenSpec.ofChange flowDeepSpec)) flowDeepCard

/-- THE SECOND FORM's CARD OF 'grommetlaw09.FlowBlanks'. -/
def flowBlanksUptoCard : Claim7 := { stood := { row := flowBlanksUptoRow, standIns := [], harness := (true, "e4414ebfba9630d7aebbc44447270cc24d73affad48f9895ce43adc6f8d2b1c7"), looks := true }, kinds := [], alts := [], laidByText := true, laidKinds := [.data, .data, .data, .data, .sentinel, .sentinel, .pinned], laidTests := true, laidLooks := .later }
def FlowBlanksUptoCardSaid : Prop := Claim7.holds Tryz.pinned (.plain (OpenSpec.upto flowBlanksSpec)) flowBlanksUptoCard

/-- THE SECOND FORM's CARD OF 'grommetlaw09.FlowDeep'. -/
def flowDeepUptoCard : Claim7 := { stood := { row := flowDeepUptoRow, standIns := [], harness := (true, "e4414ebfba9630d7aebbc44447270cc24d73affad48f9895ce43adc6f8d2b1c7"), looks := true }, kinds := [], alts := [], laidByText := true, laidKinds := [.data, .data, .data, .data, .sentinel, .sentinel, .pinned], laidTests := true, laidLooks := .later }
def FlowDeepUptoCardSaid : Prop := Claim7.holds Tryz.pinned (.plain (OpenSpec.upto flowDeepSpec)) flowDeepUptoCard
end Rows
end Go.Proofs.YtfddjbojpgnfoaaGreatDoor
