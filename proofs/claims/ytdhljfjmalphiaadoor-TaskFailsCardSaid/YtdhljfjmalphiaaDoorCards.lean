/-
  DERIVED. GIVEN WITH THE SEED: THE CARDS: each row of YtdhljfjmalphiaaDoorRows.lean that lists a variable, with what it lists TIED to the program's text (the seventh form; the later family's looks); each row that meets fmt, with fmt's text TOLD by the authors' own Lean function (tested against real Go, not proved from fmt's source: count such statements apart). THE CARD IS WHAT COUNTS. Prove the row's statement (the work); the ties are given (YtdhljfjmalphiaaDoorTie.lean); close each card by the builder's one call (the guide's Derived/Test/ToyasCard.lean, 'card_holds'). Laid BY PROGRAM, IN A SANDBOX (cutbox-door.mjs). By AI agents, Wed Nov 11 2026. No macro, syntax, notation, axiom, sorry.
-/
import Derived.Test.YtdhljfjmalphiaaDoorRows
import GoSem.ClaimSeven
namespace Go.Proofs.YtdhljfjmalphiaaDoor
namespace Rows

/-- THE TIED CARD OF 'depotlaw21.TaskUnasked'. -/
def taskUnaskedCard : Claim7 := { stood := { row := taskUnaskedRow, standIns := [], harness := (true, "4e9b2bc2c26c319ea8bd29bedd9bb57e1411cd18480fd0933026b8bdb480f934"), looks := false }, kinds := [], alts := [], laidByText := true, laidKinds := [.data, .data, .data], laidTests := true, laidLooks := .later }
def TaskUnaskedCardSaid : Prop := Claim7.holds Tryd.pinned (.plain (OpenSpec.ofChange taskUnaskedSpec)) taskUnaskedCard

/-- THE TIED CARD OF 'depotlaw21.TaskFails'. -/
def taskFailsCard : Claim7 := { stood := { row := taskFailsRow, standIns := [], harness := (true, "4e9b2bc2c26c319ea8bd29bedd9bb57e1411cd18480fd0933026b8bdb480f934"), looks := false }, kinds := [], alts := [], laidByText := true, laidKinds := [.data, .data, .data], laidTests := true, laidLooks := .later }
def TaskFailsCardSaid : Prop := Claim7.holds Tryd.pinned (.plain (OpenSpec.ofChange taskFailsSpec)) taskFailsCard

/-- THE TIED CARD OF 'depotlaw17.SlotVersions'. -/
def slotVersionsCard : Claim7 := { stood := { row := slotVersionsRow, standIns := [], harness := (true, "4e9b2bc2c26c319ea8bd29bedd9bb57e1411cd18480fd0933026b8bdb480f934"), looks := false }, kinds := [], alts := [], laidByText := true, laidKinds := [.data, .data, .data], laidTests := true, laidLooks := .later }
def SlotVersionsCardSaid : Prop := Claim7.holds Tryd.pinned (.plain (OpenSpec.ofChange slotVersionsSpec)) slotVersionsCard

/-- THE SECOND FORM's CARD OF 'depotlaw21.TaskUnasked'. -/
def taskUnaskedUptoCard : Claim7 := { stood := { row := taskUnaskedUptoRow, standIns := [], harness := (true, "4e9b2bc2c26c319ea8bd29bedd9bb57e1411cd18480fd0933026b8bdb480f934"), looks := false }, kinds := [], alts := [], laidByText := true, laidKinds := [.data, .data, .data], laidTests := true, laidLooks := .later }
def TaskUnaskedUptoCardSaid : Prop := Claim7.holds Tryd.pinned (.plain (OpenSpec.upto taskUnaskedSpec)) taskUnaskedUptoCard

/-- THE SECOND FORM's CARD OF 'depotlaw21.TaskFails'. -/
def taskFailsUptoCard : Claim7 := { stood := { row := taskFailsUptoRow, standIns := [], harness := (true, "4e9b2bc2c26c319ea8bd29bedd9bb57e1411cd18480fd0933026b8bdb480f934"), looks := false }, kinds := [], alts := [], laidByText := true, laidKinds := [.data, .data, .data], laidTests := true, laidLooks := .later }
def TaskFailsUptoCardSaid : Prop := Claim7.holds Tryd.pinned (.plain (OpenSpec.upto taskFailsSpec)) taskFailsUptoCard

/-- THE SECOND FORM's CARD OF 'depotlaw17.SlotVersions'. -/
def slotVersionsUptoCard : Claim7 := { stood := { row := slotVersionsUptoRow, standIns := [], harness := (true, "4e9b2bc2c26c319ea8bd29bedd9bb57e1411cd18480fd0933026b8bdb480f934"), looks := false }, kinds := [], alts := [], laidByText := true, laidKinds := [.data, .data, .data], laidTests := true, laidLooks := .later }
def SlotVersionsUptoCardSaid : Prop := Claim7.holds Tryd.pinned (.plain (OpenSpec.upto slotVersionsSpec)) slotVersionsUptoCard
end Rows
end Go.Proofs.YtdhljfjmalphiaaDoor
