/-
  DERIVED. GIVEN WITH THE SEED: THE CARDS: each row of YtabllakilkjhkaaGreatDoorRows.lean that lists a variable, with what it lists TIED to the program's text (the seventh form; the later family's looks); each row that meets fmt, with fmt's text TOLD by the authors' own Lean function (tested against real Go, not proved from fmt's source: count such statements apart). THE CARD IS WHAT COUNTS. Prove the row's statement (the work); the ties are given (YtabllakilkjhkaaGreatDoorTie.lean); close each card by the builder's one call (the guide's Derived/Test/ToyasCard.lean, 'card_holds'). Laid BY PROGRAM, IN A SANDBOX (cutbox-door.mjs). By AI agents, Wed Nov 11 2026. No macro, syntax, notation, axiom, sorry.
-/
import Derived.Test.YtabllakilkjhkaaGreatDoorRows
import GoSem.ClaimSeven
namespace Go.Proofs.YtabllakilkjhkaaGreatDoor
namespace Rows

/-- THE TIED CARD OF 'depotlaw23.RouterRuns'. -/
def routerRunsCard : Claim7 := { stood := { row := routerRunsRow, standIns := [], harness := (true, "b034bed626cf1ec5f09bef25d99fc33f25037b3a7f6fd64f70b4bd0ab1fb0f8e"), looks := true }, kinds := [], alts := [], laidByText := true, laidKinds := [.data, .data, .data], laidTests := true, laidLooks := .later }
def RouterRunsCardSaid : Prop := Claim7.holds Tryz.pinned (.plain (OpenSpec.ofChange routerRunsSpec)) routerRunsCard

/-- THE TIED CARD OF 'depotlaw24.ClusterRuns'. -/
def clusterRunsCard : Claim7 := { stood := { row := clusterRunsRow, standIns := [], harness := (true, "b034bed626cf1ec5f09bef25d99fc33f25037b3a7f6fd64f70b4bd0ab1fb0f8e"), looks := true }, kinds := [], alts := [], laidByText := true, laidKinds := [.data, .data, .data], laidTests := true, laidLooks := .later }
def ClusterRunsCardSaid : Prop := Claim7.holds Tryz.pinned (.plain (OpenSpec.ofChange clusterRunsSpec)) clusterRunsCard

/-- THE TIED CARD OF 'depotlaw25.CalmRuns'. -/
def calmRunsCard : Claim7 := { stood := { row := calmRunsRow, standIns := [], harness := (true, "b034bed626cf1ec5f09bef25d99fc33f25037b3a7f6fd64f70b4bd0ab1fb0f8e"), looks := true }, kinds := [], alts := [], laidByText := true, laidKinds := [.data, .data, .data], laidTests := true, laidLooks := .later }
def CalmRunsCardSaid : Prop := Claim7.holds Tryz.pinned (.plain (OpenSpec.ofChange calmRunsSpec)) calmRunsCard

/-- THE TIED CARD OF 'depotlaw27.ShellRuns'. -/
def shellRunsCard : Claim7 := { stood := { row := shellRunsRow, standIns := [], harness := (true, "b034bed626cf1ec5f09bef25d99fc33f25037b3a7f6fd64f70b4bd0ab1fb0f8e"), looks := true }, kinds := [], alts := [], laidByText := true, laidKinds := [.data, .data, .data, .data, .sentinel, .sentinel, .pinned], laidTests := true, laidLooks := .later }
def ShellRunsCardSaid : Prop := Claim7.holds Tryz.pinned (.plain (OpenSpec.ofChange shellRunsSpec)) shellRunsCard

/-- THE SECOND FORM's CARD OF 'depotlaw23.RouterRuns'. -/
def routerRunsUptoCard : Claim7 := { stood := { row := routerRunsUptoRow, standIns := [], harness := (true, "b034bed626cf1ec5f09bef25d99fc33f25037b3a7f6fd64f70b4bd0ab1fb0f8e"), looks := true }, kinds := [], alts := [], laidByText := true, laidKinds := [.data, .data, .data], laidTests := true, laidLooks := .later }
def RouterRunsUptoCardSaid : Prop := Claim7.holds Tryz.pinned (.plain (OpenSpec.upto routerRunsSpec)) routerRunsUptoCard

/-- THE SECOND FORM's CARD OF 'depotlaw24.ClusterRuns'. -/
def clusterRunsUptoCard : Claim7 := { stood := { row := clusterRunsUptoRow, standIns := [], harness := (true, "b034bed626cf1ec5f09bef25d99fc33f25037b3a7f6fd64f70b4bd0ab1fb0f8e"), looks := true }, kinds := [], alts := [], laidByText := true, laidKinds := [.data, .data, .data], laidTests := true, laidLooks := .later }
def ClusterRunsUptoCardSaid : Prop := Claim7.holds Tryz.pinned (.plain (OpenSpec.upto clusterRunsSpec)) clusterRunsUptoCard

/-- THE SECOND FORM's CARD OF 'depotlaw25.CalmRuns'. -/
def calmRunsUptoCard : Claim7 := { stood := { row := calmRunsUptoRow, standIns := [], harness := (true, "b034bed626cf1ec5f09bef25d99fc33f25037b3a7f6fd64f70b4bd0ab1fb0f8e"), looks := true }, kinds := [], alts := [], laidByText := true, laidKinds := [.data, .data, .data], laidTests := true, laidLooks := .later }
def CalmRunsUptoCardSaid : Prop := Claim7.holds Tryz.pinned (.plain (OpenSpec.upto calmRunsSpec)) calmRunsUptoCard

/-- THE SECOND FORM's CARD OF 'depotlaw27.ShellRuns'. -/
def shellRunsUptoCard : Claim7 := { stood := { row := shellRunsUptoRow, standIns := [], harness := (true, "b034bed626cf1ec5f09bef25d99fc33f25037b3a7f6fd64f70b4bd0ab1fb0f8e"), looks := true }, kinds := [], alts := [], laidByText := true, laidKinds := [.data, .data, .data, .data, .sentinel, .sentinel, .pinned], laidTests := true, laidLooks := .later }
def ShellRunsUptoCardSaid : Prop := Claim7.holds Tryz.pinned (.plain (OpenSpec.upto shellRunsSpec)) shellRunsUptoCard
end Rows
end Go.Proofs.YtabllakilkjhkaaGreatDoor
