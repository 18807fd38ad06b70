/-
  DERIVED. GIVEN WITH THE SEED: THE CARDS: each row of YtdmfhlfhlflakaaDoorRows.lean that lists a variable, with what it lists TIED to the program's text (the seventh form; the later family's looks); each row that meets fmt, with fmt's text TOLD by the authors' own Lean function (tested against real Go, not proved from fmt's source: count such statements apart). THE CARD IS WHAT COUNTS. Prove the row's statement (the work); the ties are given (YtdmfhlfhlflakaaDoorTie.lean); close each card by the builder's one call (the guide's Derived/Test/ToyasCard.lean, 'card_holds'). Laid BY PROGRAM, IN A SANDBOX (cutbox-door.mjs). By AI agents, Wed Nov 11 2026. No macro, syntax, notation, axiom, sorry.
-/
import Derived.Test.YtdmfhlfhlflakaaDoorRows
import GoSem.ClaimSeven
namespace Go.Proofs.YtdmfhlfhlflakaaDoor
namespace Rows

/-- THE TIED CARD OF 'colanderlaw22.PlanCovers'. -/
def planCoversCard : Claim7 := { stood := { row := planCoversRow, standIns := [], harness := (true, "927ef572449883c6a83201aee0f49fed475783bc2e22957be9074f9d51541769"), looks := true }, kinds := [], alts := [], laidByText := true, laidKinds := [.data], laidTests := true, laidLooks := .later }
def PlanCoversCardSaid : Prop := Claim7.holds Tryd.pinned (.plain (OpenSpec.ofChange planCoversSpec)) planCoversCard

/-- THE TIED CARD OF 'colanderlaw22.PlanOrders'. -/
def planOrdersCard : Claim7 := { stood := { row := planOrdersRow, standIns := [], harness := (true, "927ef572449883c6a83201aee0f49fed475783bc2e22957be9074f9d51541769"), looks := true }, kinds := [], alts := [], laidByText := true, laidKinds := [.data], laidTests := true, laidLooks := .later }
def PlanOrdersCardSaid : Prop := Claim7.holds Tryd.pinned (.plain (OpenSpec.ofChange planOrdersSpec)) planOrdersCard

/-- THE TIED CARD OF 'colanderlaw22.PlanBounds'. -/
def planBoundsCard : Claim7 := { stood := { row := planBoundsRow, standIns := [], harness := (true, "927ef572449883c6a83201aee0f49fed475783bc2e22957be9074f9d51541769"), looks := true }, kinds := [], alts := [], laidByText := true, laidKinds := [.data], laidTests := true, laidLooks := .later }
def PlanBoundsCardSaid : Prop := Claim7.holds Tryd.pinned (.plain (OpenSpec.ofChange planBoundsSpec)) planBoundsCard

/-- THE TIED CARD OF 'colanderlaw22.PlanLeast'. -/
def planLeastCard : Claim7 := { stood := { row := planLeastRow, standIns := [], harness := (true, "927ef572449883c6a83201aee0f49fed475783bc2e22957be9074f9d51541769"), looks := true }, kinds := [], alts := [], laidByText := true, laidKinds := [.data], laidTests := true, laidLooks := .later }
def PlanLeastCardSaid : Prop := Claim7.holds Tryd.pinned (.plain (OpenSpec.ofChange planLeastSpec)) planLeastCard

/-- THE TIED CARD OF 'colanderlaw22.PlanCosts'. -/
def planCostsCard : Claim7 := { stood := { row := planCostsRow, standIns := [], harness := (true, "927ef572449883c6a83201aee0f49fed475783bc2e22957be9074f9d51541769"), looks := true }, kinds := [], alts := [], laidByText := true, laidKinds := [.data], laidTests := true, laidLooks := .later }
def PlanCostsCardSaid : Prop := Claim7.holds Tryd.pinned (.plain (OpenSpec.ofChange planCostsSpec)) planCostsCard

/-- THE TIED CARD OF 'colanderlaw22.PlanHangs'. -/
def planHangsCard : Claim7 := { stood := { row := planHangsRow, standIns := [], harness := (true, "927ef572449883c6a83201aee0f49fed475783bc2e22957be9074f9d51541769"), looks := true }, kinds := [], alts := [], laidByText := true, laidKinds := [.data, .data], laidTests := true, laidLooks := .later }
def PlanHangsCardSaid : Prop := Claim7.holds Tryd.pinned (.plain (OpenSpec.ofChange planHangsSpec)) planHangsCard

/-- THE SECOND FORM's CARD OF 'colanderlaw22.PlanCovers'. -/
def planCoversUptoCard : Claim7 := { stood := { row := planCoversUptoRow, standIns := [], harness := (true, "927ef572449883c6a83201aee0f49fed475783bc2e22957be9074f9d51541769"), looks := true }, kinds := [], alts := [], laidByText := true, laidKinds := [.data], laidTests := true, laidLooks := .later }
def PlanCoversUptoCardSaid : Prop := Claim7.holds Tryd.pinned (.plain (OpenSpec.upto planCoversSpec)) planCoversUptoCard

/-- THE SECOND FORM's CARD OF 'colanderlaw22.PlanOrders'. -/
def planOrdersUptoCard : Claim7 := { stood := { row := planOrdersUptoRow, standIns := [], harness := (true, "927ef572449883c6a83201aee0f49fed475783bc2e22957be9074f9d51541769"), looks := true }, kinds := [], alts := [], laidByText := true, laidKinds := [.data], laidTests := true, laidLooks := .later }
def PlanOrdersUptoCardSaid : Prop := Claim7.holds Tryd.pinned (.plain (OpenSpec.upto planOrdersSpec)) planOrdersUptoCard

/-- THE SECOND FORM's CARD OF 'colanderlaw22.PlanBounds'. -/
def planBoundsUptoCard : Claim7 := { stood := { row := planBoundsUptoRow, standIns := [], harness := (true, "927ef572449883c6a83201aee0f49fed475783bc2e22957be9074f9d51541769"), looks := true }, kinds := [], alts := [], laidByText := true, laidKinds := [.data], laidTests := true, laidLooks := .later }
def PlanBoundsUptoCardSaid : Prop := Claim7.holds Tryd.pinned (.plain (OpenSpec.upto planBoundsSpec)) planBoundsUptoCard

/-- THE SECOND FORM's CARD OF 'colanderlaw22.PlanLeast'. -/
def planLeastUptoCard : Claim7 := { stood := { row := planLeastUptoRow, standIns := [], harness := (true, "927ef572449883c6a83201aee0f49fed475783bc2e22957be9074f9d51541769"), looks := true }, kinds := [], alts := [], laidByText := true, laidKinds := [.data], laidTests := true, laidLooks := .later }
def PlanLeastUptoCardSaid : Prop := Claim7.holds Tryd.pinned (.plain (OpenSpec.upto planLeastSpec)) planLeastUptoCard

/-- THE SECOND FORM's CARD OF 'colanderlaw22.PlanCosts'. -/
def planCostsUptoCard : Claim7 := { stood := { row := planCostsUptoRow, standIns := [], harness := (true, "927ef572449883c6a83201aee0f49fed475783bc2e22957be9074f9d51541769"), looks := true }, kinds := [], alts := [], laidByText := true, laidKinds := [.data], laidTests := true, laidLooks := .later }
def PlanCostsUptoCardSaid : Prop := Claim7.holds Tryd.pinned (.plain (OpenSpec.upto planCostsSpec)) planCostsUptoCard

/-- THE SECOND FORM's CARD OF 'colanderlaw22.PlanHangs'. -/
def planHangsUptoCard : Claim7 := { stood := { row := planHangsUptoRow, standIns := [], harness := (true, "927ef572449883c6a83201aee0f49fed475783bc2e22957be9074f9d51541769"), looks := true }, kinds := [], alts := [], laidByText := true, laidKinds := [.data, .data], laidTests := true, laidLooks := .later }
def PlanHangsUptoCardSaid : Prop := Claim7.holds Tryd.pinned (.plain (OpenSpec.upto planHangsSpec)) planHangsUptoCard
end Rows
end Go.Proofs.YtdmfhlfhlflakaaDoor
