/-
  DERIVED. GIVEN WITH THE SEED: THE CARDS: each row of YthodfojhbbendaaGreatDoorRows.lean that lists a variable, with what it lists TIED to the program's text (the seventh form; the later family's looks); each row that meets fmt, with fmt's text TOLD by the authors' own Lean function (tested against real Go, not proved from fmt's source: count such statements apart). THE CARD IS WHAT COUNTS. Prove the row's statement (the work); the ties are given (YthodfojhbbendaaGreatDoorTie.lean); close each card by the builder's one call (the guide's Derived/Test/ToyasCard.lean, 'card_holds'). Laid BY PROGRAM, IN A SANDBOX (cutbox-door.mjs). By AI agents, Wed Nov 11 2026. No macro, syntax, notation, axiom, sorry.
-/
import Derived.Test.YthodfojhbbendaaGreatDoorRows
import GoSem.ClaimSeven
namespace Go.Proofs.YthodfojhbbendaaGreatDoor
namespace Rows

/-- THE TIED CARD OF 'parchmentlaw19.PlanChooses'. -/
def planChoosesCard : Claim7 := { stood := { row := planChoosesRow, standIns := [], harness := (true, "d4c8e5175d26928ad2a8b10e307c92aff6d2c18f157b19c70d8af1af159ef94e"), looks := true }, kinds := [], alts := [], laidByText := true, laidKinds := [.data, .data, .data, .data, .sentinel, .sentinel, .pinned], laidTests := true, laidLooks := .later }
def PlanChoosesCardSaid : Prop := Claim7.holds Tryz.pinned (.plain (OpenSpec.ofChange planChoosesSpec)) planChoosesCard

/-- THE TIED CARD OF 'parchmentlaw19.PlanOnly'. -/
def planOnlyCard : Claim7 := { stood := { row := planOnlyRow, standIns := [], harness := (true, "d4c8e5175d26928ad2a8b10e307c92aff6d2c18f157b19c70d8af1af159ef94e"), looks := true }, kinds := [], alts := [], laidByText := true, laidKinds := [.data, .data, .data, .data, .sentinel, .sentinel, .pinned], laidTests := true, laidLooks := .later }
def PlanOnlyCardSaid : Prop := Claim7.holds Tryz.pinned (.plain (OpenSpec.ofChange planOnlySpec)) planOnlyCard

/-- THE TIED CARD OF 'parchmentlaw19.PlanMisses'. -/
def planMissesCard : Claim7 := { stood := { row := planMissesRow, standIns := [], harness := (true, "d4c8e5175d26928ad2a8b10e307c92aff6d2c18f157b19c70d8af1af159ef94e"), looks := true }, kinds := [], alts := [], laidByText := true, laidKinds := [.data, .data, .data, .data, .sentinel, .sentinel, .pinned], laidTests := true, laidLooks := .later }
def PlanMissesCardSaid : Prop := Claim7.holds Tryz.pinned (.plain (OpenSpec.ofChange planMissesSpec)) planMissesCard

/-- THE TIED CARD OF 'parchmentlaw13.CheckStmts'. -/
def checkStmtsCard : Claim7 := { stood := { row := checkStmtsRow, standIns := [], harness := (true, "d4c8e5175d26928ad2a8b10e307c92aff6d2c18f157b19c70d8af1af159ef94e"), looks := true }, kinds := [], alts := [], laidByText := true, laidKinds := [.data, .data, .data, .sentinel, .sentinel], laidTests := true, laidLooks := .later }
def CheckStmtsCardSaid : Prop := Claim7.holds Tryz.pinned (.plain (OpenSpec.ofChange checkStmtsSpec)) checkStmtsCard

/-- THE TIED CARD OF 'parchmentlaw19.PlanSpans'. -/
def planSpansCard : Claim7 := { stood := { row := planSpansRow, standIns := [], harness := (true, "d4c8e5175d26928ad2a8b10e307c92aff6d2c18f157b19c70d8af1af159ef94e"), looks := true }, kinds := [], alts := [], laidByText := true, laidKinds := [.data, .data, .data, .data, .sentinel, .sentinel, .pinned], laidTests := true, laidLooks := .later }
def PlanSpansCardSaid : Prop := Claim7.holds Tryz.pinned (.plain (OpenSpec.ofChange planSpansSpec)) planSpansCard

/-- THE TIED CARD OF 'parchmentlaw18.EvalTruths'. -/
def evalTruthsCard : Claim7 := { stood := { row := evalTruthsRow, standIns := [], harness := (true, "d4c8e5175d26928ad2a8b10e307c92aff6d2c18f157b19c70d8af1af159ef94e"), looks := true }, kinds := [], alts := [], laidByText := true, laidKinds := [.data, .data, .data, .data, .sentinel, .sentinel, .pinned], laidTests := true, laidLooks := .later }
def EvalTruthsCardSaid : Prop := Claim7.holds Tryz.pinned (.plain (OpenSpec.ofChange evalTruthsSpec)) evalTruthsCard

/-- THE SECOND FORM's CARD OF 'parchmentlaw19.PlanChooses'. -/
def planChoosesUptoCard : Claim7 := { stood := { row := planChoosesUptoRow, standIns := [], harness := (true, "d4c8e5175d26928ad2a8b10e307c92aff6d2c18f157b19c70d8af1af159ef94e"), looks := true }, kinds := [], alts := [], laidByText := true, laidKinds := [.data, .data, .data, .data, .sentinel, .sentinel, .pinned], laidTests := true, laidLooks := .later }
def PlanChoosesUptoCardSaid : Prop := Claim7.holds Tryz.pinned (.plain (OpenSpec.upto planChoosesSpec)) planChoosesUptoCard

/-- THE SECOND FORM's CARD OF 'parchmentlaw19.PlanOnly'. -/
def planOnlyUptoCard : Claim7 := { stood := { row := planOnlyUptoRow, standIns := [], harness := (true, "d4c8e5175d26928ad2a8b10e307c92aff6d2c18f157b19c70d8af1af159ef94e"), looks := true }, kinds := [], alts := [], laidByText := true, laidKinds := [.data, .data, .data, .data, .sentinel, .sentinel, .pinned], laidTests := true, laidLooks := .later }
def PlanOnlyUptoCardSaid : Prop := Claim7.holds Tryz.pinned (.plain (OpenSpec.upto planOnlySpec)) planOnlyUptoCard

/-- THE SECOND FORM's CARD OF 'parchmentlaw19.PlanMisses'. -/
def planMissesUptoCard : Claim7 := { stood := { row := planMissesUptoRow, standIns := [], harness := (true, "d4c8e5175d26928ad2a8b10e307c92aff6d2c18f157b19c70d8af1af159ef94e"), looks := true }, kinds := [], alts := [], laidByText := true, laidKinds := [.data, .data, .data, .data, .sentinel, .sentinel, .pinned], laidTests := true, laidLooks := .later }
def PlanMissesUptoCardSaid : Prop := Claim7.holds Tryz.pinned (.plain (OpenSpec.upto planMissesSpec)) planMissesUptoCard

/-- THE SECOND FORM's CARD OF 'parchmentlaw13.CheckStmts'. -/
def checkStmtsUptoCard : Claim7 := { stood := { row := checkStmtsUptoRow, standIns := [], harness := (true, "d4c8e5175d26928ad2a8b10e307c92aff6d2c18f157b19c70d8af1af159ef94e"), looks := true }, kinds := [], alts := [], laidByText := true, laidKinds := [.data, .data, .data, .sentinel, .sentinel], laidTests := true, laidLooks := .later }
def CheckStmtsUptoCardSaid : Prop := Claim7.holds Tryz.pinned (.plain (OpenSpec.upto checkStmtsSpec)) checkStmtsUptoCard

/-- THE SECOND FORM's CARD OF 'parchmentlaw19.PlanSpans'. -/
def planSpansUptoCard : Claim7 := { stood := { row := planSpansUptoRow, standIns := [], harness := (true, "d4c8e5175d26928ad2a8b10e307c92aff6d2c18f157b19c70d8af1af159ef94e"), looks := true }, kinds := [], alts := [], laidByText := true, laidKinds := [.data, .data, .data, .data, .sentinel, .sentinel, .pinned], laidTests := true, laidLooks := .later }
def PlanSpansUptoCardSaid : Prop := Claim7.holds Tryz.pinned (.plain (OpenSpec.upto planSpansSpec)) planSpansUptoCard

/-- THE SECOND FORM's CARD OF 'parchmentlaw18.EvalTruths'. -/
def evalTruthsUptoCard : Claim7 := { stood := { row := evalTruthsUptoRow, standIns := [], harness := (true, "d4c8e5175d26928ad2a8b10e307c92aff6d2c18f157b19c70d8af1af159ef94e"), looks := true }, kinds := [], alts := [], laidByText := true, laidKinds := [.data, .data, .data, .data, .sentinel, .sentinel, .pinned], laidTests := true, laidLooks := .later }
def EvalTruthsUptoCardSaid : Prop := Claim7.holds Tryz.pinned (.plain (OpenSpec.upto evalTruthsSpec)) evalTruthsUptoCard
end Rows
end Go.Proofs.YthodfojhbbendaaGreatDoor
