/-
  DERIVED. GIVEN WITH THE SEED: THE CARDS: each row of YtnmjilmelifckaaGreatDoorRows.lean that lists a variable, with what it lists TIED to the program's text (the seventh form; the later family's looks); each row that meets fmt, with fmt's text TOLD by the authors' own Lean function (tested against real Go, not proved from fmt's source: count such statements apart). THE CARD IS WHAT COUNTS. Prove the row's statement (the work); the ties are given (YtnmjilmelifckaaGreatDoorTie.lean); close each card by the builder's one call (the guide's Derived/Test/ToyasCard.lean, 'card_holds'). Laid BY PROGRAM, IN A SANDBOX (cutbox-door.mjs). By AI agents, Wed Nov 11 2026. No macro, syntax, notation, axiom, sorry.
-/
import Derived.Test.YtnmjilmelifckaaGreatDoorRows
import GoSem.ClaimSeven
namespace Go.Proofs.YtnmjilmelifckaaGreatDoor
namespace Rows

/-- THE TIED CARD OF 'parchmentlaw21.OccPhantoms'. -/
def occPhantomsCard : Claim7 := { stood := { row := occPhantomsRow, standIns := [], harness := (true, "b45eef7d0ba23afd8c4d5df9acd72eab252cfe1b652da707836f5828004c1466"), looks := true }, kinds := [], alts := [], laidByText := true, laidKinds := [.data, .data, .data, .data, .sentinel, .sentinel, .pinned], laidTests := true, laidLooks := .later }
def OccPhantomsCardSaid : Prop := Claim7.holds Tryz.pinned (.plain (OpenSpec.ofChange occPhantomsSpec)) occPhantomsCard

/-- THE TIED CARD OF 'parchmentlaw21.OccErased'. -/
def occErasedCard : Claim7 := { stood := { row := occErasedRow, standIns := [], harness := (true, "b45eef7d0ba23afd8c4d5df9acd72eab252cfe1b652da707836f5828004c1466"), looks := true }, kinds := [], alts := [], laidByText := true, laidKinds := [.data, .data, .data, .data, .sentinel, .sentinel, .pinned], laidTests := true, laidLooks := .later }
def OccErasedCardSaid : Prop := Claim7.holds Tryz.pinned (.plain (OpenSpec.ofChange occErasedSpec)) occErasedCard

/-- THE TIED CARD OF 'parchmentlaw21.OccNone'. -/
def occNoneCard : Claim7 := { stood := { row := occNoneRow, standIns := [], harness := (true, "b45eef7d0ba23afd8c4d5df9acd72eab252cfe1b652da707836f5828004c1466"), looks := true }, kinds := [], alts := [], laidByText := true, laidKinds := [.data, .data, .data, .data, .sentinel, .sentinel, .pinned], laidTests := true, laidLooks := .later }
def OccNoneCardSaid : Prop := Claim7.holds Tryz.pinned (.plain (OpenSpec.ofChange occNoneSpec)) occNoneCard

/-- THE SECOND FORM's CARD OF 'parchmentlaw21.OccPhantoms'. -/
def occPhantomsUptoCard : Claim7 := { stood := { row := occPhantomsUptoRow, standIns := [], harness := (true, "b45eef7d0ba23afd8c4d5df9acd72eab252cfe1b652da707836f5828004c1466"), looks := true }, kinds := [], alts := [], laidByText := true, laidKinds := [.data, .data, .data, .data, .sentinel, .sentinel, .pinned], laidTests := true, laidLooks := .later }
def OccPhantomsUptoCardSaid : Prop := Claim7.holds Tryz.pinned (.plain (OpenSpec.upto occPhantomsSpec)) occPhantomsUptoCard

/-- THE SECOND FORM's CARD OF 'parchmentlaw21.OccErased'. -/
def occErasedUptoCard : Claim7 := { stood := { row := occErasedUptoRow, standIns := [], harness := (true, "b45eef7d0ba23afd8c4d5df9acd72eab252cfe1b652da707836f5828004c1466"), looks := true }, kinds := [], alts := [], laidByText := true, laidKinds := [.data, .data, .data, .data, .sentinel, .sentinel, .pinned], laidTests := true, laidLooks := .later }
def OccErasedUptoCardSaid : Prop := Claim7.holds Tryz.pinned (.plain (OpenSpec.upto occErasedSpec)) occErasedUptoCard

/-- THE SECOND FORM's CARD OF 'parchmentlaw21.OccNone'. -/
def occNoneUptoCard : Claim7 := { stood := { row := occNoneUptoRow, standIns := [], harness := (true, "b45eef7d0ba23afd8c4d5df9acd72eab252cfe1b652da707836f5828004c1466"), looks := true }, kinds := [], alts := [], laidByText := true, laidKinds := [.data, .data, .data, .data, .sentinel, .sentinel, .pinned], laidTests := true, laidLooks := .later }
def OccNoneUptoCardSaid : Prop := Claim7.holds Tryz.pinned (.plain (OpenSpec.upto occNoneSpec)) occNoneUptoCard
end Rows
end Go.Proofs.YtnmjilmelifckaaGreatDoor
