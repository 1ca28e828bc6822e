/-
  DERIVED. GIVEN WITH THE SEED: THE CARDS: each row of YthodfojhbbendaaDoorRows.lean that lists a variable, with what it lists TIED to the program's text (the seventh form; the later family's looks); each row that meets fmt, with fmt's text TOLD by the authors' own Lean function (tested against real Go, not proved from fmt's source: count such statements apart). THE CARD IS WHAT COUNTS. Prove the row's statement (the work); the ties are given (YthodfojhbbendaaDoorTie.lean); close each card by the builder's one call (the guide's Derived/Test/ToyasCard.lean, 'card_holds'). Laid BY PROGRAM, IN A SANDBOX (cutbox-door.mjs). By AI agents, Wed Nov 11 2026. No macro, syntax, notation, axiom, sorry.
-/
import Derived.Test.YthodfojhbbendaaDoorRows
import GoSem.ClaimSeven
namespace Go.Proofs.YthodfojhbbendaaDoor
namespace Rows

/-- THE TIED CARD OF 'parchmentlaw12.SyntaxBinds'. -/
def syntaxBindsCard : Claim7 := { stood := { row := syntaxBindsRow, standIns := [], harness := (true, "69cb5a7f62d3107c2bed19ca21f0a8c3f6cc7638861b5a413ba62869402297af"), looks := true }, kinds := [], alts := [], laidByText := true, laidKinds := [.data, .data, .data, .sentinel, .sentinel], laidTests := true, laidLooks := .later }
def SyntaxBindsCardSaid : Prop := Claim7.holds Tryd.pinned (.plain (OpenSpec.ofChange syntaxBindsSpec)) syntaxBindsCard

/-- THE TIED CARD OF 'parchmentlaw12.SyntaxDeep'. -/
def syntaxDeepCard : Claim7 := { stood := { row := syntaxDeepRow, standIns := [], harness := (true, "69cb5a7f62d3107c2bed19ca21f0a8c3f6cc7638861b5a413ba62869402297af"), looks := true }, kinds := [], alts := [], laidByText := true, laidKinds := [.data, .data, .data, .sentinel, .sentinel], laidTests := true, laidLooks := .later }
def SyntaxDeepCardSaid : Prop := Claim7.holds Tryd.pinned (.plain (OpenSpec.ofChange syntaxDeepSpec)) syntaxDeepCard

/-- THE TIED CARD OF 'parchmentlaw12.SyntaxBlanks'. -/
def syntaxBlanksCard : Claim7 := { stood := { row := syntaxBlanksRow, standIns := [], harness := (true, "69cb5a7f62d3107c2bed19ca21f0a8c3f6cc7638861b5a413ba62869402297af"), looks := true }, kinds := [], alts := [], laidByText := true, laidKinds := [.data, .data, .data, .sentinel, .sentinel], laidTests := true, laidLooks := .later }
def SyntaxBlanksCardSaid : Prop := Claim7.holds Tryd.pinned (.plain (OpenSpec.ofChange syntaxBlanksSpec)) syntaxBlanksCard

/-- THE SECOND FORM's CARD OF 'parchmentlaw12.SyntaxBinds'. -/
def syntaxBindsUptoCard : Claim7 := { stood := { row := syntaxBindsUptoRow, standIns := [], harness := (true, "69cb5a7f62d3107c2bed19ca21f0a8c3f6cc7638861b5a413ba62869402297af"), looks := true }, kinds := [], alts := [], laidByText := true, laidKinds := [.data, .data, .data, .sentinel, .sentinel], laidTests := true, laidLooks := .later }
def SyntaxBindsUptoCardSaid : Prop := Claim7.holds Tryd.pinned (.plain (OpenSpec.upto syntaxBindsSpec)) syntaxBindsUptoCard

/-- THE SECOND FORM's CARD OF 'parchmentlaw12.SyntaxDeep'. -/
def syntaxDeepUptoCard : Claim7 := { stood := { row := syntaxDeepUptoRow, standIns := [], harness := (true, "69cb5a7f62d3107c2bed19ca21f0a8c3f6cc7638861b5a413ba62869402297af"), looks := true }, kinds := [], alts := [], laidByText := true, laidKinds := [.data, .data, .data, .sentinel, .sentinel], laidTests := true, laidLooks := .later }
def SyntaxDeepUptoCardSaid : Prop := Claim7.holds Tryd.pinned (.plain (OpenSpec.upto syntaxDeepSpec)) syntaxDeepUptoCard

/-- THE SECOND FORM's CARD OF 'parchmentlaw12.SyntaxBlanks'. -/
def syntaxBlanksUptoCard : Claim7 := { stood := { row := syntaxBlanksUptoRow, standIns := [], harness := (true, "69cb5a7f62d3107c2bed19ca21f0a8c3f6cc7638861b5a413ba62869402297af"), looks := true }, kinds := [], alts := [], laidByText := true, laidKinds := [.data, .data, .data, .sentinel, .sentinel], laidTests := true, laidLooks := .later }
def SyntaxBlanksUptoCardSaid : Prop := Claim7.holds Tryd.pinned (.plain (OpenSpec.upto syntaxBlanksSpec)) syntaxBlanksUptoCard
end Rows
end Go.Proofs.YthodfojhbbendaaDoor
