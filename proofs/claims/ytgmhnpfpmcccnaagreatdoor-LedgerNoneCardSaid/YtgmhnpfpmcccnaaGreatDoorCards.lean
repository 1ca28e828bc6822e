/-
  DERIVED. GIVEN WITH THE SEED: THE CARDS: each row of YtgmhnpfpmcccnaaGreatDoorRows.lean that lists a variable, with what it lists TIED to the program's text (the seventh form; the later family's looks); each row that meets fmt, with fmt's text TOLD by the authors' own Lean function (tested against real Go, not proved from fmt's source: count such statements apart). THE CARD IS WHAT COUNTS. Prove the row's statement (the work); the ties are given (YtgmhnpfpmcccnaaGreatDoorTie.lean); close each card by the builder's one call (the guide's Derived/Test/ToyasCard.lean, 'card_holds'). Laid BY PROGRAM, IN A SANDBOX (cutbox-door.mjs). By AI agents, Wed Nov 11 2026. No macro, syntax, notation, axiom, sorry.
-/
import Derived.Test.YtgmhnpfpmcccnaaGreatDoorRows
import GoSem.ClaimSeven
namespace Go.Proofs.YtgmhnpfpmcccnaaGreatDoor
namespace Rows

/-- THE TIED CARD OF 'parchmentlaw25.SessionNone'. -/
def sessionNoneCard : Claim7 := { stood := { row := sessionNoneRow, standIns := [], harness := (true, "9097cbd9d5dc3491e61bb78214419a3ad85228a661aa7dcc9d86c42fb9c457d6"), looks := true }, kinds := [], alts := [], laidByText := true, laidKinds := [.sentinel, .sentinel, .data, .data, .data, .pinned, .data], laidTests := true, laidLooks := .later }
def SessionNoneCardSaid : Prop := Claim7.holds Tryz.pinned (.plain (OpenSpec.ofChange sessionNoneSpec)) sessionNoneCard

/-- THE TIED CARD OF 'parchmentlaw24.LedgerTells'. -/
def ledgerTellsCard : Claim7 := { stood := { row := ledgerTellsRow, standIns := [], harness := (true, "9097cbd9d5dc3491e61bb78214419a3ad85228a661aa7dcc9d86c42fb9c457d6"), looks := true }, kinds := [], alts := [], laidByText := true, laidKinds := [.pinned, .data, .sentinel, .sentinel, .data, .data, .data], laidTests := true, laidLooks := .later }
def LedgerTellsCardSaid : Prop := Claim7.holds Tryz.pinned (.plain (OpenSpec.ofChange ledgerTellsSpec)) ledgerTellsCard

/-- THE TIED CARD OF 'parchmentlaw24.LedgerNone'. -/
def ledgerNoneCard : Claim7 := { stood := { row := ledgerNoneRow, standIns := [], harness := (true, "9097cbd9d5dc3491e61bb78214419a3ad85228a661aa7dcc9d86c42fb9c457d6"), looks := true }, kinds := [], alts := [], laidByText := true, laidKinds := [.sentinel, .sentinel, .data, .data, .data, .pinned, .data], laidTests := true, laidLooks := .later }
def LedgerNoneCardSaid : Prop := Claim7.holds Tryz.pinned (.plain (OpenSpec.ofChange ledgerNoneSpec)) ledgerNoneCard

/-- THE TIED CARD OF 'parchmentlaw26.SimNone'. -/
def simNoneCard : Claim7 := { stood := { row := simNoneRow, standIns := [], harness := (true, "9097cbd9d5dc3491e61bb78214419a3ad85228a661aa7dcc9d86c42fb9c457d6"), looks := true }, kinds := [], alts := [], laidByText := true, laidKinds := [.pinned, .data, .sentinel, .sentinel, .data, .data, .data], laidTests := true, laidLooks := .later }
def SimNoneCardSaid : Prop := Claim7.holds Tryz.pinned (.plain (OpenSpec.ofChange simNoneSpec)) simNoneCard

/-- THE TIED CARD OF 'parchmentlaw27.AuditFresh'. -/
def auditFreshCard : Claim7 := { stood := { row := auditFreshRow, standIns := [], harness := (true, "9097cbd9d5dc3491e61bb78214419a3ad85228a661aa7dcc9d86c42fb9c457d6"), looks := true }, kinds := [], alts := [], laidByText := true, laidKinds := [.pinned, .data, .sentinel, .sentinel, .data, .data, .data], laidTests := true, laidLooks := .later }
def AuditFreshCardSaid : Prop := Claim7.holds Tryz.pinned (.plain (OpenSpec.ofChange auditFreshSpec)) auditFreshCard

/-- THE SECOND FORM's CARD OF 'parchmentlaw25.SessionNone'. -/
def sessionNoneUptoCard : Claim7 := { stood := { row := sessionNoneUptoRow, standIns := [], harness := (true, "9097cbd9d5dc3491e61bb78214419a3ad85228a661aa7dcc9d86c42fb9c457d6"), looks := true }, kinds := [], alts := [], laidByText := true, laidKinds := [.sentinel, .sentinel, .data, .data, .data, .pinned, .data], laidTests := true, laidLooks := .later }
def SessionNoneUptoCardSaid : Prop := Claim7.holds Tryz.pinned (.plain (OpenSpec.upto sessionNoneSpec)) sessionNoneUptoCard

/-- THE SECOND FORM's CARD OF 'parchmentlaw24.LedgerTells'. -/
def ledgerTellsUptoCard : Claim7 := { stood := { row := ledgerTellsUptoRow, standIns := [], harness := (true, "9097cbd9d5dc3491e61bb78214419a3ad85228a661aa7dcc9d86c42fb9c457d6"), looks := true }, kinds := [], alts := [], laidByText := true, laidKinds := [.pinned, .data, .sentinel, .sentinel, .data, .data, .data], laidTests := true, laidLooks := .later }
def LedgerTellsUptoCardSaid : Prop := Claim7.holds Tryz.pinned (.plain (OpenSpec.upto ledgerTellsSpec)) ledgerTellsUptoCard

/-- THE SECOND FORM's CARD OF 'parchmentlaw24.LedgerNone'. -/
def ledgerNoneUptoCard : Claim7 := { stood := { row := ledgerNoneUptoRow, standIns := [], harness := (true, "9097cbd9d5dc3491e61bb78214419a3ad85228a661aa7dcc9d86c42fb9c457d6"), looks := true }, kinds := [], alts := [], laidByText := true, laidKinds := [.sentinel, .sentinel, .data, .data, .data, .pinned, .data], laidTests := true, laidLooks := .later }
def LedgerNoneUptoCardSaid : Prop := Claim7.holds Tryz.pinned (.plain (OpenSpec.upto ledgerNoneSpec)) ledgerNoneUptoCard

/-- THE SECOND FORM's CARD OF 'parchmentlaw26.SimNone'. -/
def simNoneUptoCard : Claim7 := { stood := { row := simNoneUptoRow, standIns := [], harness := (true, "9097cbd9d5dc3491e61bb78214419a3ad85228a661aa7dcc9d86c42fb9c457d6"), looks := true }, kinds := [], alts := [], laidByText := true, laidKinds := [.pinned, .data, .sentinel, .sentinel, .data, .data, .data], laidTests := true, laidLooks := .later }
def SimNoneUptoCardSaid : Prop := Claim7.holds Tryz.pinned (.plain (OpenSpec.upto simNoneSpec)) simNoneUptoCard

/-- THE SECOND FORM's CARD OF 'parchmentlaw27.AuditFresh'. -/
def auditFreshUptoCard : Claim7 := { stood := { row := auditFreshUptoRow, standIns := [], harness := (true, "9097cbd9d5dc3491e61bb78214419a3ad85228a661aa7dcc9d86c42fb9c457d6"), looks := true }, kinds := [], alts := [], laidByText := true, laidKinds := [.pinned, .data, .sentinel, .sentinel, .data, .data, .data], laidTests := true, laidLooks := .later }
def AuditFreshUptoCardSaid : Prop := Claim7.holds Tryz.pinned (.plain (OpenSpec.upto auditFreshSpec)) auditFreshUptoCard
end Rows
end Go.Proofs.YtgmhnpfpmcccnaaGreatDoor
