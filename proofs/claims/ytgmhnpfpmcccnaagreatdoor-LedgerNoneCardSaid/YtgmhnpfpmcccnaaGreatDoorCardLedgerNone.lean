/- LedgerNone: THE CARD: whatever the arguments are, the law answers true, and its arguments and the listed variables read as before; what the row lists is tied to the program's text. -/
import Derived.Test.YtgmhnpfpmcccnaaGreatDoorRowLedgerNone
import Derived.Test.YtgmhnpfpmcccnaaGreatDoorCbLedgerNone
import Derived.Test.YtgmhnpfpmcccnaaGreatDoorCards
import Derived.Test.YtgmhnpfpmcccnaaGreatDoorTi1
import Derived.SevenTiedAt
set_option linter.all false
set_option maxHeartbeats 4000000
namespace Go.Proofs.YtgmhnpfpmcccnaaGreatDoor
open Go

/-- The tied card. -/
theorem ledgerNone_card_holds : Rows.LedgerNoneCardSaid :=
  Claim7.holds_tied_plain_at .later [] [.sentinel, .sentinel, .data, .data, .data, .pinned, .data] true (true, "9097cbd9d5dc3491e61bb78214419a3ad85228a661aa7dcc9d86c42fb9c457d6") true
    ledgerNone.holds (fun _ h => by cases h) ledgerNone_c1 (fun _ h => by cases h) ledgerNone_row_tie rfl ⟨rfl, rfl⟩ ledgerNone_c2 rfl
    (fun f fn hf hfn => by
      obtain rfl : f = 5 := Option.some.inj (ledgerNone.named_.symm.trans hf) |>.symm
      obtain rfl : fn = Tryz.f5 := (Option.some.inj (Tryz.func5.symm.trans hfn)).symm
      exact ⟨ledgerNone_c3, fun j t ht => by
        rcases ledgerNone_params j t ht with rfl | rfl
        · exact ledgerNone_s9
        · exact ledgerNone_s35⟩)
    ledgerNone_c4
#print axioms ledgerNone_card_holds
end Go.Proofs.YtgmhnpfpmcccnaaGreatDoor
