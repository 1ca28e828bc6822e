/- SessionNone: THE CARD: whatever the arguments are, the law answers true, and its arguments and the listed variables read as before; what the row lists is tied to the program's text. -/
import Derived.Test.YtgmhnpfpmcccnaaGreatDoorRowSessionNone
import Derived.Test.YtgmhnpfpmcccnaaGreatDoorCbSessionNone
import Derived.Test.YtgmhnpfpmcccnaaGreatDoorCards
import Derived.Test.YtgmhnpfpmcccnaaGreatDoorTi1
import Derived.SevenTiedAt
set_option linter.all false
set_option maxHeartbeats 4000000
namespace Go.Proofs.YtgmhnpfpmcccnaaGreatDoor
open Go

/-- The tied card. -/
theorem sessionNone_card_holds : Rows.SessionNoneCardSaid :=
  Claim7.holds_tied_plain_at .later [] [.sentinel, .sentinel, .data, .data, .data, .pinned, .data] true (true, "9097cbd9d5dc3491e61bb78214419a3ad85228a661aa7dcc9d86c42fb9c457d6") true
    sessionNone.holds (fun _ h => by cases h) sessionNone_c1 (fun _ h => by cases h) sessionNone_row_tie rfl ⟨rfl, rfl⟩ sessionNone_c2 rfl
    (fun f fn hf hfn => by
      obtain rfl : f = 3 := Option.some.inj (sessionNone.named_.symm.trans hf) |>.symm
      obtain rfl : fn = Tryz.f3 := (Option.some.inj (Tryz.func3.symm.trans hfn)).symm
      exact ⟨sessionNone_c3, fun j t ht => by
        rcases sessionNone_params j t ht with rfl | rfl
        · exact sessionNone_s3
        · exact sessionNone_s9⟩)
    sessionNone_c4
#print axioms sessionNone_card_holds
end Go.Proofs.YtgmhnpfpmcccnaaGreatDoor
