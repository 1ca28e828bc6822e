/- LedgerNone: the row, out of the walk: whatever the arguments are, the law answers true, and all reads as before. Conditions: the row's own (the listed variables lie as the program's text lays them). -/
import Derived.Test.YtgmhnpfpmcccnaaGreatDoorRows
import Derived.Test.YtgmhnpfpmcccnaaGreatDoorWalkLedgerNone
import Derived.Test.YtgmhnpfpmcccnaaGreatDoorRwLedgerNone
import Derived.Test.YtgmhnpfpmcccnaaGreatDoorLo
import Derived.Test.YtgmhnpfpmcccnaaGreatDoorClLedgerNone
import Derived.Test.YtgmhnpfpmcccnaaGreatDoorFaLedgerNoneA
import Derived.Test.YtgmhnpfpmcccnaaGreatDoorFaLedgerNoneB
import Derived.Test.YtgmhnpfpmcccnaaGreatDoorFaLedgerNoneC
import Derived.WalkKit
import Derived.ProofKit
import Derived.Lay
import Derived.LaidOnce
import Derived.OpenShut
import Derived.ShutString
import Derived.ChangeOld
import Derived.Below
import Derived.Stop.Joined
set_option maxHeartbeats 4000000
namespace Go.Proofs.YtgmhnpfpmcccnaaGreatDoor.ledgerNone
open Go.ChangeShapes Go.WideShapes Go.ChangeAt Go.WideMaps Go.WideElems Go.RowKit
open Go.ChangeMaps (open_string shut_string)
open Go
theorem fact1 : (laidOutB Tryz.pinned.checked.prog) = true := laidOut
theorem and2 {a b : Bool} (h : a = true) (k : b = true) : (a && b) = true := by rw [h, k]; rfl
set_option maxRecDepth 100000 in
theorem closed : joinedFacts Tryz.pinned.checked.prog 5 Tryz.f5 Rows.ledgerNoneSpec Rows.ledgerNoneRow = true := by
  unfold joinedFacts
  exact (and2 (and2 (and2 (and2 (and2 (and2 (and2 (and2 (and2 (and2 (and2 (and2 (and2 (and2 (and2 (and2 (and2 (and2 (and2 (and2 (and2 (and2 (and2 (and2 (and2 (and2 (and2 (and2 (and2 (and2 (and2 fact0 fact1) fact2) fact3) fact4) fact5) fact6) fact7) fact8) fact9) fact10) fact11) fact12) fact13) fact14) fact15) fact16) fact17) fact18) fact19) fact20) fact21) fact22) fact23) fact24) fact25) fact26) fact27) fact28) fact29) fact30) fact31)
theorem named_ : Tryz.pinned.checked.prog.funcNamed Rows.ledgerNoneRow.func = some 5 := by kernel_rfl
theorem inst_ : Tryz.f5.isInstance Tryz.pinned.checked.prog Rows.ledgerNoneRow.origin Rows.ledgerNoneRow.targs := of_decide_eq_true (by kernel_rfl)
theorem wrap_ : Tryz.f5.isWrapper Tryz.pinned.checked.prog Rows.ledgerNoneRow.wrapper Rows.ledgerNoneRow.mainSum := by
  unfold Func.isWrapper; first | (rw [if_pos (by decide +kernel)]; kernel_rfl) | (rw [if_neg (by decide +kernel)]; exact ⟨rfl, rfl⟩)
theorem holds : Rows.LedgerNoneSaid :=
  OpenClaim.holds_of_wide 5 Tryz.f5 rfl rfl rfl rfl rfl rfl rfl ⟨rfl, rfl, rfl, rfl, rfl⟩ rfl rfl rfl rfl rfl named_ Tryz.func5 closed
    inst_ wrap_
    (fun os started H enc _ => lifted os started H enc)
end Go.Proofs.YtgmhnpfpmcccnaaGreatDoor.ledgerNone
