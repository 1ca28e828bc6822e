/- SessionNone: what the row says of the program, a part, by the kernel. -/
import Derived.Test.YtgmhnpfpmcccnaaGreatDoorRows
import Derived.WalkKit
import Derived.ProofKit
import Derived.Lay
import Derived.LaidOnce
import Derived.Stop.Joined
set_option maxRecDepth 100000
set_option maxHeartbeats 4000000
namespace Go.Proofs.YtgmhnpfpmcccnaaGreatDoor.sessionNone
open Go
theorem fact0 : (Rows.sessionNoneRow.wf (OpenSpec.ofChange Rows.sessionNoneSpec)) = true := by kernel_rfl
theorem fact2 : (mapsRowed Tryz.pinned.checked.prog) = true := by kernel_rfl
theorem fact3 : (Tryz.f3.params.all (Tryz.pinned.checked.prog.readableRec ·)) = true := by kernel_rfl
theorem fact4 : (namedTie Tryz.pinned.checked.prog Rows.sessionNoneRow.named Rows.sessionNoneSpec.vars) = true := by kernel_rfl
theorem fact5 : ((Rows.sessionNoneRow.stops == [])) = true := by kernel_rfl
theorem fact6 : ((Tryz.pinned.checked.prog.stops == [])) = true := by kernel_rfl
theorem fact7 : ((Rows.sessionNoneRow.knobs == [])) = true := by kernel_rfl
theorem fact8 : ((Tryz.pinned.checked.prog.stopKnobs == [])) = true := by kernel_rfl
end Go.Proofs.YtgmhnpfpmcccnaaGreatDoor.sessionNone
