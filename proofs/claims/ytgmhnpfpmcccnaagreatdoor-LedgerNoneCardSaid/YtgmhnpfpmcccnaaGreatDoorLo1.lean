/- The types lie as they should: a part of them, by the kernel. -/
import Derived.Test.YtgmhnpfpmcccnaaGreatDoorRows
import Derived.KernelRfl
set_option maxRecDepth 100000
set_option maxHeartbeats 4000000
namespace Go.Proofs.YtgmhnpfpmcccnaaGreatDoor
open Go
theorem lo60 : ((List.range' 60 60).all (rowFine Tryz.pinned.checked.prog)) = true := by kernel_rfl
theorem lo180 : ((List.range' 180 60).all (rowFine Tryz.pinned.checked.prog)) = true := by kernel_rfl
theorem lo300 : ((List.range' 300 60).all (rowFine Tryz.pinned.checked.prog)) = true := by kernel_rfl
theorem lo420 : ((List.range' 420 60).all (rowFine Tryz.pinned.checked.prog)) = true := by kernel_rfl
theorem lo540 : ((List.range' 540 60).all (rowFine Tryz.pinned.checked.prog)) = true := by kernel_rfl
theorem lo660 : ((List.range' 660 55).all (rowFine Tryz.pinned.checked.prog)) = true := by kernel_rfl
end Go.Proofs.YtgmhnpfpmcccnaaGreatDoor
