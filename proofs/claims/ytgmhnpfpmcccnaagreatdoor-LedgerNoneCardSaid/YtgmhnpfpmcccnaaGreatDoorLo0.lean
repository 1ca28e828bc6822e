/- The types lie as they should: a part of them, by the kernel. -/
import Derived.Test.YtgmhnpfpmcccnaaGreatDoorRows
import Derived.KernelRfl
set_option maxRecDepth 100000
set_option maxHeartbeats 4000000
namespace Go.Proofs.YtgmhnpfpmcccnaaGreatDoor
open Go
theorem lo0 : ((List.range' 0 60).all (rowFine Tryz.pinned.checked.prog)) = true := by kernel_rfl
theorem lo120 : ((List.range' 120 60).all (rowFine Tryz.pinned.checked.prog)) = true := by kernel_rfl
theorem lo240 : ((List.range' 240 60).all (rowFine Tryz.pinned.checked.prog)) = true := by kernel_rfl
theorem lo360 : ((List.range' 360 60).all (rowFine Tryz.pinned.checked.prog)) = true := by kernel_rfl
theorem lo480 : ((List.range' 480 60).all (rowFine Tryz.pinned.checked.prog)) = true := by kernel_rfl
theorem lo600 : ((List.range' 600 60).all (rowFine Tryz.pinned.checked.prog)) = true := by kernel_rfl
end Go.Proofs.YtgmhnpfpmcccnaaGreatDoor
