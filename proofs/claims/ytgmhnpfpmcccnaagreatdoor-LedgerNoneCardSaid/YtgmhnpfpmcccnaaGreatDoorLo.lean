/- The program's types, variables and parameters lie as they should. -/
import Derived.Test.YtgmhnpfpmcccnaaGreatDoorLo0
import Derived.Test.YtgmhnpfpmcccnaaGreatDoorLo1
set_option maxRecDepth 100000
set_option maxHeartbeats 4000000
namespace Go.Proofs.YtgmhnpfpmcccnaaGreatDoor
open Go
theorem loJoin {p : Nat → Bool} {a n m : Nat} (h1 : ((List.range' a n).all p) = true) (h2 : ((List.range' (a + n) m).all p) = true) : ((List.range' a (n + m)).all p) = true := by
  rw [← List.range'_append_1, List.all_append, h1, h2]
  rfl
theorem loSize : Tryz.pinned.checked.prog.types.size = 715 := by kernel_rfl
theorem loGlobals : (Tryz.pinned.checked.prog.globals.all (fun g => decide (g.type < 715))) = true := by kernel_rfl
theorem loFuncs : (Tryz.pinned.checked.prog.funcs.all (fun f => f.params.all fun t => decide (t < 715))) = true := by kernel_rfl
theorem loTypes : ((List.range' 0 715).all (rowFine Tryz.pinned.checked.prog)) = true := (loJoin (loJoin (loJoin (loJoin (loJoin (loJoin (loJoin (loJoin (loJoin (loJoin (loJoin lo0 lo60) lo120) lo180) lo240) lo300) lo360) lo420) lo480) lo540) lo600) lo660)
theorem laidOut : laidOutB Tryz.pinned.checked.prog = true := by
  unfold laidOutB
  rw [loSize, List.range_eq_range', loTypes, loGlobals, loFuncs]
  rfl
end Go.Proofs.YtgmhnpfpmcccnaaGreatDoor
