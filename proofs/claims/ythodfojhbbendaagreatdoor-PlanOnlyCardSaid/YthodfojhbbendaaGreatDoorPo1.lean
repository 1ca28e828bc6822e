/- PlanOnly: the evaluator's yes at each residue of the kind, part 1. -/
import Derived.Test.YthodfojhbbendaaGreatDoorGo
import Derived.Test.YthodfojhbbendaaGreatDoorOnly
namespace Go.Proofs.YthodfojhbbendaaGreatDoor
open Go Go.Ev
theorem only0at0 : (List.range 8).all (fun i => only strS strS (Int.ofNat (0 + i))) = true := by kernel_rfl
theorem only0at1 : (List.range 8).all (fun i => only strS strS (Int.ofNat (8 + i))) = true := by kernel_rfl
theorem only0at2 : (List.range 8).all (fun i => only strS strS (Int.ofNat (16 + i))) = true := by kernel_rfl
theorem only0at3 : (List.range 8).all (fun i => only strS strS (Int.ofNat (24 + i))) = true := by kernel_rfl
theorem only0at4 : (List.range 8).all (fun i => only strS strS (Int.ofNat (32 + i))) = true := by kernel_rfl
theorem only0at5 : (List.range 8).all (fun i => only strS strS (Int.ofNat (40 + i))) = true := by kernel_rfl
end Go.Proofs.YthodfojhbbendaaGreatDoor
