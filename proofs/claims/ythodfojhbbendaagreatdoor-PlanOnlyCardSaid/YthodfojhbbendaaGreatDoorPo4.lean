/- PlanOnly: the evaluator's yes at each residue of the kind, part 4. -/
import Derived.Test.YthodfojhbbendaaGreatDoorGo
import Derived.Test.YthodfojhbbendaaGreatDoorOnly
namespace Go.Proofs.YthodfojhbbendaaGreatDoor
open Go Go.Ev
theorem only2at2 : (List.range 8).all (fun i => only strS strL (Int.ofNat (16 + i))) = true := by kernel_rfl
theorem only2at3 : (List.range 8).all (fun i => only strS strL (Int.ofNat (24 + i))) = true := by kernel_rfl
theorem only2at4 : (List.range 8).all (fun i => only strS strL (Int.ofNat (32 + i))) = true := by kernel_rfl
theorem only2at5 : (List.range 8).all (fun i => only strS strL (Int.ofNat (40 + i))) = true := by kernel_rfl
theorem only2at6 : (List.range 8).all (fun i => only strS strL (Int.ofNat (48 + i))) = true := by kernel_rfl
theorem only2at7 : (List.range 8).all (fun i => only strS strL (Int.ofNat (56 + i))) = true := by kernel_rfl
end Go.Proofs.YthodfojhbbendaaGreatDoor
