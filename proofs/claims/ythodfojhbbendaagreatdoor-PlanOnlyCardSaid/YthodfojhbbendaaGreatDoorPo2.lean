/- PlanOnly: the evaluator's yes at each residue of the kind, part 2. -/
import Derived.Test.YthodfojhbbendaaGreatDoorGo
import Derived.Test.YthodfojhbbendaaGreatDoorOnly
namespace Go.Proofs.YthodfojhbbendaaGreatDoor
open Go Go.Ev
theorem only0at6 : (List.range 8).all (fun i => only strS strS (Int.ofNat (48 + i))) = true := by kernel_rfl
theorem only0at7 : (List.range 8).all (fun i => only strS strS (Int.ofNat (56 + i))) = true := by kernel_rfl
theorem only1at0 : (List.range 8).all (fun i => only strL strA (Int.ofNat (0 + i))) = true := by kernel_rfl
theorem only1at1 : (List.range 8).all (fun i => only strL strA (Int.ofNat (8 + i))) = true := by kernel_rfl
theorem only1at2 : (List.range 8).all (fun i => only strL strA (Int.ofNat (16 + i))) = true := by kernel_rfl
theorem only1at3 : (List.range 8).all (fun i => only strL strA (Int.ofNat (24 + i))) = true := by kernel_rfl
end Go.Proofs.YthodfojhbbendaaGreatDoor
