/- PlanOnly: the evaluator's yes at each residue of the kind, part 3. -/
import Derived.Test.YthodfojhbbendaaGreatDoorGo
import Derived.Test.YthodfojhbbendaaGreatDoorOnly
namespace Go.Proofs.YthodfojhbbendaaGreatDoor
open Go Go.Ev
theorem only1at4 : (List.range 8).all (fun i => only strL strA (Int.ofNat (32 + i))) = true := by kernel_rfl
theorem only1at5 : (List.range 8).all (fun i => only strL strA (Int.ofNat (40 + i))) = true := by kernel_rfl
theorem only1at6 : (List.range 8).all (fun i => only strL strA (Int.ofNat (48 + i))) = true := by kernel_rfl
theorem only1at7 : (List.range 8).all (fun i => only strL strA (Int.ofNat (56 + i))) = true := by kernel_rfl
theorem only2at0 : (List.range 8).all (fun i => only strS strL (Int.ofNat (0 + i))) = true := by kernel_rfl
theorem only2at1 : (List.range 8).all (fun i => only strS strL (Int.ofNat (8 + i))) = true := by kernel_rfl
end Go.Proofs.YthodfojhbbendaaGreatDoor
