/- SyntaxBinds: the evaluator's yes at each pair of residues, part 2. -/
import Derived.Test.YthodfojhbbendaaDoorGo
namespace Go.Proofs.YthodfojhbbendaaDoor
open Go Go.Ev
theorem binds6 : (List.range 11).all (fun s => binds 6 (Int.ofNat s)) = true := by kernel_rfl
theorem binds7 : (List.range 11).all (fun s => binds 7 (Int.ofNat s)) = true := by kernel_rfl
theorem binds8 : (List.range 11).all (fun s => binds 8 (Int.ofNat s)) = true := by kernel_rfl
theorem binds9 : (List.range 11).all (fun s => binds 9 (Int.ofNat s)) = true := by kernel_rfl
theorem binds10 : (List.range 11).all (fun s => binds 10 (Int.ofNat s)) = true := by kernel_rfl
end Go.Proofs.YthodfojhbbendaaDoor
