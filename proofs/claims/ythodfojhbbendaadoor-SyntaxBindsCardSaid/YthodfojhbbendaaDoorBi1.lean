/- SyntaxBinds: the evaluator's yes at each pair of residues, part 1. -/
import Derived.Test.YthodfojhbbendaaDoorGo
namespace Go.Proofs.YthodfojhbbendaaDoor
open Go Go.Ev
theorem binds0 : (List.range 11).all (fun s => binds 0 (Int.ofNat s)) = true := by kernel_rfl
theorem binds1 : (List.range 11).all (fun s => binds 1 (Int.ofNat s)) = true := by kernel_rfl
theorem binds2 : (List.range 11).all (fun s => binds 2 (Int.ofNat s)) = true := by kernel_rfl
theorem binds3 : (List.range 11).all (fun s => binds 3 (Int.ofNat s)) = true := by kernel_rfl
theorem binds4 : (List.range 11).all (fun s => binds 4 (Int.ofNat s)) = true := by kernel_rfl
theorem binds5 : (List.range 11).all (fun s => binds 5 (Int.ofNat s)) = true := by kernel_rfl
end Go.Proofs.YthodfojhbbendaaDoor
