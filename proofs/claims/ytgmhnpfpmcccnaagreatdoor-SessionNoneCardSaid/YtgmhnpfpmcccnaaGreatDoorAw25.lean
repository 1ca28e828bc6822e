/- The small check of law 25, told once. -/
import Derived.Test.YtgmhnpfpmcccnaaGreatDoorGx
set_option linter.all false
set_option maxRecDepth 100000
namespace Go.Proofs.YtgmhnpfpmcccnaaGreatDoor
open Go Go.Ev Go.RowKit Go.ChangeShapes Go.WideShapes Go.ChangeMaps
theorem awake25_yes : run0 C0 ext0 10 [] = true := by kernel_rfl
theorem awake25 (w : World) : Calls Tryz.prog 10 #[] w fun e w' => e = .returned (.bool true) ∧ Below w.heap.size w w' := run0_true rfl mixed ext0_ok mext0 w (fun _ _ _ => RepL.nil) awake25_yes (by kernel_rfl)
def extA25 : Ext := knownExt 10 true ext0
theorem extA25_ok : ExtOk C0.P extA25 := knownExt_ok ext0_ok Tryz.func10 (by kernel_rfl) (by kernel_rfl) awake25
end Go.Proofs.YtgmhnpfpmcccnaaGreatDoor
