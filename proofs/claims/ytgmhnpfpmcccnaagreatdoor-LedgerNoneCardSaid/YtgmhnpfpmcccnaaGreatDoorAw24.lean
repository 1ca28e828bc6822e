/- The small check of law 24, told once. -/
import Derived.Test.YtgmhnpfpmcccnaaGreatDoorGx
set_option linter.all false
set_option maxRecDepth 100000
namespace Go.Proofs.YtgmhnpfpmcccnaaGreatDoor
open Go Go.Ev Go.RowKit Go.ChangeShapes Go.WideShapes Go.ChangeMaps
theorem awake24_yes : run0 C0 ext0 22 [] = true := by kernel_rfl
theorem awake24 (w : World) : Calls Tryz.prog 22 #[] w fun e w' => e = .returned (.bool true) ∧ Below w.heap.size w w' := run0_true rfl mixed ext0_ok mext0 w (fun _ _ _ => RepL.nil) awake24_yes (by kernel_rfl)
def extA24 : Ext := knownExt 22 true ext0
theorem extA24_ok : ExtOk C0.P extA24 := knownExt_ok ext0_ok Tryz.func22 (by kernel_rfl) (by kernel_rfl) awake24
end Go.Proofs.YtgmhnpfpmcccnaaGreatDoor
