/- The evaluator with sums told; the law's own small check, told once. -/
import Derived.Test.YtnmjilmelifckaaGreatDoorSuA
import Derived.Test.YtnmjilmelifckaaGreatDoorSuB
set_option linter.all false
namespace Go.Proofs.YtnmjilmelifckaaGreatDoor
open Go Go.Ev Go.EvIns Go.RowKit Go.ChangeShapes Go.WideShapes Go.ChangeMaps
def extA : Ext := tabExt tabA extL
theorem extA_ok : ExtOk C0.P extA := tabExt_ok mixed extL_ok mext0 extL_ok (fun x hx => by simpa using List.all_eq_true.1 tabA_name x hx) tabA_told
def ext0 : Ext := tabExt tabB extA
theorem ext0_ok : ExtOk C0.P ext0 := tabExt_ok mixed extL_ok mext0 extA_ok (fun x hx => by simpa using List.all_eq_true.1 tabB_name x hx) tabB_told
theorem awake_yes : run0 ext0 7 [] = true := by kernel_rfl
theorem awake (w : World) : Calls Tryz.prog 7 #[] w fun e w' => e = .returned (.bool true) ∧ Below w.heap.size w w' := run0_true ext0_ok w (fun _ _ _ => RepL.nil) awake_yes (by kernel_rfl)
def ext1 : Ext := knownExt 7 true ext0
theorem ext1_ok : ExtOk C0.P ext1 := knownExt_ok ext0_ok Tryz.func7 (by kernel_rfl) (by kernel_rfl) awake
noncomputable def go (f : FuncId) (a : List AV) : Bool := run0 ext1 f a
end Go.Proofs.YtnmjilmelifckaaGreatDoor
