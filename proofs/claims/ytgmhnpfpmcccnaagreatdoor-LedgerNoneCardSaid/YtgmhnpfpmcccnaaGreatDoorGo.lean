/- The evaluator over this seat's program. -/
import Derived.Test.YtgmhnpfpmcccnaaGreatDoorEvWg
import Derived.Test.YtgmhnpfpmcccnaaGreatDoorProg
import Derived.KernelRfl
import Derived.OpenShut
set_option linter.all false
set_option maxRecDepth 100000
namespace Go.Proofs.YtgmhnpfpmcccnaaGreatDoor
open Go Go.Ev Go.RowKit Go.ChangeShapes Go.WideShapes Go.ChangeMaps
noncomputable def C0 : Cfg := ⟨Tryz.prog, fun f => Nat.testBit 597953467515494546420515435709204900381458585667026033378655560053731291948926379496821331703041807916082367683472570926494260676151365449136895237784573064103025486729761250025988762738475110760448 f, (cloneMext 378 noMext)⟩
noncomputable def run0 (C : Cfg) (ext : Ext) (f : FuncId) (a : List AV) : Bool := callG C ext 100000 1000 false f a St.empty fun _ v _ => boolK v fun b => b
theorem mixed : C0.P.follows .mixedOrders = true := by kernel_rfl
theorem mext0 : MextOk C0.P C0.mext := (cloneMext_ok noMext_ok Tryz.func378 (by kernel_rfl) (by kernel_rfl) (by kernel_rfl) (by kernel_rfl))
theorem none_ok : ExtOk C0.P (fun _ _ => none) := fun _ _ _ h => by cases h
def extL : Ext := (libExt 400 sameH (libExt 544 cmpH (libExt 593 countH (byteExt 545))))
theorem extL_ok : ExtOk C0.P extL := (libExt_ok (libExt_ok (libExt_ok (byteExt_ok Tryz.func545 (by kernel_rfl) (by kernel_rfl) (by kernel_rfl) (by kernel_rfl)) Tryz.func593 (by kernel_rfl) (by kernel_rfl) (by kernel_rfl) (by kernel_rfl) countH_ok) Tryz.func544 (by kernel_rfl) (by kernel_rfl) (by kernel_rfl) (by kernel_rfl) cmpH_ok) Tryz.func400 (by kernel_rfl) (by kernel_rfl) (by kernel_rfl) (by kernel_rfl) sameH_ok)
/-- A call that the evaluator says yes of. -/
theorem run0_true {C : Cfg} {ext : Ext} (hP : C.P = Tryz.prog) (hm : C.P.follows .mixedOrders = true) (hE : ExtOk C.P ext) (hM : MextOk C.P C.mext) {f : FuncId} {args : List AV} {vs : Array Value} (W : World) (ha : ∀ G st w, RepL G st w args vs.toList) (h : run0 C ext f args = true) (hx : hasBody C.P f = true) :
    Calls Tryz.prog f vs W fun e W' => e = .returned (.bool true) ∧ Below W.heap.size W W' := by
  rw [← hP]
  exact callG_bool (C := C) (rounds := 100000) (n := 999) hm hE hM (Below.refl _ _) ha h hx
end Go.Proofs.YtgmhnpfpmcccnaaGreatDoor
