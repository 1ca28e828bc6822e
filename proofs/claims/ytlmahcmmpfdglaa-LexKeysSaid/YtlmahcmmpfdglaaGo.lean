/- The evaluator over this seat's program. -/
import Derived.Test.YtlmahcmmpfdglaaEvW
import Derived.Test.YtlmahcmmpfdglaaProg
import Derived.KernelRfl
import Derived.OpenShut
namespace Go.Proofs.Ytlmahcmmpfdglaa
open Go Go.Ev Go.RowKit
noncomputable def C0 : Cfg := ⟨Try.prog, fun _ => false⟩
noncomputable def run0 (ext : Ext) (f : FuncId) (a : List AV) : Bool := callG C0 ext 100000 1000 f a St.empty fun _ v _ => boolK v fun b => b
theorem mixed : C0.P.follows .mixedOrders = true := by kernel_rfl
theorem ext37 : ExtOk C0.P (byteExt 37) := byteExt_ok Try.func37 (by kernel_rfl) (by kernel_rfl) (by kernel_rfl) (by kernel_rfl)

/-- A call that the evaluator says yes of. -/
theorem run0_true {ext : Ext} (hE : ExtOk C0.P ext) {f : FuncId} {args : List AV} {vs : Array Value} (W : World) (ha : ∀ G st w, RepL G st w args vs.toList) (h : run0 ext f args = true) (hx : ext f args = none) :
    Calls Try.prog f vs W fun e W' => e = .returned (.bool true) ∧ Below W.heap.size W W' :=
  callG_true (C := C0) (rounds := 100000) (n := 999) mixed hE (Below.refl _ _) ha h hx

/-- Five words, and the end: asked once. -/
theorem awake_yes : run0 (byteExt 37) 11 [] = true := by kernel_rfl
theorem awake (w : World) : Calls Try.prog 11 #[] w fun e w' => e = .returned (.bool true) ∧ Below w.heap.size w w' := run0_true ext37 w (fun _ _ _ => RepL.nil) awake_yes rfl
def ext1 : Ext := knownExt 11 true (byteExt 37)
theorem ext1_ok : ExtOk C0.P ext1 := knownExt_ok ext37 Try.func11 (by kernel_rfl) (by kernel_rfl) awake
noncomputable def go (f : FuncId) (a : List AV) : Bool := run0 ext1 f a
end Go.Proofs.Ytlmahcmmpfdglaa
