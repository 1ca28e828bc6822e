/- The evaluator over this seat's program. -/
import Derived.Test.YthodfojhbbendaaGreatDoorEvWa
import Derived.Test.YthodfojhbbendaaGreatDoorProg
import Derived.KernelRfl
import Derived.OpenShut
namespace Go.Proofs.YthodfojhbbendaaGreatDoor
open Go Go.Ev Go.RowKit Go.ChangeShapes Go.WideShapes Go.ChangeMaps
noncomputable def C0 : Cfg := ⟨Tryz.prog, fun _ => false, noMext⟩
noncomputable def run0 (ext : Ext) (f : FuncId) (a : List AV) : Bool := callG C0 ext 100000 1000 false f a St.empty fun _ v _ => boolK v fun b => b
theorem mixed : C0.P.follows .mixedOrders = true := by kernel_rfl
theorem mext0 : MextOk C0.P C0.mext := noMext_ok
def ext0 : Ext := libExt 198 countH (byteExt 181)
theorem ext0_ok : ExtOk C0.P ext0 := libExt_ok (byteExt_ok Tryz.func181 (by kernel_rfl) (by kernel_rfl) (by kernel_rfl) (by kernel_rfl)) Tryz.func198 (by kernel_rfl) (by kernel_rfl) (by kernel_rfl) (by kernel_rfl) countH_ok

/-- A call that the evaluator says yes of. -/
theorem run0_true {ext : Ext} (hE : ExtOk C0.P ext) {f : FuncId} {args : List AV} {vs : Array Value} (W : World) (ha : ∀ G st w, RepL G st w args vs.toList) (h : run0 ext f args = true) (hx : hasBody C0.P f = true) :
    Calls Tryz.prog f vs W fun e W' => e = .returned (.bool true) ∧ Below W.heap.size W W' :=
  callG_bool (C := C0) (rounds := 100000) (n := 999) mixed hE mext0 (Below.refl _ _) ha h hx

/-- The laws' own small checks: asked once. -/
theorem awake18_yes : run0 ext0 32 [] = true := by kernel_rfl
theorem awake18 (w : World) : Calls Tryz.prog 32 #[] w fun e w' => e = .returned (.bool true) ∧ Below w.heap.size w w' := run0_true ext0_ok w (fun _ _ _ => RepL.nil) awake18_yes (by kernel_rfl)
theorem awake19_yes : run0 ext0 10 [] = true := by kernel_rfl
theorem awake19 (w : World) : Calls Tryz.prog 10 #[] w fun e w' => e = .returned (.bool true) ∧ Below w.heap.size w w' := run0_true ext0_ok w (fun _ _ _ => RepL.nil) awake19_yes (by kernel_rfl)
def ext1 : Ext := knownExt 32 true (knownExt 10 true ext0)
theorem ext1_ok : ExtOk C0.P ext1 := knownExt_ok (knownExt_ok ext0_ok Tryz.func10 (by kernel_rfl) (by kernel_rfl) awake19) Tryz.func32 (by kernel_rfl) (by kernel_rfl) awake18

noncomputable def go (f : FuncId) (a : List AV) : Bool := run0 ext1 f a
/-- Any number of 64 bits that leaves r by m. -/
def full (m : Nat) (r : Int) : AV := .resi .i64 m r (-9223372036854775808) 9223372036854775807
theorem full_rep {m : Nat} {n : Int} (h : (Lit.int .i64 n).wf = true) (G : Gh) (st : St) (w : World) : Rep G st w (full m (n % m)) (.int .i64 n) := by
  have := bounds_i64 h
  simp only [full, Rep]
  exact ⟨n, rfl, rfl, this.1, this.2⟩
noncomputable def truths (r s : Int) : Bool := go 8 [full 4 r, full 4 s]
end Go.Proofs.YthodfojhbbendaaGreatDoor
