/- The evaluator over this seat's program. -/
import Derived.Test.YthodfojhbbendaaDoorEvW
import Derived.Test.YthodfojhbbendaaDoorProg
import Derived.KernelRfl
import Derived.OpenShut
namespace Go.Proofs.YthodfojhbbendaaDoor
open Go Go.Ev Go.RowKit Go.ChangeShapes Go.WideShapes Go.ChangeMaps
noncomputable def C0 : Cfg := ⟨Tryd.prog, fun _ => false⟩
noncomputable def run0 (ext : Ext) (f : FuncId) (a : List AV) : Bool := callG C0 ext 100000 1000 f a St.empty fun _ v _ => boolK v fun b => b
theorem mixed : C0.P.follows .mixedOrders = true := by kernel_rfl
theorem ext84 : ExtOk C0.P (byteExt 84) := byteExt_ok Tryd.func84 (by kernel_rfl) (by kernel_rfl) (by kernel_rfl) (by kernel_rfl)

/-- A call that the evaluator says yes of. -/
theorem run0_true {ext : Ext} (hE : ExtOk C0.P ext) {f : FuncId} {args : List AV} {vs : Array Value} (W : World) (ha : ∀ G st w, RepL G st w args vs.toList) (h : run0 ext f args = true) (hx : ext f args = none) :
    Calls Tryd.prog f vs W fun e W' => e = .returned (.bool true) ∧ Below W.heap.size W W' :=
  callG_true (C := C0) (rounds := 100000) (n := 999) mixed hE (Below.refl _ _) ha h hx

/-- AND and OR bind as they must: asked once. -/
theorem awake_yes : run0 (byteExt 84) 9 [] = true := by kernel_rfl
theorem awake (w : World) : Calls Tryd.prog 9 #[] w fun e w' => e = .returned (.bool true) ∧ Below w.heap.size w w' := run0_true ext84 w (fun _ _ _ => RepL.nil) awake_yes rfl
def ext1 : Ext := knownExt 9 true (byteExt 84)
theorem ext1_ok : ExtOk C0.P ext1 := knownExt_ok ext84 Tryd.func9 (by kernel_rfl) (by kernel_rfl) awake

noncomputable def go (f : FuncId) (a : List AV) : Bool := run0 ext1 f a
/-- Any number of 64 bits that leaves r by m. -/
def full (m : Nat) (r : Int) : AV := .resi .i64 m r (-9223372036854775808) 9223372036854775807
theorem full_rep {m : Nat} {n : Int} (h : (Lit.int .i64 n).wf = true) (G : Gh) (st : St) (w : World) : Rep G st w (full m (n % m)) (.int .i64 n) := by
  have := bounds_i64 h
  simp only [full, Rep]
  exact ⟨n, rfl, rfl, this.1, this.2⟩
noncomputable def binds (r s : Int) : Bool := go 3 [full 11 r, full 11 s]
noncomputable def deep (r s : Int) : Bool := go 4 [full 64 r, full 4 s]
end Go.Proofs.YthodfojhbbendaaDoor
