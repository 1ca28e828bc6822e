/- The evaluator over this seat's program: what is told of strconv, of bytes in texts, of texts' order, of strings, and the law's own small check. -/
import Derived.Test.YthodfojhbbendaaGreatDoorEvHg
import Derived.Test.YthodfojhbbendaaGreatDoorEvWj
import Derived.Test.YthodfojhbbendaaGreatDoorLaid
import Derived.Test.YthodfojhbbendaaGreatDoorProg
import Derived.KernelRfl
import Derived.OpenShut
set_option linter.all false
set_option maxRecDepth 100000
namespace Go.Proofs.YthodfojhbbendaaGreatDoor
open Go Go.Ev
noncomputable section
noncomputable def C0 : Cfg := ⟨Tryz.prog, fun _ => false, raMext 139 0 noMext⟩
theorem mixed0 : C0.P.follows .mixedOrders = true := by kernel_rfl
theorem mext0 : MextOk C0.P C0.mext := raMext_ok (P := Tryz.prog) (ρ := Tryz.laysRA_ren) noMext_ok Tryz.laysRA Tryz.extraRA
theorem extB_ok : ExtOk C0.P (byteExt 181) := byteExt_ok Tryz.func181 (by kernel_rfl) (by kernel_rfl) (by kernel_rfl) (by kernel_rfl)
noncomputable def extP : Ext := libExt 140 cmpH (contExt 37 (parseExt 202 (byteExt 181)))
theorem extP_ok : ExtOk C0.P extP := libExt_ok (contExt_ok (P := Tryz.prog) (ρ := Tryz.laysCo_ren) (parseExt_ok (P := Tryz.prog) (ρ := Tryz.laysPI_ren) extB_ok Tryz.laysPI) Tryz.laysCo) Tryz.func140 (by kernel_rfl) (by kernel_rfl) (by kernel_rfl) (by kernel_rfl) cmpH_ok
/-- The law's own small check: asked once. -/
theorem awake_yes : callK C0 extP 100000 (999 + 1) false 10 [] St.empty (fun _ v _ => isB v) = true := by kernel_rfl
theorem awake (w : World) : Calls Tryz.prog 10 #[] w fun e w' => e = .returned (.bool true) ∧ Go.RowKit.Below w.heap.size w w' :=
  callK_bool (C := C0) (rounds := 100000) (n := 999) mixed0 extP_ok mext0 (Go.RowKit.Below.refl _ _) (fun _ _ _ => RepL.nil) awake_yes (by kernel_rfl)
noncomputable def ext0 : Ext := knownExt 10 true extP
theorem ext0_ok : ExtOk C0.P ext0 := knownExt_ok extP_ok Tryz.func10 (by kernel_rfl) (by kernel_rfl) awake
noncomputable def xawake (R : Nat) : Option Bool := some true
theorem xawake_ok_ext0 (R n : Nat) (st : St) (r : Bool) (h : xawake R = some r) : CallsTo (callK C0 ext0 R (n + 1)) false 10 [] st (.bool r) st := by
  obtain rfl := Option.some.inj h
  exact ext_comes (by kernel_rfl) st
noncomputable def xRA (R : Nat) (s a b : List UInt8) (st : St) : Option (List UInt8 × St) := (raH 0 s a b st).map fun r => (r, st)
theorem xRA_ok (R n : Nat) (s a b : List UInt8) (st : St) (r : List UInt8 × St) (h : xRA R s a b st = some r) : CallsTo (callK C0 ext0 R (n + 1)) false 139 [.str s, .str a, .str b] st (.str r.1) r.2 := by
  unfold xRA at h
  obtain ⟨q, h1, rfl⟩ := Option.map_eq_some_iff.1 h
  exact mext_comes (by kernel_rfl) (by simp only [C0, raMext, show Nat.beq 139 139 = true from rfl, cond_true, h1]; rfl)
noncomputable def xCs (R : Nat) (a b : List UInt8) : Option Int := some (cond (strLt a b) (-1) (cond (strEq a b) 0 1))
theorem xCs_ok (R n : Nat) (a b : List UInt8) (st : St) (r : Int) (h : xCs R a b = some r) : CallsTo (callK C0 ext0 R (n + 1)) false 140 [.str a, .str b] st (.int .i64 r) st := by
  obtain rfl := Option.some.inj h
  exact ext_comes (by kernel_rfl) st
end
end Go.Proofs.YthodfojhbbendaaGreatDoor
