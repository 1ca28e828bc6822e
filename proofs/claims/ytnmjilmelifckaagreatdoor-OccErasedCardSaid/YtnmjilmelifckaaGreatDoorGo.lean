/- The evaluator over this seat's program. -/
import Derived.Test.YtnmjilmelifckaaGreatDoorEvWf
import Derived.Test.YtnmjilmelifckaaGreatDoorProg
import Derived.KernelRfl
import Derived.OpenShut
namespace Go.Proofs.YtnmjilmelifckaaGreatDoor
open Go Go.Ev Go.EvIns Go.RowKit Go.ChangeShapes Go.WideShapes Go.ChangeMaps
def rho345 : Go.Shelf.Ren := ⟨fun n => match n with | 22 => 345 | 29 => 392 | 30 => 393 | n => n, fun n => match n with | 0 => 0 | 3 => 3 | 4 => 4 | 9 => 9 | 24 => 31 | n => n, fun n => n⟩
noncomputable def zero9 : Value := ((Tryz.prog.info? 9).bind (·.zero)).getD (Value.bool false)
theorem ins345 : InsLay Tryz.prog rho345 "slices.Insert[[]string,string]" 1 16 zero9 where
  mixed := by kernel_rfl
  f22 := Tryz.func345.trans (congrArg some (by kernel_rfl))
  ov := run_callFunc_extern (e := Extern.SlicesOverlaps.overlaps #[31, 31] #[4]) Tryz.func392 (by kernel_rfl) (by kernel_rfl) (by kernel_rfl) (by kernel_rfl)
  t0 := Tryz.underlying0
  a0 := Tryz.isAgg0
  z0 := Tryz.sizeOf0
  v0 := Tryz.zeroValue0
  t3 := Tryz.underlying3
  a3 := Tryz.isAgg3
  z3 := Tryz.sizeOf3
  v3 := Tryz.zeroValue3
  t4 := Tryz.underlying4
  a4 := Tryz.isAgg4
  z4 := Tryz.sizeOf4
  v4 := Tryz.zeroValue4
  z9 := Tryz.sizeOf9
  t24 := Tryz.underlying31
  a24 := Tryz.isAgg31
  z24 := Tryz.sizeOf31
  v24 := Tryz.zeroValue31
  i9 := by kernel_rfl
  hs0 := by decide
  hzc := by kernel_rfl
  hby := by decide
def rho322 : Go.Shelf.Ren := ⟨fun n => match n with | 22 => 322 | 29 => 367 | 30 => 368 | n => n, fun n => match n with | 0 => 0 | 3 => 3 | 4 => 4 | 9 => 426 | 24 => 423 | n => n, fun n => n⟩
noncomputable def zero426 : Value := ((Tryz.prog.info? 426).bind (·.zero)).getD (Value.bool false)
theorem ins322 : InsLay Tryz.prog rho322 "slices.Insert[[]parchment/value.field,parchment/value.field]" 7 104 zero426 where
  mixed := by kernel_rfl
  f22 := Tryz.func322.trans (congrArg some (by kernel_rfl))
  ov := run_callFunc_extern (e := Extern.SlicesOverlaps.overlaps #[423, 423] #[4]) Tryz.func367 (by kernel_rfl) (by kernel_rfl) (by kernel_rfl) (by kernel_rfl)
  t0 := Tryz.underlying0
  a0 := Tryz.isAgg0
  z0 := Tryz.sizeOf0
  v0 := Tryz.zeroValue0
  t3 := Tryz.underlying3
  a3 := Tryz.isAgg3
  z3 := Tryz.sizeOf3
  v3 := Tryz.zeroValue3
  t4 := Tryz.underlying4
  a4 := Tryz.isAgg4
  z4 := Tryz.sizeOf4
  v4 := Tryz.zeroValue4
  z9 := Tryz.sizeOf426
  t24 := Tryz.underlying423
  a24 := Tryz.isAgg423
  z24 := Tryz.sizeOf423
  v24 := Tryz.zeroValue423
  i9 := by kernel_rfl
  hs0 := by decide
  hzc := by kernel_rfl
  hby := by decide
def rho346 : Go.Shelf.Ren := ⟨fun n => match n with | 22 => 346 | 29 => 394 | 30 => 395 | n => n, fun n => match n with | 0 => 0 | 3 => 3 | 4 => 4 | 9 => 385 | 24 => 386 | n => n, fun n => n⟩
noncomputable def zero385 : Value := ((Tryz.prog.info? 385).bind (·.zero)).getD (Value.bool false)
theorem ins346 : InsLay Tryz.prog rho346 "slices.Insert[[]*parchment/btree.node,*parchment/btree.node]" 1 8 zero385 where
  mixed := by kernel_rfl
  f22 := Tryz.func346.trans (congrArg some (by kernel_rfl))
  ov := run_callFunc_extern (e := Extern.SlicesOverlaps.overlaps #[386, 386] #[4]) Tryz.func394 (by kernel_rfl) (by kernel_rfl) (by kernel_rfl) (by kernel_rfl)
  t0 := Tryz.underlying0
  a0 := Tryz.isAgg0
  z0 := Tryz.sizeOf0
  v0 := Tryz.zeroValue0
  t3 := Tryz.underlying3
  a3 := Tryz.isAgg3
  z3 := Tryz.sizeOf3
  v3 := Tryz.zeroValue3
  t4 := Tryz.underlying4
  a4 := Tryz.isAgg4
  z4 := Tryz.sizeOf4
  v4 := Tryz.zeroValue4
  z9 := Tryz.sizeOf385
  t24 := Tryz.underlying386
  a24 := Tryz.isAgg386
  z24 := Tryz.sizeOf386
  v24 := Tryz.zeroValue386
  i9 := by kernel_rfl
  hs0 := by decide
  hzc := by kernel_rfl
  hby := by decide
noncomputable def C0 : Cfg := ⟨Tryz.prog, fun f => Nat.testBit 5114572929813301827532441390206160916238445273856079108299529541189715426160715714218731462679860110317939838393265775901892571581425471123349156386816 f, (insMext 346 385 1 (insMext 322 426 7 (insMext 345 9 1 (cloneMext 171 noMext))))⟩
noncomputable def run0 (ext : Ext) (f : FuncId) (a : List AV) : Bool := callG C0 ext 100000 1000 false f a St.empty fun _ v _ => boolK v fun b => b
theorem mixed : C0.P.follows .mixedOrders = true := by kernel_rfl
theorem mext0 : MextOk C0.P C0.mext := (insMext_ok (insMext_ok (insMext_ok (cloneMext_ok noMext_ok Tryz.func171 (by kernel_rfl) (by kernel_rfl) (by kernel_rfl) (by kernel_rfl)) ins345 (by kernel_rfl)) ins322 (by kernel_rfl)) ins346 (by kernel_rfl))
theorem none_ok : ExtOk C0.P (fun _ _ => none) := fun _ _ _ h => by cases h
def extL : Ext := (libExt 457 sameH (libExt 405 cmpH (libExt 427 countH (byteExt 359))))
theorem extL_ok : ExtOk C0.P extL := (libExt_ok (libExt_ok (libExt_ok (byteExt_ok Tryz.func359 (by kernel_rfl) (by kernel_rfl) (by kernel_rfl) (by kernel_rfl)) Tryz.func427 (by kernel_rfl) (by kernel_rfl) (by kernel_rfl) (by kernel_rfl) countH_ok) Tryz.func405 (by kernel_rfl) (by kernel_rfl) (by kernel_rfl) (by kernel_rfl) cmpH_ok) Tryz.func457 (by kernel_rfl) (by kernel_rfl) (by kernel_rfl) (by kernel_rfl) sameH_ok)
/-- A call that the evaluator says yes of. -/
theorem run0_true {ext : Ext} (hE : ExtOk C0.P ext) {f : FuncId} {args : List AV} {vs : Array Value} (W : World) (ha : ∀ G st w, RepL G st w args vs.toList) (h : run0 ext f args = true) (hx : hasBody C0.P f = true) :
    Calls Tryz.prog f vs W fun e W' => e = .returned (.bool true) ∧ Below W.heap.size W W' :=
  callG_bool (C := C0) (rounds := 100000) (n := 999) mixed hE mext0 (Below.refl _ _) ha h hx
end Go.Proofs.YtnmjilmelifckaaGreatDoor
