/- maps.clone, as the evaluator takes it. -/
import Derived.Test.YtgmhnpfpmcccnaaGreatDoorEvWb
set_option linter.all false
namespace Go.Ev
open Go.RowKit (Below)

/-- A map's copy: a new thing. -/
def cloneH (args : List AV) (st : St) : Option (AV × St) := match args with
  | [.iface t (.map id)] => match st.objs.get id with
    | some (.map es c) => some (.iface t (.map st.next), st.push (.map es c))
    | _ => none
  | _ => none
def cloneMext (g : FuncId) (old : FuncId → List AV → St → Option (AV × St)) : FuncId → List AV → St → Option (AV × St) := fun f args st => cond (Nat.beq f g) (cloneH args st) (old f args st)
theorem cloneMext_ok {P : Program} {g : FuncId} {fn : Func} {old : FuncId → List AV → St → Option (AV × St)} (ho : MextOk P old) (hf : P.funcs[g]? = some fn) (h0 : (fn.name == "runtime.NumGoroutine") = false) (h1 : fn.body = none) (h2 : (Extern.findNext fn).isSome = false)
    (h3 : Extern.find fn = some Extern.MapsClone.clone) : MextOk P (cloneMext g old) := by
  intro f args st v st' hx W0 G w vs I hr
  unfold cloneMext at hx
  cases hfg : Nat.beq f g with
  | false =>
    rw [hfg] at hx
    exact ho f args st v st' hx W0 G w vs I hr
  | true =>
    rw [hfg] at hx
    have := Nat.eq_of_beq_eq_true hfg
    subst this
    simp only [cond_true, cloneH] at hx
    split at hx
    rotate_left
    · cases hx
    rename_i t id
    split at hx
    rotate_left
    · cases hx
    rename_i es c ho'
    injection hx with hx; injection hx with e1 e2; subst e1; subst e2
    obtain ⟨v1, l1, e1, r1, hr⟩ := hr.cons_inv
    have e3 := hr.nil_inv
    subst e3
    have : vs = #[v1] := by cases vs; simp at e1; simp [e1]
    subst this
    simp only [Rep] at r1
    obtain ⟨u, rfl, b, k, n, hb, rfl⟩ := r1
    obtain ⟨o, hob, hO⟩ := I.bobj id b k n _ hb ho' rfl
    have hO' := hO
    obtain ⟨es', rfl, hes⟩ := hO'
    obtain ⟨a1, a2, a3⟩ := newObj_does I hO
    refine .inl ⟨.iface t (.map (some w.heap.size)), w.alloc (.map es' c), _, ?_, ⟨a1, a2, a3⟩, ?_⟩
    · have h0' : ¬ fn.name = "runtime.NumGoroutine" := by simpa using h0
      have h2' : Extern.findNext fn = none := by simpa using h2
      have key : (Extern.MapsClone.clone #[.iface t (.map (some b))]).run P w = .ok (.iface t (.map (some w.heap.size))) (w.alloc (.map es' c)) := by
        have hg := getObj_run (P := P) hob trivial
        change _root_.Go.Sem.run P (do
          let .map entries clock ← getObj b | stuck "maps.clone: a map expected"
          pure (Value.iface t (.map (some (← newObj (.map entries clock)))))) w = _
        simp [hg, run_newObj_alloc]
      simp [callFunc, hf, h0', h1, h2', h3, key]
    · simp only [Rep]
      exact ⟨_, rfl, w.heap.size, 0, 0, by simp [Gh.born], rfl⟩
end Go.Ev
