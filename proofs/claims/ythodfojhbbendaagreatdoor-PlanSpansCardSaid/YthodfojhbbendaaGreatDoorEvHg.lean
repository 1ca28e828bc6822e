/- What is proved of a call by a walk may be taken as told by later walks; a law's walk ends in the model. -/
import Derived.Test.YthodfojhbbendaaGreatDoorEvHf
set_option linter.all false
namespace Go.Ev
open Go.RowKit (Below)
section
variable {C : Cfg} {ext : Ext} {rounds : Nat}
theorem inv_empty {W0 : World} (hb : Below W0.heap.size W0 W0) : Inv W0 ⟨fun _ => none, fun _ => none⟩ St.empty W0 := {
    below := hb
    blt := fun _ _ _ _ h => by cases h
    binj := fun _ _ _ _ _ _ _ h => by cases h
    bext := fun _ _ _ _ h => by cases h
    elt := fun _ _ _ _ h => by cases h
    ecell := fun _ _ _ _ _ h => by cases h
    bcell := fun _ _ _ _ _ _ _ h => by cases h
    bobj := fun _ _ _ _ _ h => by cases h
    fresh := fun id _ => by simp [St.empty, Tr.get]
    old := fun _ _ _ h => by cases h }
theorem callK_true {W0 : World} (hm : C.P.follows .mixedOrders = true) (hE : ExtOk C.P ext) (hM : MextOk C.P C.mext) {n : Nat} {f : FuncId} {args : List AV} {vs : Array Value} {k : AV → Bool} (hb : Below W0.heap.size W0 W0)
    (ha : ∀ G st w, RepL G st w args vs.toList) (h1 : callK C ext rounds n false f args St.empty (fun _ v _ => k v) = true) (hx : hasBody C.P f = true) :
    Calls C.P f vs W0 fun e w' => Below W0.heap.size W0 w' ∧ ∃ u v G st, e = .returned u ∧ k v = true ∧ Rep G st w' v u := by
  rcases (call_sound (W0 := W0) hm hE hM rounds n).1 f args St.empty _ h1 _ W0 vs (inv_empty hb) (ha _ _ _) with ⟨u, w', v, st', G', c1, _⟩ | ⟨_, c2, _⟩
  · exact (hasBody_enter hx c1).elim
  · refine Calls.mono (callsIn_wide.1 c2) fun e w' he => ?_
    obtain ⟨u, v, st', G', rfl, hk, hg, hr⟩ := he
    simp only [Bool.or_self] at hk
    exact ⟨hg.inv.below, u, v, G', st', rfl, hk, hr⟩
open Classical in
/-- A walk's answer is the model's. -/
theorem callsTo_calls {W0 : World} (hm : C.P.follows .mixedOrders = true) (hE : ExtOk C.P ext) (hM : MextOk C.P C.mext) {n : Nat} {f : FuncId} {args : List AV} {v : AV} {st' : St} {vs : Array Value} (hb : Below W0.heap.size W0 W0)
    (ha : ∀ G st w, RepL G st w args vs.toList) (h : CallsTo (callK C ext rounds n) false f args St.empty v st') (hx : hasBody C.P f = true) :
    Calls C.P f vs W0 fun e w' => Below W0.heap.size W0 w' ∧ ∃ u G st, e = .returned u ∧ Rep G st w' v u := by
  obtain ⟨p, h⟩ := h
  have h1 : callK C ext rounds n false f args St.empty (fun _ v' _ => decide (v' = v)) = true := by rw [h]; exact decide_eq_true rfl
  refine Calls.mono (callK_true hm hE hM hb ha h1 hx) fun e w' ⟨hB, u, v', G, st, he, hk, hr⟩ => ?_
  have : v' = v := of_decide_eq_true hk
  subst this
  exact ⟨hB, u, G, st, he, hr⟩

/-- Calls that are told besides. -/
def moreExt (spec : FuncId → List AV → Option AV) (old : Ext) : Ext := fun f args => match spec f args with
  | some v => some v
  | none => old f args
theorem moreExt_ok {old : Ext} {spec : FuncId → List AV → Option AV} (hm : C.P.follows .mixedOrders = true) (hE : ExtOk C.P ext) (hM : MextOk C.P C.mext) (ho : ExtOk C.P old)
    (h : ∀ f args v, spec f args = some v → AV.closeds args = true ∧ v.closed = true ∧ hasBody C.P f = true ∧ ((C.P.funcs[f]?).any fun fn => fn.name == "runtime.NumGoroutine") = false ∧ ∃ R n st', CallsTo (callK C ext R n) false f args St.empty v st') :
    ExtOk C.P (moreExt spec old) := by
  intro f args v hx G st w vs hr
  unfold moreExt at hx
  split at hx
  · rename_i v' hv
    injection hx with hx
    subst hx
    obtain ⟨c1, c2, c3, c4, R, n, st', hc⟩ := h f args v' hv
    refine .inr ⟨?_, Calls.mono (callsTo_calls (W0 := w) hm hE hM (Below.refl _ _) (fun G' st' w' => RepL.closed c1 hr) hc c3) fun e w' ⟨hB, u, G2, st2, he, hrep⟩ => ⟨u, he, Rep.closed c2 hrep, hB⟩⟩
    unfold hasBody at c3
    split at c3
    · rename_i fn hfn
      have hfn' : C.P.funcs[f]? = some fn := hfn
      rw [hfn'] at c4
      have h0 : ¬ fn.name = "runtime.NumGoroutine" := by simpa using c4
      have h1 : ¬ fn.body = none := by intro h; rw [h] at c3; cases c3
      simp [callFunc, hfn', h0, h1]
    · cases c3
  · exact ho f args v hx G st w vs hr
/-- By a table of functions. -/
def specL : List (Nat × (List AV → Option AV)) → FuncId → List AV → Option AV
  | [], _, _ => none
  | (g, F) :: l, f, args => cond (Nat.beq f g) (F args) (specL l f args)
theorem specL_mem : ∀ {l : List (Nat × (List AV → Option AV))} {f : FuncId} {args : List AV} {v : AV}, specL l f args = some v → ∃ F, (f, F) ∈ l ∧ F args = some v
  | [], _, _, _, h => by cases h
  | (g, F) :: l, f, args, v, h => by
    simp only [specL] at h
    cases hc : Nat.beq f g with
    | true =>
      rw [hc] at h
      obtain rfl := Nat.eq_of_beq_eq_true hc
      exact ⟨F, List.mem_cons_self, h⟩
    | false =>
      rw [hc] at h
      obtain ⟨F', h1, h2⟩ := specL_mem h
      exact ⟨F', List.mem_cons_of_mem _ h1, h2⟩
/-- A function that may be told: at pure arguments a walk leads to a pure value. -/
def Tellable (C : Cfg) (ext : Ext) (x : Nat × (List AV → Option AV)) : Prop := ∀ args v, x.2 args = some v → AV.closeds args = true ∧ v.closed = true ∧ ∃ R n st', CallsTo (callK C ext R n) false x.1 args St.empty v st'
inductive AllTellable (C : Cfg) (ext : Ext) : List (Nat × (List AV → Option AV)) → Prop where
  | nil : AllTellable C ext []
  | cons {x : Nat × (List AV → Option AV)} {l : List (Nat × (List AV → Option AV))} (h : Tellable C ext x) (t : AllTellable C ext l) : AllTellable C ext (x :: l)
theorem AllTellable.mem {l : List (Nat × (List AV → Option AV))} (h : AllTellable C ext l) : ∀ x ∈ l, Tellable C ext x := by
  induction h with
  | nil => intro x hx; cases hx
  | cons h t ih =>
    intro x hx
    rcases List.mem_cons.1 hx with rfl | hx
    · exact h
    · exact ih x hx
def bodied (P : Program) (f : Nat) : Bool := hasBody P f && !((P.funcs[f]?).any fun fn => fn.name == "runtime.NumGoroutine")
theorem moreL_ok {old : Ext} {l : List (Nat × (List AV → Option AV))} (hm : C.P.follows .mixedOrders = true) (hE : ExtOk C.P ext) (hM : MextOk C.P C.mext) (ho : ExtOk C.P old)
    (hb : (l.map (·.1)).all (bodied C.P) = true) (h : AllTellable C ext l) : ExtOk C.P (moreExt (specL l) old) := by
  refine moreExt_ok hm hE hM ho fun f args v hv => ?_
  obtain ⟨F, h1, h2⟩ := specL_mem hv
  obtain ⟨c1, c2, R, n, st', c3⟩ := h.mem _ h1 args v h2
  have hb := List.all_eq_true.1 hb f (List.mem_map.2 ⟨_, h1, rfl⟩)
  simp only [bodied, Bool.and_eq_true, Bool.not_eq_true'] at hb
  exact ⟨c1, c2, hb.1, hb.2, R, n, st', c3⟩
theorem more_comes {spec : FuncId → List AV → Option AV} {old : Ext} {f : FuncId} {args : List AV} {v : AV} (h : spec f args = some v) : moreExt spec old f args = some v := by
  unfold moreExt; rw [h]
end
end Go.Ev
