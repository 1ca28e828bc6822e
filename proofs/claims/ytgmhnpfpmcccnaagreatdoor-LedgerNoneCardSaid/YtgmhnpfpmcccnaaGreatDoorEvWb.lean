/- A table of calls whose answers are known. -/
import Derived.Test.YtgmhnpfpmcccnaaGreatDoorEvWa
set_option linter.all false
namespace Go.Ev
open Go.RowKit (Below)

mutual
/-- A value that says the same in every world. -/
def AV.closed : AV → Bool
  | .int _ _ => true
  | .bool _ => true
  | .str _ => true
  | .nilp => true
  | .glob _ _ => true
  | .snil => true
  | .mnil => true
  | .nilf => true
  | .nili => true
  | .iface _ v => AV.closed v
  | .agg cs => AV.closeds cs
  | .tuple cs => AV.closeds cs
  | .func _ a b => AV.closeds a && AV.closeds b
  | _ => false
def AV.closeds : List AV → Bool
  | [] => true
  | a :: as => AV.closed a && AV.closeds as
end
section
variable {G G' : Gh} {st st' : St} {w w' : World}
mutual
theorem Rep.closed : ∀ {a : AV} {v : Value}, a.closed = true → Rep G st w a v → Rep G' st' w' a v
  | .int _ _, _, _, h => by simpa only [Rep] using h
  | .bool _, _, _, h => by simpa only [Rep] using h
  | .str _, _, _, h => by simpa only [Rep] using h
  | .nilp, _, _, h => by simpa only [Rep] using h
  | .glob _ _, _, _, h => by simpa only [Rep] using h
  | .snil, _, _, h => by simpa only [Rep] using h
  | .mnil, _, _, h => by simpa only [Rep] using h
  | .nilf, _, _, h => by simpa only [Rep] using h
  | .nili, _, _, h => by simpa only [Rep] using h
  | .iface _ a, _, hc, h => by
    simp only [AV.closed] at hc
    simp only [Rep] at h ⊢
    obtain ⟨u, h1, h2⟩ := h
    exact ⟨u, h1, Rep.closed hc h2⟩
  | .agg cs, _, hc, h => by
    simp only [AV.closed] at hc
    simp only [Rep] at h ⊢
    obtain ⟨u, h1, h2⟩ := h
    exact ⟨u, h1, RepL.closed hc h2⟩
  | .tuple cs, _, hc, h => by
    simp only [AV.closed] at hc
    simp only [Rep] at h ⊢
    obtain ⟨u, h1, h2⟩ := h
    exact ⟨u, h1, RepL.closed hc h2⟩
  | .func _ a b, _, hc, h => by
    simp only [AV.closed, Bool.and_eq_true] at hc
    simp only [Rep] at h ⊢
    obtain ⟨f, c, h1, h2, h3⟩ := h
    exact ⟨f, c, h1, RepL.closed hc.1 h2, RepL.closed hc.2 h3⟩
  | .ref _ _, _, hc, _ => by simp [AV.closed] at hc
  | .vptr _, _, hc, _ => by simp [AV.closed] at hc
  | .sl .., _, hc, _ => by simp [AV.closed] at hc
  | .sref .., _, hc, _ => by simp [AV.closed] at hc
  | .sempty, _, hc, _ => by simp [AV.closed] at hc
  | .map _, _, hc, _ => by simp [AV.closed] at hc
  | .yield _, _, hc, _ => by simp [AV.closed] at hc
  | .resi .., _, hc, _ => by simp [AV.closed] at hc
  | .strx .., _, hc, _ => by simp [AV.closed] at hc
  | .any, _, hc, _ => by simp [AV.closed] at hc
theorem RepL.closed : ∀ {as : List AV} {vs : List Value}, AV.closeds as = true → RepL G st w as vs → RepL G' st' w' as vs
  | [], _, _, h => by rw [h.nil_inv]; exact RepL.nil
  | a :: as, _, hc, h => by
    simp only [AV.closeds, Bool.and_eq_true] at hc
    obtain ⟨v, l, rfl, hv, h⟩ := h.cons_inv
    exact RepL.cons (Rep.closed hc.1 hv) (RepL.closed hc.2 h)
end
end

/-- What is known: of which function, at what, what. -/
abbrev Tab := List (Nat × List AV × AV)
def tabAt (f : Nat) (args : List AV) : Tab → Option AV
  | [] => none
  | (g, as, v) :: t => cond (Nat.beq f g && AV.beqs args as) (some v) (tabAt f args t)
def tabExt (t : Tab) (old : Ext) : Ext := fun f args => match tabAt f args t with
  | some v => some v
  | none => old f args
/-- Does the evaluator say what the table says? -/
noncomputable def tabRun (C : Cfg) (ext : Ext) (x : Nat × List AV × AV) : Bool :=
  cond (AV.closeds x.2.1 && x.2.2.closed && hasBody C.P x.1) (callG C ext 100000 1000 false x.1 x.2.1 St.empty fun _ v _ => AV.beq v x.2.2) false
theorem tabAt_mem {f : Nat} {args : List AV} {v : AV} : ∀ {t : Tab}, tabAt f args t = some v → (f, args, v) ∈ t
  | [], h => by cases h
  | (g, as, u) :: t, h => by
    simp only [tabAt] at h
    cases hc : Nat.beq f g && AV.beqs args as with
    | false => rw [hc] at h; exact List.mem_cons_of_mem _ (tabAt_mem h)
    | true =>
      rw [hc] at h
      injection h with h
      subst h
      simp only [Bool.and_eq_true] at hc
      rw [Nat.eq_of_beq_eq_true hc.1, AV.beqs_sound _ _ hc.2]
      exact List.mem_cons_self
theorem tabExt_ok {C : Cfg} {ext old : Ext} {t : Tab} (hm : C.P.follows .mixedOrders = true) (hE : ExtOk C.P ext) (hM : MextOk C.P C.mext) (ho : ExtOk C.P old) (hn : ∀ x ∈ t, ((C.P.funcs[x.1]?).any fun fn => fn.name == "runtime.NumGoroutine") = false) (ht : t.all (tabRun C ext) = true) : ExtOk C.P (tabExt t old) := by
  intro f args v hx G st w vs hr
  unfold tabExt at hx
  split at hx
  · rename_i v' hv
    injection hx with hx
    subst hx
    have hmem := tabAt_mem hv
    have hrun := List.all_eq_true.1 ht _ hmem
    simp only [tabRun] at hrun
    obtain ⟨hc, hrun⟩ := cond_true_false hrun
    simp only [Bool.and_eq_true] at hc
    obtain ⟨⟨c1, c2⟩, c3⟩ := hc
    refine .inr ⟨?_, Calls.mono (callG_true (n := 999) (W0 := w) hm hE hM (Below.refl _ _) (fun G' st' w' => RepL.closed c1 hr) hrun c3) fun e w' ⟨hB, u, v2, G2, st2, he, hk, hrep⟩ => ?_⟩
    · have hn' := hn _ hmem
      unfold hasBody at c3
      split at c3
      · rename_i fn hfn
        have hfn' : C.P.funcs[f]? = some fn := hfn
        rw [hfn'] at hn'
        have h0 : ¬ fn.name = "runtime.NumGoroutine" := by simpa using hn'
        have h1 : ¬ fn.body = none := by intro h; rw [h] at c3; cases c3
        simp [callFunc, hfn', h0, h1]
      · cases c3
    · have := AV.beq_sound _ _ hk
      subst this
      exact ⟨u, he, Rep.closed c2 hrep, hB⟩
  · exact ho f args v hx G st w vs hr
end Go.Ev
