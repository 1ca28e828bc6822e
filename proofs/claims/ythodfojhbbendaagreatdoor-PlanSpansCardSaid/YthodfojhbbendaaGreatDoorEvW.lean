/- The library's search for a byte in a string, as the evaluator takes it. -/
import Derived.Test.YthodfojhbbendaaGreatDoorEvNa
set_option linter.all false
namespace Go.Ev
open Go.RowKit (Below)

def byteAt : List UInt8 → Nat → Nat → Int
  | [], _, _ => -1
  | a :: l, c, i => cond (Nat.beq a.toNat c) i (byteAt l c (i + 1))
/-- The evaluator's answer for the function of this number. -/
def byteExt (g : FuncId) : Ext := fun f args => cond (Nat.beq f g) (match args with
  | [.str s, .int .u8 c] => some (.int .i64 (byteAt s (c.toNat % 256) 0))
  | _ => none) none

theorem byteAt_none {c : Nat} : ∀ {l : List UInt8} {i : Nat}, (∀ j (h : j < l.length), (l[j]).toNat ≠ c) → byteAt l c i = -1
  | [], _, _ => rfl
  | a :: l, i, h => by
    have h0 := h 0 (by simp)
    simp only [List.getElem_cons_zero] at h0
    simp only [byteAt, cond_beq, if_neg h0]
    exact byteAt_none fun j hj => by
      have := h (j + 1) (by simpa using hj)
      simpa using this
theorem byteAt_some {c : Nat} : ∀ {l : List UInt8} {i k : Nat} (hk : k < l.length), (l[k]).toNat = c → (∀ j (h : j < k), (l[j]'(by omega)).toNat ≠ c) → byteAt l c i = ((i + k : Nat) : Int)
  | a :: l, i, 0, _, h, _ => by
    simp only [List.getElem_cons_zero] at h
    simp only [byteAt, cond_beq, if_pos h]
    simp
  | a :: l, i, k + 1, hk, h, hn => by
    have h0 := hn 0 (by omega)
    simp only [List.getElem_cons_zero] at h0
    simp only [byteAt, cond_beq, if_neg h0]
    rw [byteAt_some (l := l) (i := i + 1) (k := k) (by simpa using hk) (by simpa using h) fun j hj => by
      have := hn (j + 1) (by omega)
      simpa using this]
    congr 1
    omega

theorem byteExt_ok {P : Program} {g : FuncId} {fn : Func} (hf : P.funcs[g]? = some fn) (h0 : (fn.name == "runtime.NumGoroutine") = false) (h1 : fn.body = none) (h2 : (Extern.findNext fn).isSome = false)
    (h3 : Extern.find fn = some Extern.BytealgIndexByte.indexByte) : ExtOk P (byteExt g) := by
  intro f args v h G st w vs hr
  unfold byteExt at h
  obtain ⟨hfg, h'⟩ := cond_some h
  clear h
  have hfg' := Nat.eq_of_beq_eq_true hfg
  clear hfg
  subst hfg'
  have h := h'
  clear h'
  split at h
  · rename_i s c
    injection h with h
    subst h
    obtain ⟨v1, l1, e1, r1, hr⟩ := hr.cons_inv
    obtain ⟨v2, l2, e2, r2, hr⟩ := hr.cons_inv
    have e3 := hr.nil_inv
    subst e2 e3
    simp only [Rep] at r1 r2
    subst r1 r2
    have : vs = #[.string ⟨s.toArray⟩, .int .u8 c] := by cases vs; simp at e1; simp [e1]
    subst this
    have h0' : ¬ fn.name = "runtime.NumGoroutine" := by simpa using h0
    have h2' : Extern.findNext fn = none := by simpa using h2
    refine .inl ⟨.int .i64 (byteAt s (c.toNat % 256) 0), ?_, by simp only [Rep]⟩
    have key : (Extern.BytealgIndexByte.indexByte #[.string ⟨s.toArray⟩, .int .u8 c]).run P w = .ok (.int .i64 (byteAt s (c.toNat % 256) 0)) w := by
      have hs : (⟨s.toArray⟩ : ByteArray).size = s.length := by simp [ByteArray.size]
      have hg : ∀ i (h : i < s.length), (⟨s.toArray⟩ : ByteArray)[i]! = s[i] := fun i h => by
        rw [getElem!_pos _ _ (by rw [hs]; exact h)]
        rfl
      have hp : ∀ i (h : i < s.length), ((⟨s.toArray⟩ : ByteArray)[i]! == c.toNat.toUInt8) = decide ((s[i]).toNat = c.toNat % 256) := fun i h => by
        rw [hg i h, Bool.eq_iff_iff, decide_eq_true_eq, beq_iff_eq, ← UInt8.toNat_inj]
        simp
      change Sem.run P (do
        let b ← Extern.Bytes.bytesOf (.string ⟨s.toArray⟩)
        let c ← Extern.Bytes.asByte (.int .u8 c)
        match (List.range b.size).find? (fun i => b[i]! == c) with
        | some i => pure (goInt i)
        | none => pure (goInt (-1))) w = _
      simp only [Extern.Bytes.bytesOf, Extern.Bytes.asByte, Sem.run_bind, Sem.run_pure, Result.andThen_ok, hs]
      cases hfd : (List.range s.length).find? fun i => (⟨s.toArray⟩ : ByteArray)[i]! == c.toNat.toUInt8 with
      | none =>
        rw [List.find?_range_eq_none] at hfd
        rw [byteAt_none fun j hj => ?_]
        · rfl
        · have := hfd j hj
          rw [hp j hj] at this
          simpa using this
      | some k =>
        rw [List.find?_range_eq_some] at hfd
        obtain ⟨k1, k2, k3⟩ := hfd
        have hk : k < s.length := by simpa using k2
        rw [byteAt_some (k := k) hk (by rw [hp k hk] at k1; simpa using k1) fun j hj => ?_]
        · simp [goInt]
        · have := k3 j hj
          rw [hp j (by omega)] at this
          simpa using this
    simp [callFunc, hf, h0', h1, h2', h3, key]
  · cases h

/-- A call without arguments whose answer is known: it is told from then on. -/
def knownExt (g : FuncId) (b : Bool) (old : Ext) : Ext := fun f args => cond (Nat.beq f g) (match args with
  | [] => some (.bool b)
  | _ => none) (old f args)
theorem knownExt_ok {P : Program} {g : FuncId} {b : Bool} {fn : Func} {old : Ext} (ho : ExtOk P old) (hf : P.funcs[g]? = some fn) (h0 : (fn.name == "runtime.NumGoroutine") = false) (h1 : fn.body.isSome = true)
    (h : ∀ w, Calls P g #[] w fun e w' => e = .returned (.bool b) ∧ Below w.heap.size w w') : ExtOk P (knownExt g b old) := by
  intro f args v hx G st w vs hr
  unfold knownExt at hx
  cases hfg : Nat.beq f g with
  | false =>
    rw [hfg] at hx
    exact ho f args v hx G st w vs hr
  | true =>
    rw [hfg] at hx
    have := Nat.eq_of_beq_eq_true hfg
    subst this
    cases args with
    | cons a as => cases hx
    | nil =>
      injection hx with hx
      subst hx
      have e := hr.nil_inv
      have : vs = #[] := by cases vs; simp at e; simp [e]
      subst this
      have h0' : ¬ fn.name = "runtime.NumGoroutine" := by simpa using h0
      have h1' : ¬ fn.body = none := by intro h; rw [h] at h1; cases h1
      refine .inr ⟨by simp [callFunc, hf, h0', h1'], Calls.mono (h w) fun e w' ⟨he, hB⟩ => ⟨_, he, by simp only [Rep], hB⟩⟩
section
variable {C : Cfg} {ext : Ext} {rounds : Nat}
def isB (v : AV) : Bool := match v with | .bool b => b | _ => false
theorem isB_ok {v : AV} (h : isB v = true) : v = .bool true := by
  cases v <;> simp_all [isB]
theorem callK_yes {W0 : World} (hm : C.P.follows .mixedOrders = true) (hE : ExtOk C.P ext) (hM : MextOk C.P C.mext) {n : Nat} {f : FuncId} {args : List AV} {vs : Array Value} {k : AV → Bool} (hb : Below W0.heap.size W0 W0)
    (ha : ∀ G st w, RepL G st w args vs.toList) (h : callK C ext rounds (n + 1) false f args St.empty (fun _ v _ => k v) = true) (hx : hasBody C.P f = true) :
    Calls C.P f vs W0 fun e w' => Below W0.heap.size W0 w' ∧ ∃ u v G st, e = .returned u ∧ k v = true ∧ Rep G st w' v u := by
  have I : Inv W0 ⟨fun _ => none, fun _ => none⟩ St.empty W0 := {
    below := hb
    blt := fun _ _ _ _ h => by cases h
    binj := fun _ _ _ _ _ _ _ h => by cases h
    bext := fun _ _ _ _ h => by cases h
    elt := fun _ _ _ _ h => by cases h
    ecell := fun _ _ _ _ _ h => by cases h
    bcell := fun _ _ _ _ _ _ _ h => by cases h
    bobj := fun _ _ _ _ _ h => by cases h
    fresh := fun id _ => by simp [St.empty, Tr.get]
    old := fun _ _ _ h => by cases h }
  rcases (call_sound (W0 := W0) hm hE hM rounds (n + 1)).1 f args St.empty _ h _ W0 vs I (ha _ _ _) with ⟨u, w', v, st', G', c1, _⟩ | ⟨_, c2, _⟩
  · exact (hasBody_enter hx c1).elim
  · refine Calls.mono (callsIn_wide.1 c2) fun e w' he => ?_
    obtain ⟨u, v, st', G', rfl, hk, hg, hr⟩ := he
    simp only [Bool.or_self] at hk
    exact ⟨hg.inv.below, u, v, G', st', rfl, hk, hr⟩
/-- The same, of an answer of yes or no. -/
theorem callK_bool {W0 : World} (hm : C.P.follows .mixedOrders = true) (hE : ExtOk C.P ext) (hM : MextOk C.P C.mext) {n : Nat} {f : FuncId} {args : List AV} {vs : Array Value} (hb : Below W0.heap.size W0 W0)
    (ha : ∀ G st w, RepL G st w args vs.toList) (h : callK C ext rounds (n + 1) false f args St.empty (fun _ v _ => isB v) = true) (hx : hasBody C.P f = true) :
    Calls C.P f vs W0 fun e w' => e = .returned (.bool true) ∧ Below W0.heap.size W0 w' := by
  refine Calls.mono (callK_yes hm hE hM hb ha h hx) fun e w' ⟨hB, u, v, G, st, he, hk, hr⟩ => ?_
  obtain rfl := isB_ok hk
  simp only [Rep] at hr
  subst hr
  exact ⟨he, hB⟩
end
end Go.Ev
