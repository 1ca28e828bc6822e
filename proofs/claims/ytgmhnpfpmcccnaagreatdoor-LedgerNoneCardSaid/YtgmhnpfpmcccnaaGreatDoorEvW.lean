/- The library's search for a byte in a string, as the evaluator takes it. -/
import Derived.Test.YtgmhnpfpmcccnaaGreatDoorEvV
set_option linter.all false
namespace Go.Ev
open Go.RowKit (Below)

def byteAt : List UInt8 → Nat → Nat → Int
  | [], _, _ => -1
  | a :: l, c, i => cond (Nat.beq a.toNat c) i (byteAt l c (i + 1))
/-- The evaluator's answer for the function of this number. -/
def byteExt (g : FuncId) : Ext := fun f args => cond (Nat.beq f g) (match args with
  | [.str s, .int .u8 c] => some (.int .i64 (byteAt s (c.toNat % 256) 0))
  | _ => none) none

theorem byteAt_none {c : Nat} : ∀ {l : List UInt8} {i : Nat}, (∀ j (h : j < l.length), (l[j]).toNat ≠ c) → byteAt l c i = -1
  | [], _, _ => rfl
  | a :: l, i, h => by
    have h0 := h 0 (by simp)
    simp only [List.getElem_cons_zero] at h0
    simp only [byteAt, cond_beq, if_neg h0]
    exact byteAt_none fun j hj => by
      have := h (j + 1) (by simpa using hj)
      simpa using this
theorem byteAt_some {c : Nat} : ∀ {l : List UInt8} {i k : Nat} (hk : k < l.length), (l[k]).toNat = c → (∀ j (h : j < k), (l[j]'(by omega)).toNat ≠ c) → byteAt l c i = ((i + k : Nat) : Int)
  | a :: l, i, 0, _, h, _ => by
    simp only [List.getElem_cons_zero] at h
    simp only [byteAt, cond_beq, if_pos h]
    simp
  | a :: l, i, k + 1, hk, h, hn => by
    have h0 := hn 0 (by omega)
    simp only [List.getElem_cons_zero] at h0
    simp only [byteAt, cond_beq, if_neg h0]
    rw [byteAt_some (l := l) (i := i + 1) (k := k) (by simpa using hk) (by simpa using h) fun j hj => by
      have := hn (j + 1) (by omega)
      simpa using this]
    congr 1
    omega

theorem byteExt_ok {P : Program} {g : FuncId} {fn : Func} (hf : P.funcs[g]? = some fn) (h0 : (fn.name == "runtime.NumGoroutine") = false) (h1 : fn.body = none) (h2 : (Extern.findNext fn).isSome = false)
    (h3 : Extern.find fn = some Extern.BytealgIndexByte.indexByte) : ExtOk P (byteExt g) := by
  intro f args v h G st w vs hr
  unfold byteExt at h
  obtain ⟨hfg, h'⟩ := cond_some h
  clear h
  have hfg' := Nat.eq_of_beq_eq_true hfg
  clear hfg
  subst hfg'
  have h := h'
  clear h'
  split at h
  · rename_i s c
    injection h with h
    subst h
    obtain ⟨v1, l1, e1, r1, hr⟩ := hr.cons_inv
    obtain ⟨v2, l2, e2, r2, hr⟩ := hr.cons_inv
    have e3 := hr.nil_inv
    subst e2 e3
    simp only [Rep] at r1 r2
    subst r1 r2
    have : vs = #[.string ⟨s.toArray⟩, .int .u8 c] := by cases vs; simp at e1; simp [e1]
    subst this
    have h0' : ¬ fn.name = "runtime.NumGoroutine" := by simpa using h0
    have h2' : Extern.findNext fn = none := by simpa using h2
    refine .inl ⟨.int .i64 (byteAt s (c.toNat % 256) 0), ?_, by simp only [Rep]⟩
    have key : (Extern.BytealgIndexByte.indexByte #[.string ⟨s.toArray⟩, .int .u8 c]).run P w = .ok (.int .i64 (byteAt s (c.toNat % 256) 0)) w := by
      have hs : (⟨s.toArray⟩ : ByteArray).size = s.length := by simp [ByteArray.size]
      have hg : ∀ i (h : i < s.length), (⟨s.toArray⟩ : ByteArray)[i]! = s[i] := fun i h => by
        rw [getElem!_pos _ _ (by rw [hs]; exact h)]
        rfl
      have hp : ∀ i (h : i < s.length), ((⟨s.toArray⟩ : ByteArray)[i]! == c.toNat.toUInt8) = decide ((s[i]).toNat = c.toNat % 256) := fun i h => by
        rw [hg i h, Bool.eq_iff_iff, decide_eq_true_eq, beq_iff_eq, ← UInt8.toNat_inj]
        simp
      change Sem.run P (do
        let b ← Extern.Bytes.bytesOf (.string ⟨s.toArray⟩)
        let c ← Extern.Bytes.asByte (.int .u8 c)
        match (List.range b.size).find? (fun i => b[i]! == c) with
        | some i => pure (goInt i)
        | none => pure (goInt (-1))) w = _
      simp only [Extern.Bytes.bytesOf, Extern.Bytes.asByte, Sem.run_bind, Sem.run_pure, Result.andThen_ok, hs]
      cases hfd : (List.range s.length).find? fun i => (⟨s.toArray⟩ : ByteArray)[i]! == c.toNat.toUInt8 with
      | none =>
        rw [List.find?_range_eq_none] at hfd
        rw [byteAt_none fun j hj => ?_]
        · rfl
        · have := hfd j hj
          rw [hp j hj] at this
          simpa using this
      | some k =>
        rw [List.find?_range_eq_some] at hfd
        obtain ⟨k1, k2, k3⟩ := hfd
        have hk : k < s.length := by simpa using k2
        rw [byteAt_some (k := k) hk (by rw [hp k hk] at k1; simpa using k1) fun j hj => ?_]
        · simp [goInt]
        · have := k3 j hj
          rw [hp j (by omega)] at this
          simpa using this
    simp [callFunc, hf, h0', h1, h2', h3, key]
  · cases h

/-- A call without arguments whose answer is known: it is told from then on. -/
def knownExt (g : FuncId) (b : Bool) (old : Ext) : Ext := fun f args => cond (Nat.beq f g) (match args with
  | [] => some (.bool b)
  | _ => none) (old f args)
theorem knownExt_ok {P : Program} {g : FuncId} {b : Bool} {fn : Func} {old : Ext} (ho : ExtOk P old) (hf : P.funcs[g]? = some fn) (h0 : (fn.name == "runtime.NumGoroutine") = false) (h1 : fn.body.isSome = true)
    (h : ∀ w, Calls P g #[] w fun e w' => e = .returned (.bool b) ∧ Below w.heap.size w w') : ExtOk P (knownExt g b old) := by
  intro f args v hx G st w vs hr
  unfold knownExt at hx
  cases hfg : Nat.beq f g with
  | false =>
    rw [hfg] at hx
    exact ho f args v hx G st w vs hr
  | true =>
    rw [hfg] at hx
    have := Nat.eq_of_beq_eq_true hfg
    subst this
    cases args with
    | cons a as => cases hx
    | nil =>
      injection hx with hx
      subst hx
      have e := hr.nil_inv
      have : vs = #[] := by cases vs; simp at e; simp [e]
      subst this
      have h0' : ¬ fn.name = "runtime.NumGoroutine" := by simpa using h0
      have h1' : ¬ fn.body = none := by intro h; rw [h] at h1; cases h1
      refine .inr ⟨by simp [callFunc, hf, h0', h1'], Calls.mono (h w) fun e w' ⟨he, hB⟩ => ⟨_, he, by simp only [Rep], hB⟩⟩
end Go.Ev
