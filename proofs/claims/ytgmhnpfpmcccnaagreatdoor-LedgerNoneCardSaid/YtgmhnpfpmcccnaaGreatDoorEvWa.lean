/- The library's counts and comparisons of strings; exts in a row. -/
import Derived.Test.YtgmhnpfpmcccnaaGreatDoorEvW
import Derived.Lib.Bytealg
set_option linter.all false
namespace Go.Ev
open Go.RowKit (Below)

/-- A library function of this number answers so. -/
def libExt (g : FuncId) (h : List AV → Option AV) (old : Ext) : Ext := fun f args => cond (Nat.beq f g) (h args) (old f args)
theorem libExt_ok {P : Program} {g : FuncId} {fn : Func} {h : List AV → Option AV} {e : Array Value → _root_.Go.Sem Value} {old : Ext} (ho : ExtOk P old) (hf : P.funcs[g]? = some fn) (h0 : (fn.name == "runtime.NumGoroutine") = false) (h1 : fn.body = none) (h2 : (Extern.findNext fn).isSome = false)
    (h3 : Extern.find fn = some e) (hh : ∀ args v, h args = some v → ∀ G st w (vs : Array Value), RepL G st w args vs.toList → ∃ u, (e vs).run P w = .ok u w ∧ Rep G st w v u) : ExtOk P (libExt g h old) := by
  intro f args v hx G st w vs hr
  unfold libExt at hx
  cases hfg : Nat.beq f g with
  | false =>
    rw [hfg] at hx
    exact ho f args v hx G st w vs hr
  | true =>
    rw [hfg] at hx
    have := Nat.eq_of_beq_eq_true hfg
    subst this
    obtain ⟨u, k1, k2⟩ := hh args v hx G st w vs hr
    have h0' : ¬ fn.name = "runtime.NumGoroutine" := by simpa using h0
    have h2' : Extern.findNext fn = none := by simpa using h2
    exact .inl ⟨u, by simp [callFunc, hf, h0', h1, h2', h3, k1], k2⟩

def countAt (c : Nat) : List UInt8 → Nat → Nat
  | [], n => n
  | a :: l, n => countAt c l (cond (Nat.beq a.toNat c) (n + 1) n)
def countH : List AV → Option AV
  | [.str s, .int .u8 c] => some (.int .i64 (countAt (c.toNat % 256) s 0))
  | _ => none
theorem countAt_eq (c : UInt8) : ∀ (l : List UInt8) (n : Nat), countAt c.toNat l n = n + l.count c
  | [], n => by simp [countAt]
  | a :: l, n => by
    simp only [countAt, countAt_eq c l, List.count_cons, cond_beq, UInt8.toNat_inj, beq_iff_eq]
    split <;> omega
theorem countH_ok {P : Program} : ∀ args v, countH args = some v → ∀ G st w (vs : Array Value), RepL G st w args vs.toList → ∃ u, (Extern.BytealgCount.count vs).run P w = .ok u w ∧ Rep G st w v u := by
  intro args v h G st w vs hr
  unfold countH at h
  split at h
  · rename_i s c
    injection h with h
    subst h
    obtain ⟨v1, l1, e1, r1, hr⟩ := hr.cons_inv
    obtain ⟨v2, l2, e2, r2, hr⟩ := hr.cons_inv
    have e3 := hr.nil_inv
    subst e2 e3
    simp only [Rep] at r1 r2
    subst r1 r2
    have : vs = #[.string ⟨s.toArray⟩, .int .u8 c] := by cases vs; simp at e1; simp [e1]
    subst this
    refine ⟨_, Lib.run_countString _ c w, ?_⟩
    have := countAt_eq c.toNat.toUInt8 s 0
    simp only [UInt8.toNat_ofNat', Nat.toUInt8] at this
    simp only [Rep]
    simp [Lib.countByte, this]
  · cases h

def cmpH : List AV → Option AV
  | [.str a, .str b] => some (.int .i64 (cond (strLt a b) (-1) (cond (strEq a b) 0 1)))
  | _ => none
theorem cmp_lt : ∀ (a b : List UInt8), Lib.compareBytes a b = cond (strLt a b) (-1) (cond (strEq a b) 0 1)
  | [], [] => rfl
  | [], _ :: _ => rfl
  | _ :: _, [] => rfl
  | x :: a, y :: b => by
    simp only [Lib.compareBytes, strLt, strEq]
    have h1 : x < y ↔ x.toNat < y.toNat := UInt8.lt_iff_toNat_lt
    have h2 : y < x ↔ y.toNat < x.toNat := UInt8.lt_iff_toNat_lt
    by_cases hlt : x.toNat < y.toNat
    · have : Nat.blt x.toNat y.toNat = true := Nat.ble_eq_true_of_le hlt
      rw [if_pos (h1.2 hlt), this]
      rfl
    · have hb : Nat.blt x.toNat y.toNat = false := by
        cases h : Nat.blt x.toNat y.toNat with
        | false => rfl
        | true => exact absurd (Nat.le_of_ble_eq_true h) hlt
      rw [if_neg (fun h => hlt (h1.1 h)), hb]
      by_cases hgt : y.toNat < x.toNat
      · have hne : Nat.beq x.toNat y.toNat = false := by
          cases h : Nat.beq x.toNat y.toNat with
          | false => rfl
          | true => have := Nat.eq_of_beq_eq_true h; omega
        rw [if_pos (h2.2 hgt), hne]
        rfl
      · have e : x.toNat = y.toNat := by omega
        rw [if_neg (fun h => hgt (h2.1 h)), e, Nat.beq_refl]
        simpa using cmp_lt a b
theorem cmpH_ok {P : Program} : ∀ args v, cmpH args = some v → ∀ G st w (vs : Array Value), RepL G st w args vs.toList → ∃ u, (Extern.BytealgCompare.compare vs).run P w = .ok u w ∧ Rep G st w v u := by
  intro args v h G st w vs hr
  unfold cmpH at h
  split at h
  · rename_i a b
    injection h with h
    subst h
    obtain ⟨v1, l1, e1, r1, hr⟩ := hr.cons_inv
    obtain ⟨v2, l2, e2, r2, hr⟩ := hr.cons_inv
    have e3 := hr.nil_inv
    subst e2 e3
    simp only [Rep] at r1 r2
    subst r1 r2
    have : vs = #[.string ⟨a.toArray⟩, .string ⟨b.toArray⟩] := by cases vs; simp at e1; simp [e1]
    subst this
    refine ⟨_, Lib.run_compareString _ _ w, ?_⟩
    simp only [Rep]
    rw [cmp_lt]
  · cases h
/-- What hands back what it is given. -/
def sameH : List AV → Option AV
  | [v] => some v
  | _ => none
theorem sameH_ok {P : Program} : ∀ args v, sameH args = some v → ∀ G st w (vs : Array Value), RepL G st w args vs.toList → ∃ u, (Extern.AbiNoEscape.same vs).run P w = .ok u w ∧ Rep G st w v u := by
  intro args v h G st w vs hr
  unfold sameH at h
  split at h
  · injection h with h
    subst h
    obtain ⟨v1, l1, e1, r1, hr⟩ := hr.cons_inv
    have e3 := hr.nil_inv
    subst e3
    have : vs = #[v1] := by cases vs; simp at e1; simp [e1]
    subst this
    exact ⟨v1, rfl, r1⟩
  · cases h
/-- Nothing of the library's that turns the store. -/
def noMext : FuncId → List AV → St → Option (AV × St) := fun _ _ _ => none
theorem noMext_ok {P : Program} : MextOk P noMext := fun _ _ _ _ _ h => by cases h
end Go.Ev
