/- Looks at a value, for the kernel. -/
import Derived.Test.YtgmhnpfpmcccnaaGreatDoorEvX
set_option linter.all false
namespace Go.Ev

noncomputable def boolK (v : AV) (k : Bool → Bool) : Bool := AV.casesOn v (fun _ _ => false) k (fun _ => false) false (fun _ _ => false) (fun _ _ => false) (fun _ => false) false (fun _ _ _ _ _ _ => false) (fun _ _ _ _ _ => false) false false (fun _ => false) (fun _ _ _ => false) (fun _ => false) false (fun _ _ => false) false (fun _ => false) (fun _ => false) (fun _ _ _ _ _ => false) (fun _ _ _ => false) false
noncomputable def intK (v : AV) (k : IntKind → Int → Bool) (d : Bool) : Bool := AV.casesOn v k (fun _ => d) (fun _ => d) d (fun _ _ => d) (fun _ _ => d) (fun _ => d) d (fun _ _ _ _ _ _ => d) (fun _ _ _ _ _ => d) d d (fun _ => d) (fun _ _ _ => d) (fun _ => d) d (fun _ _ => d) d (fun _ => d) (fun _ => d) (fun _ _ _ _ _ => d) (fun _ _ _ => d) d
noncomputable def refK (v : AV) (k : Nat → Nat → Bool) (d : Bool) : Bool := AV.casesOn v (fun _ _ => d) (fun _ => d) (fun _ => d) d k (fun _ _ => d) (fun _ => d) d (fun _ _ _ _ _ _ => d) (fun _ _ _ _ _ => d) d d (fun _ => d) (fun _ _ _ => d) (fun _ => d) d (fun _ _ => d) d (fun _ => d) (fun _ => d) (fun _ _ _ _ _ => d) (fun _ _ _ => d) d
noncomputable def ptrK (v : AV) (kr : Nat → Nat → Bool) (kv : List AV → Bool) (d : Bool) : Bool := AV.casesOn v (fun _ _ => d) (fun _ => d) (fun _ => d) d kr (fun _ _ => d) kv d (fun _ _ _ _ _ _ => d) (fun _ _ _ _ _ => d) d d (fun _ => d) (fun _ _ _ => d) (fun _ => d) d (fun _ _ => d) d (fun _ => d) (fun _ => d) (fun _ _ _ _ _ => d) (fun _ _ _ => d) d
noncomputable def slK (v : AV) (k : Nat → Nat → List AV → Bool) (kr : Nat → Nat → Nat → Nat → Bool) (d : Bool) : Bool := AV.casesOn v (fun _ _ => d) (fun _ => d) (fun _ => d) d (fun _ _ => d) (fun _ _ => d) (fun _ => d) d (fun _ _ n sz _ cs => k n sz cs) (fun i o n sz _ => kr i o n sz) d d (fun _ => d) (fun _ _ _ => d) (fun _ => d) d (fun _ _ => d) d (fun _ => d) (fun _ => d) (fun _ _ _ _ _ => d) (fun _ _ _ => d) d
noncomputable def callK2 (v : AV) (k : Fn → List AV → List AV → Bool) (ky : Nat → Bool) : Bool := AV.casesOn v (fun _ _ => false) (fun _ => false) (fun _ => false) false (fun _ _ => false) (fun _ _ => false) (fun _ => false) false (fun _ _ _ _ _ _ => false) (fun _ _ _ _ _ => false) false false (fun _ => false) k ky false (fun _ _ => false) false (fun _ => false) (fun _ => false) (fun _ _ _ _ _ => false) (fun _ _ _ => false) false
noncomputable def ifaceK (v : AV) (k : TypeId → AV → Bool) : Bool := AV.casesOn v (fun _ _ => false) (fun _ => false) (fun _ => false) false (fun _ _ => false) (fun _ _ => false) (fun _ => false) false (fun _ _ _ _ _ _ => false) (fun _ _ _ _ _ => false) false false (fun _ => false) (fun _ _ _ => false) (fun _ => false) false k false (fun _ => false) (fun _ => false) (fun _ _ _ _ _ => false) (fun _ _ _ => false) false
noncomputable def wantK (v : AV) (b : Bool) (yes no : Bool) : Bool := AV.casesOn v (fun _ _ => false) (fun c => cond (c == b) yes no) (fun _ => false) false (fun _ _ => false) (fun _ _ => false) (fun _ => false) false (fun _ _ _ _ _ _ => false) (fun _ _ _ _ _ => false) false false (fun _ => false) (fun _ _ _ => false) (fun _ => false) false (fun _ _ => false) false (fun _ => false) (fun _ => no) (fun _ _ _ _ _ => false) (fun _ _ _ => false) false
noncomputable def natK (v : AV) (k : Nat → Bool) : Bool := intK v (fun _ i => Int.casesOn i k (fun _ => false)) false

theorem boolK_ok {v : AV} {k : Bool → Bool} (h : boolK v k = true) : ∃ b, v = .bool b ∧ k b = true := by
  cases v <;> first | exact ⟨_, rfl, h⟩ | exact absurd h (by intro h; cases h)
theorem refK_ok {v : AV} {k : Nat → Nat → Bool} {d : Bool} (h : refK v k d = true) : (∃ i o, v = .ref i o ∧ k i o = true) ∨ d = true := by
  cases v <;> first | exact .inl ⟨_, _, rfl, h⟩ | exact .inr h
theorem ptrK_ok {v : AV} {kr : Nat → Nat → Bool} {kv : List AV → Bool} {d : Bool} (h : ptrK v kr kv d = true) : (∃ i o, v = .ref i o ∧ kr i o = true) ∨ (∃ cs, v = .vptr cs ∧ kv cs = true) ∨ d = true := by
  cases v <;> first | exact .inl ⟨_, _, rfl, h⟩ | exact .inr (.inl ⟨_, rfl, h⟩) | exact .inr (.inr h)
theorem slK_ok {v : AV} {k : Nat → Nat → List AV → Bool} {kr : Nat → Nat → Nat → Nat → Bool} {d : Bool} (h : slK v k kr d = true) : (∃ i e n sz c cs, v = .sl i e n sz c cs ∧ k n sz cs = true) ∨ (∃ i o n sz c, v = .sref i o n sz c ∧ kr i o n sz = true) ∨ d = true := by
  cases v <;> first | exact .inl ⟨_, _, _, _, _, _, rfl, h⟩ | exact .inr (.inl ⟨_, _, _, _, _, rfl, h⟩) | exact .inr (.inr h)
theorem callK2_ok {v : AV} {k : Fn → List AV → List AV → Bool} {ky : Nat → Bool} (h : callK2 v k ky = true) : (∃ f a b, v = .func f a b ∧ k f a b = true) ∨ (∃ l, v = .yield l ∧ ky l = true) := by
  cases v <;> first | exact .inl ⟨_, _, _, rfl, h⟩ | exact .inr ⟨_, rfl, h⟩ | exact absurd h (by intro h; cases h)
theorem ifaceK_ok {v : AV} {k : TypeId → AV → Bool} (h : ifaceK v k = true) : ∃ t u, v = .iface t u ∧ k t u = true := by
  cases v <;> first | exact ⟨_, _, rfl, h⟩ | exact absurd h (by intro h; cases h)
theorem natK_ok {v : AV} {k : Nat → Bool} (h : natK v k = true) : ∃ kd n, v = .int kd (.ofNat n) ∧ k n = true := by
  cases v with
  | int kd i =>
    cases i with
    | ofNat n => exact ⟨_, _, rfl, h⟩
    | negSucc n => cases h
  | _ => cases h
theorem wantK_ok {v : AV} {b yes no : Bool} (h : wantK v b yes no = true) : (∃ c, v = .bool c ∧ cond (c == b) yes no = true) ∨ ((∃ l, v = .tuple l) ∧ no = true) := by
  cases v <;> first | exact .inl ⟨_, rfl, h⟩ | exact .inr ⟨⟨_, rfl⟩, h⟩ | exact absurd h (by intro h; cases h)
end Go.Ev
