/- Symbolic walks: the evaluator, led by hints: what is told, what is asked of it. -/
import Derived.Test.YthodfojhbbendaaGreatDoorEvWc
set_option linter.all false
namespace Go.Ev

/-! ### An operation by its operands' values -/
def rnX (i : Nat) : Operand → Operand
  | .tmp _ => .tmp i
  | x => x
def rnXs : Nat → List Operand → List Operand
  | _, [] => []
  | i, x :: xs => rnX i x :: rnXs (i + 1) xs
def rnPs : Nat → List (Nat × Operand) → List (Nat × Operand)
  | _, [] => []
  | i, (j, x) :: ps => (j, rnX i x) :: rnPs (i + 1) ps
def rnO (i : Nat) : Option Operand → Option Operand
  | none => none
  | some x => some (rnX i x)
def nO : Option Operand → Nat
  | none => 0
  | some _ => 1
def rnOp : Op → Op
  | .move x => .move (rnX 0 x)
  | .assign x => .assign (rnX 0 x)
  | .pick c a b => .pick (rnX 0 c) (rnX 1 a) (rnX 2 b)
  | .box t v => .box t (rnX 0 v)
  | .build t ps => .build t ⟨rnPs 0 ps.toList⟩
  | .buildSlice t n ps => .buildSlice t n ⟨rnPs 0 ps.toList⟩
  | .insert t m k v => .insert t (rnX 0 m) (rnX 1 k) (rnX 2 v)
  | .load t a => .load t (rnX 0 a)
  | .store t a v => .store t (rnX 0 a) (rnX 1 v)
  | .nilCheck x => .nilCheck (rnX 0 x)
  | .binOp op t x y u => .binOp op t (rnX 0 x) (rnX 1 y) u
  | .unOp op t x => .unOp op t (rnX 0 x)
  | .convert s d x => .convert s d (rnX 0 x)
  | .makeInterface t x => .makeInterface t (rnX 0 x)
  | .makeFunc fn a b => .makeFunc fn ⟨rnXs 0 a.toList⟩ ⟨rnXs a.toList.length b.toList⟩
  | .makeSlice t l c => .makeSlice t (rnX 0 l) (rnX 1 c)
  | .slice t x l h m => .slice t (rnX 0 x) (rnO 1 l) (rnO (1 + nO l) h) (rnO (1 + nO l + nO h) m)
  | .fieldAddr t x i => .fieldAddr t (rnX 0 x) i
  | .field t x i => .field t (rnX 0 x) i
  | .indexAddr t x i => .indexAddr t (rnX 0 x) (rnX 1 i)
  | .index t x i => .index t (rnX 0 x) (rnX 1 i)
  | .lookup t x i ok => .lookup t (rnX 0 x) (rnX 1 i) ok
  | .mapUpdate t m k v => .mapUpdate t (rnX 0 m) (rnX 1 k) (rnX 2 v)
  | .range t x => .range t (rnX 0 x)
  | .entry x => .entry (rnX 0 x)
  | .typeAssert x s t ok => .typeAssert (rnX 0 x) s t ok
  | .extract x i => .extract (rnX 0 x) i
  | .call ⟨.builtin b, args, ts⟩ => .call ⟨.builtin b, ⟨rnXs 0 args.toList⟩, ts⟩
  | op => op
/-- Operations that the walk takes by their operands' values. -/
def rnOk : Op → Bool
  | .move _ | .assign _ | .pick .. | .box .. | .build .. | .buildSlice .. | .insert .. | .load .. | .store .. | .nilCheck _ | .binOp .. | .unOp .. | .convert .. | .makeInterface ..
  | .makeSlice .. | .slice .. | .fieldAddr .. | .field .. | .indexAddr .. | .index .. | .lookup .. | .mapUpdate .. | .range .. | .entry _ | .typeAssert .. | .extract .. | .alloc _ => true
  | .makeFunc .. => true
  | .makeMap _ none => true
  | .call ⟨.builtin _, _, _⟩ => true
  | _ => false

section
variable {ts pre post vs : List AV} {a b c v : AV}
theorem opnd_rn {x : Operand} (h : opnd ts x = some v) (pre post : List AV) : opnd (pre ++ v :: post) (rnX pre.length x) = some v := by
  cases x with
  | tmp t => simp [rnX, opnd, List.getD]
  | const c => exact h
  | global g => exact h
  | func f => exact h
theorem opnd_rn0 {x : Operand} (h : opnd ts x = some a) (post : List AV) : opnd (a :: post) (rnX 0 x) = some a := opnd_rn h [] post
theorem opnd_rn1 {x : Operand} (h : opnd ts x = some b) (a : AV) (post : List AV) : opnd (a :: b :: post) (rnX 1 x) = some b := opnd_rn h [a] post
theorem opnd_rn2 {x : Operand} (h : opnd ts x = some c) (a b : AV) (post : List AV) : opnd (a :: b :: c :: post) (rnX 2 x) = some c := opnd_rn h [a, b] post
theorem opnd_rn3 {x : Operand} {d : AV} (h : opnd ts x = some d) (a b c : AV) (post : List AV) : opnd (a :: b :: c :: d :: post) (rnX 3 x) = some d := opnd_rn h [a, b, c] post
theorem opnds_cons {x : Operand} {xs : List Operand} (h : opnds ts (x :: xs) = some vs) : ∃ v vs', vs = v :: vs' ∧ opnd ts x = some v ∧ opnds ts xs = some vs' := by
  simp only [opnds, Option.bind_eq_some_iff, Option.some.injEq] at h
  obtain ⟨v, h1, vs', h2, rfl⟩ := h
  exact ⟨v, vs', rfl, h1, h2⟩
theorem opnds_nil (h : opnds ts [] = some vs) : vs = [] := by
  simp only [opnds, Option.some.injEq] at h; exact h.symm
theorem opnds_rn : ∀ {xs : List Operand} {vs : List AV} (pre : List AV), opnds ts xs = some vs → opnds (pre ++ vs) (rnXs pre.length xs) = some vs
  | [], _, pre, h => by rw [opnds_nil h]; rfl
  | x :: xs, _, pre, h => by
    obtain ⟨v, vs', rfl, h1, h2⟩ := opnds_cons h
    have h3 := opnds_rn (pre ++ [v]) h2
    simp only [List.append_assoc, List.singleton_append, List.length_append, List.length_cons, List.length_nil, Nat.zero_add] at h3
    simp only [rnXs, opnds, opnd_rn h1 pre vs', h3, Option.bind_some]
theorem parts_rn : ∀ {ps : List (Nat × Operand)} {vs : List AV} (pre : List AV), opnds ts (ps.map (·.2)) = some vs → parts? (pre ++ vs) (rnPs pre.length ps) = parts? ts ps
  | [], _, pre, h => rfl
  | (i, x) :: ps, _, pre, h => by
    obtain ⟨v, vs', rfl, h1, h2⟩ := opnds_cons h
    have h3 := parts_rn (pre ++ [v]) h2
    simp only [List.append_assoc, List.singleton_append, List.length_append, List.length_cons, List.length_nil, Nat.zero_add] at h3
    simp only [rnPs, parts?, opnd_rn h1 pre vs', h1, h3, Option.bind_some]
theorem optV_rn {x : Option Operand} (pre : List AV) (h : opnds ts x.toList = some vs) (post : List AV) : optV (pre ++ vs ++ post) (rnO pre.length x) = optV ts x := by
  cases x with
  | none => rfl
  | some x =>
    obtain ⟨v, vs', rfl, h1, h2⟩ := opnds_cons h
    obtain rfl := opnds_nil h2
    have := opnd_rn h1 pre post
    simp only [List.append_assoc, List.cons_append, List.nil_append, rnO, optV, this, h1]
theorem opnds_append : ∀ {xs ys : List Operand} {vs : List AV}, opnds ts (xs ++ ys) = some vs → ∃ as bs, vs = as ++ bs ∧ opnds ts xs = some as ∧ opnds ts ys = some bs
  | [], ys, vs, h => ⟨[], vs, rfl, rfl, h⟩
  | x :: xs, ys, vs, h => by
    obtain ⟨v, vs', rfl, h1, h2⟩ := opnds_cons h
    obtain ⟨as, bs, rfl, h3, h4⟩ := opnds_append h2
    exact ⟨v :: as, bs, rfl, by simp only [opnds, h1, h3, Option.bind_some], h4⟩
theorem opnds_len : ∀ {xs : List Operand} {vs : List AV}, opnds ts xs = some vs → vs.length = xs.length
  | [], _, h => by rw [opnds_nil h]; rfl
  | x :: xs, _, h => by
    obtain ⟨v, vs', rfl, h1, h2⟩ := opnds_cons h
    simp [opnds_len h2]
end
end Go.Ev
