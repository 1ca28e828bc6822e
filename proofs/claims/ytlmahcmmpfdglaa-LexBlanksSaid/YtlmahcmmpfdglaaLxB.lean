import Derived.Test.YtlmahcmmpfdglaaLxA
set_option linter.all false
namespace Go.Proofs.Ytlmahcmmpfdglaa
open Go Go.Ev
noncomputable section

instance sl37 : SlTy C0.P 37 1 := ⟨⟨5, 1, .int .u8 0, by kernel_rfl, by kernel_rfl, by kernel_rfl, by kernel_rfl, by omega, by omega, rfl, rfl⟩⟩

theorem wN {k m : Nat} (h : k + m ≤ 9223372036854775807) : IntKind.wrap .i64 ((k : Int) + (m : Int)) = ((k + m : Nat) : Int) := by
  rw [wrap64 (by omega) (by omega)]; omega
theorem w1 {k : Nat} (h : k + 1 ≤ 9223372036854775807) : IntKind.wrap .i64 ((k : Int) + 1) = ((k + 1 : Nat) : Int) := by
  rw [wrap64 (by omega) (by omega)]; omega

/-- What stands between quotes, from behind the first on: what it says, how many bytes it has with the last quote. -/
def qbody : List UInt8 → Option (List UInt8 × Nat)
  | [] => none
  | c :: r => if c = 39 then (match r with
      | [] => some ([], 1)
      | d :: r' => if d = 39 then (qbody r').map fun p => (39 :: p.1, p.2 + 2) else some ([], 1))
    else (qbody r).map fun p => (c :: p.1, p.2 + 1)

theorem qbody_ne {c : UInt8} (r : List UInt8) (h : ¬ c = 39) : qbody (c :: r) = (qbody r).map fun p => (c :: p.1, p.2 + 1) := by
  cases r <;> simp [qbody, h]
theorem u39 (c : UInt8) : ((c.toNat : Int) = 39) ↔ c = 39 := by
  constructor
  · intro h
    have : c.toNat = 39 := by omega
    exact UInt8.toNat_inj.1 this
  · rintro rfl; rfl

theorem u8Cells_snoc (l : List UInt8) (c : UInt8) : u8Cells l ++ (AV.int .u8 (c.toNat : Int)).cells = u8Cells (l ++ [c]) := by simp [u8Cells, AV.cells]
theorem drop_cons {s : List UInt8} {k : Nat} (h : k < s.length) : s.drop k = s[k] :: s.drop (k + 1) := List.drop_eq_getElem_cons h

theorem quoted_loop (R : Nat) (s : List UInt8) (hs : s.length ≤ 1000000) : ∀ (r k : Nat) (x : AV) (st : St) (acc : List UInt8), Sl st 1 x (u8Cells acc) → k ≤ s.length → s.length - k < r → acc.length ≤ k →
    ∃ st', lex_quoted_l11010 R s r x (k : Int) st = some (match qbody (s.drop k) with
      | some (t, n) => .inl (acc ++ t, ((k + n : Nat) : Int), st')
      | none => .inr st') := by
  intro r
  induction r with
  | zero => intro k x st acc h1 h2 h3; omega
  | succ r ih =>
    intro k x st acc hx hk hr ha
    unfold lex_quoted_l11010
    by_cases hlt : k < s.length
    · rw [if_pos (by omega), idxS_lt hlt, Option.bind_some, drop_cons hlt]
      have hb : (u8Cells acc).length ≤ most := by simp [u8Cells, most]; omega
      by_cases hq : s[k] = 39
      · rw [if_pos ((u39 _).2 hq), w1 (by omega)]
        by_cases hlt2 : k + 1 < s.length
        · rw [if_pos (by omega), idxS_lt hlt2, Option.bind_some, drop_cons hlt2]
          by_cases hq2 : s[k + 1] = 39
          · rw [if_pos ((u39 _).2 hq2), w1 (by omega)]
            obtain ⟨x', st', e, hS, hK, _⟩ := push1 (P := C0.P) (t := 37) (v := .int .u8 (s[k].toNat : Int)) (fun p => lex_quoted_l11010 R s r p.1 ((k + 1 + 1 : Nat) : Int) p.2) hx rfl rfl hb (by omega)
            rw [u8Cells_snoc] at hS
            obtain ⟨st2, h2⟩ := ih (k + 2) x' st' (acc ++ [s[k]]) hS (by omega) (by omega) (by simp; omega)
            refine ⟨st2, Eq.trans e (h2.trans ?_)⟩
            simp only [qbody, hq, hq2, if_true]
            cases qbody (List.drop (k + 2) s) with
            | none => rfl
            | some p => simp; omega
          · rw [if_neg (fun h => hq2 ((u39 _).1 h)), strOf_sl hx, Option.bind_some]
            exact ⟨st, by simp [qbody, hq, hq2]⟩
        · rw [if_neg (by omega), strOf_sl hx, Option.bind_some, List.drop_eq_nil_of_le (by omega)]
          exact ⟨st, by simp [qbody, hq]⟩
      · rw [if_neg (fun h => hq ((u39 _).1 h)), w1 (by omega)]
        obtain ⟨x', st', e, hS, hK, _⟩ := push1 (P := C0.P) (t := 37) (v := .int .u8 (s[k].toNat : Int)) (fun p => lex_quoted_l11010 R s r p.1 ((k + 1 : Nat) : Int) p.2) hx rfl rfl hb (by omega)
        rw [u8Cells_snoc] at hS
        obtain ⟨st2, h2⟩ := ih (k + 1) x' st' (acc ++ [s[k]]) hS (by omega) (by omega) (by simp; omega)
        refine ⟨st2, Eq.trans e (h2.trans ?_)⟩
        rw [qbody_ne _ hq]
        cases qbody (List.drop (k + 1) s) with
        | none => rfl
        | some p => simp; omega
    · rw [if_neg (by omega), List.drop_eq_nil_of_le (by omega)]
      exact ⟨st, by simp [qbody]⟩
end
end Go.Proofs.Ytlmahcmmpfdglaa
