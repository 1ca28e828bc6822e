import Derived.Test.YtlmahcmmpfdglaaLxB
set_option linter.all false
namespace Go.Proofs.Ytlmahcmmpfdglaa
open Go Go.Ev
noncomputable section

theorem quoted_eq (R : Nat) (s : List UInt8) (st : St) (hs : s.length ≤ 1000000) (h1 : 1 ≤ s.length) (hR : s.length < R) :
    ∃ st', lex_quoted R s st = some (match qbody (s.drop 1) with
      | some (t, n) => (t, ((1 + n : Nat) : Int), st')
      | none => ([], 0, st')) := by
  obtain ⟨st', h⟩ := quoted_loop R s hs R 1 .snil st [] (Sl.nil st 1) h1 (by omega) (by simp)
  refine ⟨st', ?_⟩
  unfold lex_quoted
  rw [show ((1 : Int)) = ((1 : Nat) : Int) from rfl, h, Option.bind_some]
  cases qbody (List.drop 1 s) with
  | none => rfl
  | some p => simp

theorem rquoted_loop (R : Nat) (s : List UInt8) (hs : s.length ≤ 1000000) : ∀ (r k : Nat) (acc : List UInt8), k ≤ s.length → s.length - k < r → acc.length ≤ k →
    parchmentref11_quoted_l11010 R s r acc (k : Int) = some (match qbody (s.drop k) with
      | some (t, n) => .inl (acc ++ t, ((k + n : Nat) : Int))
      | none => .inr ()) := by
  intro r
  induction r with
  | zero => intro k acc h2 h3; omega
  | succ r ih =>
    intro k acc hk hr ha
    unfold parchmentref11_quoted_l11010
    by_cases hlt : k < s.length
    · rw [if_pos (by omega), idxS_lt hlt, Option.bind_some, drop_cons hlt]
      by_cases hq : s[k] = 39
      · rw [if_pos ((u39 _).2 hq), w1 (by omega)]
        by_cases hlt2 : k + 1 < s.length
        · rw [if_pos (by omega), idxS_lt hlt2, Option.bind_some, drop_cons hlt2]
          by_cases hq2 : s[k + 1] = 39
          · rw [if_pos ((u39 _).2 hq2), w1 (by omega), catS_le (by simp; omega), Option.bind_some]
            have h2 := ih (k + 2) (acc ++ [39]) (by omega) (by omega) (by simp; omega)
            refine h2.trans ?_
            simp only [qbody, hq, hq2, if_true]
            cases qbody (List.drop (k + 2) s) with
            | none => rfl
            | some p => simp; omega
          · rw [if_neg (fun h => hq2 ((u39 _).1 h))]
            simp [qbody, hq, hq2]
        · rw [if_neg (by omega), List.drop_eq_nil_of_le (by omega)]
          simp [qbody, hq]
      · rw [if_neg (fun h => hq ((u39 _).1 h)), w1 (by omega), subS_nat (by omega) (by omega), Option.bind_some]
        have e : (s.take (k + 1)).drop k = [s[k]] := by
          rw [List.drop_take, drop_cons hlt, show k + 1 - k = 1 by omega]
          rfl
        rw [e, catS_le (by simp; omega), Option.bind_some]
        have h2 := ih (k + 1) (acc ++ [s[k]]) (by omega) (by omega) (by simp; omega)
        refine h2.trans ?_
        rw [qbody_ne _ hq]
        cases qbody (List.drop (k + 1) s) with
        | none => rfl
        | some p => simp; omega
    · rw [if_neg (by omega), List.drop_eq_nil_of_le (by omega)]
      simp [qbody]
theorem rquoted_eq (R : Nat) (s : List UInt8) (k : Nat) (hs : s.length ≤ 1000000) (h1 : k + 1 ≤ s.length) (hR : s.length < R) :
    parchmentref11_quoted R s (k : Int) = some (match qbody (s.drop (k + 1)) with
      | some (t, n) => (t, ((k + 1 + n : Nat) : Int))
      | none => ([], 0)) := by
  have h := rquoted_loop R s hs R (k + 1) [] h1 (by omega) (by simp)
  unfold parchmentref11_quoted
  rw [w1 (by omega), h, Option.bind_some]
  cases qbody (List.drop (k + 1) s) with
  | none => rfl
  | some p => simp

/-! ### Digits in pairs -/
def hexd (n : Nat) : Nat := if 48 ≤ n ∧ n ≤ 57 then n - 48 else if 97 ≤ n ∧ n ≤ 102 then n - 87 else 16
def unhex : List UInt8 → Option (List UInt8)
  | [] => some []
  | [_] => none
  | a :: b :: r => if hexd a.toNat > 15 ∨ hexd b.toNat > 15 then none else (unhex r).map fun l => UInt8.ofNat (hexd a.toNat * 16 + hexd b.toNat) :: l
theorem hexd_le (n : Nat) : hexd n ≤ 16 := by unfold hexd; split <;> (try split) <;> omega
theorem nibble_tab : ∀ n : Fin 256, byteAt [48, 49, 50, 51, 52, 53, 54, 55, 56, 57, 97, 98, 99, 100, 101, 102] n.1 0 = if hexd n.1 ≤ 15 then ((hexd n.1 : Nat) : Int) else -1 := by decide +kernel
theorem nibble_eq (R : Nat) (c : UInt8) : lex_nibble R (c.toNat : Int) = some (if hexd c.toNat ≤ 15 then ((hexd c.toNat : Nat) : Int) else -1) := by
  have hc : c.toNat < 256 := c.toNat_lt
  have := nibble_tab ⟨c.toNat, hc⟩
  unfold lex_nibble strings_IndexByte stringslite_IndexByte xIdx
  simp only [Option.bind_some, Int.toNat_natCast, Nat.mod_eq_of_lt hc]
  rw [this]
theorem half_tab : ∀ n : Fin 256, parchmentref11_half 0 (n.1 : Int) = some ((hexd n.1 : Nat) : Int) := by decide +kernel
theorem half_eq (R : Nat) (c : UInt8) : parchmentref11_half R (c.toNat : Int) = some ((hexd c.toNat : Nat) : Int) := half_tab ⟨c.toNat, c.toNat_lt⟩
theorem nib_tab : ∀ a b : Fin 16, IntKind.wrap .u8 (orI .i64 (IntKind.wrap .i64 ((a.1 : Int) * 2 ^ 4)) (b.1 : Int)) = ((a.1 * 16 + b.1 : Nat) : Int) := by decide +kernel
theorem nib_eq {a b : Nat} (ha : a ≤ 15) (hb : b ≤ 15) : IntKind.wrap .u8 (orI .i64 (IntKind.wrap .i64 ((a : Int) * 2 ^ 4)) (b : Int)) = (((UInt8.ofNat (a * 16 + b)).toNat : Nat) : Int) := by
  rw [nib_tab ⟨a, by omega⟩ ⟨b, by omega⟩]
  simp only [UInt8.toNat_ofNat']
  rw [Nat.mod_eq_of_lt (by omega)]

theorem drop_two {s : List UInt8} {k : Nat} (h : k + 1 < s.length) : s.drop k = s[k] :: s[k + 1] :: s.drop (k + 2) := by
  rw [drop_cons (by omega : k < s.length), drop_cons h]

theorem unhex_len : ∀ (l t : List UInt8), unhex l = some t → l.length = 2 * t.length
  | [], t, h => by cases h; rfl
  | [_], t, h => by cases h
  | a :: b :: r, t, h => by
    simp only [unhex] at h
    split at h
    · cases h
    · obtain ⟨u, h1, rfl⟩ := Option.map_eq_some_iff.1 h
      have := unhex_len r u h1
      simp; omega
/-- Pairs of digits, as far as they go. -/
theorem hex_loop (R : Nat) (s : List UInt8) (hs : s.length ≤ 1000000) (room : Nat) (hroom : room = s.length / 2) : ∀ (r k : Nat) (x : AV) (st : St) (acc : List UInt8), Sr st 1 x room (u8Cells acc) → k ≤ s.length → s.length - k < r → k = 2 * acc.length →
    ∃ st', (∀ t, unhex (s.drop k) = some t → ∃ x', lex_hex_l11010 R s r x (k : Int) st = some (.inr (x', st')) ∧ Sr st' 1 x' room (u8Cells (acc ++ t))) ∧
      (unhex (s.drop k) = none → lex_hex_l11010 R s r x (k : Int) st = some (.inl ([], false, st')) ∨ (s.length % 2 = 1 ∧ ∃ x' t, lex_hex_l11010 R s r x (k : Int) st = some (.inr (x', st')) ∧ Sr st' 1 x' room (u8Cells t))) := by
  intro r
  induction r with
  | zero => intro k x st acc h1 h2 h3; omega
  | succ r ih =>
    intro k x st acc hx hk hr ha
    unfold lex_hex_l11010
    rw [w1 (by omega)]
    by_cases hlt : k + 1 < s.length
    · rw [if_pos (by omega), idxS_lt (by omega : k < s.length), Option.bind_some, idxS_lt hlt, Option.bind_some, nibble_eq, Option.bind_some, nibble_eq, Option.bind_some, drop_two hlt]
      by_cases h1 : hexd s[k].toNat ≤ 15
      · rw [if_pos h1, if_neg (by omega)]
        by_cases h2 : hexd s[k + 1].toNat ≤ 15
        · rw [if_pos h2, if_neg (by omega), nib_eq h1 h2, show ((k : Int) + 2) = (k : Int) + ((2 : Nat) : Int) from rfl, wN (by omega)]
          have hu : unhex (s[k] :: s[k + 1] :: s.drop (k + 2)) = (unhex (s.drop (k + 2))).map fun l => UInt8.ofNat (hexd s[k].toNat * 16 + hexd s[k + 1].toNat) :: l := by
            rw [unhex, if_neg (by omega)]
          rw [hu]
          generalize UInt8.ofNat (hexd s[k].toNat * 16 + hexd s[k + 1].toNat) = v
          obtain ⟨x', st', e, hS⟩ := pushR1 (P := C0.P) (t := 37) (v := .int .u8 (v.toNat : Int)) (fun p => lex_hex_l11010 R s r p.1 ((k + 2 : Nat) : Int) p.2) hx rfl rfl (by simp [u8Cells]; omega) (by simp [most]; omega) (by omega)
          rw [u8Cells_snoc] at hS
          obtain ⟨st2, h3, h4⟩ := ih (k + 2) x' st' (acc ++ [v]) hS (by omega) (by omega) (by simp; omega)
          refine ⟨st2, fun t ht => ?_, fun hn => ?_⟩
          · obtain ⟨u, h5, rfl⟩ := Option.map_eq_some_iff.1 ht
            obtain ⟨x2, h6, h7⟩ := h3 u h5
            exact ⟨x2, Eq.trans e h6, by simpa using h7⟩
          · rw [Option.map_eq_none_iff] at hn
            rcases h4 hn with h5 | ⟨h5, x2, t, h6, h7⟩
            · exact .inl (Eq.trans e h5)
            · exact .inr ⟨h5, x2, t, Eq.trans e h6, h7⟩
        · rw [if_neg h2, if_pos (by omega)]
          refine ⟨st, fun t ht => ?_, fun _ => .inl rfl⟩
          rw [unhex, if_pos (by omega)] at ht
          cases ht
      · rw [if_neg h1, if_pos (by omega)]
        refine ⟨st, fun t ht => ?_, fun _ => .inl rfl⟩
        rw [unhex, if_pos (by omega)] at ht
        cases ht
    · rw [if_neg (by omega)]
      refine ⟨st, fun t ht => ⟨x, rfl, ?_⟩, fun hn => .inr ⟨?_, x, acc, rfl, hx⟩⟩
      · rcases Nat.lt_or_ge k s.length with h | h
        · rw [drop_cons h, List.drop_eq_nil_of_le (by omega)] at ht
          cases ht
        · rw [List.drop_eq_nil_of_le h] at ht
          cases ht
          simpa using hx
      · rcases Nat.lt_or_ge k s.length with h | h
        · omega
        · rw [List.drop_eq_nil_of_le h] at hn
          cases hn
theorem hex_eq (R : Nat) (s : List UInt8) (st : St) (hs : s.length ≤ 1000000) (hR : s.length < R) :
    ∃ st', (∀ t, unhex s = some t → lex_hex R s st = some (t, true, st')) ∧ (unhex s = none → ∃ t, lex_hex R s st = some (t, false, st')) := by
  have e0 : IntKind.wrap .i64 (Int.tdiv (List.length s : Int) 2) = ((s.length / 2 : Nat) : Int) := by
    rw [Int.tdiv_eq_ediv_of_nonneg (by omega), wrap64 (by omega) (by omega)]; omega
  have em : Int.tmod (List.length s : Int) 2 = ((s.length % 2 : Nat) : Int) := by
    rw [Int.tmod_eq_emod_of_nonneg (by omega)]; omega
  obtain ⟨x, st1, h1, h2, _⟩ := make_sr (P := C0.P) (t := 37) (k := .i64) (k' := .i64) (c := s.length / 2) st (by simp [most]; omega)
  obtain ⟨st2, h3, h4⟩ := hex_loop R s hs (s.length / 2) rfl R 0 x st1 [] h2 (by omega) (by omega) rfl
  refine ⟨st2, fun t ht => ?_, fun hn => ?_⟩
  · obtain ⟨x', h5, h6⟩ := h3 t (by simpa using ht)
    unfold lex_hex
    rw [e0, h1, Option.bind_some]
    simp only
    rw [show (0 : Int) = ((0 : Nat) : Int) from rfl, h5, Option.bind_some]
    simp only
    rw [strOf_sr h6 (bytesOf_cells _), Option.bind_some, em, if_pos (by have := unhex_len s t ht; omega)]
    rfl
  · unfold lex_hex
    rw [e0, h1, Option.bind_some]
    simp only
    rcases h4 (by simpa using hn) with h5 | ⟨h5, x', t, h6, h7⟩
    · exact ⟨[], by rw [show (0 : Int) = ((0 : Nat) : Int) from rfl, h5, Option.bind_some]⟩
    · exact ⟨t, by
        rw [show (0 : Int) = ((0 : Nat) : Int) from rfl, h6, Option.bind_some]
        simp only
        rw [strOf_sr h7 (bytesOf_cells _), Option.bind_some, em, if_neg (by omega)]⟩
end
end Go.Proofs.Ytlmahcmmpfdglaa
