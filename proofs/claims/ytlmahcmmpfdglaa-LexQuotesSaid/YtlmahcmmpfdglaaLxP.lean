import Derived.Test.YtlmahcmmpfdglaaLxO
set_option linter.all false
namespace Go.Proofs.Ytlmahcmmpfdglaa
open Go Go.Ev
noncomputable section

/-! ### LexQuotes -/
def esc : List UInt8 → List UInt8
  | [] => []
  | c :: r => if c = 39 then 39 :: 39 :: esc r else c :: esc r
def hx (n : Nat) : UInt8 := UInt8.ofNat (if n < 10 then 48 + n else 87 + n)
def hexs : List UInt8 → List UInt8
  | [] => []
  | c :: r => hx (c.toNat / 16) :: hx (c.toNat % 16) :: hexs r
theorem esc_len : ∀ l, l.length ≤ (esc l).length ∧ (esc l).length ≤ 2 * l.length
  | [] => by simp [esc]
  | c :: r => by
    have := esc_len r
    unfold esc
    split <;> simp <;> omega
theorem hexs_len : ∀ l, (hexs l).length = 2 * l.length
  | [] => rfl
  | c :: r => by simp [hexs, hexs_len r]; omega
theorem esc_append : ∀ a b, esc (a ++ b) = esc a ++ esc b
  | [], _ => rfl
  | c :: a, b => by
    simp only [List.cons_append, esc, esc_append a b]
    split <;> rfl
theorem hexs_append : ∀ a b, hexs (a ++ b) = hexs a ++ hexs b
  | [], _ => rfl
  | c :: a, b => by simp only [List.cons_append, hexs, hexs_append a b]
def hexAl : List UInt8 := [48, 49, 50, 51, 52, 53, 54, 55, 56, 57, 97, 98, 99, 100, 101, 102]
theorem hi_tab : ∀ n : Fin 256, subS hexAl (IntKind.wrap .u8 (Int.tdiv (n.1 : Int) 16)) (IntKind.wrap .u8 ((IntKind.wrap .u8 (Int.tdiv (n.1 : Int) 16)) + 1)) = some [hx (n.1 / 16)] := by decide +kernel
theorem lo_tab : ∀ n : Fin 256, subS hexAl (Int.tmod (n.1 : Int) 16) (IntKind.wrap .u8 ((Int.tmod (n.1 : Int) 16) + 1)) = some [hx (n.1 % 16)] := by decide +kernel
theorem quotes_loop (R : Nat) (s : List UInt8) (hs : s.length ≤ 400) : ∀ (r k : Nat) (st : St), k ≤ s.length → s.length - k < r →
    ∃ st', parchmentlaw11_LexQuotes_l1111010 R s r (39 :: esc (s.take k)) (120 :: 39 :: hexs (s.take k)) (k : Int) st = some (39 :: esc s, 120 :: 39 :: hexs s, st') := by
  intro r
  induction r with
  | zero => intro k st h1 h2; omega
  | succ r ih =>
    intro k st h1 h2
    unfold parchmentlaw11_LexQuotes_l1111010
    by_cases hlt : k < s.length
    · have l1 := esc_len (s.take k)
      have l2 := hexs_len (s.take k)
      rw [List.length_take] at l1 l2
      have hst : s.take (k + 1) = s.take k ++ [s[k]] := by rw [List.take_succ_eq_append_getElem hlt]
      have e1 : (s.take (k + 1)).drop k = [s[k]] := by
        rw [List.drop_take, drop_cons hlt, show k + 1 - k = 1 by omega]
        rfl
      rw [if_pos (by omega), w1 (by omega), subS_nat (by omega) (by omega), e1, Option.bind_some, catS_le (by simp; omega), Option.bind_some, idxS_lt hlt, Option.bind_some]
      have t1 : subS [48, 49, 50, 51, 52, 53, 54, 55, 56, 57, 97, 98, 99, 100, 101, 102] (IntKind.wrap .u8 (Int.tdiv (s[k].toNat : Int) 16)) (IntKind.wrap .u8 ((IntKind.wrap .u8 (Int.tdiv (s[k].toNat : Int) 16)) + 1)) = some [hx (s[k].toNat / 16)] := hi_tab ⟨s[k].toNat, s[k].toNat_lt⟩
      have t2 : subS [48, 49, 50, 51, 52, 53, 54, 55, 56, 57, 97, 98, 99, 100, 101, 102] (Int.tmod (s[k].toNat : Int) 16) (IntKind.wrap .u8 ((Int.tmod (s[k].toNat : Int) 16) + 1)) = some [hx (s[k].toNat % 16)] := lo_tab ⟨s[k].toNat, s[k].toNat_lt⟩
      have x1 : (120 :: 39 :: hexs (s.take k)) ++ ([hx (s[k].toNat / 16)] ++ [hx (s[k].toNat % 16)]) = 120 :: 39 :: hexs (s.take (k + 1)) := by rw [hst, hexs_append]; rfl
      by_cases hq : s[k] = 39
      · rw [if_pos ((u39 _).2 hq), catS_le (by simp; omega), Option.bind_some, t1, Option.bind_some, t2, Option.bind_some, catS_le (by simp), Option.bind_some, catS_le (by simp; omega), Option.bind_some, x1]
        have x2 : (39 :: esc (s.take k)) ++ [s[k]] ++ [39] = 39 :: esc (s.take (k + 1)) := by
          rw [hst, esc_append]
          simp [esc, hq]
        rw [x2]
        exact ih (k + 1) st hlt (by omega)
      · rw [if_neg (fun h => hq ((u39 _).1 h)), t1, Option.bind_some, t2, Option.bind_some, catS_le (by simp), Option.bind_some, catS_le (by simp; omega), Option.bind_some, x1]
        have x2 : (39 :: esc (s.take k)) ++ [s[k]] = 39 :: esc (s.take (k + 1)) := by
          rw [hst, esc_append]
          simp [esc, hq]
        rw [x2]
        exact ih (k + 1) st hlt (by omega)
    · rw [if_neg (by omega), List.take_of_length_le (by omega)]
      exact ⟨st, rfl⟩

theorem qbody_esc : ∀ l, qbody (esc l ++ [39]) = some (l, (esc l).length + 1)
  | [] => by simp [esc, qbody]
  | c :: r => by
    by_cases hc : c = 39
    · subst hc
      simp only [esc, if_true, List.cons_append, qbody, qbody_esc r, Option.map_some, List.length_cons]
    · simp only [esc, if_neg hc, List.cons_append]
      rw [qbody_ne _ hc, qbody_esc r]
      simp
theorem hx_tab : ∀ n : Fin 16, hx n.1 ≠ 39 ∧ hexd (hx n.1).toNat = n.1 := by decide
theorem hx_ok {n : Nat} (h : n < 16) : hx n ≠ 39 ∧ hexd (hx n).toNat = n := hx_tab ⟨n, h⟩
theorem qbody_hexs : ∀ l, qbody (hexs l ++ [39]) = some (hexs l, (hexs l).length + 1)
  | [] => by simp [hexs, qbody]
  | c :: r => by
    have hc : c.toNat < 256 := c.toNat_lt
    simp only [hexs, List.cons_append]
    rw [qbody_ne _ (hx_ok (by omega)).1, qbody_ne _ (hx_ok (by omega)).1, qbody_hexs r]
    simp
theorem unhex_hexs : ∀ l, unhex (hexs l) = some l
  | [] => rfl
  | c :: r => by
    have hc : c.toNat < 256 := c.toNat_lt
    have h1 := (hx_ok (n := c.toNat / 16) (by omega)).2
    have h2 := (hx_ok (n := c.toNat % 16) (by omega)).2
    simp only [hexs, unhex, h1, h2]
    rw [if_neg (by omega), unhex_hexs r, Option.map_some, show c.toNat / 16 * 16 + c.toNat % 16 = c.toNat by omega]
    simp

/-- One word that is all of a text. -/
theorem whole_word {s : List UInt8} {kd : Int} {w : List UInt8} (h0 : 0 < s.length) (hb : ¬ isB s[0].toNat = true) (hw : wordAt s 0 = some (kd, w, s.length)) : wordsOf s = ([(kd, w, 0)], none) := by
  unfold wordsOf tk
  rw [runOf_no h0 hb, if_pos h0, hw]
  simp only
  have e : tk s s.length (0 + s.length + runOf isB s (0 + s.length)) = ([], none) := by
    obtain ⟨f, hf⟩ : ∃ f, s.length = f + 1 := ⟨s.length - 1, by omega⟩
    rw [runOf_end (by omega)]
    rw [show tk s s.length (0 + s.length + 0) = tk s (f + 1) (0 + s.length + 0) by rw [← hf]]
    unfold tk
    rw [if_neg (by omega)]
  rw [e]; rfl
theorem quotes_word (t : List UInt8) : wordsOf (39 :: esc t ++ [39]) = ([(4, t, 0)], none) := by
  refine whole_word (by simp) (by show ¬ isB (39 : UInt8).toNat = true; decide) ?_
  unfold wordAt
  have e0 : (39 :: esc t ++ [39])[0]? = some 39 := rfl
  rw [e0]
  simp only
  rw [if_neg (by rintro ⟨h, _⟩; revert h; decide), if_neg (by decide), if_neg (by decide), if_pos trivial]
  have e1 : (39 :: esc t ++ [39]).drop (0 + 1) = esc t ++ [39] := rfl
  rw [e1, qbody_esc]
  simp
theorem hex_word (t : List UInt8) : wordsOf (120 :: 39 :: hexs t ++ [39]) = ([(5, t, 0)], none) := by
  refine whole_word (by simp) (by show ¬ isB (120 : UInt8).toNat = true; decide) ?_
  unfold wordAt
  have e0 : (120 :: 39 :: hexs t ++ [39])[0]? = some 120 := rfl
  rw [e0]
  simp only
  rw [if_pos ⟨trivial, rfl⟩]
  have e1 : (120 :: 39 :: hexs t ++ [39]).drop (0 + 2) = hexs t ++ [39] := rfl
  rw [e1, qbody_hexs, Option.bind_some]
  simp only [unhex_hexs, Option.map_some]
  simp

theorem lexQuotes_core (R : Nat) (s : List UInt8) (st : St) (hR : 3000 < R) (hs : s.length ≤ 400) : ∃ st',
   (Option.bind (parchmentlaw11_LexQuotes_l1111010 R s R [39] [120, 39] 0 st) fun (s750, s751, st752) =>
   Option.bind (catS s750 [39]) fun s754 =>
   Option.bind (lex_Words R s754 st752) fun (x755, i756, i757, st759) =>
   Option.bind (catS s751 [39]) fun s761 =>
   Option.bind (lex_Words R s761 st759) fun (x762, i763, i764, st766) =>
   Option.bind (parchmentlaw11_LexQuotes_j11111110 R s x755 i757 x762 i764 st766) fun (b768, st769) =>
   some (b768, st769)) = some (true, st') := by
  have l1 := esc_len s
  have l2 := hexs_len s
  obtain ⟨st1, h1⟩ := quotes_loop R s hs R 0 st (by omega) (by omega)
  have h1' : parchmentlaw11_LexQuotes_l1111010 R s R [39] [120, 39] 0 st = _ := h1
  rw [h1', Option.bind_some]
  simp only
  rw [catS_le (by simp; omega), Option.bind_some]
  obtain ⟨x, st2, h2, h3⟩ := words_eq R (39 :: esc s ++ [39]) st1 (by simp; omega) (by simp; omega)
  rw [quotes_word] at h2 h3
  rw [h2, Option.bind_some]
  simp only
  rw [catS_le (by simp; omega), Option.bind_some]
  obtain ⟨y, st3, h4, h5⟩ := words_eq R (120 :: 39 :: hexs s ++ [39]) st2 (by simp; omega) (by simp; omega)
  rw [hex_word] at h4 h5
  rw [h4, Option.bind_some]
  simp only
  have r1 := (h3 rfl).row
  have r2 := (h5 rfl).row
  obtain ⟨rest1, f1⟩ := wfields (st := st2) (i := 0) r1 (by simp)
  obtain ⟨rest2, f2⟩ := wfields (st := st2) (i := 0) r2 (by simp)
  have n1 := lenOf_row r1 (by omega)
  have n2 := lenOf_row r2 (by omega)
  simp only [List.cons_append, List.nil_append, List.getElem_cons_zero] at f1 f2 n1 n2
  refine ⟨st3, ?_⟩
  have e : parchmentlaw11_LexQuotes_j11111110 R s x 0 y 0 st3 = some (true, st3) := by
    unfold parchmentlaw11_LexQuotes_j11111110
    simp only [xawake, Option.bind_some, if_true]
    rw [n1, Option.bind_some, if_pos (by simp [wsCells_len])]
    rw [show (0 : Int) = ((0 : Nat) : Int) from rfl, f1, Option.bind_some, shift0, Option.bind_some, load_one, Option.bind_some]
    simp only [avInt, if_true, Option.bind_some]
    rw [shift1, Option.bind_some, load_one, Option.bind_some]
    simp only [avStr, Option.bind_some, if_true]
    rw [n2, Option.bind_some, if_pos (by simp [wsCells_len]), f2, Option.bind_some, shift0, Option.bind_some, load_one, Option.bind_some]
    simp only [avInt, if_true, Option.bind_some]
    rw [shift1, Option.bind_some, load_one, Option.bind_some]
    simp only [avStr, Option.bind_some, if_true]
  rw [e]
  rfl
theorem lexQuotes_true (R : Nat) (s : List UInt8) (st : St) (hR : 3000 < R) : ∃ st', parchmentlaw11_LexQuotes R s st = some (true, st') := by
  unfold parchmentlaw11_LexQuotes
  by_cases h : s.length > 400
  · rw [if_pos (by omega), show (0 : Int) = ((0 : Nat) : Int) from rfl, show (400 : Int) = ((400 : Nat) : Int) from rfl, subS_nat (by omega) (by omega), Option.bind_some]
    exact lexQuotes_core R _ st hR (by simp; omega)
  · rw [if_neg (by omega)]
    exact lexQuotes_core R s st hR (by omega)
end
end Go.Proofs.Ytlmahcmmpfdglaa
