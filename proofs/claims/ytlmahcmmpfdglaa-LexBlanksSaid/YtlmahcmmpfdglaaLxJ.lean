import Derived.Test.YtlmahcmmpfdglaaLxI
set_option linter.all false
namespace Go.Proofs.Ytlmahcmmpfdglaa
open Go Go.Ev
noncomputable section

/-! ### Signs -/
def twos : List (List UInt8) := [[60, 62], [60, 61], [62, 61]]
def singles : List UInt8 := [61, 60, 62, 43, 45, 42, 40, 41, 123, 125, 91, 93, 44, 58, 46]
def signs : List (List UInt8) := twos ++ singles.map fun c => [c]
/-- The sign that a text begins with. -/
def signAt (t : List UInt8) : Option (List UInt8) := signs.find? fun w => decide (t.take w.length = w)

theorem prefix_eq (R : Nat) (t w : List UInt8) : strings_HasPrefix R t w = some (decide (t.take w.length = w)) := by
  unfold strings_HasPrefix stringslite_HasPrefix stringslite_HasPrefix_j10
  by_cases h : w.length ≤ t.length
  · rw [if_pos (by omega), show (0 : Int) = ((0 : Nat) : Int) from rfl, subS_nat (by omega) h, List.drop_zero, Option.bind_some]
    by_cases e : t.take w.length = w
    · rw [if_pos e, decide_eq_true e]; rfl
    · rw [if_neg e, decide_eq_false e]; rfl
  · rw [if_neg (by omega), decide_eq_false]
    · rfl
    · intro e
      have := congrArg List.length e
      rw [List.length_take] at this
      omega
theorem sub_end {s : List UInt8} {k : Nat} (h : k ≤ s.length) : subS s (k : Int) ((s.length : Nat) : Int) = some (s.drop k) := by
  rw [subS_nat h (Nat.le_refl _), List.take_length]

theorem sign_loop (R : Nat) (s : List UInt8) (k : Nat) (hk : k ≤ s.length) (d t0 : Nat) (u : Bool) (a b c : AV) (ks : List (List UInt8)) (x : AV) (st : St) (hx : Sl st 1 x (ks.map AV.str)) (hl : ks.length ≤ 1000000) (hd : st.objs.get d = some (.cells t0 u [a, b, c])) : ∀ (r i : Nat), i ≤ ks.length → ks.length - i < r →
    ∃ st', lex_next_l111010 R s (k : Int) d x (ks.length : Int) r (i : Int) st = some (match (ks.drop i).find? (fun w => decide ((s.drop k).take w.length = w)) with
      | some w => .inl ((w.length : Int), st')
      | none => .inr st) ∧ ∀ w, (ks.drop i).find? (fun w => decide ((s.drop k).take w.length = w)) = some w → st'.objs.get d = some (.cells t0 u [.int .i64 6, .str w, .int .i64 (k : Int)]) := by
  intro r
  induction r with
  | zero => intro i h1 h2; omega
  | succ r ih =>
    intro i h1 h2
    unfold lex_next_l111010
    by_cases hlt : i < ks.length
    · rw [if_pos (by omega)]
      rw [show (Option.bind (indexAddrOp C0.P 47 x (.int .i64 (i : Int))) _ : Option ((Int × St) ⊕ St)) = _ from elem_str (P := C0.P) (t := 47) (t' := 9) (kd := .i64) (fun w => (subS s (k : Int) (List.length s : Nat)).bind fun q => (strings_HasPrefix R q w).bind fun b => if b = true then (storeAt C0.P st 33 (.ref d 0) (.agg [(.int .i64 6), (.str w), (.int .i64 (k : Int))])).bind fun s1 => some (.inl ((List.length w : Int), s1)) else lex_next_l111010 R s (k : Int) d x (ks.length : Int) r (IntKind.wrap .i64 ((i : Int) + 1)) st) hx hlt]
      rw [List.drop_eq_getElem_cons hlt, sub_end hk, Option.bind_some, prefix_eq, Option.bind_some, List.find?_cons]
      by_cases e : (s.drop k).take ks[i].length = ks[i]
      · rw [decide_eq_true e, if_pos rfl, store_cells (new := [.int .i64 6, .str ks[i], .int .i64 (k : Int)]) hd rfl rfl rfl, Option.bind_some]
        refine ⟨_, rfl, fun w hw => ?_⟩
        obtain rfl := Option.some.inj hw
        exact get_put _ _ _
      · rw [decide_eq_false e, if_neg (by simp), w1 (by omega)]
        exact ih (i + 1) hlt (by omega)
    · have e0 : ks.drop i = [] := List.drop_eq_nil_of_le (by omega)
      rw [if_neg (by omega), e0]
      exact ⟨st, rfl, fun w hw => by cases hw⟩

/-! ### The word at a place -/
/-- Its kind, what it says, how many bytes it has; none: it may not be. -/
def wordAt (s : List UInt8) (k : Nat) : Option (Int × List UInt8 × Nat) :=
  match s[k]? with
  | none => none
  | some c =>
    if c = 120 ∧ s[k + 1]? = some 39 then (qbody (s.drop (k + 2))).bind fun q => (unhex q.1).map fun b => (5, b, q.2 + 2)
    else if isL c.toNat = true then
      (if isKey (pieceOf isW s k) then some (2, pieceOf isW s k, runOf isW s k) else if runOf isW s k ≤ 16 then some (1, pieceOf isW s k, runOf isW s k) else none)
    else if isD c.toNat = true then (if numOk (pieceOf isD s k) then some (3, pieceOf isD s k, runOf isD s k) else none)
    else if c = 39 then (qbody (s.drop (k + 1))).map fun q => (4, q.1, q.2 + 1)
    else (signAt (s.drop k)).map fun w => (6, w, w.length)

theorem u120 (c : UInt8) : ((c.toNat : Int) = 120) ↔ c = 120 := by
  constructor
  · intro h
    have : c.toNat = 120 := by omega
    exact UInt8.toNat_inj.1 this
  · rintro rfl; rfl
theorem xq_eq (R : Nat) (s : List UInt8) (k : Nat) (hs : s.length ≤ 1000000) (hk : k < s.length) :
    lex_next_j11000 R s (k : Int) (s[k].toNat : Int) = some (decide (s[k] = 120 ∧ s[k + 1]? = some 39)) := by
  unfold lex_next_j11000
  by_cases h1 : s[k] = 120
  · rw [if_pos ((u120 _).2 h1), w1 (by omega)]
    by_cases h2 : k + 1 < s.length
    · rw [if_pos (by omega), idxS_lt h2, Option.bind_some, List.getElem?_eq_getElem h2]
      by_cases h3 : s[k + 1] = 39
      · rw [if_pos ((u39 _).2 h3), decide_eq_true ⟨h1, by rw [h3]⟩]
      · rw [if_neg (fun h => h3 ((u39 _).1 h)), decide_eq_false (fun h => h3 (Option.some.inj h.2))]
    · rw [if_neg (by omega), List.getElem?_eq_none (by omega), decide_eq_false (fun h => by cases h.2)]
  · rw [if_neg (fun h => h1 ((u120 _).1 h)), decide_eq_false (fun h => h1 h.1)]
theorem rxq_eq (R : Nat) (s : List UInt8) (k : Nat) (hs : s.length ≤ 1000000) (hk : k < s.length) :
    parchmentref11_word_j1100 R s (k : Int) (s[k].toNat : Int) = some (decide (s[k] = 120 ∧ s[k + 1]? = some 39)) := by
  unfold parchmentref11_word_j1100
  by_cases h1 : s[k] = 120
  · rw [if_pos ((u120 _).2 h1), w1 (by omega)]
    by_cases h2 : k + 1 < s.length
    · rw [if_pos (by omega), idxS_lt h2, Option.bind_some, List.getElem?_eq_getElem h2]
      by_cases h3 : s[k + 1] = 39
      · rw [if_pos ((u39 _).2 h3), decide_eq_true ⟨h1, by rw [h3]⟩]
      · rw [if_neg (fun h => h3 ((u39 _).1 h)), decide_eq_false (fun h => h3 (Option.some.inj h.2))]
    · rw [if_neg (by omega), List.getElem?_eq_none (by omega), decide_eq_false (fun h => by cases h.2)]
  · rw [if_neg (fun h => h1 ((u120 _).1 h)), decide_eq_false (fun h => h1 h.1)]
/-- Digits that may be no number. -/
theorem num_eq (R : Nat) (w : List UInt8) (c : UInt8) (r : List UInt8) (hw : w = c :: r) : lex_next_j11001111101100 R (c.toNat : Int) (w.length : Int) w = some (!numOk w) := by
  unfold lex_next_j11001111101100 numOk
  have hh : w.head? = some c := by rw [hw]; rfl
  rw [hh]
  by_cases h1 : 1 < w.length
  · rw [if_pos (by omega), decide_eq_true h1, Bool.true_and]
    by_cases h2 : c = 48
    · rw [if_pos ((u48 _).2 h2), h2]; rfl
    · rw [if_neg (fun h => h2 ((u48 _).1 h))]
      have : (some c == some (48 : UInt8)) = false := by simpa using h2
      rw [this]
      by_cases h3 : w.length > 19
      · rw [if_pos (by omega), decide_eq_false (by omega : ¬ w.length ≤ 19)]; rfl
      · rw [if_neg (by omega), decide_eq_true (by omega : w.length ≤ 19)]
        by_cases h4 : w.length < 19
        · rw [if_neg (by omega), decide_eq_true h4]; rfl
        · rw [if_pos (by omega), decide_eq_false h4]
          show (if (!(strLt w mostNum || strEq w mostNum)) = true then some true else some false) = _
          cases (strLt w mostNum || strEq w mostNum) <;> rfl
  · rw [if_neg (by omega), decide_eq_false h1, decide_eq_true (by omega : w.length ≤ 19), decide_eq_true (by omega : w.length < 19)]; rfl

theorem new33 : St.empty.objs.get 0 = none := by simp [St.empty, Tr.get]
theorem wd0 (t : Nat) (cs : List AV) : (St.empty.push (.cells t true cs)).objs.get St.empty.next = some (.cells t true cs) := get_push _ _

/-- The program's word at a place. -/
theorem next_eq (R : Nat) (s : List UInt8) (k : Nat) (hs : s.length ≤ 1000000) (hk : k < s.length) : ∃ a b c, xlex_next R s (k : Int) = some (match wordAt s k with
    | some (kd, w, n) => (kd, w, (k : Int), ((n : Nat) : Int))
    | none => (a, b, c, 0)) := by
  have key : ∃ a b c st', lex_next 2000000 s (k : Int) St.empty = some (match wordAt s k with
    | some (kd, w, n) => (kd, w, (k : Int), ((n : Nat) : Int), st')
    | none => (a, b, c, 0, st')) := by
    unfold lex_next wordAt
    rw [idxS_lt hk, Option.bind_some, xq_eq _ s k hs hk, Option.bind_some, List.getElem?_eq_getElem hk]
    simp only
    by_cases hx : s[k] = 120 ∧ s[k + 1]? = some 39
    · obtain ⟨h2, _⟩ := List.getElem?_eq_some_iff.1 hx.2
      rw [decide_eq_true hx, if_pos rfl, if_pos hx, w1 (by omega), sub_end (by omega), Option.bind_some, xquoted _ _ (by rw [List.length_drop]; omega) (by rw [List.length_drop]; omega), Option.bind_some, List.drop_drop, show k + 1 + 1 = k + 2 from rfl]
      cases hq : qbody (s.drop (k + 2)) with
      | none =>
        simp only
        rw [xhex_some 2000000 [] [] (by simp) rfl, Option.bind_some]
        simp only [lex_next_j1100101100, if_true, Option.bind_some]
        obtain ⟨st', h⟩ := word_out (P := C0.P) (T := 33) (wd0 33 [.int .i64 0, .str [], .int .i64 0]) 0 [] (k : Int) 0
        exact ⟨_, _, _, st', h⟩
      | some q =>
        obtain ⟨t, n⟩ := q
        have hl := qbody_len _ _ _ hq
        rw [List.length_drop] at hl
        simp only [Option.bind_some]
        cases hu : unhex t with
        | none =>
          obtain ⟨b, hb⟩ := xhex_none 2000000 t (by omega) hu
          rw [hb, Option.bind_some]
          simp only [lex_next_j1100101100]
          rw [if_neg (by omega)]
          simp only [if_true, Bool.false_eq_true, if_false, Option.bind_some]
          obtain ⟨st', h⟩ := word_out (P := C0.P) (T := 33) (wd0 33 [.int .i64 0, .str [], .int .i64 0]) 0 [] (k : Int) 0
          exact ⟨_, _, _, st', h⟩
        | some b =>
          rw [xhex_some 2000000 t b (by omega) hu, Option.bind_some]
          simp only [lex_next_j1100101100]
          rw [if_neg (by omega)]
          simp only [if_true, Bool.false_eq_true, if_false, Option.bind_some]
          rw [show (((1 + n : Nat) : Int) + 1) = (((1 + n : Nat) : Int) + ((1 : Nat) : Int)) from rfl, wN (by omega)]
          obtain ⟨st', h⟩ := word_out (P := C0.P) (T := 33) (wd0 33 [.int .i64 0, .str [], .int .i64 0]) 5 b (k : Int) ((1 + n + 1 : Nat) : Int)
          refine ⟨0, [], 0, st', h.trans ?_⟩
          simp only [Option.map_some]
          rw [show 1 + n + 1 = n + 2 by omega]
    · rw [decide_eq_false hx, if_neg (by simp), if_neg hx, xletter, Option.bind_some]
      by_cases hL : isL s[k].toNat = true
      · rw [if_pos hL, if_pos hL, named_eq s k hs hk hL, Option.bind_some]
        by_cases hkey : isKey (pieceOf isW s k) = true
        · rw [if_pos hkey, if_pos hkey]
          obtain ⟨st', h⟩ := word_out (P := C0.P) (T := 33) (wd0 33 [.int .i64 0, .str [], .int .i64 0]) 2 (pieceOf isW s k) (k : Int) ((runOf isW s k : Nat) : Int)
          exact ⟨0, [], 0, st', h⟩
        · rw [if_neg hkey, if_neg hkey]
          by_cases h16 : runOf isW s k ≤ 16
          · rw [if_pos h16, if_pos h16]
            obtain ⟨st', h⟩ := word_out (P := C0.P) (T := 33) (wd0 33 [.int .i64 0, .str [], .int .i64 0]) 1 (pieceOf isW s k) (k : Int) ((runOf isW s k : Nat) : Int)
            exact ⟨0, [], 0, st', h⟩
          · rw [if_neg h16, if_neg h16]
            obtain ⟨st', h⟩ := word_out (P := C0.P) (T := 33) (wd0 33 [.int .i64 0, .str [], .int .i64 0]) 1 (pieceOf isW s k) (k : Int) 0
            exact ⟨_, _, _, st', h⟩
      · rw [if_neg hL, if_neg hL, xdigit, Option.bind_some]
        by_cases hD : isD s[k].toNat = true
        · have hle := runOf_le isD s k (by omega)
          obtain ⟨r, hr⟩ := piece_head hk hD
          rw [if_pos hD, if_pos hD, run_digit 2000000 s k hs (by omega) (by omega), Option.bind_some, wN (by omega), subS_nat (by omega) (by omega), piece_sub (by omega), Option.bind_some]
          rw [show lex_next_j11001111101100 2000000 (s[k].toNat : Int) ((runOf isD s k : Nat) : Int) (pieceOf isD s k) = _ from num_eq 2000000 (pieceOf isD s k) s[k] r hr, Option.bind_some]
          cases numOk (pieceOf isD s k) with
          | true =>
            simp only [Bool.not_true, Bool.false_eq_true, if_false, if_true]
            obtain ⟨st', h⟩ := word_out (P := C0.P) (T := 33) (wd0 33 [.int .i64 0, .str [], .int .i64 0]) 3 (pieceOf isD s k) (k : Int) ((runOf isD s k : Nat) : Int)
            exact ⟨0, [], 0, st', h⟩
          | false =>
            simp only [Bool.not_false, Bool.false_eq_true, if_false, if_true]
            obtain ⟨st', h⟩ := word_out (P := C0.P) (T := 33) (wd0 33 [.int .i64 0, .str [], .int .i64 0]) 0 [] (k : Int) 0
            exact ⟨_, _, _, st', h⟩
        · rw [if_neg hD, if_neg hD]
          by_cases hq : s[k] = 39
          · rw [if_pos ((u39 _).2 hq), if_pos hq, sub_end (by omega), Option.bind_some, xquoted _ _ (by rw [List.length_drop]; omega) (by rw [List.length_drop]; omega), Option.bind_some, List.drop_drop]
            cases hb : qbody (s.drop (k + 1)) with
            | none =>
              simp only
              obtain ⟨st', h⟩ := word_out (P := C0.P) (T := 33) (wd0 33 [.int .i64 0, .str [], .int .i64 0]) 4 [] (k : Int) 0
              exact ⟨_, _, _, st', h⟩
            | some q =>
              obtain ⟨t, n⟩ := q
              simp only [Option.map_some]
              obtain ⟨st', h⟩ := word_out (P := C0.P) (T := 33) (wd0 33 [.int .i64 0, .str [], .int .i64 0]) 4 t (k : Int) ((1 + n : Nat) : Int)
              exact ⟨0, [], 0, st', h.trans (by rw [Nat.add_comm 1 n])⟩
          · rw [if_neg (fun h => hq ((u39 _).1 h)), if_neg hq]
            have e : ∀ st, mkNew (buildSliceOp C0.P (C0.byref 16) 47 18 [(0, (.str [60, 62])), (1, (.str [60, 61])), (2, (.str [62, 61])), (3, (.str [61])), (4, (.str [60])), (5, (.str [62])), (6, (.str [43])), (7, (.str [45])), (8, (.str [42])), (9, (.str [40])), (10, (.str [41])), (11, (.str [123])), (12, (.str [125])), (13, (.str [91])), (14, (.str [93])), (15, (.str [44])), (16, (.str [58])), (17, (.str [46]))]) st = some (.sl st.next 18 18 1 (some 18) (signs.map AV.str), st.push (.tip 18)) := fun st => by kernel_rfl
            rw [e, Option.bind_some]
            simp only [lenOf, Option.bind_some]
            have hx0 : Sl ((St.empty.push (.cells 33 true [.int .i64 0, .str [], .int .i64 0])).push (.tip 18)) 1 (.sl (St.empty.push (.cells 33 true [.int .i64 0, .str [], .int .i64 0])).next 18 18 1 (some 18) (signs.map AV.str)) (signs.map AV.str) := .inr ⟨_, _, _, _, rfl, rfl, Nat.lt_succ_self _, .inl rfl⟩
            have hd0 : ((St.empty.push (.cells 33 true [.int .i64 0, .str [], .int .i64 0])).push (.tip 18)).objs.get St.empty.next = some (.cells 33 true [.int .i64 0, .str [], .int .i64 0]) := by
              rw [get_push_ne _ (by decide), get_push]
            obtain ⟨st1, h1, h2⟩ := sign_loop 2000000 s k (by omega) St.empty.next 33 true _ _ _ signs _ _ hx0 (by decide) hd0 2000000 0 (by decide) (by decide)
            have h1' : lex_next_l111010 2000000 s (k : Int) St.empty.next (.sl (St.empty.push (.cells 33 true [.int .i64 0, .str [], .int .i64 0])).next 18 18 1 (some 18) (signs.map AV.str)) ((18 : Nat) : Int) 2000000 0 ((St.empty.push (.cells 33 true [.int .i64 0, .str [], .int .i64 0])).push (.tip 18)) = _ := h1
            rw [h1', Option.bind_some, List.drop_zero]
            rw [List.drop_zero] at h2
            unfold signAt
            cases hf : signs.find? (fun w => decide ((s.drop k).take w.length = w)) with
            | none =>
              simp only
              obtain ⟨st', h⟩ := word_out (P := C0.P) (T := 33) hd0 0 [] (k : Int) 0
              exact ⟨_, _, _, st', h⟩
            | some w =>
              simp only [Option.map_some]
              rw [load_cells (h2 w hf) rfl, Option.bind_some]
              exact ⟨0, [], 0, st1, rfl⟩
  obtain ⟨a, b, c, st', h⟩ := key
  refine ⟨a, b, c, ?_⟩
  unfold xlex_next
  rw [h]
  cases wordAt s k <;> rfl
end
end Go.Proofs.Ytlmahcmmpfdglaa
