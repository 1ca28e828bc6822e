import Derived.Test.YtlmahcmmpfdglaaLxM
set_option linter.all false
namespace Go.Proofs.Ytlmahcmmpfdglaa
open Go Go.Ev
noncomputable section

/-! ### Two words, looked at -/
theorem wfields {st : St} {x : AV} {l : List W} {i : Nat} (h : Row 3 x (wsCells l)) (hi : i < l.length) :
    ∃ rest, indexAddrOp C0.P 23 x (.int .i64 (i : Int)) = some (.vptr (.int .i64 l[i].1 :: .str l[i].2.1 :: .int .i64 l[i].2.2 :: rest)) := by
  have e : (wsCells l).drop (i * 3) = wcells l[i] ++ wsCells (l.drop (i + 1)) := by
    have h1 : wsCells l = wsCells (l.take i) ++ wsCells (l.drop i) := by rw [← wsCells_append, List.take_append_drop]
    rw [h1, List.drop_left' (by rw [wsCells_len, List.length_take]; omega), List.drop_eq_getElem_cons hi]
    rfl
  exact ⟨wsCells (l.drop (i + 1)), by rw [elem_row (P := C0.P) (t := 23) h (by rw [wsCells_len]; omega), e]; rfl⟩
theorem shift0 (cs : List AV) : shift (.vptr cs) 0 = some (.vptr cs) := by
  simp only [shift]
  rw [condT (Nat.ble_eq_true_of_le (Nat.zero_le _))]; rfl
theorem shift1 (a : AV) (cs : List AV) : shift (.vptr (a :: cs)) 1 = some (.vptr cs) := by
  simp only [shift]
  rw [condT (Nat.ble_eq_true_of_le (by simp))]; rfl
theorem shift2 (a b : AV) (cs : List AV) : shift (.vptr (a :: b :: cs)) 2 = some (.vptr cs) := by
  simp only [shift]
  rw [condT (Nat.ble_eq_true_of_le (by simp))]; rfl

/-! ### Numbers told by digits -/
theorem wrapU64 {n : Int} (h1 : 0 ≤ n) (h2 : n ≤ 18446744073709551615) : IntKind.wrap .u64 n = n := by
  unfold IntKind.wrap
  simp only [IntKind.bits, IntKind.signed, Bool.false_and, Bool.false_eq_true, if_false, show ((2 : Int) ^ 64) = 18446744073709551616 from rfl]
  omega
def digits (k : Nat) : List UInt8 := if h : k < 10 then [UInt8.ofNat (48 + k)] else digits (k / 10) ++ [UInt8.ofNat (48 + k % 10)]
termination_by k
decreasing_by omega
def val (l : List UInt8) : Nat := l.foldl (fun a c => a * 10 + (c.toNat - 48)) 0
theorem val_snoc (l : List UInt8) (c : UInt8) : val (l ++ [c]) = val l * 10 + (c.toNat - 48) := by simp [val]
theorem dig_toNat {k : Nat} (h : k < 10) : (UInt8.ofNat (48 + k)).toNat = 48 + k := by
  simp only [UInt8.toNat_ofNat']; omega
theorem digits_lt {k : Nat} (h : k < 10) : digits k = [UInt8.ofNat (48 + k)] := by
  unfold digits; rw [dif_pos h]
theorem digits_ge {k : Nat} (h : ¬ k < 10) : digits k = digits (k / 10) ++ [UInt8.ofNat (48 + k % 10)] := by
  conv => lhs; unfold digits
  rw [dif_neg h]
theorem digits_val (k : Nat) : val (digits k) = k := by
  induction k using Nat.strongRecOn with
  | _ k ih =>
    by_cases h : k < 10
    · rw [digits_lt h]; simp only [val, List.foldl_cons, List.foldl_nil, dig_toNat h]; omega
    · rw [digits_ge h, val_snoc, ih (k / 10) (by omega), dig_toNat (by omega)]; omega
theorem digits_all (k : Nat) : ∀ c ∈ digits k, isD c.toNat = true := by
  induction k using Nat.strongRecOn with
  | _ k ih =>
    have one : ∀ m, m < 10 → isD (UInt8.ofNat (48 + m)).toNat = true := by
      intro m hm
      rw [dig_toNat hm]
      simp only [isD, Bool.and_eq_true, decide_eq_true_eq]; omega
    intro c hc
    by_cases h : k < 10
    · rw [digits_lt h] at hc
      rw [List.mem_singleton.1 hc]; exact one k h
    · rw [digits_ge h] at hc
      rcases List.mem_append.1 hc with hc | hc
      · exact ih (k / 10) (by omega) c hc
      · rw [List.mem_singleton.1 hc]; exact one _ (by omega)
theorem digits_len (k : Nat) : 1 ≤ (digits k).length ∧ k < 10 ^ (digits k).length ∧ (0 < k → 10 ^ ((digits k).length - 1) ≤ k) := by
  induction k using Nat.strongRecOn with
  | _ k ih =>
    by_cases h : k < 10
    · rw [digits_lt h]
      exact ⟨by simp, by simpa using h, fun hk => by simp; omega⟩
    · obtain ⟨h1, h2, h3⟩ := ih (k / 10) (by omega)
      rw [digits_ge h, List.length_append, List.length_singleton]
      refine ⟨by omega, ?_, fun _ => ?_⟩
      · rw [Nat.pow_succ]; omega
      · have := h3 (by omega)
        rw [show (digits (k / 10)).length + 1 - 1 = ((digits (k / 10)).length - 1) + 1 by omega, Nat.pow_succ]
        omega
theorem digits_head {k : Nat} (hk : 0 < k) : ∃ c r, digits k = c :: r ∧ c ≠ 48 := by
  induction k using Nat.strongRecOn with
  | _ k ih =>
    by_cases h : k < 10
    · refine ⟨_, [], digits_lt h, fun e => ?_⟩
      have := congrArg UInt8.toNat e
      rw [dig_toNat h] at this
      have h48 : (48 : UInt8).toNat = 48 := rfl
      omega
    · obtain ⟨c, r, h1, h2⟩ := ih (k / 10) (by omega) (by omega)
      exact ⟨c, r ++ [UInt8.ofNat (48 + k % 10)], by rw [digits_ge h, h1]; rfl, h2⟩

theorem val_cons (c : UInt8) (l : List UInt8) : val (c :: l) = (c.toNat - 48) * 10 ^ l.length + val l := by
  have key : ∀ (l : List UInt8) (a : Nat), l.foldl (fun a c => a * 10 + (c.toNat - 48)) a = a * 10 ^ l.length + val l := by
    intro l
    induction l with
    | nil => intro a; simp [val]
    | cons b l ih =>
      intro a
      simp only [List.foldl_cons, List.length_cons, val]
      rw [ih, ih (0 * 10 + (b.toNat - 48)), Nat.pow_succ, Nat.add_mul]
      simp only [Nat.zero_mul, Nat.zero_add]
      rw [Nat.mul_assoc, Nat.mul_comm 10]
      omega
  show l.foldl _ (0 * 10 + (c.toNat - 48)) = _
  rw [key]; simp
theorem val_lt {l : List UInt8} (h : ∀ c ∈ l, isD c.toNat = true) : val l < 10 ^ l.length := by
  induction l with
  | nil => simp [val]
  | cons c l ih =>
    rw [val_cons, List.length_cons, Nat.pow_succ]
    have h1 := ih fun c hc => h c (List.mem_cons_of_mem _ hc)
    have h2 := h c List.mem_cons_self
    simp only [isD, Bool.and_eq_true, decide_eq_true_eq] at h2
    have h3 : (c.toNat - 48) * 10 ^ l.length ≤ 9 * 10 ^ l.length := Nat.mul_le_mul_right _ (by omega)
    omega
theorem str_le : ∀ {a b : List UInt8}, a.length = b.length → (∀ c ∈ a, isD c.toNat = true) → (∀ c ∈ b, isD c.toNat = true) → (strLt a b || strEq a b) = decide (val a ≤ val b)
  | [], [], _, _, _ => rfl
  | x :: a, y :: b, hl, ha, hb => by
    have h1 := str_le (a := a) (b := b) (by simpa using hl) (fun c hc => ha c (List.mem_cons_of_mem _ hc)) (fun c hc => hb c (List.mem_cons_of_mem _ hc))
    have h2 := ha x List.mem_cons_self
    have h3 := hb y List.mem_cons_self
    simp only [isD, Bool.and_eq_true, decide_eq_true_eq] at h2 h3
    have v1 := val_lt fun c hc => ha c (List.mem_cons_of_mem _ hc)
    have v2 := val_lt fun c hc => hb c (List.mem_cons_of_mem _ hc)
    have hl' : a.length = b.length := by simpa using hl
    rw [val_cons, val_cons, ← hl']
    rw [← hl'] at v2
    simp only [strLt, strEq]
    rcases Nat.lt_trichotomy x.toNat y.toNat with h | h | h
    · have e1 : Nat.blt x.toNat y.toNat = true := Nat.ble_eq_true_of_le h
      rw [e1, Bool.true_or, Bool.true_or]
      symm
      rw [decide_eq_true_eq]
      have : (x.toNat - 48 + 1) * 10 ^ a.length ≤ (y.toNat - 48) * 10 ^ a.length := Nat.mul_le_mul_right _ (by omega)
      rw [Nat.add_mul] at this
      omega
    · have e1 : Nat.blt x.toNat y.toNat = false := by
        cases e : Nat.blt x.toNat y.toNat with
        | false => rfl
        | true => have := Nat.le_of_ble_eq_true e; omega
      rw [e1, h, Nat.beq_refl, Bool.false_or, Bool.true_and, Bool.true_and, h1]
      exact decide_eq_decide.2 (by omega)
    · have e1 : Nat.blt x.toNat y.toNat = false := by
        cases e : Nat.blt x.toNat y.toNat with
        | false => rfl
        | true => have := Nat.le_of_ble_eq_true e; omega
      have e2 : Nat.beq x.toNat y.toNat = false := by
        cases e : Nat.beq x.toNat y.toNat with
        | false => rfl
        | true => have := Nat.eq_of_beq_eq_true e; omega
      rw [e1, e2]
      simp only [Bool.false_or, Bool.false_and]
      symm
      rw [decide_eq_false_iff_not]
      have : (y.toNat - 48 + 1) * 10 ^ a.length ≤ (x.toNat - 48) * 10 ^ a.length := Nat.mul_le_mul_right _ (by omega)
      rw [Nat.add_mul] at this
      omega
theorem numOk_digits {n : Nat} (hn : n ≤ 18446744073709551615) : numOk (digits n) = decide (n ≤ 9223372036854775807) := by
  obtain ⟨h1, h2, h3⟩ := digits_len n
  have hm : val mostNum = 9223372036854775807 := by decide
  have hma : ∀ c ∈ mostNum, isD c.toNat = true := by decide
  have first : (!(decide (1 < (digits n).length) && (digits n).head? == some 48)) = true := by
    by_cases h : 1 < (digits n).length
    · have hpos : 0 < n := by
        rcases Nat.eq_zero_or_pos n with rfl | h0
        · rw [digits_lt (by omega)] at h; simp at h
        · exact h0
      obtain ⟨c, r, e, hc⟩ := digits_head hpos
      rw [e]
      simp [hc]
    · rw [decide_eq_false h]; rfl
  unfold numOk
  rw [first, Bool.true_and]
  by_cases hle : n ≤ 9223372036854775807
  · rw [decide_eq_true hle]
    have hl : (digits n).length ≤ 19 := by
      rcases Nat.lt_or_ge 19 (digits n).length with h | h
      · have h4 : 0 < n := by
          rcases Nat.eq_zero_or_pos n with rfl | h0
          · rw [digits_lt (by omega)] at h; simp at h
          · exact h0
        have h5 := h3 h4
        have h6 : 10 ^ 19 ≤ 10 ^ ((digits n).length - 1) := Nat.pow_le_pow_right (by omega) (by omega)
        have h7 : (10 : Nat) ^ 19 = 10000000000000000000 := rfl
        omega
      · exact h
    rw [decide_eq_true hl, Bool.true_and]
    by_cases h19 : (digits n).length < 19
    · rw [decide_eq_true h19]; rfl
    · rw [str_le (by show (digits n).length = 19; omega) (digits_all n) hma, digits_val, hm, decide_eq_true hle, Bool.or_true]
  · rw [decide_eq_false hle]
    by_cases hl : (digits n).length ≤ 19
    · have h19 : ¬ (digits n).length < 19 := by
        intro h
        have h6 : 10 ^ (digits n).length ≤ 10 ^ 18 := Nat.pow_le_pow_right (by omega) (by omega)
        have h7 : (10 : Nat) ^ 18 = 1000000000000000000 := rfl
        omega
      rw [decide_eq_false h19, Bool.false_or, str_le (by show (digits n).length = 19; omega) (digits_all n) hma, digits_val, hm, decide_eq_false hle, Bool.and_false]
    · rw [decide_eq_false hl]; rfl
theorem digits_20 {n : Nat} (hn : n ≤ 18446744073709551615) : (digits n).length ≤ 20 := by
  obtain ⟨h1, h2, h3⟩ := digits_len n
  rcases Nat.lt_or_ge 20 (digits n).length with h | h
  · have h4 : 0 < n := by
      rcases Nat.eq_zero_or_pos n with rfl | h0
      · rw [digits_lt (by omega)] at h; simp at h
      · exact h0
    have h5 := h3 h4
    have h6 : 10 ^ 20 ≤ 10 ^ ((digits n).length - 1) := Nat.pow_le_pow_right (by omega) (by omega)
    have h7 : (10 : Nat) ^ 20 = 100000000000000000000 := rfl
    omega
  · exact h

/-! ### LexNumbers -/
theorem num_loop (R : Nat) (a b : Int) : ∀ (r k : Nat) (d : List UInt8) (st : St), k ≤ 18446744073709551615 → (0 < k ∨ d = []) → (digits k).length < r → d.length + (digits k).length ≤ 1000 →
    ∃ st', parchmentlaw11_LexNumbers_l11010 R a b r d (k : Int) st = some (digits k ++ d, st') := by
  intro r
  induction r with
  | zero => intro k d st h1 h2 h3; omega
  | succ r ih =>
    intro k d st h1 h2 h3 h4
    unfold parchmentlaw11_LexNumbers_l11010
    have hj : parchmentlaw11_LexNumbers_j11010000 R d (k : Int) = some true := by
      unfold parchmentlaw11_LexNumbers_j11010000
      rcases h2 with h | h
      · rw [if_pos (by omega)]
      · by_cases h0 : (k : Int) > 0
        · rw [if_pos h0]
        · rw [if_neg h0, if_pos h]
    rw [hj, Option.bind_some, if_pos rfl]
    have e1 : IntKind.wrap .u8 (IntKind.wrap .u64 (48 + (Int.tmod (k : Int) 10))) = (((UInt8.ofNat (48 + k % 10)).toNat : Nat) : Int) := by
      rw [dig_toNat (by omega), Int.tmod_eq_emod_of_nonneg (by omega), wrapU64 (by omega) (by omega), wrapU8 (by omega) (by omega)]
      omega
    have e2 : IntKind.wrap .u64 (Int.tdiv (k : Int) 10) = ((k / 10 : Nat) : Int) := by
      rw [Int.tdiv_eq_ediv_of_nonneg (by omega), wrapU64 (by omega) (by omega)]
      omega
    rw [e1, e2]
    generalize hv : UInt8.ofNat (48 + k % 10) = v
    rw [show mkNew (buildSliceOp C0.P (C0.byref 7) 37 1 [(0, (.int .u8 (v.toNat : Int)))]) st = _ from build1 (P := C0.P) (t := 37) (v := .int .u8 (v.toNat : Int)) st rfl rfl (by omega), Option.bind_some]
    simp only
    have hstr : strOf (st.push (.tip 1)) (.sl st.next 1 1 1 (some 1) (AV.int .u8 (v.toNat : Int)).cells) = some [v] := strOf_sl (l := [v]) (.inr ⟨st.next, 1, 1, some 1, rfl, rfl, Nat.lt_succ_self st.next, .inl rfl⟩)
    rw [hstr, Option.bind_some, catS_le (by simp; omega), Option.bind_some]
    by_cases hk : k < 10
    · have hlen : (digits k).length = 1 := by rw [digits_lt hk]; rfl
      have h0 : k / 10 = 0 := by omega
      rw [h0]
      cases r with
      | zero => omega
      | succ r =>
      unfold parchmentlaw11_LexNumbers_l11010
      have hj2 : parchmentlaw11_LexNumbers_j11010000 R ([v] ++ d) ((0 : Nat) : Int) = some false := by
        unfold parchmentlaw11_LexNumbers_j11010000
        rw [if_neg (by omega), if_neg (by simp)]
      rw [hj2, Option.bind_some, if_neg (by simp)]
      refine ⟨st.push (.tip 1), ?_⟩
      rw [digits_lt hk, ← hv, Nat.mod_eq_of_lt hk]
    · have hlen : (digits k).length = (digits (k / 10)).length + 1 := by rw [digits_ge hk]; simp
      obtain ⟨st', h5⟩ := ih (k / 10) ([v] ++ d) (st.push (.tip 1)) (by omega) (.inl (by omega)) (by omega) (by simp; omega)
      refine ⟨st', h5.trans ?_⟩
      rw [digits_ge hk, ← hv]
      simp
theorem zero_loop (R : Nat) (a : Int) (z : Int) (m : Nat) (hm : m ≤ 3) (hz : andI .i64 z 3 = (m : Int)) (d : List UInt8) (st : St) : ∀ (r i : Nat), i ≤ m → m - i < r → parchmentlaw11_LexNumbers_l1111010 R a z d r (List.replicate i 48) (i : Int) st = some (List.replicate m 48, st) := by
  intro r
  induction r with
  | zero => intro i h1 h2; omega
  | succ r ih =>
    intro i h1 h2
    unfold parchmentlaw11_LexNumbers_l1111010
    rw [hz]
    by_cases hlt : i < m
    · rw [if_pos (by omega), catS_le (by simp; omega), Option.bind_some, w1 (by omega), ← List.replicate_succ']
      exact ih (i + 1) hlt (by omega)
    · rw [if_neg (by omega), show i = m by omega]
theorem and3 (z : Int) : ∃ m : Nat, m ≤ 3 ∧ andI .i64 z 3 = (m : Int) := by
  refine ⟨(BitVec.ofInt 64 z &&& BitVec.ofInt 64 3).toNat, ?_, ?_⟩
  · rw [BitVec.toNat_and]
    exact Nat.le_trans Nat.and_le_right (by decide)
  · have h : (BitVec.ofInt 64 z &&& BitVec.ofInt 64 3).toNat ≤ 3 := by
      rw [BitVec.toNat_and]
      exact Nat.le_trans Nat.and_le_right (by decide)
    show IntKind.wrap .i64 (((BitVec.ofInt 64 z &&& BitVec.ofInt 64 3).toNat : Nat) : Int) = _
    exact wrap64 (by omega) (by omega)

theorem takeWhile_all {α : Type} {p : α → Bool} : ∀ {l : List α}, (∀ c ∈ l, p c = true) → l.takeWhile p = l
  | [], _ => rfl
  | a :: l, h => by rw [List.takeWhile_cons_of_pos (h a List.mem_cons_self), takeWhile_all fun c hc => h c (List.mem_cons_of_mem _ hc)]
/-- Digits alone: one word, or none. -/
theorem digits_words {s : List UInt8} (h0 : s ≠ []) (ha : ∀ c ∈ s, isD c.toNat = true) : wordsOf s = if numOk s = true then ([(3, s, 0)], none) else ([], some 0) := by
  have hl : 0 < s.length := List.length_pos_iff.2 h0
  have hD : isD s[0].toNat = true := ha s[0] (List.getElem_mem hl)
  have hp : pieceOf isD s 0 = s := by
    unfold pieceOf
    rw [List.drop_zero]
    exact takeWhile_all fun c hc => ha c hc
  have hr : runOf isD s 0 = s.length := by rw [← piece_len, hp]
  have hnb : runOf isB s 0 = 0 := runOf_no hl (by
    intro h
    simp only [isB, isD, Bool.or_eq_true, Bool.and_eq_true, decide_eq_true_eq, beq_iff_eq] at h hD
    omega)
  have hnL : ¬ isL s[0].toNat = true := by
    simp only [isL, isD, Bool.or_eq_true, Bool.and_eq_true, decide_eq_true_eq, beq_iff_eq] at hD ⊢; omega
  have h120 : ¬ (s[0] = 120 ∧ s[0 + 1]? = some 39) := by
    rintro ⟨h, _⟩
    rw [h] at hD
    revert hD; decide
  have hw : wordAt s 0 = if numOk s = true then some (3, s, s.length) else none := by
    unfold wordAt
    rw [List.getElem?_eq_getElem hl]
    simp only
    rw [if_neg h120, if_neg hnL, if_pos hD, hp, hr]
  unfold wordsOf tk
  rw [hnb, if_pos hl, hw]
  by_cases hn : numOk s = true
  · rw [if_pos hn, if_pos hn]
    simp only
    have e : tk s s.length (0 + s.length + runOf isB s (0 + s.length)) = ([], none) := by
      obtain ⟨f, hf⟩ : ∃ f, s.length = f + 1 := ⟨s.length - 1, by omega⟩
      rw [runOf_end (by omega)]
      rw [show tk s s.length (0 + s.length + 0) = tk s (f + 1) (0 + s.length + 0) by rw [← hf]]
      unfold tk
      rw [if_neg (by omega)]
    rw [e]; rfl
  · rw [if_neg hn, if_neg hn]

theorem lexNumbers_true (R : Nat) (n z : Int) (st : St) (hR : 3000 < R) (hn : (Lit.int .u64 n).wf = true) (_ : (Lit.int .i64 z).wf = true) : ∃ st', parchmentlaw11_LexNumbers R n z st = some (true, st') := by
  have hb : 0 ≤ n ∧ n ≤ 18446744073709551615 := by simpa [Lit.wf, IntKind.min, IntKind.max, IntKind.signed, IntKind.bits] using hn
  obtain ⟨k, rfl⟩ := Int.eq_ofNat_of_zero_le hb.1
  have hk : k ≤ 18446744073709551615 := by omega
  have hlen := digits_20 hk
  obtain ⟨hl1, _, _⟩ := digits_len k
  obtain ⟨m, hm, hz⟩ := and3 z
  unfold parchmentlaw11_LexNumbers
  obtain ⟨st1, h1⟩ := num_loop R (k : Int) z R k [] st hk (.inr rfl) (by omega) (by simp; omega)
  rw [h1, Option.bind_some, List.append_nil]
  simp only
  rw [show parchmentlaw11_LexNumbers_l1111010 R (k : Int) z (digits k) R [] 0 st1 = _ from zero_loop R (k : Int) z m hm hz (digits k) st1 R 0 (by omega) (by omega), Option.bind_some]
  simp only
  rw [catS_le (by simp; omega), Option.bind_some]
  have hall : ∀ c ∈ List.replicate m (48 : UInt8) ++ digits k, isD c.toNat = true := by
    intro c hc
    rcases List.mem_append.1 hc with hc | hc
    · rw [List.eq_of_mem_replicate hc]; decide
    · exact digits_all k c hc
  have hne : List.replicate m (48 : UInt8) ++ digits k ≠ [] := by
    intro e
    have := congrArg List.length e
    rw [List.length_append, List.length_nil] at this; omega
  have hw := digits_words hne hall
  obtain ⟨x, st2, h2, h3⟩ := words_eq R (List.replicate m (48 : UInt8) ++ digits k) st1 (by simp; omega) (by simp; omega)
  rw [h2, Option.bind_some]
  have bad : numOk (List.replicate m (48 : UInt8) ++ digits k) = false → ∃ st', (Option.bind (some (match (wordsOf (List.replicate m (48 : UInt8) ++ digits k)).2 with
      | some e => (AV.snil, (e : Int), (110 : Int), st2)
      | none => (x, 0, 0, st2))) fun (q : AV × Int × Int × St) => Option.bind (parchmentlaw11_LexNumbers_j1111110100 R q.1 q.2.1 q.2.2.1) fun b => some (b, q.2.2.2)) = some (true, st') := by
    intro hno
    rw [hw, if_neg (by rw [hno]; simp)]
    refine ⟨st2, ?_⟩
    simp only [Option.bind_some, parchmentlaw11_LexNumbers_j1111110100, xawake, if_true, lenOf]
    rfl
  by_cases hm0 : m = 0
  · subst hm0
    simp only [List.replicate_zero, List.nil_append] at hw h3 bad ⊢
    rw [numOk_digits hk] at hw bad
    by_cases hle : k ≤ 9223372036854775807
    · rw [decide_eq_true hle, if_pos rfl] at hw
      rw [hw] at h3 ⊢
      simp only
      have r1 := (h3 rfl).row
      have hj : parchmentlaw11_LexNumbers_j11111100 R (k : Int) [] = some false := by
        unfold parchmentlaw11_LexNumbers_j11111100
        rw [if_pos rfl, if_neg (by omega)]
      rw [hj, Option.bind_some, if_neg (by simp)]
      obtain ⟨rest, f1⟩ := wfields (st := st2) (i := 0) r1 (by simp)
      have hlen2 := lenOf_row r1 (by omega)
      simp only [List.cons_append, List.nil_append, List.getElem_cons_zero] at f1 r1 hlen2
      have e : parchmentlaw11_LexNumbers_j11111110 R (digits k) x 0 st2 = some (true, st2) := by
        unfold parchmentlaw11_LexNumbers_j11111110
        simp only [xawake, Option.bind_some, if_true]
        rw [hlen2, Option.bind_some, if_pos (by simp [wsCells_len])]
        rw [show (0 : Int) = ((0 : Nat) : Int) from rfl, f1, Option.bind_some, shift0, Option.bind_some, load_one, Option.bind_some]
        simp only [avInt, if_true, Option.bind_some]
        rw [shift1, Option.bind_some, load_one, Option.bind_some]
        simp only [avStr, Option.bind_some, if_true]
      rw [e]
      exact ⟨st2, rfl⟩
    · obtain ⟨st', hb2⟩ := bad (decide_eq_false hle)
      refine ⟨st', ?_⟩
      have hj : parchmentlaw11_LexNumbers_j11111100 R (k : Int) [] = some true := by
        unfold parchmentlaw11_LexNumbers_j11111100
        rw [if_pos rfl, if_pos (by omega)]
      rw [hj]
      simp only [Option.bind_some, if_true]
      exact hb2
  · obtain ⟨m', rfl⟩ : ∃ m', m = m' + 1 := ⟨m - 1, by omega⟩
    have hno : numOk (List.replicate (m' + 1) (48 : UInt8) ++ digits k) = false := by
      unfold numOk
      have e1 : decide (1 < (List.replicate (m' + 1) (48 : UInt8) ++ digits k).length) = true := decide_eq_true (by simp; omega)
      have e2 : ((List.replicate (m' + 1) (48 : UInt8) ++ digits k).head? == some 48) = true := by simp [List.replicate_succ]
      rw [e1, e2]; rfl
    obtain ⟨st', hb2⟩ := bad hno
    refine ⟨st', ?_⟩
    have hj : parchmentlaw11_LexNumbers_j11111100 R (k : Int) (List.replicate (m' + 1) 48) = some true := by
      unfold parchmentlaw11_LexNumbers_j11111100
      rw [if_neg (by simp [List.replicate_succ])]
    rw [hj]
    simp only [Option.bind_some, if_true]
    exact hb2
end
end Go.Proofs.Ytlmahcmmpfdglaa
