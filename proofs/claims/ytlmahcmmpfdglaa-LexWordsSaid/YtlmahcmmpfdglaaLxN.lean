import Derived.Test.YtlmahcmmpfdglaaLxM
set_option linter.all false
namespace Go.Proofs.Ytlmahcmmpfdglaa
open Go Go.Ev
noncomputable section

theorem blank_class {c : UInt8} (h : isB c.toNat = true) : (if isL c.toNat = true then (1 : Int) else if isD c.toNat = true then 2 else if isB c.toNat = true then 3 else 0) = 3 := by
  have h1 : ¬ isL c.toNat = true := by
    simp only [isB, isL, Bool.or_eq_true, Bool.and_eq_true, decide_eq_true_eq, beq_iff_eq] at h ⊢; omega
  have h2 : ¬ isD c.toNat = true := by
    simp only [isB, isD, Bool.or_eq_true, Bool.and_eq_true, decide_eq_true_eq, beq_iff_eq] at h ⊢; omega
  rw [if_neg h1, if_neg h2, if_pos h]
theorem not_blank_class {c : UInt8} (h : ¬ isB c.toNat = true) : ¬ (if isL c.toNat = true then (1 : Int) else if isD c.toNat = true then 2 else if isB c.toNat = true then 3 else 0) = 3 := by
  split
  · omega
  · split
    · omega
    · omega

theorem rwords_loop (R : Nat) (s : List UInt8) (hs : s.length ≤ 2000) : ∀ (r f k : Nat) (x : AV) (st : St) (acc : List W), Sl st 3 x (wsCells acc) → k ≤ s.length → s.length - k < r → s.length - k < f → acc.length ≤ k →
    ∃ x' st', parchmentref11_Words_l11100 R s r x (k : Int) st = some (match (tk s f (k + runOf isB s k)).2 with
      | some e => .inl (.snil, (e : Int), 110, st')
      | none => .inr (x', st')) ∧ ((tk s f (k + runOf isB s k)).2 = none → Sl st' 3 x' (wsCells (acc ++ (tk s f (k + runOf isB s k)).1))) ∧ acc.length + (tk s f (k + runOf isB s k)).1.length ≤ s.length := by
  intro r
  induction r with
  | zero => intro f k x st acc h1 h2 h3; omega
  | succ r ih =>
    intro f k x st acc hx hk hr hf ha
    unfold parchmentref11_Words_l11100
    by_cases hlt : k < s.length
    · rw [if_pos (by omega), idxS_lt hlt, Option.bind_some, xclass, Option.bind_some]
      by_cases hB : isB s[k].toNat = true
      · rw [if_pos (blank_class hB), w1 (by omega), runOf_yes hlt hB, show k + (1 + runOf isB s (k + 1)) = (k + 1) + runOf isB s (k + 1) by omega]
        exact ih f (k + 1) x st acc hx hlt (by omega) (by omega) (by omega)
      · rw [if_neg (not_blank_class hB), runOf_no hlt hB, Nat.add_zero]
        cases f with
        | zero => omega
        | succ f =>
        unfold tk
        rw [if_pos hlt]
        obtain ⟨a, b, c, hn⟩ := word_eq R s k (by omega) hlt
        rw [hn, Option.bind_some]
        cases hw : wordAt s k with
        | none =>
          simp only
          obtain ⟨st1, h1, _⟩ := word_in (P := C0.P) (T := 32) (new_word st 32 [.int .i64 0, .str [], .int .i64 0]) a b c
          rw [h1, Option.bind_some, if_pos trivial]
          exact ⟨x, st1, rfl, fun h => (by cases h), (by simp; omega)⟩
        | some q =>
          obtain ⟨kd, w, n⟩ := q
          obtain ⟨l1, l2⟩ := wordAt_len hlt hw
          simp only
          obtain ⟨st1, h1, h2, h3, h4⟩ := word_in (P := C0.P) (T := 32) (new_word st 32 [.int .i64 0, .str [], .int .i64 0]) kd w (k : Int)
          rw [h1, Option.bind_some, if_neg (by omega), h2, Option.bind_some]
          have hx1 : Sl st1 3 x (wsCells acc) := hx.same (by rw [h3]; exact Nat.le_succ _) fun i hi => by rw [h4 i (by omega), get_push_ne _ (by omega)]
          obtain ⟨x', st2, e, hS, _, _⟩ := push1 (P := C0.P) (t := 27) (v := .agg (wcells (kd, w, (k : Int)))) (fun p => parchmentref11_Words_l11100 R s r p.1 ((k + n : Nat) : Int) p.2) hx1 rfl rfl (by rw [wsCells_len]; simp [most]; omega) (by omega)
          have hb := runOf_le isB s (k + n) (by omega)
          rw [show (AV.agg (wcells (kd, w, (k : Int)))).cells = wcells (kd, w, (k : Int)) from rfl, wsCells_snoc] at hS
          obtain ⟨x2, st3, h5, h6, h7⟩ := ih f (k + n) x' st2 (acc ++ [(kd, w, (k : Int))]) hS (by omega) (by omega) (by omega) (by simp; omega)
          refine ⟨x2, st3, Eq.trans e h5, fun hh => ?_, ?_⟩
          · have := h6 hh
            simpa using this
          · simp at h7 ⊢; omega
    · rw [if_neg (by omega), runOf_end (by omega), Nat.add_zero]
      cases f with
      | zero => omega
      | succ f =>
      unfold tk
      rw [if_neg hlt]
      exact ⟨x, st, rfl, fun _ => (by simpa using hx), (by simp; omega)⟩
theorem rend_word {x : AV} {st : St} {l : List W} (hx : Sl st 3 x (wsCells l)) (hl : l.length ≤ 2000) (n : Nat) : ∃ x' st', ((mkNew (buildSliceOp C0.P (C0.byref 10) 27 1 [(0, (.agg [(.int .i64 0), (.str []), (.int .i64 (n : Int))]))]) st).bind fun p => (appendOp C0.P (C0.byref 10) p.2 #[27, 27] x p.1).bind fun q => some (q.1, (0 : Int), (0 : Int), q.2)) = some (x', 0, 0, st') ∧ Sl st' 3 x' (wsCells (l ++ [(0, [], (n : Int))])) := by
  obtain ⟨x', st', e, hS, _, _⟩ := push1 (P := C0.P) (t := 27) (v := .agg (wcells (0, [], (n : Int)))) (fun p => some (p.1, (0 : Int), (0 : Int), p.2)) hx rfl rfl (by rw [wsCells_len]; simp [most]; omega) (by omega)
  rw [show (AV.agg (wcells (0, [], (n : Int)))).cells = wcells (0, [], (n : Int)) from rfl, wsCells_snoc] at hS
  exact ⟨x', st', e, hS⟩
/-- A row written out without elements. -/
theorem build0 (st : St) : mkNew (buildSliceOp C0.P (C0.byref 10) 27 0 []) st = some (.sl st.next 0 0 3 (some 0) [], st.push (.tip 0)) := by kernel_rfl
theorem rwords_eq (R : Nat) (s : List UInt8) (st : St) (hs : s.length ≤ 2000) (hR : s.length < R) : ∃ x st', parchmentref11_Words R s st = some (match (wordsOf s).2 with
      | some e => (.snil, (e : Int), 110, st')
      | none => (x, 0, 0, st')) ∧ ((wordsOf s).2 = none → Sl st' 3 x (wsCells ((wordsOf s).1 ++ [(0, [], (s.length : Int))]))) := by
  unfold parchmentref11_Words
  rw [if_neg (by omega), build0, Option.bind_some]
  simp only
  have h0 : Sl (st.push (.tip 0)) 3 (.sl st.next 0 0 3 (some 0) []) (wsCells []) := .inr ⟨_, _, _, _, rfl, rfl, Nat.lt_succ_self _, .inl rfl⟩
  obtain ⟨x', st', h1, h2, h3⟩ := rwords_loop R s hs R (s.length + 1) 0 _ _ [] h0 (by omega) (by omega) (by omega) (by simp)
  rw [show (0 : Int) = ((0 : Nat) : Int) from rfl, h1, Option.bind_some, Nat.zero_add]
  simp only [Nat.zero_add] at h2 h3
  unfold wordsOf
  cases he : (tk s (s.length + 1) (runOf isB s 0)).2 with
  | some e => exact ⟨x', st', rfl, fun h => by cases h⟩
  | none =>
    simp only
    have hx := h2 he
    simp only [List.nil_append, List.length_nil, Nat.zero_add] at hx h3
    obtain ⟨x2, st2, h4, h5⟩ := rend_word hx (by omega) s.length
    exact ⟨x2, st2, h4, fun _ => h5⟩

/-! ### LexWords -/
theorem elem_word {t T : TypeId} [SlTy C0.P t 3] [LdTy C0.P T true 3] {st : St} {x : AV} {l : List W} {i : Nat} {α : Type} (k : Int × List UInt8 × Int → Option α) (h : Row 3 x (wsCells l)) (hi : i < l.length) :
    ((indexAddrOp C0.P t x (.int .i64 (i : Int))).bind fun p => (loadAt C0.P st T p).bind fun v => (de_Ai64_s_i64Z v).bind k) = k l[i] := by
  rw [elem_row (P := C0.P) (t := t) h (by rw [wsCells_len]; omega), Option.bind_some]
  have e : (wsCells l).drop (i * 3) = wcells l[i] ++ wsCells (l.drop (i + 1)) := by
    have h1 : wsCells l = wsCells (l.take i) ++ wsCells (l.drop i) := by rw [← wsCells_append, List.take_append_drop]
    rw [h1, List.drop_left' (by rw [wsCells_len, List.length_take]; omega), List.drop_eq_getElem_cons hi]
    rfl
  rw [e, load_agg (by simp [wcells]), Option.bind_some]
  rfl

theorem lw_loop (R : Nat) (x y : AV) (l : List W) (st : St) (hx : Row 3 x (wsCells l)) (hy : Row 3 y (wsCells l)) (hl : l.length ≤ 1000000) : ∀ (r i : Nat), i ≤ l.length → l.length - i < r → parchmentlaw11_LexWords_l11111010 R x y r (i : Int) st = some (.inr st) := by
  intro r
  induction r with
  | zero => intro i h1 h2; omega
  | succ r ih =>
    intro i h1 h2
    unfold parchmentlaw11_LexWords_l11111010
    have hlen := lenOf_row hx (by omega)
    rw [wsCells_len, Nat.mul_div_cancel _ (by omega)] at hlen
    rw [hlen, Option.bind_some]
    by_cases hlt : i < l.length
    · rw [if_pos (by omega)]
      have e1 := elem_word (t := 23) (T := 33) (st := st) (fun a => ((indexAddrOp C0.P 27 y (.int .i64 (i : Int))).bind fun p => (loadAt C0.P st 32 p).bind fun v => (de_Ai64_s_i64Z v).bind fun b =>
        ((binOpV C0.P .neq 32 (.tmp 0) (.tmp 1) (.agg [(.int .i64 a.1), (.str a.2.1), (.int .i64 a.2.2)]) (.agg [(.int .i64 b.1), (.str b.2.1), (.int .i64 b.2.2)])).bind avBool).bind fun c =>
        if c = true then some (Sum.inl (false, st)) else parchmentlaw11_LexWords_l11111010 R x y r (IntKind.wrap .i64 ((i : Int) + 1)) st)) hx hlt
      have e2 := elem_word (t := 27) (T := 32) (st := st) (fun b => ((binOpV C0.P .neq 32 (.tmp 0) (.tmp 1) (.agg [(.int .i64 l[i].1), (.str l[i].2.1), (.int .i64 l[i].2.2)]) (.agg [(.int .i64 b.1), (.str b.2.1), (.int .i64 b.2.2)])).bind avBool).bind fun c =>
        if c = true then some (Sum.inl (false, st)) else parchmentlaw11_LexWords_l11111010 R x y r (IntKind.wrap .i64 ((i : Int) + 1)) st) hy hlt
      refine Eq.trans (Eq.trans e1 e2) ?_
      have e3 : ∀ (a : Int) (b : List UInt8) (c : Int), binOpV C0.P .neq 32 (.tmp 0) (.tmp 1) (.agg [(.int .i64 a), (.str b), (.int .i64 c)]) (.agg [(.int .i64 a), (.str b), (.int .i64 c)]) = some (.bool false) := by
        intro a b c
        have h0 : binOpV C0.P .neq 32 (.tmp 0) (.tmp 1) (.agg [(.int .i64 a), (.str b), (.int .i64 c)]) (.agg [(.int .i64 a), (.str b), (.int .i64 c)]) = (match (a == a) with
            | true => (match strEq b b with
              | true => (match (c == c) with
                | true => some true
                | false => some false)
              | false => some false)
            | false => some false : Option Bool).bind fun b => some (AV.bool (!b)) := by kernel_rfl
        rw [h0, show (a == a) = true by simp, show (c == c) = true by simp, show strEq b b = true from strEq_iff.2 rfl]
        rfl
      rw [e3]
      simp only [Option.bind_some, avBool]
      rw [if_neg (by simp), w1 (by omega)]
      exact ih (i + 1) hlt (by omega)
    · rw [if_neg (by omega)]
theorem cut_eq (R : Nat) (s : List UInt8) : ∃ t, parchmentlaw11_Cut R s = some t ∧ t.length ≤ 2100 := by
  unfold parchmentlaw11_Cut
  by_cases h : s.length > 2100
  · rw [if_pos (by omega), show (0 : Int) = ((0 : Nat) : Int) from rfl, show (2100 : Int) = ((2100 : Nat) : Int) from rfl, subS_nat (by omega) (by omega)]
    exact ⟨_, rfl, by simp; omega⟩
  · rw [if_neg (by omega)]
    exact ⟨s, rfl, by omega⟩
theorem lexWords_true (R : Nat) (s : List UInt8) (st : St) (hR : 3000 < R) : ∃ st', parchmentlaw11_LexWords R s st = some (true, st') := by
  unfold parchmentlaw11_LexWords
  obtain ⟨t, h1, h2⟩ := cut_eq R s
  rw [h1, Option.bind_some]
  by_cases hlong : t.length > 2000
  · have e1 : lex_Words R t st = some (.snil, 2000, 3, st) := by
      unfold lex_Words; rw [if_pos (by omega)]
    have e2 : parchmentref11_Words R t st = some (.snil, 2000, 3, st) := by
      unfold parchmentref11_Words; rw [if_pos (by omega)]
    rw [e1, Option.bind_some]
    simp only
    rw [e2, Option.bind_some]
    simp only [parchmentlaw11_LexWords_j111100, xawake, Option.bind_some, lenOf, if_true, Bool.false_eq_true, if_false]
    rw [show (0 : Int) = ((0 : Nat) : Int) from rfl, lw_loop R .snil .snil [] st (.inl ⟨rfl, rfl⟩) (.inl ⟨rfl, rfl⟩) (by simp) R 0 (by simp) (by simp; omega)]
    exact ⟨st, rfl⟩
  · obtain ⟨x, st1, h3, h4⟩ := words_eq R t st (by omega) (by omega)
    rw [h3, Option.bind_some]
    cases he : (wordsOf t).2 with
    | some e =>
      simp only
      obtain ⟨y, st2, h5, h6⟩ := rwords_eq R t st1 (by omega) (by omega)
      rw [he] at h5
      simp only at h5
      rw [h5, Option.bind_some]
      simp only [parchmentlaw11_LexWords_j111100, xawake, Option.bind_some, lenOf, if_true, Bool.false_eq_true, if_false]
      rw [show (0 : Int) = ((0 : Nat) : Int) from rfl, lw_loop R .snil .snil [] st2 (.inl ⟨rfl, rfl⟩) (.inl ⟨rfl, rfl⟩) (by simp) R 0 (by simp) (by simp; omega)]
      exact ⟨st2, rfl⟩
    | none =>
      simp only
      obtain ⟨y, st2, h5, h6⟩ := rwords_eq R t st1 (by omega) (by omega)
      rw [he] at h5
      simp only at h5
      rw [h5, Option.bind_some]
      have r1 := (h4 he).row
      have r2 := (h6 he).row
      have l1 := lenOf_row r1 (by omega)
      have l2 := lenOf_row r2 (by omega)
      simp only [parchmentlaw11_LexWords_j111100, xawake, Option.bind_some, l1, l2, if_true, Bool.false_eq_true, if_false]
      have hb := runOf_le isB t 0 (by omega)
      obtain ⟨_, _, _, _, h7⟩ := words_loop R t (by omega) (by omega) R (t.length + 1) (runOf isB t 0) .snil St.empty [] (Sl.nil _ 3) (by omega) (by omega) (by omega) (by simp)
      have hn : (wordsOf t).1.length ≤ 2000 := by
        unfold wordsOf
        simp at h7; omega
      rw [show (0 : Int) = ((0 : Nat) : Int) from rfl, lw_loop R x y _ st2 r1 r2 (by simp; omega) R 0 (by simp) (by simp; omega)]
      exact ⟨st2, rfl⟩
end
end Go.Proofs.Ytlmahcmmpfdglaa
