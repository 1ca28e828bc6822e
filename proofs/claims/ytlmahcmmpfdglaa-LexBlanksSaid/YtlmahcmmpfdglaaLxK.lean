import Derived.Test.YtlmahcmmpfdglaaLxJ
set_option linter.all false
namespace Go.Proofs.Ytlmahcmmpfdglaa
open Go Go.Ev
noncomputable section

/-- The document's loop over a run. -/
theorem rrun_w (R : Nat) (s : List UInt8) (i0 : Int) (d : Nat) (hs : s.length ≤ 1000000) (st : St) : ∀ (r k : Nat), k ≤ s.length → s.length - k < r → parchmentref11_word_l1111101000 R s i0 d r (k : Int) st = some (((k + runOf isW s k : Nat) : Int), st) := by
  intro r
  induction r with
  | zero => intro k h1 h2; omega
  | succ r ih =>
    intro k h1 h2
    unfold parchmentref11_word_l1111101000 parchmentref11_word_j1111101000000
    by_cases hlt : k < s.length
    · rw [if_pos (by omega), idxS_lt hlt, Option.bind_some, xclass, Option.bind_some]
      by_cases h1 : isL s[k].toNat = true
      · rw [if_pos h1]
        simp only [if_true, Option.bind_some]
        rw [w1 (by omega), ih (k + 1) hlt (by omega), runOf_yes hlt (by simp [isW, h1]), Nat.add_assoc]
      · rw [if_neg h1]
        by_cases h2 : isD s[k].toNat = true
        · rw [if_pos h2]
          simp only [show ¬ (2 : Int) = 1 by omega, if_true, if_false, Option.bind_some]
          rw [w1 (by omega), ih (k + 1) hlt (by omega), runOf_yes hlt (by simp [isW, h2]), Nat.add_assoc]
        · rw [if_neg h2]
          have e : Option.bind (if (if isB s[k].toNat = true then (3 : Int) else 0) = 1 then some true else if (if isB s[k].toNat = true then (3 : Int) else 0) = 2 then some true else some false) (fun b => if b = true then parchmentref11_word_l1111101000 R s i0 d r (IntKind.wrap .i64 ((k : Int) + 1)) st else some ((k : Int), st)) = some ((k : Int), st) := by
            by_cases h3 : isB s[k].toNat = true
            · simp [h3]
            · simp [h3]
          rw [runOf_no hlt (by simp [isW, h1, h2])]
          exact e
    · rw [if_neg (by omega), Option.bind_some, if_neg (by simp), runOf_end (by omega)]; rfl
theorem rrun_d (R : Nat) (s : List UInt8) (i0 : Int) (d : Nat) (hs : s.length ≤ 1000000) (st : St) : ∀ (r k : Nat), k ≤ s.length → s.length - k < r → parchmentref11_word_l11111101000 R s i0 d r (k : Int) st = some (((k + runOf isD s k : Nat) : Int), st) := by
  intro r
  induction r with
  | zero => intro k h1 h2; omega
  | succ r ih =>
    intro k h1 h2
    unfold parchmentref11_word_l11111101000 parchmentref11_word_j11111101000000
    by_cases hlt : k < s.length
    · rw [if_pos (by omega), idxS_lt hlt, Option.bind_some, xclass, Option.bind_some]
      have hx : isL s[k].toNat = true → ¬ isD s[k].toNat = true := by
        simp only [isL, isD, Bool.or_eq_true, Bool.and_eq_true, decide_eq_true_eq, beq_iff_eq]; omega
      by_cases h2 : isD s[k].toNat = true
      · rw [if_neg (fun h => hx h h2), if_pos h2]
        simp only [if_true, Option.bind_some]
        rw [w1 (by omega), ih (k + 1) hlt (by omega), runOf_yes hlt h2, Nat.add_assoc]
      · have e : ∀ v : Int, v ≠ 2 → Option.bind (if v = 2 then some true else some false) (fun b => if b = true then parchmentref11_word_l11111101000 R s i0 d r (IntKind.wrap .i64 ((k : Int) + 1)) st else some ((k : Int), st)) = some ((k : Int), st) := by
          intro v hv
          rw [if_neg hv]; rfl
        rw [runOf_no hlt h2]
        refine e _ ?_
        by_cases h1 : isL s[k].toNat = true
        · rw [if_pos h1]; omega
        · rw [if_neg h1, if_neg h2]
          split <;> omega
    · rw [if_neg (by omega), Option.bind_some, if_neg (by simp), runOf_end (by omega)]; rfl

theorem single_loop (R : Nat) (s : List UInt8) (k : Nat) (hs : s.length ≤ 1000000) (hk : k < s.length) (d t0 : Nat) (u : Bool) (a b c : AV) (st : St) (hd : st.objs.get d = some (.cells t0 u [a, b, c])) : ∀ (r i : Nat), i ≤ 15 → 15 - i < r →
    ∃ st', parchmentref11_word_l111111111010 R s (k : Int) d (s[k].toNat : Int) r (i : Int) st = some (if s[k] ∈ singles.drop i then .inl (((k + 1 : Nat) : Int), st') else .inr st) ∧ (s[k] ∈ singles.drop i → st'.objs.get d = some (.cells t0 u [.int .i64 6, .str [s[k]], .int .i64 (k : Int)])) := by
  intro r
  induction r with
  | zero => intro i h1 h2; omega
  | succ r ih =>
    intro i h1 h2
    unfold parchmentref11_word_l111111111010
    by_cases hlt : i < 15
    · rw [if_pos (by omega)]
      have hl : i < singles.length := hlt
      rw [show idxS [61, 60, 62, 43, 45, 42, 40, 41, 123, 125, 91, 93, 44, 58, 46] (i : Int) = _ from idxS_lt (s := singles) hl, Option.bind_some, List.drop_eq_getElem_cons hl]
      by_cases e : singles[i] = s[k]
      · rw [if_pos (by rw [e]), w1 (by omega), subS_nat (by omega) (by omega), Option.bind_some]
        have e1 : (s.take (k + 1)).drop k = [s[k]] := by
          rw [List.drop_take, drop_cons hk, show k + 1 - k = 1 by omega]
          rfl
        rw [e1, store_cells (new := [.int .i64 6, .str [s[k]], .int .i64 (k : Int)]) hd rfl rfl rfl, Option.bind_some]
        refine ⟨_, by rw [if_pos (by rw [e]; exact List.mem_cons_self)], fun _ => get_put _ _ _⟩
      · rw [if_neg (fun h => e (UInt8.toNat_inj.1 (by omega))), w1 (by omega)]
        obtain ⟨st', h3, h4⟩ := ih (i + 1) hlt (by omega)
        refine ⟨st', h3.trans ?_, fun h => h4 ((List.mem_cons.1 h).resolve_left fun h => e h.symm)⟩
        by_cases h5 : s[k] ∈ singles.drop (i + 1)
        · rw [if_pos h5, if_pos (List.mem_cons_of_mem _ h5)]
        · rw [if_neg h5, if_neg (fun h => (List.mem_cons.1 h).elim (fun h => e h.symm) h5)]
    · have e0 : singles.drop i = [] := List.drop_eq_nil_of_le (by show 15 ≤ i; omega)
      rw [if_neg (by omega), e0]
      exact ⟨st, by rw [if_neg (by simp)], fun h => by cases h⟩

/-- The sign at a place, as the document has it. -/
theorem signAt_two {t w : List UInt8} (hw : w ∈ twos) (h : t.take 2 = w) : signAt t = some w := by
  unfold signAt signs
  rw [List.find?_append]
  simp only [twos, List.mem_cons, List.mem_nil_iff, or_false] at hw
  rcases hw with rfl | rfl | rfl <;> simp [twos, List.find?, h]
theorem signAt_one {c : UInt8} {r : List UInt8} (h : (c :: r).take 2 ∉ twos) : signAt (c :: r) = if c ∈ singles then some [c] else none := by
  unfold signAt signs
  rw [List.find?_append]
  have h0 : twos.find? (fun w => decide ((c :: r).take w.length = w)) = none := by
    rw [List.find?_eq_none]
    intro w hw
    simp only [decide_eq_true_eq]
    intro e
    apply h
    have hl : w.length = 2 := by
      simp only [twos, List.mem_cons, List.mem_nil_iff, or_false] at hw
      rcases hw with rfl | rfl | rfl <;> rfl
    rw [hl] at e
    rw [e]; exact hw
  rw [h0, Option.none_or]
  have key : ∀ l : List UInt8, (l.map fun c => [c]).find? (fun w => decide ((c :: r).take w.length = w)) = if c ∈ l then some [c] else none := by
    intro l
    induction l with
    | nil => rfl
    | cons a l ih =>
      rw [List.map_cons, List.find?_cons]
      by_cases e : c = a
      · subst e; simp
      · have : decide ((c :: r).take [a].length = [a]) = false := by simpa using e
        rw [this]
        simp only
        rw [ih]
        by_cases h : c ∈ l
        · rw [if_pos h, if_pos (List.mem_cons_of_mem _ h)]
        · rw [if_neg h, if_neg (fun h' => (List.mem_cons.1 h').elim e h)]
  exact key singles

theorem two_eq (R : Nat) (w : List UInt8) : parchmentref11_word_j111111101010 R w = some (decide (w ∈ twos)) := by
  unfold parchmentref11_word_j111111101010
  by_cases h1 : w = [60, 62]
  · rw [if_pos h1, decide_eq_true (by rw [h1]; decide)]
  · rw [if_neg h1]
    by_cases h2 : w = [60, 61]
    · rw [if_pos h2, decide_eq_true (by rw [h2]; decide)]
    · rw [if_neg h2]
      by_cases h3 : w = [62, 61]
      · rw [if_pos h3, decide_eq_true (by rw [h3]; decide)]
      · rw [if_neg h3, decide_eq_false (by simp [twos, h1, h2, h3])]

/-- The document's word at a place: the place behind. -/
theorem word_eq (R : Nat) (s : List UInt8) (k : Nat) (hs : s.length ≤ 1000000) (hk : k < s.length) : ∃ a b c, xparchmentref11_word R s (k : Int) = some (match wordAt s k with
    | some (kd, w, n) => (kd, w, (k : Int), ((k + n : Nat) : Int))
    | none => (a, b, c, 0)) := by
  have fin : ∀ x y z r, ∃ st', ((storeAt C0.P (St.empty.push (.cells 32 true [.int .i64 0, .str [], .int .i64 0])) 32 (.ref St.empty.next 0) (.agg [.int .i64 x, .str y, .int .i64 z])).bind fun s1 => (loadAt C0.P s1 32 (.ref St.empty.next 0)).bind fun v => (de_Ai64_s_i64Z v).bind fun q => some (q.1, q.2.1, q.2.2, r, s1)) = some (x, y, z, r, st') := fun x y z r => word_out (P := C0.P) (T := 32) (wd0 32 [.int .i64 0, .str [], .int .i64 0]) x y z r
  have key : ∃ a b c st', parchmentref11_word 2000000 s (k : Int) St.empty = some (match wordAt s k with
    | some (kd, w, n) => (kd, w, (k : Int), ((k + n : Nat) : Int), st')
    | none => (a, b, c, 0, st')) := by
    unfold parchmentref11_word wordAt
    rw [idxS_lt hk, Option.bind_some, rxq_eq _ s k hs hk, Option.bind_some, List.getElem?_eq_getElem hk]
    simp only
    by_cases hx : s[k] = 120 ∧ s[k + 1]? = some 39
    · obtain ⟨h2, _⟩ := List.getElem?_eq_some_iff.1 hx.2
      rw [decide_eq_true hx, if_pos rfl, if_pos hx, w1 (by omega), xrquoted _ _ _ hs (by omega), Option.bind_some, show k + 1 + 1 = k + 2 from rfl]
      cases hq : qbody (s.drop (k + 2)) with
      | none =>
        simp only
        rw [xrbytes 2000000 [] (by simp), Option.bind_some]
        simp only [parchmentref11_word_j110101100, if_true, Option.bind_some]
        obtain ⟨st', h⟩ := fin 0 [] 0 0
        exact ⟨_, _, _, st', h⟩
      | some q =>
        obtain ⟨t, n⟩ := q
        have hl := qbody_len _ _ _ hq
        rw [List.length_drop] at hl
        simp only [Option.bind_some]
        rw [xrbytes 2000000 t (by omega), Option.bind_some]
        cases hu : unhex t with
        | none =>
          simp only [parchmentref11_word_j110101100]
          rw [if_neg (by omega)]
          simp only [if_true, Bool.false_eq_true, if_false, Option.bind_some]
          obtain ⟨st', h⟩ := fin 0 [] 0 0
          exact ⟨_, _, _, st', h⟩
        | some b =>
          simp only [parchmentref11_word_j110101100]
          rw [if_neg (by omega)]
          simp only [if_true, Bool.false_eq_true, if_false, Option.bind_some]
          obtain ⟨st', h⟩ := fin 5 b (k : Int) ((k + 2 + n : Nat) : Int)
          refine ⟨0, [], 0, st', h.trans ?_⟩
          simp only [Option.map_some]
          rw [show k + 2 + n = k + (n + 2) by omega]
    · rw [decide_eq_false hx, if_neg (by simp), if_neg hx]
      have hLD : isL s[k].toNat = true ∨ isD s[k].toNat = true → ¬ s[k] = 39 := by
        intro h e
        rw [e] at h
        revert h; decide
      by_cases hq : s[k] = 39
      · rw [if_pos ((u39 _).2 hq), if_neg (fun h => hLD (.inl h) hq), if_neg (fun h => hLD (.inr h) hq), if_pos hq, xrquoted _ _ _ hs (by omega), Option.bind_some]
        cases hb : qbody (s.drop (k + 1)) with
        | none =>
          simp only
          obtain ⟨st', h⟩ := fin 4 [] (k : Int) 0
          exact ⟨_, _, _, st', h⟩
        | some q =>
          obtain ⟨t, n⟩ := q
          simp only [Option.map_some]
          obtain ⟨st', h⟩ := fin 4 t (k : Int) ((k + 1 + n : Nat) : Int)
          exact ⟨0, [], 0, st', h.trans (by rw [show k + 1 + n = k + (n + 1) by omega])⟩
      · rw [if_neg (fun h => hq ((u39 _).1 h)), xclass, Option.bind_some]
        by_cases hL : isL s[k].toNat = true
        · have hW : isW s[k].toNat = true := by simp [isW, hL]
          have hle := runOf_le isW s k (by omega)
          rw [if_pos hL, if_pos rfl, if_pos hL, rrun_w 2000000 s (k : Int) _ hs _ 2000000 k (by omega) (by omega), Option.bind_some]
          simp only
          rw [subS_nat (by omega) (by omega), piece_sub (by omega), Option.bind_some, xrkey, Option.bind_some]
          by_cases hkey : isKey (pieceOf isW s k) = true
          · rw [if_pos hkey, if_pos hkey]
            obtain ⟨st', h⟩ := fin 2 (pieceOf isW s k) (k : Int) ((k + runOf isW s k : Nat) : Int)
            exact ⟨0, [], 0, st', h⟩
          · rw [if_neg hkey, if_neg hkey, piece_len]
            by_cases h16 : runOf isW s k ≤ 16
            · rw [if_neg (by omega), if_pos h16]
              obtain ⟨st', h⟩ := fin 1 (pieceOf isW s k) (k : Int) ((k + runOf isW s k : Nat) : Int)
              exact ⟨0, [], 0, st', h⟩
            · rw [if_pos (by omega), if_neg h16]
              obtain ⟨st', h⟩ := fin 0 [] 0 0
              exact ⟨_, _, _, st', h⟩
        · rw [if_neg hL, if_neg hL]
          by_cases hD : isD s[k].toNat = true
          · have hle := runOf_le isD s k (by omega)
            rw [if_pos hD, if_neg (by omega), if_pos rfl, if_pos hD, rrun_d 2000000 s (k : Int) _ hs _ 2000000 k (by omega) (by omega), Option.bind_some]
            simp only
            rw [subS_nat (by omega) (by omega), piece_sub (by omega), Option.bind_some, xnumber, Option.bind_some]
            cases numOk (pieceOf isD s k) with
            | true =>
              simp only [Bool.false_eq_true, if_false, if_true]
              obtain ⟨st', h⟩ := fin 3 (pieceOf isD s k) (k : Int) ((k + runOf isD s k : Nat) : Int)
              exact ⟨0, [], 0, st', h⟩
            | false =>
              simp only [Bool.false_eq_true, if_false, if_true]
              obtain ⟨st', h⟩ := fin 0 [] 0 0
              exact ⟨_, _, _, st', h⟩
          · rw [if_neg hD, if_neg hD, if_neg hq]
            generalize hv : (if isB s[k].toNat = true then (3 : Int) else 0) = v
            have hv1 : ¬ v = 1 := by rw [← hv]; split <;> omega
            have hv2 : ¬ v = 2 := by rw [← hv]; split <;> omega
            rw [if_neg hv1, if_neg hv2, show ((k : Int) + 2) = (k : Int) + ((2 : Nat) : Int) from rfl, wN (by omega)]
            have single : (s.drop k).take 2 ∉ twos → ∃ a b c st', (Option.bind (parchmentref11_word_l111111111010 2000000 s (k : Int) (St.next St.empty) (s[k].toNat : Int) 2000000 0 (St.push St.empty (.cells 32 true [(.int .i64 0), (.str []), (.int .i64 0)]))) fun o => match o with
                | .inl (i680, st681) =>
                  Option.bind (loadAt C0.P st681 32 (.ref (St.next St.empty) 0)) fun x683 =>
                  Option.bind (de_Ai64_s_i64Z x683) fun (i684, s685, i686) =>
                  some (i684, s685, i686, i680, st681)
                | .inr st688 =>
                  Option.bind (storeAt C0.P st688 32 (.ref (St.next St.empty) 0) (.agg [(.int .i64 0), (.str []), (.int .i64 0)])) fun st690 =>
                  Option.bind (loadAt C0.P st690 32 (.ref (St.next St.empty) 0)) fun x692 =>
                  Option.bind (de_Ai64_s_i64Z x692) fun (i693, s694, i695) =>
                  some (i693, s694, i695, (0 : Int), st690)) = some (match (signAt (s.drop k)).map (fun w => ((6 : Int), w, w.length)) with
                | some (kd, w, n) => (kd, w, (k : Int), ((k + n : Nat) : Int), st')
                | none => (a, b, c, 0, st')) := by
              intro hno
              obtain ⟨st1, h1, h2⟩ := single_loop 2000000 s k hs hk St.empty.next 32 true _ _ _ _ (wd0 32 [.int .i64 0, .str [], .int .i64 0]) 2000000 0 (by omega) (by omega)
              have h1' : parchmentref11_word_l111111111010 2000000 s (k : Int) (St.next St.empty) (s[k].toNat : Int) 2000000 0 (St.push St.empty (.cells 32 true [(.int .i64 0), (.str []), (.int .i64 0)])) = _ := h1
              rw [h1', Option.bind_some, drop_cons hk, signAt_one (by rw [← drop_cons hk]; exact hno)]
              by_cases hm : s[k] ∈ singles
              · rw [List.drop_zero, if_pos hm, if_pos hm]
                simp only [Option.map_some]
                rw [load_cells (h2 hm) rfl, Option.bind_some]
                exact ⟨0, [], 0, st1, rfl⟩
              · rw [List.drop_zero, if_neg hm, if_neg hm]
                simp only [Option.map_none]
                obtain ⟨st', h⟩ := fin 0 [] 0 0
                exact ⟨_, _, _, st', h⟩
            by_cases h2 : k + 2 ≤ s.length
            · rw [if_pos (by omega), subS_nat (by omega) h2, Option.bind_some, two_eq, Option.bind_some]
              have e2 : (s.take (k + 2)).drop k = (s.drop k).take 2 := by rw [List.drop_take, show k + 2 - k = 2 by omega]
              rw [e2]
              by_cases hm : (s.drop k).take 2 ∈ twos
              · rw [decide_eq_true hm, if_pos rfl, signAt_two hm rfl]
                simp only [Option.map_some]
                obtain ⟨st', h⟩ := fin 6 ((s.drop k).take 2) (k : Int) ((k + 2 : Nat) : Int)
                refine ⟨0, [], 0, st', h.trans ?_⟩
                rw [List.length_take, List.length_drop, show min 2 (s.length - k) = 2 by omega]
              · rw [decide_eq_false hm, if_neg (by simp)]
                exact single hm
            · rw [if_neg (by omega)]
              refine single fun hm => ?_
              have hl : ((s.drop k).take 2).length = 2 := by
                simp only [twos, List.mem_cons, List.mem_nil_iff, or_false] at hm
                rcases hm with h | h | h <;> rw [h] <;> rfl
              rw [List.length_take, List.length_drop] at hl
              omega
  obtain ⟨a, b, c, st', h⟩ := key
  refine ⟨a, b, c, ?_⟩
  unfold xparchmentref11_word
  rw [h]
  cases wordAt s k <;> rfl
end
end Go.Proofs.Ytlmahcmmpfdglaa
