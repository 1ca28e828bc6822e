import Derived.Test.YtlmahcmmpfdglaaLxL
set_option linter.all false
namespace Go.Proofs.Ytlmahcmmpfdglaa
open Go Go.Ev
noncomputable section

instance sl23 : SlTy C0.P 23 3 := ⟨⟨33, 32, .agg [.int .i64 0, .str [], .int .i64 0], by kernel_rfl, by kernel_rfl, by kernel_rfl, by kernel_rfl, by omega, by omega, rfl, rfl⟩⟩
instance sl27 : SlTy C0.P 27 3 := ⟨⟨32, 32, .agg [.int .i64 0, .str [], .int .i64 0], by kernel_rfl, by kernel_rfl, by kernel_rfl, by kernel_rfl, by omega, by omega, rfl, rfl⟩⟩

theorem run_blank_l (R : Nat) (s : List UInt8) (i0 : Int) : ∀ r i, lex_run_lex_blank_l1100 R s i0 r i = runK (xlex_blank R) s r i
  | 0, _ => rfl
  | r + 1, i => by unfold lex_run_lex_blank_l1100 runK lex_run_lex_blank_j1100000; simp only [run_blank_l R s i0 r]
theorem run_blank (R : Nat) (s : List UInt8) (k : Nat) (hs : s.length ≤ 1000000) (hk : k ≤ s.length) (hR : s.length < R) : lex_run_lex_blank R s (k : Int) = some ((runOf isB s k : Nat) : Int) := by
  have := runOf_le isB s k hk
  unfold lex_run_lex_blank
  rw [run_blank_l, runK_eq (xblank R) s hs R k hk (by omega), Option.bind_some, wrap64 (by omega) (by omega)]
  congr 1; omega

theorem signAt_len {t w : List UInt8} (h : signAt t = some w) : 1 ≤ w.length ∧ w.length ≤ t.length := by
  unfold signAt at h
  have h1 := List.mem_of_find?_eq_some h
  have h2 := List.find?_some h
  simp only [decide_eq_true_eq] at h2
  constructor
  · have : ∀ w ∈ signs, 1 ≤ w.length := by decide
    exact this w h1
  · have := congrArg List.length h2
    rw [List.length_take] at this
    omega
theorem wordAt_len {s : List UInt8} {k : Nat} {kd : Int} {w : List UInt8} {n : Nat} (hk : k < s.length) (h : wordAt s k = some (kd, w, n)) : 1 ≤ n ∧ k + n ≤ s.length := by
  unfold wordAt at h
  rw [List.getElem?_eq_getElem hk] at h
  simp only at h
  split at h
  · rename_i hx
    obtain ⟨h2, _⟩ := List.getElem?_eq_some_iff.1 hx.2
    obtain ⟨⟨t, m⟩, h3, h4⟩ := Option.bind_eq_some_iff.1 h
    obtain ⟨b, h5, h6⟩ := Option.map_eq_some_iff.1 h4
    cases h6
    have := qbody_len _ _ _ h3
    rw [List.length_drop] at this
    omega
  · split at h
    · rename_i hL
      have h1 := runOf_le isW s k (by omega)
      have h2 := runOf_yes (p := isW) hk (by simp [isW, hL])
      split at h
      · cases h; omega
      · split at h
        · cases h; omega
        · cases h
    · split at h
      · rename_i hD
        have h1 := runOf_le isD s k (by omega)
        have h2 := runOf_yes (p := isD) hk hD
        split at h
        · cases h; omega
        · cases h
      · split at h
        · obtain ⟨⟨t, m⟩, h3, h4⟩ := Option.map_eq_some_iff.1 h
          cases h4
          have := qbody_len _ _ _ h3
          rw [List.length_drop] at this
          omega
        · obtain ⟨w', h3, h4⟩ := Option.map_eq_some_iff.1 h
          cases h4
          have := signAt_len h3
          rw [List.length_drop] at this
          omega

abbrev W := Int × List UInt8 × Int
def wcells (w : W) : List AV := [.int .i64 w.1, .str w.2.1, .int .i64 w.2.2]
def wsCells (l : List W) : List AV := l.flatMap wcells
theorem wsCells_len (l : List W) : (wsCells l).length = l.length * 3 := by
  induction l with
  | nil => rfl
  | cons a l ih => simp only [wsCells, List.flatMap_cons, List.length_append] at ih ⊢; rw [ih]; simp [wcells]; omega
theorem wsCells_snoc (l : List W) (w : W) : wsCells l ++ wcells w = wsCells (l ++ [w]) := by simp [wsCells]
theorem wsCells_append (l m : List W) : wsCells (l ++ m) = wsCells l ++ wsCells m := by simp [wsCells]

/-- The words from a place on that is no blank; the place of the first that may not be. -/
def tk (s : List UInt8) : Nat → Nat → List W × Option Nat
  | 0, _ => ([], none)
  | f + 1, j => if j < s.length then (match wordAt s j with
      | none => ([], some j)
      | some (kd, w, n) => ((kd, w, (j : Int)) :: (tk s f (j + n + runOf isB s (j + n))).1, (tk s f (j + n + runOf isB s (j + n))).2))
    else ([], none)

/-- A word that is written out, and read again. -/
theorem word_in {P : Program} {T : TypeId} [LdTy P T true 3] {st : St} {id t : Nat} {u : Bool} {a b c : AV} (h : st.objs.get id = some (.cells t u [a, b, c])) (x : Int) (y : List UInt8) (z : Int) :
    ∃ st', storeAt P st T (.ref id 0) (.agg [.int .i64 x, .str y, .int .i64 z]) = some st' ∧ loadAt P st' T (.ref id 0) = some (.agg [.int .i64 x, .str y, .int .i64 z]) ∧ st'.next = st.next ∧ (∀ i, i ≠ id → st'.objs.get i = st.objs.get i) :=
  ⟨st.put id (.cells t u [.int .i64 x, .str y, .int .i64 z]), store_cells (new := [.int .i64 x, .str y, .int .i64 z]) h rfl rfl rfl, load_cells (get_put _ _ _) rfl, rfl, fun _ hi => get_put_ne _ hi⟩
theorem words_loop (R : Nat) (s : List UInt8) (hs : s.length ≤ 2000) (hR : s.length < R) : ∀ (r f k : Nat) (x : AV) (st : St) (acc : List W), Sl st 3 x (wsCells acc) → k ≤ s.length → s.length - k < r → s.length - k < f → acc.length ≤ k →
    ∃ x' st', lex_Words_l111100 R s r x (k : Int) st = some (match (tk s f k).2 with
      | some e => .inl (.snil, (e : Int), 110, st')
      | none => .inr (x', st')) ∧ ((tk s f k).2 = none → Sl st' 3 x' (wsCells (acc ++ (tk s f k).1))) ∧ acc.length + (tk s f k).1.length ≤ s.length := by
  intro r
  induction r with
  | zero => intro f k x st acc h1 h2 h3; omega
  | succ r ih =>
    intro f k x st acc hx hk hr hf ha
    cases f with
    | zero => omega
    | succ f =>
    unfold lex_Words_l111100 tk
    by_cases hlt : k < s.length
    · rw [if_pos (by omega), if_pos hlt]
      obtain ⟨a, b, c, hn⟩ := next_eq R s k (by omega) hlt
      rw [hn, Option.bind_some]
      cases hw : wordAt s k with
      | none =>
        simp only
        obtain ⟨st1, h1, _⟩ := word_in (P := C0.P) (T := 33) (new_word st 33 [.int .i64 0, .str [], .int .i64 0]) a b c
        rw [h1, Option.bind_some, if_pos trivial]
        exact ⟨x, st1, rfl, fun h => (by cases h), (by simp; omega)⟩
      | some q =>
        obtain ⟨kd, w, n⟩ := q
        obtain ⟨l1, l2⟩ := wordAt_len hlt hw
        simp only
        obtain ⟨st1, h1, h2, h3, h4⟩ := word_in (P := C0.P) (T := 33) (new_word st 33 [.int .i64 0, .str [], .int .i64 0]) kd w (k : Int)
        rw [h1, Option.bind_some, if_neg (by omega), h2, Option.bind_some]
        have hx1 : Sl st1 3 x (wsCells acc) := hx.same (by rw [h3]; exact Nat.le_succ _) fun i hi => by rw [h4 i (by omega), get_push_ne _ (by omega)]
        obtain ⟨x', st2, e, hS, _, _⟩ := push1 (P := C0.P) (t := 23) (v := .agg (wcells (kd, w, (k : Int)))) (fun p => (lex_run_lex_blank R s (IntKind.wrap .i64 ((k : Int) + (n : Int)))).bind fun q => lex_Words_l111100 R s r p.1 (IntKind.wrap .i64 ((IntKind.wrap .i64 ((k : Int) + (n : Int))) + q)) p.2) hx1 rfl rfl (by rw [wsCells_len]; simp [most]; omega) (by omega)
        have hb := runOf_le isB s (k + n) (by omega)
        rw [show (AV.agg (wcells (kd, w, (k : Int)))).cells = wcells (kd, w, (k : Int)) from rfl, wsCells_snoc] at hS
        obtain ⟨x2, st3, h5, h6, h7⟩ := ih f (k + n + runOf isB s (k + n)) x' st2 (acc ++ [(kd, w, (k : Int))]) hS (by omega) (by omega) (by omega) (by simp; omega)
        refine ⟨x2, st3, Eq.trans e ?_, fun hh => ?_, ?_⟩
        · simp only
          rw [wN (by omega), run_blank R s (k + n) (by omega) (by omega) hR, Option.bind_some, wN (by omega)]
          exact h5
        · have := h6 hh
          simpa using this
        · simp at h7 ⊢; omega
    · rw [if_neg (by omega), if_neg hlt]
      exact ⟨x, st, rfl, fun _ => (by simpa using hx), (by simp; omega)⟩
theorem end_word (R : Nat) {x : AV} {st : St} {l : List W} (hx : Sl st 3 x (wsCells l)) (hl : l.length ≤ 2000) (n : Nat) : ∃ x' st', ((mkNew (buildSliceOp C0.P (C0.byref 9) 23 1 [(0, (.agg [(.int .i64 0), (.str []), (.int .i64 (n : Int))]))]) st).bind fun p => (appendOp C0.P (C0.byref 9) p.2 #[23, 23] x p.1).bind fun q => some (q.1, (0 : Int), (0 : Int), q.2)) = some (x', 0, 0, st') ∧ Sl st' 3 x' (wsCells (l ++ [(0, [], (n : Int))])) := by
  obtain ⟨x', st', e, hS, _, _⟩ := push1 (P := C0.P) (t := 23) (v := .agg (wcells (0, [], (n : Int)))) (fun p => some (p.1, (0 : Int), (0 : Int), p.2)) hx rfl rfl (by rw [wsCells_len]; simp [most]; omega) (by omega)
  rw [show (AV.agg (wcells (0, [], (n : Int)))).cells = wcells (0, [], (n : Int)) from rfl, wsCells_snoc] at hS
  exact ⟨x', st', e, hS⟩

/-- All words of a text, with an end; or the place of the first that may not be. -/
def wordsOf (s : List UInt8) : List W × Option Nat := tk s (s.length + 1) (runOf isB s 0)
theorem words_eq (R : Nat) (s : List UInt8) (st : St) (hs : s.length ≤ 2000) (hR : s.length < R) : ∃ x st', lex_Words R s st = some (match (wordsOf s).2 with
      | some e => (.snil, (e : Int), 110, st')
      | none => (x, 0, 0, st')) ∧ ((wordsOf s).2 = none → Sl st' 3 x (wsCells ((wordsOf s).1 ++ [(0, [], (s.length : Int))]))) := by
  unfold lex_Words
  have hb := runOf_le isB s 0 (by omega)
  rw [if_neg (by omega), show (0 : Int) = ((0 : Nat) : Int) from rfl, run_blank R s 0 (by omega) (by omega) hR, Option.bind_some]
  obtain ⟨x', st', h1, h2, h3⟩ := words_loop R s hs hR R (s.length + 1) (runOf isB s 0) .snil st [] (Sl.nil st 3) (by omega) (by omega) (by omega) (by simp)
  rw [h1, Option.bind_some]
  unfold wordsOf
  cases he : (tk s (s.length + 1) (runOf isB s 0)).2 with
  | some e => exact ⟨x', st', rfl, fun h => by cases h⟩
  | none =>
    simp only
    have hx := h2 he
    simp only [List.nil_append, List.length_nil, Nat.zero_add] at hx h3
    obtain ⟨x2, st2, h4, h5⟩ := end_word R hx (by omega) s.length
    exact ⟨x2, st2, h4, fun _ => h5⟩
end
end Go.Proofs.Ytlmahcmmpfdglaa
