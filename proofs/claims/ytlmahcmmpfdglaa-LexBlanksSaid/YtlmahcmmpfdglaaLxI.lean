import Derived.Test.YtlmahcmmpfdglaaLxH
set_option linter.all false
namespace Go.Proofs.Ytlmahcmmpfdglaa
open Go Go.Ev
noncomputable section

instance ld33 : LdTy C0.P 33 true 3 := ⟨by kernel_rfl, by kernel_rfl⟩
instance ld32 : LdTy C0.P 32 true 3 := ⟨by kernel_rfl, by kernel_rfl⟩
instance ld3 : LdTy C0.P 3 false 1 := ⟨by kernel_rfl, by kernel_rfl⟩

/-! ### What is told, in plain terms -/
theorem xletter (R : Nat) (c : UInt8) : xlex_letter R (c.toNat : Int) = some (isL c.toNat) := letter_eq 2000000 c
theorem xdigit (R : Nat) (c : UInt8) : xlex_digit R (c.toNat : Int) = some (isD c.toNat) := digit_eq 2000000 c
theorem xblank (R : Nat) (c : UInt8) : xlex_blank R (c.toNat : Int) = some (isB c.toNat) := blank_eq 2000000 c
theorem xwordy (R : Nat) (c : UInt8) : xlex_wordy R (c.toNat : Int) = some (isW c.toNat) := wordy_eq 2000000 c
theorem xclass (R : Nat) (c : UInt8) : xparchmentref11_class R (c.toNat : Int) = some (if isL c.toNat then 1 else if isD c.toNat then 2 else if isB c.toNat then 3 else 0) := class_eq 2000000 c
theorem xnumber (R : Nat) (s : List UInt8) : xparchmentref11_number R s = some (numOk s) := number_eq 2000000 s
theorem xkey (R : Nat) (s : List UInt8) : xlex_Key R s = some (isKey s) := by
  obtain ⟨st', h⟩ := key_eq 2000000 s St.empty (by omega)
  unfold xlex_Key
  rw [h]; rfl
theorem xrkey (R : Nat) (s : List UInt8) : xparchmentref11_Key R s = some (isKey s) := by
  obtain ⟨st', h⟩ := rkey_eq 2000000 s St.empty (by omega)
  unfold xparchmentref11_Key
  rw [h]; rfl
theorem xquoted (R : Nat) (s : List UInt8) (hs : s.length ≤ 1000000) (h1 : 1 ≤ s.length) : xlex_quoted R s = some (match qbody (s.drop 1) with
    | some (t, n) => (t, ((1 + n : Nat) : Int))
    | none => ([], 0)) := by
  obtain ⟨st', h⟩ := quoted_eq 2000000 s St.empty hs h1 (by omega)
  unfold xlex_quoted
  rw [h]
  cases qbody (List.drop 1 s) <;> rfl
theorem xrquoted (R : Nat) (s : List UInt8) (k : Nat) (hs : s.length ≤ 1000000) (h1 : k + 1 ≤ s.length) : xparchmentref11_quoted R s (k : Int) = some (match qbody (s.drop (k + 1)) with
    | some (t, n) => (t, ((k + 1 + n : Nat) : Int))
    | none => ([], 0)) := rquoted_eq 2000000 s k hs h1 (by omega)
theorem xhex_some (R : Nat) (s t : List UInt8) (hs : s.length ≤ 1000000) (h : unhex s = some t) : xlex_hex R s = some (t, true) := by
  obtain ⟨st', h1, _⟩ := hex_eq 2000000 s St.empty hs (by omega)
  unfold xlex_hex
  rw [h1 t h]; rfl
theorem xhex_none (R : Nat) (s : List UInt8) (hs : s.length ≤ 1000000) (h : unhex s = none) : ∃ t, xlex_hex R s = some (t, false) := by
  obtain ⟨st', _, h1⟩ := hex_eq 2000000 s St.empty hs (by omega)
  obtain ⟨t, h2⟩ := h1 h
  unfold xlex_hex
  rw [h2]
  exact ⟨t, rfl⟩
theorem xrbytes (R : Nat) (s : List UInt8) (hs : s.length ≤ 1000000) : xparchmentref11_bytes R s = some (match unhex s with
    | some t => (t, true)
    | none => ([], false)) := by
  obtain ⟨st', h⟩ := rbytes_eq 2000000 s St.empty hs (by omega)
  unfold xparchmentref11_bytes
  rw [h]
  cases unhex s <;> rfl
theorem xname (R : Nat) (s : List UInt8) (hs : s.length ≤ 1000000) (hw : ∀ c ∈ s, isW c.toNat = true) (h0 : ∀ (h : 0 < s.length), isL s[0].toNat = true) (h1 : 0 < s.length) : xvalue_Name R s = some (decide (s.length ≤ 16)) := name_eq 2000000 s hs (by omega) hw h0 h1

theorem qbody_len : ∀ (l : List UInt8) (t : List UInt8) (n : Nat), qbody l = some (t, n) → t.length < n ∧ n ≤ l.length
  | [], t, n, h => by cases h
  | [c], t, n, h => by
    by_cases hc : c = 39
    · simp [qbody, hc] at h
      obtain ⟨rfl, rfl⟩ := h
      simp
    · rw [qbody_ne _ hc] at h
      simp [qbody] at h
  | c :: d :: r, t, n, h => by
    by_cases hc : c = 39
    · by_cases hd : d = 39
      · simp only [qbody, hc, hd, if_true] at h
        obtain ⟨⟨u, m⟩, h1, h2⟩ := Option.map_eq_some_iff.1 h
        cases h2
        have := qbody_len r u m h1
        simp; omega
      · simp [qbody, hc, hd] at h
        obtain ⟨rfl, rfl⟩ := h
        simp
    · rw [qbody_ne _ hc] at h
      obtain ⟨⟨u, m⟩, h1, h2⟩ := Option.map_eq_some_iff.1 h
      cases h2
      have := qbody_len (d :: r) u m h1
      simp at this ⊢; omega

/-! ### Runs -/
def runK (pm : Int → Option Bool) (s : List UInt8) : Nat → Int → Option Int
  | 0, _ => none
  | r + 1, i => Option.bind (if i < (List.length s : Int) then Option.bind (idxS s i) fun c => Option.bind (pm c) fun b => some b else some false) fun b => if b = true then runK pm s r (IntKind.wrap .i64 (i + 1)) else some i
theorem runK_eq {pm : Int → Option Bool} {p : Nat → Bool} (hpm : ∀ c : UInt8, pm (c.toNat : Int) = some (p c.toNat)) (s : List UInt8) (hs : s.length ≤ 1000000) : ∀ (r k : Nat), k ≤ s.length → s.length - k < r → runK pm s r (k : Int) = some ((k + runOf p s k : Nat) : Int) := by
  intro r
  induction r with
  | zero => intro k h1 h2; omega
  | succ r ih =>
    intro k h1 h2
    unfold runK
    by_cases hlt : k < s.length
    · rw [if_pos (by omega), idxS_lt hlt, Option.bind_some, hpm, Option.bind_some, Option.bind_some]
      by_cases hp : p s[k].toNat = true
      · rw [if_pos hp, w1 (by omega), ih (k + 1) hlt (by omega), runOf_yes hlt hp, Nat.add_assoc]
      · rw [if_neg hp, runOf_no hlt hp]; rfl
    · rw [if_neg (by omega), Option.bind_some, if_neg (by simp), runOf_end (by omega)]; rfl
theorem run_wordy_l (R : Nat) (s : List UInt8) (i0 : Int) : ∀ r i, lex_run_lex_wordy_l1100 R s i0 r i = runK (xlex_wordy R) s r i
  | 0, _ => rfl
  | r + 1, i => by unfold lex_run_lex_wordy_l1100 runK lex_run_lex_wordy_j1100000; simp only [run_wordy_l R s i0 r]
theorem run_digit_l (R : Nat) (s : List UInt8) (i0 : Int) : ∀ r i, lex_run_lex_digit_l1100 R s i0 r i = runK (xlex_digit R) s r i
  | 0, _ => rfl
  | r + 1, i => by unfold lex_run_lex_digit_l1100 runK lex_run_lex_digit_j1100000; simp only [run_digit_l R s i0 r]
theorem run_wordy (R : Nat) (s : List UInt8) (k : Nat) (hs : s.length ≤ 1000000) (hk : k ≤ s.length) (hR : s.length < R) : lex_run_lex_wordy R s (k : Int) = some ((runOf isW s k : Nat) : Int) := by
  have := runOf_le isW s k hk
  unfold lex_run_lex_wordy
  rw [run_wordy_l, runK_eq (xwordy R) s hs R k hk (by omega), Option.bind_some, wrap64 (by omega) (by omega)]
  congr 1; omega
theorem run_digit (R : Nat) (s : List UInt8) (k : Nat) (hs : s.length ≤ 1000000) (hk : k ≤ s.length) (hR : s.length < R) : lex_run_lex_digit R s (k : Int) = some ((runOf isD s k : Nat) : Int) := by
  have := runOf_le isD s k hk
  unfold lex_run_lex_digit
  rw [run_digit_l, runK_eq (xdigit R) s hs R k hk (by omega), Option.bind_some, wrap64 (by omega) (by omega)]
  congr 1; omega

/-! ### A word that is written out -/
theorem word_out {P : Program} {T : TypeId} [LdTy P T true 3] {st : St} {id t : Nat} {u : Bool} {a b c : AV} (h : st.objs.get id = some (.cells t u [a, b, c])) (x : Int) (y : List UInt8) (z r : Int) :
    ∃ st', ((storeAt P st T (.ref id 0) (.agg [.int .i64 x, .str y, .int .i64 z])).bind fun s1 => (loadAt P s1 T (.ref id 0)).bind fun v => (de_Ai64_s_i64Z v).bind fun q => some (q.1, q.2.1, q.2.2, r, s1)) = some (x, y, z, r, st') := by
  refine ⟨st.put id (.cells t u [.int .i64 x, .str y, .int .i64 z]), ?_⟩
  rw [store_cells (new := [.int .i64 x, .str y, .int .i64 z]) h rfl rfl rfl, Option.bind_some, load_cells (get_put _ _ _) rfl]
  rfl
theorem new_word (st : St) (t : Nat) (cs : List AV) : (st.push (.cells t true cs)).objs.get st.next = some (.cells t true cs) := get_push st _

/-- The piece of a run. -/
def pieceOf (p : Nat → Bool) (s : List UInt8) (k : Nat) : List UInt8 := (s.drop k).takeWhile fun c => p c.toNat
theorem piece_len (p : Nat → Bool) (s : List UInt8) (k : Nat) : (pieceOf p s k).length = runOf p s k := rfl
theorem piece_sub {p : Nat → Bool} {s : List UInt8} {k : Nat} (hk : k ≤ s.length) : (s.take (k + runOf p s k)).drop k = pieceOf p s k := by
  rw [List.drop_take, Nat.add_sub_cancel_left]
  unfold runOf pieceOf
  generalize s.drop k = l
  have := List.takeWhile_append_dropWhile (p := fun c : UInt8 => p c.toNat) (l := l)
  conv => lhs; rw [← this]
  rw [List.take_left']
  simp
theorem mem_takeWhile {α : Type} {p : α → Bool} : ∀ {l : List α} {c : α}, c ∈ l.takeWhile p → p c = true
  | a :: l, c, h => by
    rw [List.takeWhile_cons] at h
    split at h
    · rcases List.mem_cons.1 h with rfl | h
      · assumption
      · exact mem_takeWhile h
    · cases h
theorem piece_all {p : Nat → Bool} {s : List UInt8} {k : Nat} : ∀ c ∈ pieceOf p s k, p c.toNat = true := fun c hc => mem_takeWhile (p := fun c : UInt8 => p c.toNat) hc
theorem piece_head {p : Nat → Bool} {s : List UInt8} {k : Nat} (h : k < s.length) (hp : p s[k].toNat = true) : ∃ r, pieceOf p s k = s[k] :: r := by
  unfold pieceOf
  rw [drop_cons h, List.takeWhile_cons_of_pos (p := fun c : UInt8 => p c.toNat) hp]
  exact ⟨_, rfl⟩

theorem named_eq (s : List UInt8) (k : Nat) (hs : s.length ≤ 1000000) (hk : k < s.length) (hl : isL s[k].toNat = true) (R : Nat) :
    xlex_named R s (k : Int) = some (if isKey (pieceOf isW s k) then (2, pieceOf isW s k, (k : Int), ((runOf isW s k : Nat) : Int)) else (1, pieceOf isW s k, (k : Int), if runOf isW s k ≤ 16 then ((runOf isW s k : Nat) : Int) else 0)) := by
  have hW : isW s[k].toNat = true := by simp [isW, hl]
  have hle := runOf_le isW s k (by omega)
  obtain ⟨r, hr⟩ := piece_head hk hW
  have hn : xvalue_Name 2000000 (pieceOf isW s k) = some (decide ((pieceOf isW s k).length ≤ 16)) := xname _ _ (by rw [piece_len]; omega) piece_all (by rw [hr]; intro _; exact hl) (by rw [hr]; simp)
  rw [piece_len] at hn
  unfold xlex_named lex_named
  rw [run_wordy 2000000 s k hs (by omega) (by omega), Option.bind_some, wN (by omega), subS_nat (by omega) (by omega), piece_sub (by omega), Option.bind_some]
  rw [store_cells (cs := [.int .i64 0, .str [], .int .i64 0]) (new := [.int .i64 1, .str (pieceOf isW s k), .int .i64 (k : Int)]) (new_word _ _ _) rfl rfl rfl, Option.bind_some, load_cell (off := 1) (get_put _ _ _) rfl, Option.bind_some]
  simp only [avStr, Option.bind_some]
  rw [xkey, Option.bind_some]
  by_cases hkey : isKey (pieceOf isW s k) = true
  · rw [if_pos hkey, if_pos hkey]
    rw [store_cell (off := 0) (get_put _ _ _) (by simp) rfl rfl, Option.bind_some, load_cells (get_put _ _ _) rfl, Option.bind_some]
    have e0 : ((((St.empty.push (.cells 33 true [.int .i64 0, .str [], .int .i64 0])).push (.cells 33 true [.int .i64 0, .str [], .int .i64 0])).put (St.empty.push (.cells 33 true [.int .i64 0, .str [], .int .i64 0])).next (.cells 33 true [.int .i64 1, .str (pieceOf isW s k), .int .i64 (k : Int)])).put (St.empty.push (.cells 33 true [.int .i64 0, .str [], .int .i64 0])).next (.cells 33 true (List.set [.int .i64 1, .str (pieceOf isW s k), .int .i64 (k : Int)] 0 (.int .i64 2)))).objs.get St.empty.next = some (.cells 33 true [.int .i64 0, .str [], .int .i64 0]) := by
      rw [get_put_ne _ (by decide), get_put_ne _ (by decide), get_push_ne _ (by decide), get_push]
    obtain ⟨st', h⟩ := word_out (P := C0.P) (T := 33) e0 2 (pieceOf isW s k) (k : Int) ((runOf isW s k : Nat) : Int)
    exact congrArg (Option.map _) h
  · rw [if_neg hkey, if_neg hkey, hn, Option.bind_some]
    have e0 : (((St.empty.push (.cells 33 true [.int .i64 0, .str [], .int .i64 0])).push (.cells 33 true [.int .i64 0, .str [], .int .i64 0])).put (St.empty.push (.cells 33 true [.int .i64 0, .str [], .int .i64 0])).next (.cells 33 true [.int .i64 1, .str (pieceOf isW s k), .int .i64 (k : Int)])).objs.get St.empty.next = some (.cells 33 true [.int .i64 0, .str [], .int .i64 0]) := by
      rw [get_put_ne _ (by decide), get_push_ne _ (by decide), get_push]
    by_cases h16 : runOf isW s k ≤ 16
    · rw [decide_eq_true h16, if_pos rfl, if_pos h16, load_cells (get_put _ _ _) rfl, Option.bind_some]
      obtain ⟨st', h⟩ := word_out (P := C0.P) (T := 33) e0 1 (pieceOf isW s k) (k : Int) ((runOf isW s k : Nat) : Int)
      exact congrArg (Option.map _) h
    · rw [decide_eq_false h16, if_neg (by simp), if_neg h16, load_cells (get_put _ _ _) rfl, Option.bind_some]
      obtain ⟨st', h⟩ := word_out (P := C0.P) (T := 33) e0 1 (pieceOf isW s k) (k : Int) 0
      exact congrArg (Option.map _) h
end
end Go.Proofs.Ytlmahcmmpfdglaa
