import Derived.Test.YtlmahcmmpfdglaaLxD
set_option linter.all false
namespace Go.Proofs.Ytlmahcmmpfdglaa
open Go Go.Ev
noncomputable section

/-! ### Bytes by kinds -/
def isL (n : Nat) : Bool := (97 ≤ n && n ≤ 122) || (65 ≤ n && n ≤ 90) || n == 95
def isD (n : Nat) : Bool := 48 ≤ n && n ≤ 57
def isB (n : Nat) : Bool := n == 32 || n == 10 || n == 9
def isW (n : Nat) : Bool := isL n || isD n
theorem letter_tab : ∀ n : Fin 256, lex_letter 0 (n.1 : Int) = some (isL n.1) := by decide +kernel
theorem digit_tab : ∀ n : Fin 256, lex_digit 0 (n.1 : Int) = some (isD n.1) := by decide +kernel
theorem blank_tab : ∀ n : Fin 256, lex_blank 0 (n.1 : Int) = some (isB n.1) := by decide +kernel
theorem wordy_tab : ∀ n : Fin 256, lex_wordy 0 (n.1 : Int) = some (isW n.1) := by decide +kernel
theorem class_tab : ∀ n : Fin 256, parchmentref11_class 0 (n.1 : Int) = some (if isL n.1 then 1 else if isD n.1 then 2 else if isB n.1 then 3 else 0) := by decide +kernel
theorem letter_eq (R : Nat) (c : UInt8) : lex_letter R (c.toNat : Int) = some (isL c.toNat) := letter_tab ⟨c.toNat, c.toNat_lt⟩
theorem digit_eq (R : Nat) (c : UInt8) : lex_digit R (c.toNat : Int) = some (isD c.toNat) := digit_tab ⟨c.toNat, c.toNat_lt⟩
theorem blank_eq (R : Nat) (c : UInt8) : lex_blank R (c.toNat : Int) = some (isB c.toNat) := blank_tab ⟨c.toNat, c.toNat_lt⟩
theorem wordy_eq (R : Nat) (c : UInt8) : lex_wordy R (c.toNat : Int) = some (isW c.toNat) := wordy_tab ⟨c.toNat, c.toNat_lt⟩
theorem class_eq (R : Nat) (c : UInt8) : parchmentref11_class R (c.toNat : Int) = some (if isL c.toNat then 1 else if isD c.toNat then 2 else if isB c.toNat then 3 else 0) := class_tab ⟨c.toNat, c.toNat_lt⟩

/-- How many bytes from a place on are such ones. -/
def runOf (p : Nat → Bool) (s : List UInt8) (k : Nat) : Nat := ((s.drop k).takeWhile fun c => p c.toNat).length
theorem runOf_le (p : Nat → Bool) (s : List UInt8) (k : Nat) (h : k ≤ s.length) : k + runOf p s k ≤ s.length := by
  have h1 : ((s.drop k).takeWhile fun c => p c.toNat).length ≤ (s.drop k).length := List.Sublist.length_le (List.takeWhile_sublist _)
  rw [List.length_drop] at h1
  unfold runOf
  omega
theorem runOf_yes {p : Nat → Bool} {s : List UInt8} {k : Nat} (h : k < s.length) (hp : p s[k].toNat = true) : runOf p s k = 1 + runOf p s (k + 1) := by
  unfold runOf
  rw [drop_cons h, List.takeWhile_cons_of_pos (p := fun c : UInt8 => p c.toNat) hp, List.length_cons, Nat.add_comm]
theorem runOf_no {p : Nat → Bool} {s : List UInt8} {k : Nat} (h : k < s.length) (hp : ¬ p s[k].toNat = true) : runOf p s k = 0 := by
  unfold runOf
  rw [drop_cons h, List.takeWhile_cons_of_neg (p := fun c : UInt8 => p c.toNat) hp]; rfl
theorem runOf_end {p : Nat → Bool} {s : List UInt8} {k : Nat} (h : s.length ≤ k) : runOf p s k = 0 := by
  unfold runOf
  rw [List.drop_eq_nil_of_le h]; rfl

/-- The loop of 'run', of whatever kind of bytes. -/
def runL (pm : Int → Option Bool) (s : List UInt8) : Nat → Int → Option Int
  | 0, _ => none
  | r + 1, i => if i < (List.length s : Int) then
      Option.bind (idxS s i) fun c => Option.bind (pm c) fun b => if b = true then runL pm s r (IntKind.wrap .i64 (i + 1)) else some i
    else some i
theorem runL_eq {pm : Int → Option Bool} {p : Nat → Bool} (hpm : ∀ c : UInt8, pm (c.toNat : Int) = some (p c.toNat)) (s : List UInt8) (hs : s.length ≤ 1000000) : ∀ (r k : Nat), k ≤ s.length → s.length - k < r → runL pm s r (k : Int) = some ((k + runOf p s k : Nat) : Int) := by
  intro r
  induction r with
  | zero => intro k h1 h2; omega
  | succ r ih =>
    intro k h1 h2
    unfold runL
    by_cases hlt : k < s.length
    · rw [if_pos (by omega), idxS_lt hlt, Option.bind_some, hpm, Option.bind_some]
      by_cases hp : p s[k].toNat = true
      · rw [if_pos hp, w1 (by omega), ih (k + 1) hlt (by omega), runOf_yes hlt hp, Nat.add_assoc]
      · rw [if_neg hp, runOf_no hlt hp]; rfl
    · rw [if_neg (by omega), runOf_end (by omega)]; rfl
/-! ### Names, numbers -/
theorem name_loop (R : Nat) (s : List UInt8) (hs : s.length ≤ 1000000) (hw : ∀ c ∈ s, isW c.toNat = true) (h0 : ∀ (h : 0 < s.length), isL s[0].toNat = true) : ∀ (r k : Nat), k ≤ s.length → s.length - k < r →
    value_Name_l1010 R s (s.length : Int) r (k : Int) = some (.inr ()) := by
  intro r
  induction r with
  | zero => intro k h1 h2; omega
  | succ r ih =>
    intro k h1 h2
    unfold value_Name_l1010
    by_cases hlt : k < s.length
    · rw [if_pos (by omega), idxS_lt hlt, Option.bind_some, w1 (by omega), ih (k + 1) hlt (by omega)]
      have hwk := hw s[k] (List.getElem_mem hlt)
      have h0' : k = 0 → isL s[k].toNat = true := by rintro rfl; exact h0 hlt
      simp only [isW, isL, isD, Bool.or_eq_true, Bool.and_eq_true, decide_eq_true_eq, beq_iff_eq] at hwk h0'
      split
      · split
        · rfl
        · omega
      · split
        · split
          · rfl
          · split
            · rfl
            · split <;> omega
        · split
          · omega
          · split
            · omega
            · split
              · omega
              · rfl
    · rw [if_neg (by omega)]
theorem name_eq (R : Nat) (s : List UInt8) (hs : s.length ≤ 1000000) (hR : s.length < R) (hw : ∀ c ∈ s, isW c.toNat = true) (h0 : ∀ (h : 0 < s.length), isL s[0].toNat = true) (h1 : 0 < s.length) : value_Name R s = some (decide (s.length ≤ 16)) := by
  unfold value_Name
  rw [show (0 : Int) = ((0 : Nat) : Int) from rfl, name_loop R s hs hw h0 R 0 (by omega) (by omega), Option.bind_some]
  simp only
  rw [if_pos (by omega)]
  by_cases h : s.length ≤ 16
  · rw [if_pos (by omega), decide_eq_true h]
  · rw [if_neg (by omega), decide_eq_false h]

def mostNum : List UInt8 := [57, 50, 50, 51, 51, 55, 50, 48, 51, 54, 56, 53, 52, 55, 55, 53, 56, 48, 55]
/-- May digits be a number? -/
def numOk (s : List UInt8) : Bool := !(decide (1 < s.length) && s.head? == some 48) && decide (s.length ≤ 19) && (decide (s.length < 19) || (strLt s mostNum || strEq s mostNum))
theorem u48 (c : UInt8) : ((c.toNat : Int) = 48) ↔ c = 48 := by
  constructor
  · intro h
    have : c.toNat = 48 := by omega
    exact UInt8.toNat_inj.1 this
  · rintro rfl; rfl
theorem number_eq (R : Nat) (s : List UInt8) : parchmentref11_number R s = some (numOk s) := by
  unfold parchmentref11_number numOk
  by_cases h1 : 1 < s.length
  · rw [if_pos (by omega), show (0 : Int) = ((0 : Nat) : Int) from rfl, idxS_lt (by omega : 0 < s.length), Option.bind_some]
    have hh : s.head? = some s[0] := by rw [List.head?_eq_getElem?, List.getElem?_eq_getElem (by omega)]
    rw [hh, decide_eq_true h1, Bool.true_and]
    by_cases h2 : s[0] = 48
    · rw [if_pos ((u48 _).2 h2), h2]; rfl
    · rw [if_neg (fun h => h2 ((u48 _).1 h))]
      have : (some s[0] == some (48 : UInt8)) = false := by simpa using h2
      rw [this]
      by_cases h3 : s.length > 19
      · rw [if_pos (by omega), decide_eq_false (by omega)]; rfl
      · rw [if_neg (by omega), decide_eq_true (by omega : s.length ≤ 19)]
        by_cases h4 : s.length < 19
        · rw [if_pos (by omega), decide_eq_true h4]; rfl
        · rw [if_neg (by omega), decide_eq_false h4]
          show (if (strLt s mostNum || strEq s mostNum) = true then some true else some false) = _
          cases (strLt s mostNum || strEq s mostNum) <;> rfl
  · rw [if_neg (by omega), decide_eq_false h1, decide_eq_true (by omega : s.length ≤ 19), decide_eq_true (by omega : s.length < 19)]; rfl
end
end Go.Proofs.Ytlmahcmmpfdglaa
