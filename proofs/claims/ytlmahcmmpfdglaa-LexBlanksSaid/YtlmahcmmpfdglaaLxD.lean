import Derived.Test.YtlmahcmmpfdglaaLxC
set_option linter.all false
namespace Go.Proofs.Ytlmahcmmpfdglaa
open Go Go.Ev
noncomputable section

instance sl50 : SlTy C0.P 47 1 := ⟨⟨9, 16, .str [], by kernel_rfl, by kernel_rfl, by kernel_rfl, by kernel_rfl, by omega, by omega, rfl, rfl⟩⟩
instance ld9 : LdTy C0.P 9 false 1 := ⟨by kernel_rfl, by kernel_rfl⟩

/-- The language's own words. -/
def keys : List (List UInt8) := [[65, 78, 68], [66, 89], [67, 79, 85, 78, 84], [67, 82, 69, 65, 84, 69], [68, 69, 76, 69, 84, 69], [68, 69, 83, 67], [70, 65, 76, 83, 69], [70, 82, 79, 77], [72, 73, 83, 84, 79, 82, 89], [73, 78, 68, 69, 88], [73, 78, 83, 69, 82, 84], [73, 78, 84, 79], [73, 83], [76, 73, 77, 73, 84], [78, 79, 84], [78, 85, 76, 76], [79, 78], [79, 82], [79, 82, 68, 69, 82], [83, 69, 76, 69, 67, 84], [83, 69, 84], [84, 65, 66, 76, 69], [84, 82, 85, 69], [85, 80, 68, 65, 84, 69], [86, 65, 76, 85, 69], [87, 72, 69, 82, 69]]
def isKey (s : List UInt8) : Bool := keys.any fun w => decide (w = s)
theorem isKey_iff {s : List UInt8} : isKey s = true ↔ s ∈ keys := by
  simp only [isKey, List.any_eq_true, decide_eq_true_eq]
  constructor
  · rintro ⟨w, h, rfl⟩; exact h
  · exact fun h => ⟨s, h, rfl⟩

theorem elem_str {P : Program} {t t' : TypeId} [SlTy P t 1] [LdTy P t' false 1] {st : St} {x : AV} {ks : List (List UInt8)} {kd : IntKind} {i : Nat} {α : Type} (k : List UInt8 → Option α) (h : Sl st 1 x (ks.map AV.str)) (hi : i < ks.length) :
    ((indexAddrOp P t x (.int kd (i : Int))).bind fun p => (loadAt P st t' p).bind fun v => (avStr v).bind k) = k ks[i] := by
  rw [elem_sl (P := P) (t := t) (k := kd) h (by simpa using hi), Option.bind_some, Nat.mul_one]
  have e : (ks.map AV.str).drop i = .str ks[i] :: (ks.map AV.str).drop (i + 1) := by
    rw [List.drop_eq_getElem_cons (by simpa using hi)]
    simp
  rw [e, load_one]
  rfl

theorem index_loop (R : Nat) (s : List UInt8) (ks : List (List UInt8)) (x : AV) (st : St) (hx : Sl st 1 x (ks.map AV.str)) (hl : ks.length ≤ 1000000) : ∀ (r k : Nat), k ≤ ks.length → ks.length - k < r →
    (s ∈ ks.drop k ∧ ∃ i : Nat, slices_Index___string_string__l1010 R x s (ks.length : Int) r (k : Int) st = some (.inl ((i : Int), st))) ∨
    (s ∉ ks.drop k ∧ slices_Index___string_string__l1010 R x s (ks.length : Int) r (k : Int) st = some (.inr st)) := by
  intro r
  induction r with
  | zero => intro k h1 h2; omega
  | succ r ih =>
    intro k h1 h2
    unfold slices_Index___string_string__l1010
    by_cases hlt : k < ks.length
    · rw [if_pos (by omega)]
      rw [show (Option.bind (indexAddrOp C0.P 47 x (.int .i64 (k : Int))) _ : Option ((Int × St) ⊕ St)) = _ from elem_str (P := C0.P) (t := 47) (t' := 9) (kd := .i64) (fun w => if s = w then some (.inl ((k : Int), st)) else slices_Index___string_string__l1010 R x s (ks.length : Int) r (IntKind.wrap .i64 ((k : Int) + 1)) st) hx hlt]
      rw [List.drop_eq_getElem_cons hlt]
      by_cases e : s = ks[k]
      · rw [if_pos e]
        exact .inl ⟨by rw [e]; exact List.mem_cons_self, k, rfl⟩
      · rw [if_neg e, w1 (by omega)]
        rcases ih (k + 1) hlt (by omega) with ⟨h3, i, h4⟩ | ⟨h3, h4⟩
        · exact .inl ⟨List.mem_cons_of_mem _ h3, i, h4⟩
        · exact .inr ⟨fun h => (List.mem_cons.1 h).elim e h3, h4⟩
    · rw [if_neg (by omega), List.drop_eq_nil_of_le (by omega)]
      exact .inr ⟨by simp, rfl⟩
theorem keys_new (st : St) : Sl (st.push (.tip 26)) 1 (.sl st.next 26 26 1 (some 26) (keys.map AV.str)) (keys.map AV.str) :=
  .inr ⟨_, _, _, _, rfl, rfl, Nat.lt_succ_self _, .inl rfl⟩
theorem key_eq (R : Nat) (s : List UInt8) (st : St) (hR : 26 < R) : ∃ st', lex_Key R s st = some (isKey s, st') := by
  have e : ∀ st, mkNew (buildSliceOp C0.P (C0.byref 12) 47 26 ([(0, (.str [65, 78, 68])), (1, (.str [66, 89])), (2, (.str [67, 79, 85, 78, 84])), (3, (.str [67, 82, 69, 65, 84, 69])), (4, (.str [68, 69, 76, 69, 84, 69])), (5, (.str [68, 69, 83, 67])), (6, (.str [70, 65, 76, 83, 69])), (7, (.str [70, 82, 79, 77])), (8, (.str [72, 73, 83, 84, 79, 82, 89])), (9, (.str [73, 78, 68, 69, 88])), (10, (.str [73, 78, 83, 69, 82, 84])), (11, (.str [73, 78, 84, 79])), (12, (.str [73, 83])), (13, (.str [76, 73, 77, 73, 84])), (14, (.str [78, 79, 84])), (15, (.str [78, 85, 76, 76])), (16, (.str [79, 78])), (17, (.str [79, 82])), (18, (.str [79, 82, 68, 69, 82])), (19, (.str [83, 69, 76, 69, 67, 84])), (20, (.str [83, 69, 84])), (21, (.str [84, 65, 66, 76, 69])), (22, (.str [84, 82, 85, 69])), (23, (.str [85, 80, 68, 65, 84, 69])), (24, (.str [86, 65, 76, 85, 69])), (25, (.str [87, 72, 69, 82, 69]))])) st = some (.sl st.next 26 26 1 (some 26) (keys.map AV.str), st.push (.tip 26)) := fun st => by kernel_rfl
  unfold lex_Key slices_Contains___string_string_ slices_Index___string_string_
  rw [e, Option.bind_some]
  simp only [lenOf, Option.bind_some]
  rcases index_loop R s keys _ _ (keys_new st) (by decide) R 0 (by omega) (by simpa [keys] using hR) with ⟨h1, i, h2⟩ | ⟨h1, h2⟩
  · have h2' : slices_Index___string_string__l1010 R (.sl st.next 26 26 1 (some 26) (keys.map AV.str)) s ((26 : Nat) : Int) R 0 (st.push (.tip 26)) = _ := h2
    rw [h2', (isKey_iff).2 (by simpa using h1)]
    simp only [Option.bind_some]
    rw [if_pos (by omega)]
    exact ⟨_, rfl⟩
  · have h2' : slices_Index___string_string__l1010 R (.sl st.next 26 26 1 (some 26) (keys.map AV.str)) s ((26 : Nat) : Int) R 0 (st.push (.tip 26)) = _ := h2
    have h3 : isKey s = false := by
      cases h : isKey s with
      | false => rfl
      | true => exact absurd (isKey_iff.1 h) (by simpa using h1)
    rw [h2', h3]
    simp only [Option.bind_some]
    rw [if_neg (by omega)]
    exact ⟨_, rfl⟩
end
end Go.Proofs.Ytlmahcmmpfdglaa
