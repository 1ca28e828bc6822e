import Derived.Test.YtlmahcmmpfdglaaLxE
set_option linter.all false
namespace Go.Proofs.Ytlmahcmmpfdglaa
open Go Go.Ev
noncomputable section

theorem rbytes_loop (R : Nat) (s : List UInt8) (hs : s.length ≤ 1000000) : ∀ (r k : Nat) (st : St) (acc : List UInt8), k ≤ s.length → s.length - k < r → acc.length ≤ k →
    ∃ st', parchmentref11_bytes_l11010 R s r acc (k : Int) st = some (match unhex (s.drop k) with
      | some t => .inr (acc ++ t, st')
      | none => .inl ([], false, st')) := by
  intro r
  induction r with
  | zero => intro k st acc h2 h3; omega
  | succ r ih =>
    intro k st acc hk hr ha
    unfold parchmentref11_bytes_l11010
    by_cases hlt0 : k < s.length
    · rw [if_pos (by omega), w1 (by omega)]
      by_cases hlt : k + 1 < s.length
      · rw [if_neg (by omega), idxS_lt hlt0, Option.bind_some, half_eq, Option.bind_some, drop_two hlt]
        have l1 := hexd_le s[k].toNat
        have l2 := hexd_le s[k + 1].toNat
        by_cases h1 : hexd s[k].toNat > 15
        · rw [if_pos (by omega)]
          refine ⟨st, ?_⟩
          rw [unhex, if_pos (by omega)]
        · rw [if_neg (by omega), idxS_lt hlt, Option.bind_some, half_eq, Option.bind_some]
          by_cases h2 : hexd s[k + 1].toNat > 15
          · rw [if_pos (by omega)]
            refine ⟨st, ?_⟩
            rw [unhex, if_pos (by omega)]
          · rw [if_neg (by omega)]
            have e1 : IntKind.wrap .u8 (IntKind.wrap .i64 ((IntKind.wrap .i64 (((hexd s[k].toNat : Nat) : Int) * 16)) + ((hexd s[k + 1].toNat : Nat) : Int))) = (((UInt8.ofNat (hexd s[k].toNat * 16 + hexd s[k + 1].toNat)).toNat : Nat) : Int) := by
              rw [wrap64 (n := ((hexd s[k].toNat : Nat) : Int) * 16) (by omega) (by omega), wrap64 (by omega) (by omega), wrapU8 (by omega) (by omega)]
              simp only [UInt8.toNat_ofNat']
              rw [Nat.mod_eq_of_lt (by omega)]
              omega
            rw [e1]
            have hu : unhex (s[k] :: s[k + 1] :: s.drop (k + 2)) = (unhex (s.drop (k + 2))).map fun l => UInt8.ofNat (hexd s[k].toNat * 16 + hexd s[k + 1].toNat) :: l := by
              rw [unhex, if_neg (by omega)]
            rw [hu]
            generalize UInt8.ofNat (hexd s[k].toNat * 16 + hexd s[k + 1].toNat) = v
            rw [show mkNew (buildSliceOp C0.P (C0.byref 27) 37 1 [(0, (.int .u8 (v.toNat : Int)))]) st = _ from build1 (P := C0.P) (t := 37) (v := .int .u8 (v.toNat : Int)) st rfl rfl (by omega), Option.bind_some]
            simp only
            have hstr : strOf (st.push (.tip 1)) (.sl st.next 1 1 1 (some 1) (AV.int .u8 (v.toNat : Int)).cells) = some [v] := strOf_sl (l := [v]) (.inr ⟨st.next, 1, 1, some 1, rfl, rfl, Nat.lt_succ_self st.next, .inl rfl⟩)
            rw [hstr, Option.bind_some, catS_le (by simp; omega), Option.bind_some, show ((k : Int) + 2) = (k : Int) + ((2 : Nat) : Int) from rfl, wN (by omega)]
            obtain ⟨st2, h3⟩ := ih (k + 2) (st.push (.tip 1)) (acc ++ [v]) (by omega) (by omega) (by simp; omega)
            refine ⟨st2, h3.trans ?_⟩
            cases unhex (s.drop (k + 2)) with
            | none => rfl
            | some t => simp
      · rw [if_pos (by omega)]
        refine ⟨st, ?_⟩
        rw [drop_cons hlt0, List.drop_eq_nil_of_le (by omega)]
        rfl
    · rw [if_neg (by omega), List.drop_eq_nil_of_le (by omega)]
      exact ⟨st, by simp [unhex]⟩
theorem rbytes_eq (R : Nat) (s : List UInt8) (st : St) (hs : s.length ≤ 1000000) (hR : s.length < R) : ∃ st', parchmentref11_bytes R s st = some (match unhex s with
    | some t => (t, true, st')
    | none => ([], false, st')) := by
  obtain ⟨st', h⟩ := rbytes_loop R s hs R 0 st [] (by omega) (by omega) (by simp)
  refine ⟨st', ?_⟩
  unfold parchmentref11_bytes
  rw [show (0 : Int) = ((0 : Nat) : Int) from rfl, h, Option.bind_some, List.drop_zero]
  cases unhex s <;> rfl

theorem rkey_loop (R : Nat) (s : List UInt8) (ks : List (List UInt8)) (x : AV) (st : St) (hx : Sl st 1 x (ks.map AV.str)) (hl : ks.length ≤ 1000000) : ∀ (r k : Nat), k ≤ ks.length → ks.length - k < r →
    parchmentref11_Key_l11010 R s x r (k : Int) st = some (if s ∈ ks.drop k then .inl (true, st) else .inr st) := by
  intro r
  induction r with
  | zero => intro k h1 h2; omega
  | succ r ih =>
    intro k h1 h2
    unfold parchmentref11_Key_l11010
    have hlen := lenOf_sl hx (by omega)
    rw [List.length_map, Nat.div_one] at hlen
    rw [hlen, Option.bind_some]
    by_cases hlt : k < ks.length
    · rw [if_pos (by omega)]
      rw [show (Option.bind (indexAddrOp C0.P 47 x (.int .i64 (k : Int))) _ : Option ((Bool × St) ⊕ St)) = _ from elem_str (P := C0.P) (t := 47) (t' := 9) (kd := .i64) (fun w => if w = s then some (.inl (true, st)) else parchmentref11_Key_l11010 R s x r (IntKind.wrap .i64 ((k : Int) + 1)) st) hx hlt]
      rw [List.drop_eq_getElem_cons hlt]
      by_cases e : ks[k] = s
      · rw [if_pos e, if_pos (by rw [← e]; exact List.mem_cons_self)]
      · rw [if_neg e, w1 (by omega), ih (k + 1) hlt (by omega)]
        by_cases h3 : s ∈ ks.drop (k + 1)
        · rw [if_pos h3, if_pos (List.mem_cons_of_mem _ h3)]
        · rw [if_neg h3, if_neg (fun h => (List.mem_cons.1 h).elim (fun h => e h.symm) h3)]
    · rw [if_neg (by omega), List.drop_eq_nil_of_le (by omega), if_neg (by simp)]
theorem rkey_eq (R : Nat) (s : List UInt8) (st : St) (hR : 26 < R) : ∃ st', parchmentref11_Key R s st = some (isKey s, st') := by
  have e : ∀ st, mkNew (buildSliceOp C0.P (C0.byref 13) 47 26 ([(0, (.str [65, 78, 68])), (1, (.str [66, 89])), (2, (.str [67, 79, 85, 78, 84])), (3, (.str [67, 82, 69, 65, 84, 69])), (4, (.str [68, 69, 76, 69, 84, 69])), (5, (.str [68, 69, 83, 67])), (6, (.str [70, 65, 76, 83, 69])), (7, (.str [70, 82, 79, 77])), (8, (.str [72, 73, 83, 84, 79, 82, 89])), (9, (.str [73, 78, 68, 69, 88])), (10, (.str [73, 78, 83, 69, 82, 84])), (11, (.str [73, 78, 84, 79])), (12, (.str [73, 83])), (13, (.str [76, 73, 77, 73, 84])), (14, (.str [78, 79, 84])), (15, (.str [78, 85, 76, 76])), (16, (.str [79, 78])), (17, (.str [79, 82])), (18, (.str [79, 82, 68, 69, 82])), (19, (.str [83, 69, 76, 69, 67, 84])), (20, (.str [83, 69, 84])), (21, (.str [84, 65, 66, 76, 69])), (22, (.str [84, 82, 85, 69])), (23, (.str [85, 80, 68, 65, 84, 69])), (24, (.str [86, 65, 76, 85, 69])), (25, (.str [87, 72, 69, 82, 69]))])) st = some (.sl st.next 26 26 1 (some 26) (keys.map AV.str), st.push (.tip 26)) := fun st => by kernel_rfl
  refine ⟨st.push (.tip 26), ?_⟩
  unfold parchmentref11_Key
  rw [e, Option.bind_some]
  simp only
  rw [show (0 : Int) = ((0 : Nat) : Int) from rfl, rkey_loop R s keys _ _ (keys_new st) (by decide) R 0 (by omega) (by simpa [keys] using hR), List.drop_zero, Option.bind_some]
  by_cases h : s ∈ keys
  · rw [if_pos h, isKey_iff.2 h]
  · rw [if_neg h]
    have : isKey s = false := by
      cases h' : isKey s with
      | false => rfl
      | true => exact absurd (isKey_iff.1 h') h
    rw [this]
end
end Go.Proofs.Ytlmahcmmpfdglaa
