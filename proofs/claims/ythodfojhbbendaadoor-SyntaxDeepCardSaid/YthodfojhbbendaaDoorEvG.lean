/- The operations that yield a value alone: what they say of the model's. -/
import Derived.Test.YthodfojhbbendaaDoorEvF
import Derived.Laws.Tables
set_option linter.all false
namespace Go.Ev
open Go.RowKit (Below)

section
variable {P : Program} {G : Gh} {st : St} {w : World}

theorem info_of_size {t : TypeId} {n : Nat} (h : size? P t = some n) : ∃ i, P.info? t = some i ∧ i.size = n := by
  simp only [size?, Option.bind_eq_some_iff, Option.some.injEq] at h
  exact h
theorem run_size {t : TypeId} {n : Nat} (h : size? P t = some n) (w : World) : (sizeOf t).run P w = .ok n w := by
  obtain ⟨i, h1, h2⟩ := info_of_size h
  simp [sizeOf, typeInfo, h1, h2]
theorem run_agg {t : TypeId} {g : Bool} (h : agg? P t = some g) (w : World) : (isAgg t).run P w = .ok g w := by
  simp only [agg?, Option.bind_eq_some_iff] at h
  obtain ⟨d, h1, h2⟩ := h
  unfold isAgg
  simp only [Sem.run_bind, run_underlying h1, Result.andThen_ok]
  cases d <;> simp_all
theorem run_zero {t : TypeId} {z : AV} (h : zero? P t = some z) (w : World) : ∃ v, (zeroValue t).run P w = .ok v w ∧ Rep G st w z v ∧ ∃ i, P.info? t = some i ∧ i.zero = some v := by
  simp only [zero?, Option.bind_eq_some_iff] at h
  obtain ⟨i, h1, v, h2, h3⟩ := h
  exact ⟨v, by simp [zeroValue, typeInfo, h1, h2], Rep.const h3, i, h1, h2⟩

/-! ### Strings -/
theorem strEq_eq : ∀ x y : List UInt8, strEq x y = (x == y)
  | [], [] => rfl
  | [], _ :: _ => rfl
  | _ :: _, [] => rfl
  | a :: x, b :: y => by
    have : Nat.beq a.toNat b.toNat = (a == b) := by
      rw [Bool.eq_iff_iff, Nat.beq_eq, beq_iff_eq, UInt8.toNat_inj]
    simp only [strEq, strEq_eq x y, this]
    rfl
theorem strLt_eq : ∀ x y : List UInt8, strLt x y = Op.bytesLess x y
  | [], [] => rfl
  | [], _ :: _ => rfl
  | _ :: _, [] => rfl
  | a :: x, b :: y => by
    have h1 : Nat.beq a.toNat b.toNat = (a == b) := by
      rw [Bool.eq_iff_iff, Nat.beq_eq, beq_iff_eq, UInt8.toNat_inj]
    have h2 : Nat.blt a.toNat b.toNat = decide (a < b) := by
      rw [Bool.eq_iff_iff, Nat.blt_eq, decide_eq_true_iff, UInt8.lt_iff_toNat_lt]
    simp only [strLt, strLt_eq x y, h1, h2, Op.bytesLess]
theorem toList_mk (l : List UInt8) : (⟨l.toArray⟩ : ByteArray).toList = l := by
  rw [ByteArray.toList_eq]

theorem run_strOp {op : BinOp} {x y : List UInt8} {v : AV} (h : strOp op x y = some v) : ∃ u, (Op.stringOp op ⟨x.toArray⟩ ⟨y.toArray⟩).run P w = .ok u w ∧ Rep G st w v u := by
  cases op <;> simp only [strOp] at h <;> first | (cases h; done) | skip
  case add =>
    obtain ⟨h1, h2⟩ := cond_some h
    injection h2 with h2
    subst h2
    have h1 := Nat.le_of_ble_eq_true h1
    refine ⟨.string (⟨x.toArray⟩ ++ ⟨y.toArray⟩), ?_, ?_⟩
    · have : ¬ (((⟨x.toArray⟩ : ByteArray).size + (⟨y.toArray⟩ : ByteArray).size : Nat) : Int) > IntKind.i64.max := by
        have : IntKind.i64.max = 9223372036854775807 := by decide
        rw [this]
        simp only [ByteArray.size, List.size_toArray]
        omega
      simp only [Op.stringOp, this, if_false, Sem.run_pure]
    · simp only [Rep]
      congr 1
  all_goals
    injection h with h
    subst h
    simp only [Op.stringOp, toList_mk, Sem.run_pure, strEq_eq, strLt_eq, Rep]
    exact ⟨_, rfl, rfl⟩

/-! ### Numbers -/
theorem run_intOp {op : BinOp} {k k' : IntKind} {a b : Int} {v : AV} {t : TypeId} (h : intOp op k a k' b = some v) : ∃ u, (binOp op t (.int k a) (.int k' b)).run P w = .ok u w ∧ Rep G st w v u := by
  by_cases hk : k = k'
  · subst hk
    cases op <;> simp only [intOp, ne_eq, not_true_eq_false, if_false] at h <;> first | (cases h; done) | skip
    all_goals try (split at h <;> first | (cases h; done) | skip)
    all_goals
      injection h with h
      subst h
      simp only [Rep, exists_eq_right, binOp, Op.intArith, Op.intDiv, Op.intBits, Op.shift, Op.intCmp, ne_eq, not_true_eq_false, if_false, Sem.run_pure, *]
  · cases op <;> simp only [intOp, ne_eq, hk, not_false_eq_true, if_true] at h <;> first | (cases h; done) | skip
    all_goals try (split at h <;> first | (cases h; done) | skip)
    all_goals
      injection h with h
      subst h
      simp only [Rep, exists_eq_right, binOp, Op.shift, if_false, Sem.run_pure, *]

/-! ### Numbers that are told by what they leave -/
theorem wrap_in (k : IntKind) (n : Int) (h : k.min ≤ n ∧ n ≤ k.max) : k.wrap n = n := by
  cases k <;> simp [IntKind.wrap, IntKind.min, IntKind.max, IntKind.signed, IntKind.bits] at h ⊢ <;> (try split) <;> omega
theorem small_in (k : IntKind) (hb : 32 ≤ k.bits) (n : Int) (h : 0 ≤ n ∧ n < 2147483648) : k.wrap n = n := by
  cases k <;> simp [IntKind.wrap, IntKind.signed, IntKind.bits] at hb ⊢ <;> (try split) <;> omega
theorem tmod_left {n : Int} {m : Nat} (hm : 0 < m) : (n.tmod m) % (m : Int) = n % m ∧ 1 - (m : Int) ≤ n.tmod m ∧ n.tmod m ≤ m - 1 := by
  have h0 : (0 : Int) < m := by exact_mod_cast hm
  refine ⟨?_, ?_, ?_⟩
  · have e := Int.mul_tdiv_add_tmod n m
    have : n.tmod m = n - m * n.tdiv m := by omega
    rw [this, Int.sub_mul_emod_self_left]
  · have := Int.lt_tmod_of_pos n h0
    omega
  · have := Int.tmod_lt_of_pos n h0
    omega
theorem and_mask (k : IntKind) (n : Int) (j : Nat) (hj : j < 31) (hb : 32 ≤ k.bits) : k.wrap ((BitVec.ofInt k.bits n &&& BitVec.ofInt k.bits ((2 ^ j : Nat) - 1 : Int)).toNat) = n % ((2 ^ j : Nat) : Int) := by
  have hp : 0 < 2 ^ j := Nat.two_pow_pos j
  have hlt : 2 ^ j < 2 ^ k.bits := Nat.pow_lt_pow_right (by omega) (by omega)
  have h31 : 2 ^ j < 2 ^ 31 := Nat.pow_lt_pow_right (by omega) hj
  have e1 : (BitVec.ofInt k.bits ((2 ^ j : Nat) - 1 : Int)).toNat = 2 ^ j - 1 := by
    have : ((2 ^ j : Nat) - 1 : Int) = ((2 ^ j - 1 : Nat) : Int) := by omega
    rw [this, BitVec.ofInt_natCast, BitVec.toNat_ofNat, Nat.mod_eq_of_lt (by omega)]
  have e2 : (BitVec.ofInt k.bits n).toNat % 2 ^ j = (n % ((2 ^ j : Nat) : Int)).toNat := by
    rw [BitVec.toNat_ofInt]
    have hd : ((2 ^ j : Nat) : Int) ∣ ((2 ^ k.bits : Nat) : Int) := by
      exact_mod_cast Nat.pow_dvd_pow 2 (by omega)
    have hn := Int.emod_emod_of_dvd n hd
    have hnn : 0 ≤ n % ((2 ^ k.bits : Nat) : Int) := Int.emod_nonneg _ (by have := Nat.two_pow_pos k.bits; omega)
    have : (((n % ((2 ^ k.bits : Nat) : Int)).toNat % 2 ^ j : Nat) : Int) = n % ((2 ^ j : Nat) : Int) := by
      rw [Int.natCast_emod, Int.toNat_of_nonneg hnn, hn]
    omega
  rw [BitVec.toNat_and, e1, Nat.and_two_pow_sub_one_eq_mod, e2]
  have h0 : 0 ≤ n % ((2 ^ j : Nat) : Int) := Int.emod_nonneg _ (by omega)
  have h1 : n % ((2 ^ j : Nat) : Int) < ((2 ^ j : Nat) : Int) := Int.emod_lt_of_pos _ (by omega)
  rw [Int.toNat_of_nonneg h0]
  exact small_in k hb _ ⟨h0, by omega⟩
theorem shr_left {n r : Int} {m s : Nat} (hm : 0 < m) (hd : m % 2 ^ s = 0) (h : n % (m : Int) = r) : (n / (2 ^ s : Int)) % ((m / 2 ^ s : Nat) : Int) = r / (2 ^ s : Int) := by
  have hp : (0 : Int) < 2 ^ s := Int.pow_pos (by omega)
  have e : m = 2 ^ s * (m / 2 ^ s) := by
    have := Nat.div_add_mod m (2 ^ s)
    omega
  have e' : (m : Int) = 2 ^ s * ((m / 2 ^ s : Nat) : Int) := by
    have : ((2 ^ s * (m / 2 ^ s) : Nat) : Int) = (2 ^ s : Int) * ((m / 2 ^ s : Nat) : Int) := by simp
    rw [← this, ← e]
  generalize ((m / 2 ^ s : Nat) : Int) = q at e' ⊢
  subst h
  have hm' : (0 : Int) < m := by exact_mod_cast hm
  have hq : 0 < q := by
    rcases Int.lt_or_le 0 q with h | h
    · exact h
    · have := Int.mul_nonpos_of_nonneg_of_nonpos (Int.le_of_lt hp) h
      omega
  have h1 := Int.mul_ediv_add_emod n m
  generalize hr : n % (m : Int) = r at h1 ⊢
  generalize n / (m : Int) = z at h1
  have hr0 : 0 ≤ r := by rw [← hr]; exact Int.emod_nonneg _ (by omega)
  have hr1 : r < m := by rw [← hr]; exact Int.emod_lt_of_pos _ hm'
  have h2 : n = r + 2 ^ s * (q * z) := by rw [← h1, e', Int.mul_assoc]; omega
  rw [h2, Int.add_mul_ediv_left _ _ (by omega), Int.add_mul_emod_self_left]
  exact Int.emod_eq_of_lt (Int.ediv_nonneg hr0 (by omega)) (Int.ediv_lt_of_lt_mul hp (by rw [Int.mul_comm, ← e']; exact hr1))

theorem res_int {op : BinOp} {k k' : IntKind} {m : Nat} {r lo hi c n : Int} {v : AV} (h : resOp op k m r lo hi k' c = some v) (h1 : n % (m : Int) = r) (h2 : lo ≤ n) (h3 : n ≤ hi) :
    ∃ n', intOp op k n k' c = some (.int k n') ∧ Rep G st w v (.int k n') := by
  unfold resOp at h
  split at h
  · split at h
    · rename_i hc
      obtain ⟨rfl, rfl, hm⟩ := hc
      have h0 : (0 : Int) < m := by exact_mod_cast hm
      obtain ⟨t1, t2, t3⟩ := tmod_left (n := n) hm
      refine ⟨n.tmod m, ?_, ?_⟩
      · simp only [intOp, ne_eq, not_true_eq_false, if_false]
        rw [if_neg (by omega)]
      · split at h
        · injection h with h; subst h
          simp only [Rep]
          rw [Int.tmod_eq_emod_of_nonneg (by omega), h1]
        · injection h with h; subst h
          simp only [Rep]
          exact ⟨_, rfl, by rw [t1, h1], t2, t3⟩
    · cases h
  · split at h
    · rename_i hc
      obtain ⟨rfl, c1, c2, hm⟩ := hc
      injection h with h; subst h
      refine ⟨n + c, ?_, ?_⟩
      · simp only [intOp, ne_eq, not_true_eq_false, if_false]
        rw [wrap_in k (n + c) ⟨by omega, by omega⟩]
      · simp only [Rep]
        refine ⟨_, rfl, ?_, by omega, by omega⟩
        rw [← h1, Int.emod_add_emod]
    · cases h
  · split at h
    · rename_i hc
      obtain ⟨rfl, rfl, c1, c2, c3⟩ := hc
      injection h with h; subst h
      refine ⟨r, ?_, by simp only [Rep]⟩
      simp only [intOp, ne_eq, not_true_eq_false, if_false]
      have := and_mask k n m.log2 c2 c3
      rw [← c1, h1] at this
      rw [this]
    · cases h
  · split at h
    · rename_i hc
      obtain ⟨c0, c1, c2, hm⟩ := hc
      injection h with h; subst h
      have hp : (0 : Int) < 2 ^ c.toNat := Int.pow_pos (by omega)
      refine ⟨n.fdiv (2 ^ c.toNat), ?_, ?_⟩
      · simp only [intOp]
        rw [if_neg (by omega), Nat.min_eq_left c1]
      · simp only [Rep]
        refine ⟨_, rfl, ?_, ?_, ?_⟩
        · rw [Int.fdiv_eq_ediv_of_nonneg _ (Int.le_of_lt hp)]
          exact shr_left hm c2 h1
        · rw [Int.fdiv_eq_ediv_of_nonneg _ (Int.le_of_lt hp), Int.fdiv_eq_ediv_of_nonneg _ (Int.le_of_lt hp)]
          exact Int.ediv_le_ediv hp h2
        · rw [Int.fdiv_eq_ediv_of_nonneg _ (Int.le_of_lt hp), Int.fdiv_eq_ediv_of_nonneg _ (Int.le_of_lt hp)]
          exact Int.ediv_le_ediv hp h3
    · cases h
  · cases h

theorem run_unOpV {op : UnOp} {x : AV} {u : Value} {v : AV} (hx : Rep G st w x u) (h : unOpV op x = some v) : ∃ r, (Op.unary op u).run P w = .ok r w ∧ Rep G st w v r := by
  unfold unOpV at h
  split at h
  · injection h with h; subst h; simp only [Rep] at hx; subst hx; exact ⟨_, by simp [Op.unary, Op.intArith] <;> rfl, by simp [Rep]⟩
  · simp only [Rep] at hx; subst hx
    simp only [intOp, ne_eq, not_true_eq_false, if_false] at h
    injection h with h; subst h
    refine ⟨_, by simp only [Op.unary, Op.intBits, Sem.run_pure] <;> rfl, by simp only [Rep]⟩
  · injection h with h; subst h; simp only [Rep] at hx; subst hx; exact ⟨_, by simp [Op.unary] <;> rfl, by simp [Rep]⟩
  · cases h

set_option maxHeartbeats 2000000 in
theorem run_eqOne {d : TypeDesc} {xo yo : Operand} {x y : AV} {t : TypeId} {u v : Value} {b : Bool} (D : Nat) (ht : P.underlying t = some d) (hx : Rep G st w x u) (hy : Rep G st w y v)
    (h : eqOne d xo yo x y = some b) : (Op.equalIn (D + 1) t u v).run P w = .ok b w := by
  unfold eqOne at h
  split at h <;> first | (cases h; done) | skip
  all_goals simp only [Rep] at hx hy
  all_goals first | subst hx | obtain ⟨_, _, rfl⟩ := hx | obtain ⟨_, rfl, _⟩ := hx | obtain ⟨_, _, rfl, _⟩ := hx | obtain ⟨_, _, _, rfl, _⟩ := hx | obtain ⟨_, _, _, _, _, rfl, _⟩ := hx
  all_goals first | subst hy | obtain ⟨_, _, rfl⟩ := hy | obtain ⟨_, rfl, _⟩ := hy | obtain ⟨_, _, rfl, _⟩ := hy | obtain ⟨_, _, _, rfl, _⟩ := hy | obtain ⟨_, _, _, _, _, rfl, _⟩ := hy
  all_goals first
    | (injection h with h; subst h; simp [Op.equalIn, run_underlying ht]; done)
    | (split at h <;> first | (cases h; done) | (injection h with h; subst h; subst_vars; simp [Op.equalIn, run_underlying ht]; done))
end
end Go.Ev
