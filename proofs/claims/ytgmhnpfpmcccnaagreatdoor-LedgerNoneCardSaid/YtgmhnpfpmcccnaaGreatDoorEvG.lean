/- The operations that yield a value alone: what they say of the model's. -/
import Derived.Test.YtgmhnpfpmcccnaaGreatDoorEvF
import Derived.Laws.Tables
import Derived.Laws.StructEq
set_option linter.all false
namespace Go.Ev
open Go.RowKit (Below)

section
variable {P : Program} {G : Gh} {st : St} {w : World}

theorem info_of_size {t : TypeId} {n : Nat} (h : size? P t = some n) : ∃ i, P.info? t = some i ∧ i.size = n := by
  simp only [size?, Option.bind_eq_some_iff, Option.some.injEq] at h
  exact h
theorem run_size {t : TypeId} {n : Nat} (h : size? P t = some n) (w : World) : (sizeOf t).run P w = .ok n w := by
  obtain ⟨i, h1, h2⟩ := info_of_size h
  simp [sizeOf, typeInfo, h1, h2]
theorem run_agg {t : TypeId} {g : Bool} (h : agg? P t = some g) (w : World) : (isAgg t).run P w = .ok g w := by
  simp only [agg?, Option.bind_eq_some_iff] at h
  obtain ⟨d, h1, h2⟩ := h
  unfold isAgg
  simp only [Sem.run_bind, run_underlying h1, Result.andThen_ok]
  cases d <;> simp_all
theorem run_zero {t : TypeId} {z : AV} (h : zero? P t = some z) (w : World) : ∃ v, (zeroValue t).run P w = .ok v w ∧ Rep G st w z v ∧ ∃ i, P.info? t = some i ∧ i.zero = some v := by
  simp only [zero?, Option.bind_eq_some_iff] at h
  obtain ⟨i, h1, v, h2, h3⟩ := h
  exact ⟨v, by simp [zeroValue, typeInfo, h1, h2], Rep.const h3, i, h1, h2⟩

/-! ### Strings -/
theorem strEq_eq : ∀ x y : List UInt8, strEq x y = (x == y)
  | [], [] => rfl
  | [], _ :: _ => rfl
  | _ :: _, [] => rfl
  | a :: x, b :: y => by
    have : Nat.beq a.toNat b.toNat = (a == b) := by
      rw [Bool.eq_iff_iff, Nat.beq_eq, beq_iff_eq, UInt8.toNat_inj]
    simp only [strEq, strEq_eq x y, this]
    rfl
theorem strLt_eq : ∀ x y : List UInt8, strLt x y = Op.bytesLess x y
  | [], [] => rfl
  | [], _ :: _ => rfl
  | _ :: _, [] => rfl
  | a :: x, b :: y => by
    have h1 : Nat.beq a.toNat b.toNat = (a == b) := by
      rw [Bool.eq_iff_iff, Nat.beq_eq, beq_iff_eq, UInt8.toNat_inj]
    have h2 : Nat.blt a.toNat b.toNat = decide (a < b) := by
      rw [Bool.eq_iff_iff, Nat.blt_eq, decide_eq_true_iff, UInt8.lt_iff_toNat_lt]
    simp only [strLt, strLt_eq x y, h1, h2, Op.bytesLess]
theorem toList_mk (l : List UInt8) : (⟨l.toArray⟩ : ByteArray).toList = l := by
  rw [ByteArray.toList_eq]

theorem run_strOp {op : BinOp} {x y : List UInt8} {v : AV} (h : strOp op x y = some v) : ∃ u, (Op.stringOp op ⟨x.toArray⟩ ⟨y.toArray⟩).run P w = .ok u w ∧ Rep G st w v u := by
  cases op <;> simp only [strOp] at h <;> first | (cases h; done) | skip
  case add =>
    obtain ⟨h1, h2⟩ := cond_some h
    injection h2 with h2
    subst h2
    have h1 := Nat.le_of_ble_eq_true h1
    refine ⟨.string (⟨x.toArray⟩ ++ ⟨y.toArray⟩), ?_, ?_⟩
    · have : ¬ (((⟨x.toArray⟩ : ByteArray).size + (⟨y.toArray⟩ : ByteArray).size : Nat) : Int) > IntKind.i64.max := by
        have : IntKind.i64.max = 9223372036854775807 := by decide
        rw [this]
        simp only [ByteArray.size, List.size_toArray]
        omega
      simp only [Op.stringOp, this, if_false, Sem.run_pure]
    · simp only [Rep]
      congr 1
  all_goals
    injection h with h
    subst h
    simp only [Op.stringOp, toList_mk, Sem.run_pure, strEq_eq, strLt_eq, Rep]
    exact ⟨_, rfl, rfl⟩

/-! ### Numbers -/
theorem run_intOp {op : BinOp} {k k' : IntKind} {a b : Int} {v : AV} {t : TypeId} (h : intOp op k a k' b = some v) : ∃ u, (binOp op t (.int k a) (.int k' b)).run P w = .ok u w ∧ Rep G st w v u := by
  by_cases hk : k = k'
  · subst hk
    cases op <;> simp only [intOp, ne_eq, not_true_eq_false, if_false] at h <;> first | (cases h; done) | skip
    all_goals try (split at h <;> first | (cases h; done) | skip)
    all_goals
      injection h with h
      subst h
      simp only [Rep, exists_eq_right, binOp, Op.intArith, Op.intDiv, Op.intBits, Op.shift, Op.intCmp, ne_eq, not_true_eq_false, if_false, Sem.run_pure, *]
  · cases op <;> simp only [intOp, ne_eq, hk, not_false_eq_true, if_true] at h <;> first | (cases h; done) | skip
    all_goals try (split at h <;> first | (cases h; done) | skip)
    all_goals
      injection h with h
      subst h
      simp only [Rep, exists_eq_right, binOp, Op.shift, if_false, Sem.run_pure, *]

/-! ### Numbers that are told by what they leave -/
theorem wrap_in (k : IntKind) (n : Int) (h : k.min ≤ n ∧ n ≤ k.max) : k.wrap n = n := by
  cases k <;> simp [IntKind.wrap, IntKind.min, IntKind.max, IntKind.signed, IntKind.bits] at h ⊢ <;> (try split) <;> omega
theorem small_in (k : IntKind) (hb : 32 ≤ k.bits) (n : Int) (h : 0 ≤ n ∧ n < 2147483648) : k.wrap n = n := by
  cases k <;> simp [IntKind.wrap, IntKind.signed, IntKind.bits] at hb ⊢ <;> (try split) <;> omega
theorem tmod_left {n : Int} {m : Nat} (hm : 0 < m) : (n.tmod m) % (m : Int) = n % m ∧ 1 - (m : Int) ≤ n.tmod m ∧ n.tmod m ≤ m - 1 := by
  have h0 : (0 : Int) < m := by exact_mod_cast hm
  refine ⟨?_, ?_, ?_⟩
  · have e := Int.mul_tdiv_add_tmod n m
    have : n.tmod m = n - m * n.tdiv m := by omega
    rw [this, Int.sub_mul_emod_self_left]
  · have := Int.lt_tmod_of_pos n h0
    omega
  · have := Int.tmod_lt_of_pos n h0
    omega
theorem and_mask (k : IntKind) (n : Int) (j : Nat) (hj : j < 31) (hb : 32 ≤ k.bits) : k.wrap ((BitVec.ofInt k.bits n &&& BitVec.ofInt k.bits ((2 ^ j : Nat) - 1 : Int)).toNat) = n % ((2 ^ j : Nat) : Int) := by
  have hp : 0 < 2 ^ j := Nat.two_pow_pos j
  have hlt : 2 ^ j < 2 ^ k.bits := Nat.pow_lt_pow_right (by omega) (by omega)
  have h31 : 2 ^ j < 2 ^ 31 := Nat.pow_lt_pow_right (by omega) hj
  have e1 : (BitVec.ofInt k.bits ((2 ^ j : Nat) - 1 : Int)).toNat = 2 ^ j - 1 := by
    have : ((2 ^ j : Nat) - 1 : Int) = ((2 ^ j - 1 : Nat) : Int) := by omega
    rw [this, BitVec.ofInt_natCast, BitVec.toNat_ofNat, Nat.mod_eq_of_lt (by omega)]
  have e2 : (BitVec.ofInt k.bits n).toNat % 2 ^ j = (n % ((2 ^ j : Nat) : Int)).toNat := by
    rw [BitVec.toNat_ofInt]
    have hd : ((2 ^ j : Nat) : Int) ∣ ((2 ^ k.bits : Nat) : Int) := by
      exact_mod_cast Nat.pow_dvd_pow 2 (by omega)
    have hn := Int.emod_emod_of_dvd n hd
    have hnn : 0 ≤ n % ((2 ^ k.bits : Nat) : Int) := Int.emod_nonneg _ (by have := Nat.two_pow_pos k.bits; omega)
    have : (((n % ((2 ^ k.bits : Nat) : Int)).toNat % 2 ^ j : Nat) : Int) = n % ((2 ^ j : Nat) : Int) := by
      rw [Int.natCast_emod, Int.toNat_of_nonneg hnn, hn]
    omega
  rw [BitVec.toNat_and, e1, Nat.and_two_pow_sub_one_eq_mod, e2]
  have h0 : 0 ≤ n % ((2 ^ j : Nat) : Int) := Int.emod_nonneg _ (by omega)
  have h1 : n % ((2 ^ j : Nat) : Int) < ((2 ^ j : Nat) : Int) := Int.emod_lt_of_pos _ (by omega)
  rw [Int.toNat_of_nonneg h0]
  exact small_in k hb _ ⟨h0, by omega⟩
theorem shr_left {n r : Int} {m s : Nat} (hm : 0 < m) (hd : m % 2 ^ s = 0) (h : n % (m : Int) = r) : (n / (2 ^ s : Int)) % ((m / 2 ^ s : Nat) : Int) = r / (2 ^ s : Int) := by
  have hp : (0 : Int) < 2 ^ s := Int.pow_pos (by omega)
  have e : m = 2 ^ s * (m / 2 ^ s) := by
    have := Nat.div_add_mod m (2 ^ s)
    omega
  have e' : (m : Int) = 2 ^ s * ((m / 2 ^ s : Nat) : Int) := by
    have : ((2 ^ s * (m / 2 ^ s) : Nat) : Int) = (2 ^ s : Int) * ((m / 2 ^ s : Nat) : Int) := by simp
    rw [← this, ← e]
  generalize ((m / 2 ^ s : Nat) : Int) = q at e' ⊢
  subst h
  have hm' : (0 : Int) < m := by exact_mod_cast hm
  have hq : 0 < q := by
    rcases Int.lt_or_le 0 q with h | h
    · exact h
    · have := Int.mul_nonpos_of_nonneg_of_nonpos (Int.le_of_lt hp) h
      omega
  have h1 := Int.mul_ediv_add_emod n m
  generalize hr : n % (m : Int) = r at h1 ⊢
  generalize n / (m : Int) = z at h1
  have hr0 : 0 ≤ r := by rw [← hr]; exact Int.emod_nonneg _ (by omega)
  have hr1 : r < m := by rw [← hr]; exact Int.emod_lt_of_pos _ hm'
  have h2 : n = r + 2 ^ s * (q * z) := by rw [← h1, e', Int.mul_assoc]; omega
  rw [h2, Int.add_mul_ediv_left _ _ (by omega), Int.add_mul_emod_self_left]
  exact Int.emod_eq_of_lt (Int.ediv_nonneg hr0 (by omega)) (Int.ediv_lt_of_lt_mul hp (by rw [Int.mul_comm, ← e']; exact hr1))

theorem or_least (k : IntKind) (n c : Int) (hk : k.signed = false) (h0 : 0 ≤ c) (h1 : c ≤ k.max) :
    c ≤ k.wrap ((BitVec.ofInt k.bits n ||| BitVec.ofInt k.bits c).toNat) ∧ k.wrap ((BitVec.ofInt k.bits n ||| BitVec.ofInt k.bits c).toNat) ≤ k.max := by
  have hlt := (BitVec.ofInt k.bits n ||| BitVec.ofInt k.bits c).isLt
  have hmax : k.max = ((2 ^ k.bits : Nat) : Int) - 1 := by
    unfold IntKind.max
    rw [hk]
    simp
  have hmin : k.min = 0 := by
    unfold IntKind.min
    rw [hk]
    rfl
  have hle : (BitVec.ofInt k.bits c).toNat ≤ (BitVec.ofInt k.bits n ||| BitVec.ofInt k.bits c).toNat := by
    rw [BitVec.toNat_or]
    exact Nat.right_le_or
  have hc : ((BitVec.ofInt k.bits c).toNat : Int) = c := by
    rw [BitVec.toNat_ofInt]
    have : c % ((2 ^ k.bits : Nat) : Int) = c := Int.emod_eq_of_lt h0 (by omega)
    rw [this]
    exact Int.toNat_of_nonneg h0
  rw [wrap_in k _ ⟨by rw [hmin]; omega, by rw [hmax]; omega⟩, hmax]
  omega
theorem res_int {op : BinOp} {k k' : IntKind} {m : Nat} {r lo hi c n : Int} {v : AV} (h : resOp op k m r lo hi k' c = some v) (h1 : n % (m : Int) = r) (h2 : lo ≤ n) (h3 : n ≤ hi) :
    ∃ v', intOp op k n k' c = some v' ∧ ∀ u, Rep G st w v' u → Rep G st w v u := by
  unfold resOp at h
  split at h
  · split at h
    · rename_i hc
      obtain ⟨rfl, h0⟩ := hc
      obtain ⟨d, rfl⟩ := Int.eq_ofNat_of_zero_le (Int.le_of_lt h0)
      have hd : 0 < d := by exact_mod_cast h0
      simp only [Int.toNat_natCast] at h
      obtain ⟨t1, t2, t3⟩ := tmod_left (n := n) hd
      refine ⟨.int k (n.tmod d), ?_, fun u hu => ?_⟩
      · simp only [intOp, ne_eq, not_true_eq_false, if_false]
        rw [if_neg (by omega)]
      · split at h
        · rename_i hm
          have hr : n % (d : Int) = r % (d : Int) := by
            rw [← h1]
            exact (Int.emod_emod_of_dvd n (by exact_mod_cast Nat.dvd_of_mod_eq_zero hm)).symm
          split at h
          · injection h with h; subst h
            simp only [Rep] at hu ⊢
            rw [hu, Int.tmod_eq_emod_of_nonneg (by omega), hr]
          · injection h with h; subst h
            simp only [Rep] at hu ⊢
            exact ⟨_, hu, by rw [t1, hr], t2, t3⟩
        · split at h
          · injection h with h; subst h
            simp only [Rep] at hu ⊢
            exact ⟨_, hu, by omega, by rw [Int.tmod_eq_emod_of_nonneg (by omega)]; exact Int.emod_nonneg _ (by omega), t3⟩
          · injection h with h; subst h
            simp only [Rep] at hu ⊢
            exact ⟨_, hu, by omega, t2, t3⟩
    · cases h
  · split at h
    · rename_i hc
      obtain ⟨rfl, c1, c2, hm⟩ := hc
      injection h with h; subst h
      refine ⟨.int k (n + c), ?_, fun u hu => ?_⟩
      · simp only [intOp, ne_eq, not_true_eq_false, if_false]
        rw [wrap_in k (n + c) ⟨by omega, by omega⟩]
      · simp only [Rep] at hu ⊢
        refine ⟨_, hu, ?_, by omega, by omega⟩
        rw [← h1, Int.emod_add_emod]
    · cases h
  · split at h
    · rename_i hc
      obtain ⟨rfl, h0, c1, c2, c3⟩ := hc
      obtain ⟨d, rfl⟩ := Int.eq_ofNat_of_zero_le h0
      simp only [Int.toNat_natCast] at c1 c2 h
      have := and_mask k n (d + 1).log2 c2 c3
      rw [← c1] at this
      have e1 : (((d + 1 : Nat) : Int) - 1) = d := by omega
      rw [e1] at this
      refine ⟨.int k (n % ((d + 1 : Nat) : Int)), ?_, fun u hu => ?_⟩
      · simp only [intOp, ne_eq, not_true_eq_false, if_false]
        rw [this]
      · split at h
        · rename_i hm
          injection h with h; subst h
          have hr : n % ((d + 1 : Nat) : Int) = r % ((d + 1 : Nat) : Int) := by
            rw [← h1]
            exact (Int.emod_emod_of_dvd n (by exact_mod_cast Nat.dvd_of_mod_eq_zero hm)).symm
          rw [hr] at hu
          exact hu
        · injection h with h; subst h
          simp only [Rep] at hu ⊢
          have h5 : 0 ≤ n % ((d + 1 : Nat) : Int) := Int.emod_nonneg _ (by omega)
          have h6 : n % ((d + 1 : Nat) : Int) < ((d + 1 : Nat) : Int) := Int.emod_lt_of_pos _ (by omega)
          exact ⟨_, hu, by omega, h5, by omega⟩
    · cases h
  · split at h
    · rename_i hc
      obtain ⟨c0, c1, c2, hm⟩ := hc
      injection h with h; subst h
      have hp : (0 : Int) < 2 ^ c.toNat := Int.pow_pos (by omega)
      refine ⟨.int k (n.fdiv (2 ^ c.toNat)), ?_, fun u hu => ?_⟩
      · simp only [intOp]
        rw [if_neg (by omega), Nat.min_eq_left c1]
      · simp only [Rep] at hu ⊢
        refine ⟨_, hu, ?_, ?_, ?_⟩
        · rw [Int.fdiv_eq_ediv_of_nonneg _ (Int.le_of_lt hp)]
          exact shr_left hm c2 h1
        · rw [Int.fdiv_eq_ediv_of_nonneg _ (Int.le_of_lt hp), Int.fdiv_eq_ediv_of_nonneg _ (Int.le_of_lt hp)]
          exact Int.ediv_le_ediv hp h2
        · rw [Int.fdiv_eq_ediv_of_nonneg _ (Int.le_of_lt hp), Int.fdiv_eq_ediv_of_nonneg _ (Int.le_of_lt hp)]
          exact Int.ediv_le_ediv hp h3
    · cases h
  · split at h
    · rename_i hc
      obtain ⟨rfl, hk, c0, c1⟩ := hc
      injection h with h; subst h
      have ho := or_least k n c hk c0 c1
      refine ⟨.int k (k.wrap ((BitVec.ofInt k.bits n ||| BitVec.ofInt k.bits c).toNat)), by simp only [intOp, ne_eq, not_true_eq_false, if_false], fun u hu => ?_⟩
      simp only [Rep] at hu ⊢
      exact ⟨_, hu, by omega, ho.1, ho.2⟩
    · cases h
  · split at h
    · rename_i hc
      obtain ⟨rfl, c1, c2, hm⟩ := hc
      injection h with h; subst h
      refine ⟨.int k (n - c), ?_, fun u hu => ?_⟩
      · simp only [intOp, ne_eq, not_true_eq_false, if_false]
        rw [wrap_in k (n - c) ⟨by omega, by omega⟩]
      · simp only [Rep] at hu ⊢
        refine ⟨_, hu, ?_, by omega, by omega⟩
        rw [← h1, Int.emod_sub_emod]
    · cases h
  all_goals first | (cases h; done) | skip
  all_goals
    split at h
    · rename_i hk
      subst hk
      repeat' split at h
      all_goals first | (cases h; done) | skip
      all_goals
        injection h with h
        subst h
        refine ⟨_, by simp only [intOp, ne_eq, not_true_eq_false, if_false] <;> rfl, fun u hu => ?_⟩
        simp only [Rep] at hu ⊢
        rw [hu]
        congr 1
        first
          | (rw [decide_eq_true_eq]; omega)
          | (rw [decide_eq_false_iff_not]; omega)
          | (rw [beq_eq_false_iff_ne]; omega)
          | (rw [bne_iff_ne]; omega)
    · cases h

theorem run_unOpV {op : UnOp} {x : AV} {u : Value} {v : AV} (hx : Rep G st w x u) (h : unOpV op x = some v) : ∃ r, (Op.unary op u).run P w = .ok r w ∧ Rep G st w v r := by
  unfold unOpV at h
  split at h
  · injection h with h; subst h; simp only [Rep] at hx; subst hx; exact ⟨_, by simp [Op.unary, Op.intArith] <;> rfl, by simp [Rep]⟩
  · simp only [Rep] at hx; subst hx
    simp only [intOp, ne_eq, not_true_eq_false, if_false] at h
    injection h with h; subst h
    refine ⟨_, by simp only [Op.unary, Op.intBits, Sem.run_pure] <;> rfl, by simp only [Rep]⟩
  · injection h with h; subst h; simp only [Rep] at hx; subst hx; exact ⟨_, by simp [Op.unary] <;> rfl, by simp [Rep]⟩
  · cases h

set_option maxHeartbeats 2000000 in
theorem run_eqOne {d : TypeDesc} {xo yo : Operand} {x y : AV} {t : TypeId} {u v : Value} {b : Bool} (D : Nat) (ht : P.underlying t = some d) (hx : Rep G st w x u) (hy : Rep G st w y v)
    (h : eqOne d xo yo x y = some b) : (Op.equalIn (D + 1) t u v).run P w = .ok b w := by
  unfold eqOne at h
  split at h <;> first | (cases h; done) | skip
  all_goals simp only [Rep] at hx hy
  all_goals first | subst hx | obtain ⟨_, _, rfl⟩ := hx | obtain ⟨_, rfl, _⟩ := hx | obtain ⟨_, _, rfl, _⟩ := hx | obtain ⟨_, _, _, rfl, _⟩ := hx | obtain ⟨_, _, _, _, _, rfl, _⟩ := hx
  all_goals first | subst hy | obtain ⟨_, _, rfl⟩ := hy | obtain ⟨_, rfl, _⟩ := hy | obtain ⟨_, _, rfl, _⟩ := hy | obtain ⟨_, _, _, rfl, _⟩ := hy | obtain ⟨_, _, _, _, _, rfl, _⟩ := hy
  all_goals first
    | (injection h with h; subst h; simp [Op.equalIn, run_underlying ht]; done)
    | (split at h <;> first | (cases h; done) | (injection h with h; subst h; subst_vars; simp [Op.equalIn, run_underlying ht]; done))

theorem strx_str {op : BinOp} {ws : List (List UInt8)} {lo hi : Nat} {x s : List UInt8} {v : AV} (h : strxOp op ws lo hi x = some v) (s1 : ∀ y ∈ ws, s ≠ y) (s2 : lo ≤ s.length) (s3 : s.length ≤ hi) :
    strOp op s x = some v ∧ strOp op x s = some v := by
  unfold strxOp at h
  obtain ⟨hc, h⟩ := cond_some h
  have hne : s ≠ x := by
    simp only [Bool.or_eq_true, List.any_eq_true, Nat.blt_eq] at hc
    rintro rfl
    rcases hc with (⟨y, h1, h2⟩ | h1) | h1
    · rw [strEq_eq, beq_iff_eq] at h2
      exact s1 y h1 h2.symm
    · omega
    · omega
  have e1 : strEq s x = false := by rw [strEq_eq]; simpa using hne
  have e2 : strEq x s = false := by rw [strEq_eq]; simpa using fun e => hne e.symm
  split at h
  · injection h with h; subst h
    simp only [strOp, e1, e2, and_self]
  · injection h with h; subst h
    simp only [strOp, e1, e2, Bool.not_false, and_self]
  · cases h

theorem run_eqLeaf {d : TypeDesc} {x y : AV} {t : TypeId} {u v : Value} {b : Bool} (D : Nat) (ht : P.underlying t = some d) (hx : Rep G st w x u) (hy : Rep G st w y v)
    (h : eqLeaf d x y = some b) : (Op.equalIn (D + 1) t u v).run P w = .ok b w := by
  unfold eqLeaf at h
  split at h
  · rename_i k0 k a k' c
    obtain ⟨hk, h⟩ := cond_some h
    injection h with h
    simp only [Rep] at hx hy
    subst hx; subst hy; subst h
    have : k = k' := by simpa using hk
    subst this
    exact run_equalIn_int w D t k k0 a c ht
  · rename_i k0 k m r lo hi k' c
    split at h
    · rename_i b' hr
      injection h with h; subst h
      simp only [Rep] at hx hy
      obtain ⟨n, rfl, n1, n2, n3⟩ := hx
      subst hy
      obtain ⟨v', i1, i2⟩ := res_int (G := G) (st := st) (w := w) hr n1 n2 n3
      by_cases hk : k = k'
      · subst hk
        simp only [intOp, ne_eq, not_true_eq_false, if_false] at i1
        injection i1 with i1
        have := i2 (.bool (n == c)) (by subst i1; simp only [Rep])
        simp only [Rep] at this
        injection this with this
        rw [← this]
        exact run_equalIn_int w D t k k0 n c ht
      · simp [intOp, hk] at i1
    · cases h
  · rename_i k0 k' c k m r lo hi
    split at h
    · rename_i b' hr
      injection h with h; subst h
      simp only [Rep] at hx hy
      obtain ⟨n, rfl, n1, n2, n3⟩ := hy
      subst hx
      obtain ⟨v', i1, i2⟩ := res_int (G := G) (st := st) (w := w) hr n1 n2 n3
      by_cases hk : k = k'
      · subst hk
        simp only [intOp, ne_eq, not_true_eq_false, if_false] at i1
        injection i1 with i1
        have := i2 (.bool (n == c)) (by subst i1; simp only [Rep])
        simp only [Rep] at this
        injection this with this
        rw [← this, run_equalIn_int w D t k k0 c n ht]
        congr 1
        rw [Bool.eq_iff_iff, beq_iff_eq, beq_iff_eq]
        exact eq_comm
      · simp [intOp, hk] at i1
    · cases h
  · rename_i a c
    injection h with h; subst h
    simp only [Rep] at hx hy
    subst hx; subst hy
    rw [run_equalIn_string w D t _ _ ht, toList_mk, toList_mk, strEq_eq]
  · rename_i ws lo hi s
    split at h
    · rename_i b' hr
      injection h with h; subst h
      simp only [Rep] at hx hy
      obtain ⟨x, rfl, s1, s2, s3⟩ := hx
      subst hy
      rw [run_equalIn_string w D t _ _ ht, toList_mk, toList_mk, ← strEq_eq]
      have := (strx_str hr s1 s2 s3).1
      simp only [strOp, Option.some.injEq, AV.bool.injEq] at this
      rw [this]
    · cases h
  · rename_i s ws lo hi
    split at h
    · rename_i b' hr
      injection h with h; subst h
      simp only [Rep] at hx hy
      obtain ⟨x, rfl, s1, s2, s3⟩ := hy
      subst hx
      rw [run_equalIn_string w D t _ _ ht, toList_mk, toList_mk, ← strEq_eq]
      have := (strx_str hr s1 s2 s3).2
      simp only [strOp, Option.some.injEq, AV.bool.injEq] at this
      rw [this]
    · cases h
  · rename_i a c
    injection h with h; subst h
    simp only [Rep] at hx hy
    subst hx; subst hy
    exact run_equalIn_bool w D t a c ht
  · exact run_eqOne D ht hx hy h
theorem run_partOf {t : TypeId} {cs : List AV} {off : Nat} {v : AV} {c : Array Value} (hc : RepL G st w cs c.toList) (h : partOf P t cs off = some v) : ∃ r, (part t c off).run P w = .ok r w ∧ Rep G st w v r := by
  simp only [partOf, Option.bind_eq_some_iff] at h
  obtain ⟨g, hg, h⟩ := h
  split at h
  · simp only [Option.bind_eq_some_iff] at h
    obtain ⟨n, hn, l, hl, h⟩ := h
    injection h with h
    subst h
    obtain ⟨h1, rfl⟩ := range_some hl
    refine ⟨_, by simp [part, run_agg hg, run_size hn] <;> rfl, ?_⟩
    simp only [Rep]
    refine ⟨_, rfl, ?_⟩
    rw [Array.toList_extract]
    have := (hc.drop off).take n
    simpa [List.take_drop, Nat.add_comm] using this
  · obtain ⟨u, h1, h2⟩ := hc.get h
    refine ⟨u, ?_, h2⟩
    rw [Array.getElem?_toList] at h1
    simp [part, run_agg hg, h1]


theorem run_eqFieldsV {E : TypeId → AV → AV → Option Bool} {D : Nat} (hE : ∀ t x y b (u v : Value), Rep G st w x u → Rep G st w y v → E t x y = some b → (Op.equalIn D t u v).run P w = .ok b w)
    {xs ys : List AV} {us vs : Array Value} (hx : RepL G st w xs us.toList) (hy : RepL G st w ys vs.toList) : ∀ {fs : List Field} {b : Bool}, eqFieldsV P E xs ys fs = some b → (Op.eqFields D us vs fs).run P w = .ok b w
  | [], b, h => by
    simp only [eqFieldsV] at h
    injection h with h; subst h
    rfl
  | f :: fs, b, h => by
    simp only [eqFieldsV] at h
    unfold Op.eqFields
    cases hn : f.name == "_" with
    | true =>
      rw [hn] at h
      have hn' : ¬ f.name ≠ "_" := by simpa using hn
      rw [if_neg hn']
      exact run_eqFieldsV hE hx hy h
    | false =>
      rw [hn] at h
      have hn' : f.name ≠ "_" := by simpa using hn
      rw [if_pos hn']
      simp only [cond_false, Option.bind_eq_some_iff] at h
      obtain ⟨a, ha, c, hc, r, hr, h⟩ := h
      obtain ⟨u, u1, u2⟩ := run_partOf hx ha
      obtain ⟨v, v1, v2⟩ := run_partOf hy hc
      simp only [Sem.run_bind, u1, v1, Result.andThen_ok, hE _ _ _ _ _ _ u2 v2 hr]
      cases r with
      | true =>
        simp only [Bool.not_true, Bool.false_eq_true, if_false]
        exact run_eqFieldsV hE hx hy h
      | false =>
        injection h with h; subst h
        simp
theorem run_eqV (D : Nat) : ∀ (n : Nat) {t : TypeId} {x y : AV} {b : Bool} {u v : Value}, Rep G st w x u → Rep G st w y v → eqV P n t x y = some b → (Op.equalIn (D + n) t u v).run P w = .ok b w
  | 0, t, x, y, b, u, v, _, _, h => by simp only [eqV] at h; cases h
  | n + 1, t, x, y, b, u, v, hx, hy, h => by
    simp only [eqV, Option.bind_eq_some_iff] at h
    obtain ⟨d, hd, h⟩ := h
    split at h
    · rename_i fs xs ys
      obtain ⟨hs, h⟩ := cond_none h
      simp only [Rep] at hx hy
      obtain ⟨us, rfl, hx⟩ := hx
      obtain ⟨vs, rfl, hy⟩ := hy
      have hf : P.fieldsOf t = fs := by simp [Program.fieldsOf, hd]
      rw [show D + (n + 1) = (D + n) + 1 by omega, run_equalIn_struct w (D + n) t us vs (by rw [hf]; exact hd) hs, hf]
      exact run_eqFieldsV (fun t x y b u v hx hy h => run_eqV D n hx hy h) hx hy h
    · exact run_eqLeaf (D + n) hd hx hy h
end
end Go.Ev
