/- Keys of values are ordered as the values are: plain. -/
import Derived.Test.YthodfojhbbendaaGreatDoorSqA
set_option linter.all false
set_option maxRecDepth 100000
set_option maxHeartbeats 1000000
namespace Go.Proofs.YthodfojhbbendaaGreatDoor
open Go Go.Ev
def kb (k : Int) : UInt8 := b8 (k % 256).toNat
theorem wrapK (k : Int) : IntKind.wrap .u8 k = ((kb k).toNat : Int) := by
  unfold kb
  rw [b8_nat]
  show k % 256 = _
  omega
theorem ktext_len (s : List UInt8) : (ktext s).length ≤ 2 * s.length + 2 := by
  unfold ktext
  have := esc_len s
  simp only [List.length_append, List.length_cons, List.length_nil]
  omega
/-! ### One text is ahead of another one at a byte -/
def Bel (u v : List UInt8) : Prop := ∃ p x y s t, u = p ++ x :: s ∧ v = p ++ y :: t ∧ x.toNat < y.toNat
theorem Bel.app {u v : List UInt8} (h : Bel u v) (s t : List UInt8) : Bel (u ++ s) (v ++ t) := by
  obtain ⟨p, x, y, a, b, rfl, rfl, h⟩ := h
  exact ⟨p, x, y, a ++ s, b ++ t, by simp, by simp, h⟩
theorem Bel.pre {u v : List UInt8} (h : Bel u v) (p : List UInt8) : Bel (p ++ u) (p ++ v) := by
  obtain ⟨q, x, y, a, b, rfl, rfl, h⟩ := h
  exact ⟨p ++ q, x, y, a, b, by simp, by simp, h⟩
theorem Bel.head {x y : UInt8} (h : x.toNat < y.toNat) (s t : List UInt8) : Bel (x :: s) (y :: t) := ⟨[], x, y, s, t, rfl, rfl, h⟩
theorem Bel.cons {u v : List UInt8} (h : Bel u v) (x : UInt8) : Bel (x :: u) (x :: v) := h.pre [x]
theorem lt_pre : ∀ (p u v : List UInt8), strLt (p ++ u) (p ++ v) = strLt u v
  | [], _, _ => rfl
  | a :: p, u, v => by
    show (Nat.blt a.toNat a.toNat || (Nat.beq a.toNat a.toNat && strLt (p ++ u) (p ++ v))) = _
    have e : Nat.blt a.toNat a.toNat = false := by
      rcases h : Nat.blt a.toNat a.toNat with _ | _
      · rfl
      · have := Nat.le_of_ble_eq_true h; omega
    rw [e, Nat.beq_refl, lt_pre p u v]; rfl
theorem Bel.lt {u v : List UInt8} (h : Bel u v) : strLt u v = true := by
  obtain ⟨p, x, y, s, t, rfl, rfl, h⟩ := h
  rw [lt_pre]
  show (Nat.blt x.toNat y.toNat || _) = true
  rw [show Nat.blt x.toNat y.toNat = true from Nat.ble_eq_true_of_le h]; rfl
theorem Bel.not {u v : List UInt8} (h : Bel u v) : strLt v u = false := by
  obtain ⟨p, x, y, s, t, rfl, rfl, h⟩ := h
  rw [lt_pre]
  show (Nat.blt y.toNat x.toNat || (Nat.beq y.toNat x.toNat && _)) = false
  have e1 : Nat.blt y.toNat x.toNat = false := by
    rcases hq : Nat.blt y.toNat x.toNat with _ | _
    · rfl
    · have := Nat.le_of_ble_eq_true hq; omega
  have e2 : Nat.beq y.toNat x.toNat = false := by
    rcases hq : Nat.beq y.toNat x.toNat with _ | _
    · rfl
    · have := Nat.eq_of_beq_eq_true hq; omega
  rw [e1, e2]; rfl
theorem lt_self : ∀ u : List UInt8, strLt u u = false
  | [] => rfl
  | a :: u => by
    have := lt_pre [a] u u
    rw [show [a] ++ u = a :: u from rfl] at this
    rw [this, lt_self u]

/-! ### The least text above all that begin with one -/
theorem cutF_ff (s : List UInt8) : ∀ (n i : Nat), cutF s n ≤ i → i < n → s[i]? = .some 255
  | 0, i, _, h => absurd h (Nat.not_lt_zero _)
  | n + 1, i, h1, h2 => by
    unfold cutF at h1
    split at h1
    · rename_i e
      by_cases hi : i = n
      · rw [hi, e]
      · exact cutF_ff s n i h1 (by omega)
    · omega
theorem cutF_last (s : List UInt8) : ∀ (n m : Nat), cutF s n = m + 1 → s[m]? ≠ .some 255
  | 0, m, h => by cases h
  | n + 1, m, h => by
    unfold cutF at h
    split at h
    · exact cutF_last s n m h
    · rename_i e
      have : n = m := by omega
      rw [← this]; exact e
theorem next_of {k : List UInt8} {x : UInt8} {r : List UInt8} (hk : k = x :: r) (hx : x.toNat < 255) : ∃ n b, n < k.length ∧ k[n]? = .some b ∧ b.toNat < 255 ∧ (∀ i, n < i → i < k.length → k[i]? = .some 255) ∧ nextK k = k.take n ++ [b + 1] := by
  have hle := cutF_le k k.length
  rcases e : cutF k k.length with _ | n
  · have := cutF_ff k k.length 0 (by omega) (by rw [hk]; simp)
    rw [hk] at this
    have : x = 255 := Option.some.inj this
    subst this
    exact absurd hx (by decide)
  · have hl : n < k.length := by omega
    have h1 := cutF_last k k.length n e
    have h2 : k[n]? = .some k[n] := List.getElem?_eq_getElem hl
    refine ⟨n, k[n], hl, h2, ?_, fun i hi hil => cutF_ff k k.length i (by omega) hil, ?_⟩
    · rw [h2] at h1
      have h3 : k[n] ≠ 255 := fun h => h1 (by rw [h])
      have h4 : k[n].toNat < 256 := k[n].toNat_lt
      have : k[n].toNat ≠ 255 := fun h => h3 (by apply UInt8.toNat_inj.1; exact h)
      omega
    · unfold nextK
      rw [e]
      dsimp only
      rw [h2]; rfl
theorem add1 {b : UInt8} (h : b.toNat < 255) : (b + 1).toNat = b.toNat + 1 := by
  rw [UInt8.toNat_add]
  have : (1 : UInt8).toNat = 1 := rfl
  rw [this]; omega
theorem split_at' {k : List UInt8} {n : Nat} {b : UInt8} (h : k[n]? = .some b) : k = k.take n ++ b :: k.drop (n + 1) := by
  obtain ⟨hl, e⟩ := List.getElem?_eq_some_iff.1 h
  rw [← e, ← List.drop_eq_getElem_cons hl, List.take_append_drop]
/-- A text is ahead of it: itself. -/
theorem next_self {k : List UInt8} {x : UInt8} {r : List UInt8} (hk : k = x :: r) (hx : x.toNat < 255) : Bel k (nextK k) := by
  obtain ⟨n, b, h1, h2, h3, h4, h5⟩ := next_of hk hx
  rw [h5]
  exact ⟨k.take n, b, b + 1, k.drop (n + 1), [], split_at' h2, rfl, by rw [add1 h3]; omega⟩
/-- .. and what is ahead of that one. -/
theorem next_lt {k u : List UInt8} {x : UInt8} {r : List UInt8} (hk : k = x :: r) (hx : x.toNat < 255) (h : Bel u k) : strLt u (nextK k) = true := by
  obtain ⟨n, b, h1, h2, h3, h4, h5⟩ := next_of hk hx
  obtain ⟨p, c, d, s, t, rfl, e, hcd⟩ := h
  have hd : k[p.length]? = .some d := by rw [e]; simp
  rw [h5]
  rcases Nat.lt_trichotomy p.length n with hl | hl | hl
  · have e1 : k.take n = p ++ d :: t.take (n - p.length - 1) := by
      rw [e, List.take_append, List.take_of_length_le (by omega)]
      congr 1
      rw [show n - p.length = (n - p.length - 1) + 1 by omega, List.take_succ_cons]; rfl
    rw [e1]
    exact Bel.lt ⟨p, c, d, s, t.take (n - p.length - 1) ++ [b + 1], rfl, by simp, hcd⟩
  · have e1 : k.take n = p := by rw [e, ← hl, List.take_left]
    rw [hl] at hd
    have : d = b := Option.some.inj (hd.symm.trans h2)
    subst this
    rw [e1]
    exact Bel.lt ⟨p, c, d + 1, s, [], rfl, rfl, by rw [add1 h3]; omega⟩
  · have e1 : k.take n = p.take n := by rw [e, List.take_append_of_le_length (by omega)]
    have e2 : (p ++ c :: s)[n]? = .some b := by
      rw [List.getElem?_append_left hl, ← h2, e, List.getElem?_append_left hl]
    rw [e1]
    refine Bel.lt ⟨p.take n, b, b + 1, (p ++ c :: s).drop (n + 1), [], ?_, rfl, by rw [add1 h3]; omega⟩
    have := split_at' e2
    rw [List.take_append_of_le_length (by omega)] at this
    exact this
/-- What is behind it is not. -/
theorem next_not {k u : List UInt8} {x : UInt8} {r : List UInt8} (hk : k = x :: r) (hx : x.toNat < 255) (h : Bel k u) : strLt u (nextK k) = false := by
  obtain ⟨n, b, h1, h2, h3, h4, h5⟩ := next_of hk hx
  obtain ⟨p, c, d, s, t, e, rfl, hcd⟩ := h
  have hc : k[p.length]? = .some c := by rw [e]; simp
  have hpl : p.length < k.length := by rw [e]; simp
  rw [h5]
  rcases Nat.lt_trichotomy p.length n with hl | hl | hl
  · have e1 : k.take n = p ++ c :: s.take (n - p.length - 1) := by
      rw [e, List.take_append, List.take_of_length_le (by omega)]
      congr 1
      rw [show n - p.length = (n - p.length - 1) + 1 by omega, List.take_succ_cons]; rfl
    rw [e1]
    exact Bel.not ⟨p, c, d, s.take (n - p.length - 1) ++ [b + 1], t, by simp, rfl, hcd⟩
  · have e1 : k.take n = p := by rw [e, ← hl, List.take_left]
    rw [hl] at hc
    have : c = b := Option.some.inj (hc.symm.trans h2)
    subst this
    rw [e1]
    by_cases hd : (c + 1).toNat < d.toNat
    · exact Bel.not ⟨p, c + 1, d, [], t, rfl, rfl, hd⟩
    · have : d = c + 1 := by
        apply UInt8.toNat_inj.1
        rw [add1 h3] at hd ⊢
        omega
      subst this
      rw [lt_pre]
      show (Nat.blt _ _ || (Nat.beq _ _ && strLt t [])) = false
      rw [show strLt t [] = false by cases t <;> rfl, Bool.and_false, Bool.or_false]
      rcases hq : Nat.blt (c + 1).toNat (c + 1).toNat with _ | _
      · rfl
      · have := Nat.le_of_ble_eq_true hq; omega
  · have := h4 p.length hl hpl
    rw [hc] at this
    have : c = 255 := Option.some.inj this
    subst this
    have : d.toNat < 256 := d.toNat_lt
    exact absurd hcd (by show ¬ (255 < d.toNat); omega)

/-! ### Texts, numbers -/
theorem text_bel : ∀ {s t : List UInt8}, strLt s t = true → Bel (ktext s) (ktext t)
  | _, [], h => by rename_i s; cases s <;> cases h
  | [], b :: t, _ => by
    show Bel [0, 1] (((if b = 0 then [0, 255] else [b]) ++ esc t) ++ [0, 1])
    by_cases hb : b = 0
    · rw [if_pos hb]
      exact ⟨[0], 1, 255, [], esc t ++ [0, 1], rfl, rfl, by decide⟩
    · rw [if_neg hb]
      exact ⟨[], 0, b, [1], esc t ++ [0, 1], rfl, rfl, by
        have : b.toNat ≠ 0 := fun h => hb (by apply UInt8.toNat_inj.1; exact h)
        show 0 < b.toNat
        omega⟩
  | a :: s, b :: t, h => by
    show Bel (((if a = 0 then [0, 255] else [a]) ++ esc s) ++ [0, 1]) (((if b = 0 then [0, 255] else [b]) ++ esc t) ++ [0, 1])
    have h : (Nat.blt a.toNat b.toNat || (Nat.beq a.toNat b.toNat && strLt s t)) = true := h
    rw [List.append_assoc, List.append_assoc]
    by_cases hab : a.toNat < b.toNat
    · have hb : ¬ b = 0 := fun h => by subst h; exact absurd hab (Nat.not_lt_zero _)
      rw [if_neg hb]
      by_cases ha : a = 0
      · subst ha
        rw [if_pos rfl]
        exact Bel.head hab _ _
      · rw [if_neg ha]
        exact Bel.head hab _ _
    · have e1 : Nat.blt a.toNat b.toNat = false := by
        rcases hq : Nat.blt a.toNat b.toNat with _ | _
        · rfl
        · exact absurd (Nat.le_of_ble_eq_true hq) hab
      rw [e1, Bool.false_or, Bool.and_eq_true] at h
      have : a = b := by apply UInt8.toNat_inj.1; exact Nat.eq_of_beq_eq_true h.1
      subst this
      exact (text_bel h.2).pre _
theorem b8_toNat (n : Nat) : (b8 n).toNat = n % 256 := by
  unfold b8
  rw [UInt8.toNat_ofNat']
  omega
theorem tb_bel {n m : Nat} : ∀ i : Nat, (n % 256 ^ i < m % 256 ^ i → Bel (tb n i) (tb m i)) ∧ (n % 256 ^ i = m % 256 ^ i → tb n i = tb m i)
  | 0 => ⟨fun h => by simp [Nat.mod_one] at h, fun _ => rfl⟩
  | i + 1 => by
    obtain ⟨h1, h2⟩ := tb_bel (n := n) (m := m) i
    have hp : 0 < 256 ^ i := Nat.pow_pos (by decide)
    have en : n % 256 ^ (i + 1) = 256 ^ i * (n / 256 ^ i % 256) + n % 256 ^ i := by rw [Nat.pow_succ, Nat.mod_mul]; omega
    have em : m % 256 ^ (i + 1) = 256 ^ i * (m / 256 ^ i % 256) + m % 256 ^ i := by rw [Nat.pow_succ, Nat.mod_mul]; omega
    have ln : n % 256 ^ i < 256 ^ i := Nat.mod_lt _ hp
    have lm : m % 256 ^ i < 256 ^ i := Nat.mod_lt _ hp
    rw [en, em]
    generalize ha : n / 256 ^ i % 256 = a
    generalize hb : m / 256 ^ i % 256 = b
    have ca : (b8 (n / 256 ^ i)).toNat = a := by rw [b8_toNat, ha]
    have cb : (b8 (m / 256 ^ i)).toNat = b := by rw [b8_toNat, hb]
    constructor
    · intro h
      rcases Nat.lt_trichotomy a b with hl | hl | hl
      · exact Bel.head (by rw [ca, cb]; exact hl) _ _
      · subst hl
        have : b8 (n / 256 ^ i) = b8 (m / 256 ^ i) := by apply UInt8.toNat_inj.1; rw [ca, cb]
        show Bel (b8 (n / 256 ^ i) :: tb n i) (b8 (m / 256 ^ i) :: tb m i)
        rw [this]
        exact (h1 (by omega)).cons _
      · exfalso
        have : 256 ^ i * (b + 1) ≤ 256 ^ i * a := Nat.mul_le_mul_left _ hl
        rw [Nat.mul_succ] at this
        omega
    · intro h
      have hab : a = b := by
        rcases Nat.lt_trichotomy a b with hl | hl | hl
        · exfalso
          have : 256 ^ i * (a + 1) ≤ 256 ^ i * b := Nat.mul_le_mul_left _ hl
          rw [Nat.mul_succ] at this
          omega
        · exact hl
        · exfalso
          have : 256 ^ i * (b + 1) ≤ 256 ^ i * a := Nat.mul_le_mul_left _ hl
          rw [Nat.mul_succ] at this
          omega
      subst hab
      have e : b8 (n / 256 ^ i) = b8 (m / 256 ^ i) := by apply UInt8.toNat_inj.1; rw [ca, cb]
      show b8 (n / 256 ^ i) :: tb n i = b8 (m / 256 ^ i) :: tb m i
      rw [e, h2 (by omega)]
/-! ### Values, their keys, their order -/
inductive Vt where
  | mk (k : Int) (b : Bool) (n : Int) (s : List UInt8) (parts : List Vt) (names : List (List UInt8))
def Vt.k : Vt → Int | .mk k _ _ _ _ _ => k
def Vt.b : Vt → Bool | .mk _ b _ _ _ _ => b
def Vt.n : Vt → Int | .mk _ _ n _ _ _ => n
def Vt.s : Vt → List UInt8 | .mk _ _ _ s _ _ => s
def Vt.parts : Vt → List Vt | .mk _ _ _ _ l _ => l
def Vt.names : Vt → List (List UInt8) | .mk _ _ _ _ _ l => l
mutual
/-- A value's key. -/
def keyV : Vt → List UInt8
  | .mk k b n s parts names => [kb k] ++ (if k = 1 then (if b = true then [1] else [0]) else if k = 2 then tb (plN n) 8 else if k = 3 then ktext s else if k = 4 then ktext s else if k = 5 then keyL parts names ++ [0] else if k = 6 then keyL parts names ++ [0] else [])
def keyL : List Vt → List (List UInt8) → List UInt8
  | [], _ => []
  | v :: l, [] => [1] ++ (keyV v ++ keyL l [])
  | v :: l, m :: ns => [1] ++ (ktext m ++ (keyV v ++ keyL l ns))
end
mutual
/-- May a value be? (As far as order asks.) -/
def okV : Vt → Prop
  | .mk k b n s parts names => 0 ≤ k ∧ k ≤ 6 ∧ (k ≠ 1 → b = false) ∧ (k ≠ 2 → n = 0) ∧ -9223372036854775808 ≤ n ∧ n ≤ 9223372036854775807 ∧ (k ≠ 3 → k ≠ 4 → s = []) ∧ (k < 5 → parts = []) ∧ (k ≠ 6 → names = []) ∧ (k = 6 → names.length = parts.length) ∧ okL parts
def okL : List Vt → Prop
  | [] => True
  | v :: l => okV v ∧ okL l
end
def cmpS (a b : List UInt8) : Int := if strLt a b = true then -1 else if strLt b a = true then 1 else 0
def cmpI (a b : Int) : Int := if a < b then -1 else if a > b then 1 else 0
mutual
/-- The order of values. -/
def cmpV : Vt → Vt → Int
  | .mk k b n s parts names, .mk k' b' n' s' parts' names' =>
    if cmpI k k' ≠ 0 then cmpI k k' else if k = 1 then cmpI (if b = true then 1 else 0) (if b' = true then 1 else 0) else if k = 2 then cmpI n n' else if k = 3 then cmpS s s' else if k = 4 then cmpS s s' else cmpL (decide (k = 6)) parts names parts' names'
def cmpL : Bool → List Vt → List (List UInt8) → List Vt → List (List UInt8) → Int
  | _, [], _, [], _ => 0
  | _, [], _, _ :: _, _ => -1
  | _, _ :: _, _, [], _ => 1
  | st, v :: l, ns, w :: m, ms =>
    if st = true ∧ cmpN ns ms ≠ 0 then cmpN ns ms else if cmpV v w ≠ 0 then cmpV v w else cmpL st l ns.tail m ms.tail
def cmpN : List (List UInt8) → List (List UInt8) → Int
  | a :: _, b :: _ => cmpS a b
  | _, _ => 0
end
theorem strLt_tri : ∀ a b : List UInt8, strLt a b = false → strLt b a = false → a = b
  | [], [], _, _ => rfl
  | [], _ :: _, h, _ => by cases h
  | _ :: _, [], _, h => by cases h
  | a :: x, b :: y, h1, h2 => by
    have h1 : (Nat.blt a.toNat b.toNat || (Nat.beq a.toNat b.toNat && strLt x y)) = false := h1
    have h2 : (Nat.blt b.toNat a.toNat || (Nat.beq b.toNat a.toNat && strLt y x)) = false := h2
    rw [Bool.or_eq_false_iff] at h1 h2
    have e : a.toNat = b.toNat := by
      rcases Nat.lt_trichotomy a.toNat b.toNat with h | h | h
      · have : Nat.blt a.toNat b.toNat = true := Nat.ble_eq_true_of_le h
        rw [this] at h1; exact absurd h1.1 (by decide)
      · exact h
      · have : Nat.blt b.toNat a.toNat = true := Nat.ble_eq_true_of_le h
        rw [this] at h2; exact absurd h2.1 (by decide)
    have : a = b := UInt8.toNat_inj.1 e
    subst this
    rw [Nat.beq_refl, Bool.true_and] at h1 h2
    rw [strLt_tri x y h1.2 h2.2]
/-- What an order says of two keys. -/
def Ord (c : Int) (u v : List UInt8) : Prop := (c < 0 → Bel u v) ∧ (c > 0 → Bel v u) ∧ (c = 0 → u = v)
theorem Ord.pre {c : Int} {u v : List UInt8} (h : Ord c u v) (p : List UInt8) : Ord c (p ++ u) (p ++ v) := ⟨fun q => (h.1 q).pre p, fun q => (h.2.1 q).pre p, fun q => by rw [h.2.2 q]⟩
theorem cmpS_ord (a b : List UInt8) : Ord (cmpS a b) (ktext a) (ktext b) ∧ (cmpS a b = 0 → a = b) := by
  unfold cmpS
  by_cases h1 : strLt a b = true
  · rw [if_pos h1]
    exact ⟨⟨fun _ => text_bel h1, fun h => absurd h (by decide), fun h => absurd h (by decide)⟩, fun h => absurd h (by decide)⟩
  · rw [if_neg h1]
    by_cases h2 : strLt b a = true
    · rw [if_pos h2]
      exact ⟨⟨fun h => absurd h (by decide), fun _ => text_bel h2, fun h => absurd h (by decide)⟩, fun h => absurd h (by decide)⟩
    · rw [if_neg h2]
      have := strLt_tri a b (by simpa using h1) (by simpa using h2)
      exact ⟨⟨fun h => absurd h (by decide), fun h => absurd h (by decide), fun _ => by rw [this]⟩, fun _ => this⟩
theorem cmpI_ord (a b : Int) : (cmpI a b < 0 → a < b) ∧ (cmpI a b > 0 → b < a) ∧ (cmpI a b = 0 → a = b) := by
  unfold cmpI
  by_cases h1 : a < b
  · rw [if_pos h1]; exact ⟨fun _ => h1, fun h => absurd h (by decide), fun h => absurd h (by decide)⟩
  · rw [if_neg h1]
    by_cases h2 : a > b
    · rw [if_pos h2]; exact ⟨fun h => absurd h (by decide), fun _ => h2, fun h => absurd h (by decide)⟩
    · rw [if_neg h2]; exact ⟨fun h => absurd h (by decide), fun h => absurd h (by decide), fun _ => by omega⟩
theorem kb_nat {k : Int} (h1 : 0 ≤ k) (h2 : k ≤ 6) : ((kb k).toNat : Int) = k := by
  unfold kb
  rw [b8_toNat]
  omega
theorem plN_mono {n m : Int} (h1 : -9223372036854775808 ≤ n) (h2 : m ≤ 9223372036854775807) (h : n < m) : plN n % 256 ^ 8 < plN m % 256 ^ 8 := by
  unfold plN
  rw [wrap_u64, wrap_u64]
  have : (256 : Nat) ^ 8 = 18446744073709551616 := by decide
  rw [this]
  omega
theorem tb_ord {n m : Int} (h1 : -9223372036854775808 ≤ n) (h2 : n ≤ 9223372036854775807) (h3 : -9223372036854775808 ≤ m) (h4 : m ≤ 9223372036854775807) : Ord (cmpI n m) (tb (plN n) 8) (tb (plN m) 8) := by
  obtain ⟨c1, c2, c3⟩ := cmpI_ord n m
  exact ⟨fun h => (tb_bel 8).1 (plN_mono h1 h4 (c1 h)), fun h => (tb_bel 8).1 (plN_mono h3 h2 (c2 h)), fun h => by rw [c3 h]⟩
mutual
theorem key_ord : ∀ (v w : Vt), okV v → okV w → Ord (cmpV v w) (keyV v) (keyV w)
  | .mk k b n s parts names, .mk k' b' n' s' parts' names', hv, hw => by
    simp only [okV] at hv hw
    obtain ⟨v1, v2, v3, v4, v5, v6, v7, v8, v9, v10, v11⟩ := hv
    obtain ⟨w1, w2, w3, w4, w5, w6, w7, w8, w9, w10, w11⟩ := hw
    simp only [cmpV, keyV]
    obtain ⟨c1, c2, c3⟩ := cmpI_ord k k'
    by_cases hk : cmpI k k' ≠ 0
    · rw [if_pos hk]
      have e1 := kb_nat v1 v2
      have e2 := kb_nat w1 w2
      exact ⟨fun h => Bel.head (by have := c1 h; omega) _ _, fun h => Bel.head (by have := c2 h; omega) _ _, fun h => absurd h hk⟩
    · rw [if_neg hk]
      have hkk : k = k' := c3 (by omega)
      subst hkk
      refine Ord.pre ?_ _
      by_cases k1 : k = 1
      · rw [if_pos k1, if_pos k1, if_pos k1]
        obtain ⟨d1, d2, d3⟩ := cmpI_ord (if b = true then 1 else 0) (if b' = true then 1 else 0)
        cases b <;> cases b' <;> first
          | exact ⟨fun h => absurd h (by decide), fun h => absurd h (by decide), fun _ => rfl⟩
          | exact ⟨fun _ => ⟨[], 0, 1, [], [], rfl, rfl, by decide⟩, fun h => absurd h (by decide), fun h => absurd h (by decide)⟩
          | exact ⟨fun h => absurd h (by decide), fun _ => ⟨[], 0, 1, [], [], rfl, rfl, by decide⟩, fun h => absurd h (by decide)⟩
      · rw [if_neg k1, if_neg k1, if_neg k1]
        by_cases k2 : k = 2
        · rw [if_pos k2, if_pos k2, if_pos k2]
          exact tb_ord v5 v6 w5 w6
        · rw [if_neg k2, if_neg k2, if_neg k2]
          by_cases k3 : k = 3
          · rw [if_pos k3, if_pos k3, if_pos k3]
            exact (cmpS_ord s s').1
          · rw [if_neg k3, if_neg k3, if_neg k3]
            by_cases k4 : k = 4
            · rw [if_pos k4, if_pos k4, if_pos k4]
              exact (cmpS_ord s s').1
            · rw [if_neg k4, if_neg k4, if_neg k4]
              by_cases k5 : k = 5
              · rw [if_pos k5, if_pos k5]
                have e1 : names = [] := v9 (by omega)
                have e2 : names' = [] := w9 (by omega)
                subst e1; subst e2
                rw [decide_eq_false (by omega)]
                exact list_ord parts parts' v11 w11
              · rw [if_neg k5, if_neg k5]
                by_cases k6 : k = 6
                · rw [if_pos k6, if_pos k6, decide_eq_true k6]
                  exact struct_ord parts parts' names names' v11 w11 (v10 k6) (w10 k6)
                · rw [if_neg k6, if_neg k6]
                  have e1 : parts = [] := v8 (by omega)
                  have e2 : parts' = [] := w8 (by omega)
                  subst e1; subst e2
                  simp only [cmpL]
                  exact ⟨fun h => absurd h (by decide), fun h => absurd h (by decide), fun _ => rfl⟩
theorem list_ord : ∀ (l m : List Vt), okL l → okL m → Ord (cmpL false l [] m []) (keyL l [] ++ [0]) (keyL m [] ++ [0])
  | [], [], _, _ => by simp only [cmpL, keyL]; exact ⟨fun h => absurd h (by decide), fun h => absurd h (by decide), fun _ => rfl⟩
  | [], w :: m, _, _ => by
    simp only [cmpL, keyL]
    exact ⟨fun _ => Bel.head (by decide) _ _, fun h => absurd h (by decide), fun h => absurd h (by decide)⟩
  | v :: l, [], _, _ => by
    simp only [cmpL, keyL]
    exact ⟨fun h => absurd h (by decide), fun _ => Bel.head (by decide) _ _, fun h => absurd h (by decide)⟩
  | v :: l, w :: m, hl, hm => by
    simp only [okL] at hl hm
    obtain ⟨h1, h2, h3⟩ := key_ord v w hl.1 hm.1
    have ih := list_ord l m hl.2 hm.2
    simp only [cmpL, keyL, Bool.false_eq_true, false_and, if_false, List.tail_nil]
    by_cases hc : cmpV v w ≠ 0
    · rw [if_pos hc]
      refine ⟨fun h => ?_, fun h => ?_, fun h => absurd h hc⟩
      · simpa [List.append_assoc] using ((h1 h).app (keyL l [] ++ [0]) (keyL m [] ++ [0])).pre [1]
      · simpa [List.append_assoc] using ((h2 h).app (keyL m [] ++ [0]) (keyL l [] ++ [0])).pre [1]
    · rw [if_neg hc, h3 (by omega)]
      simpa [List.append_assoc] using ih.pre (1 :: keyV w)
theorem struct_ord : ∀ (l m : List Vt) (ns ms : List (List UInt8)), okL l → okL m → ns.length = l.length → ms.length = m.length → Ord (cmpL true l ns m ms) (keyL l ns ++ [0]) (keyL m ms ++ [0])
  | [], [], _, _, _, _, _, _ => by simp only [cmpL, keyL]; exact ⟨fun h => absurd h (by decide), fun h => absurd h (by decide), fun _ => rfl⟩
  | [], w :: m, _, [], _, _, _, h => by simp at h
  | [], w :: m, _, b :: ms, _, _, _, _ => by
    simp only [cmpL, keyL]
    exact ⟨fun _ => Bel.head (by decide) _ _, fun h => absurd h (by decide), fun h => absurd h (by decide)⟩
  | v :: l, [], [], _, _, _, h, _ => by simp at h
  | v :: l, [], a :: ns, _, _, _, _, _ => by
    simp only [cmpL, keyL]
    exact ⟨fun h => absurd h (by decide), fun _ => Bel.head (by decide) _ _, fun h => absurd h (by decide)⟩
  | v :: l, w :: m, [], _, _, _, h, _ => by simp at h
  | v :: l, w :: m, _ :: _, [], _, _, _, h => by simp at h
  | v :: l, w :: m, a :: ns, b :: ms, hl, hm, hn1, hn2 => by
    simp only [okL] at hl hm
    obtain ⟨h1, h2, h3⟩ := key_ord v w hl.1 hm.1
    obtain ⟨⟨n1, n2, n3⟩, n4⟩ := cmpS_ord a b
    have ih := struct_ord l m ns ms hl.2 hm.2 (by simpa using hn1) (by simpa using hn2)
    simp only [cmpL, cmpN, keyL, true_and, List.tail_cons]
    by_cases hs : cmpS a b ≠ 0
    · rw [if_pos hs]
      refine ⟨fun h => ?_, fun h => ?_, fun h => absurd h hs⟩
      · simpa [List.append_assoc] using ((n1 h).app (keyV v ++ (keyL l ns ++ [0])) (keyV w ++ (keyL m ms ++ [0]))).pre [1]
      · simpa [List.append_assoc] using ((n2 h).app (keyV w ++ (keyL m ms ++ [0])) (keyV v ++ (keyL l ns ++ [0]))).pre [1]
    · rw [if_neg hs]
      have hab : a = b := n4 (by omega)
      subst hab
      by_cases hc : cmpV v w ≠ 0
      · rw [if_pos hc]
        refine ⟨fun h => ?_, fun h => ?_, fun h => absurd h hc⟩
        · simpa [List.append_assoc] using ((h1 h).app (keyL l ns ++ [0]) (keyL m ms ++ [0])).pre (1 :: ktext a)
        · simpa [List.append_assoc] using ((h2 h).app (keyL m ms ++ [0]) (keyL l ns ++ [0])).pre (1 :: ktext a)
      · rw [if_neg hc, h3 (by omega)]
        simpa [List.append_assoc] using ih.pre (1 :: (ktext a ++ keyV w))
end
/-- The keys that a comparison holds for are just those in its span. -/
theorem spans {a b : Vt} (ha : okV a) (hb : okV b) :
    (strLt (keyV a) (keyV b) = decide (cmpV a b < 0)) ∧ (strLt (keyV a) (nextK (keyV b)) = decide (cmpV a b ≤ 0)) ∧ nextK (keyV b) ≠ [] := by
  obtain ⟨h1, h2, h3⟩ := key_ord a b ha hb
  have hk : ∃ r, keyV b = kb b.k :: r := by cases b; simp only [keyV]; exact ⟨_, rfl⟩
  obtain ⟨r, hk⟩ := hk
  have hx : (kb b.k).toNat < 255 := by
    cases b
    simp only [okV] at hb
    have := kb_nat hb.1 hb.2.1
    simp only [Vt.k]
    omega
  have hne : nextK (keyV b) ≠ [] := by
    obtain ⟨n, c, _, _, _, _, e⟩ := next_of hk hx
    rw [e]
    simp
  rcases Int.lt_trichotomy (cmpV a b) 0 with h | h | h
  · rw [decide_eq_true h, decide_eq_true (by omega)]
    exact ⟨(h1 h).lt, next_lt hk hx (h1 h), hne⟩
  · rw [decide_eq_false (by omega), decide_eq_true (by omega), h3 h]
    exact ⟨lt_self _, (next_self hk hx).lt, hne⟩
  · rw [decide_eq_false (by omega), decide_eq_false (by omega)]
    exact ⟨(h2 h).not, next_not hk hx (h2 h), hne⟩
end Go.Proofs.YthodfojhbbendaaGreatDoor
