import Derived.Test.YtlmahcmmpfdglaaLxO
set_option linter.all false
namespace Go.Proofs.Ytlmahcmmpfdglaa
open Go Go.Ev
noncomputable section

/-! ### Blanks ahead and behind -/
/-- The word that a text begins with. -/
def wordL : List UInt8 → Option (Int × List UInt8 × Nat)
  | [] => none
  | c :: r =>
    if c = 120 ∧ r.head? = some 39 then (qbody (r.drop 1)).bind fun q => (unhex q.1).map fun b => (5, b, q.2 + 2)
    else if isL c.toNat = true then
      (if isKey ((c :: r).takeWhile fun c => isW c.toNat) then some (2, (c :: r).takeWhile fun c => isW c.toNat, ((c :: r).takeWhile fun c => isW c.toNat).length) else if ((c :: r).takeWhile fun c => isW c.toNat).length ≤ 16 then some (1, (c :: r).takeWhile fun c => isW c.toNat, ((c :: r).takeWhile fun c => isW c.toNat).length) else none)
    else if isD c.toNat = true then (if numOk ((c :: r).takeWhile fun c => isD c.toNat) then some (3, (c :: r).takeWhile fun c => isD c.toNat, ((c :: r).takeWhile fun c => isD c.toNat).length) else none)
    else if c = 39 then (qbody r).map fun q => (4, q.1, q.2 + 1)
    else (signAt (c :: r)).map fun w => (6, w, w.length)
theorem wordAt_L {s : List UInt8} {k : Nat} : wordAt s k = wordL (s.drop k) := by
  unfold wordAt
  rcases Nat.lt_or_ge k s.length with h | h
  · have e1 : s[k + 1]? = (s.drop (k + 1)).head? := by rw [List.head?_drop]
    have e2 : s.drop (k + 2) = (s.drop (k + 1)).drop 1 := by rw [List.drop_drop]
    rw [List.getElem?_eq_getElem h, e1, e2]
    unfold pieceOf runOf
    rw [drop_cons h]
    rfl
  · rw [List.getElem?_eq_none h, List.drop_eq_nil_of_le h]; rfl

def blanks (q : List UInt8) : Prop := ∀ c ∈ q, isB c.toNat = true
theorem blank_not {c : UInt8} (h : isB c.toNat = true) : c ≠ 39 ∧ ¬ isW c.toNat = true ∧ ¬ isD c.toNat = true ∧ c ≠ 61 ∧ c ≠ 62 := by
  have key : ∀ n : Fin 256, isB n.1 = true → n.1 ≠ 39 ∧ ¬ isW n.1 = true ∧ ¬ isD n.1 = true ∧ n.1 ≠ 61 ∧ n.1 ≠ 62 := by decide +kernel
  obtain ⟨h1, h2, h3, h4, h5⟩ := key ⟨c.toNat, c.toNat_lt⟩ h
  refine ⟨?_, h2, h3, ?_, ?_⟩ <;> rintro rfl
  · exact h1 rfl
  · exact h4 rfl
  · exact h5 rfl
theorem qbody_blank : ∀ {q : List UInt8}, blanks q → qbody q = none
  | [], _ => rfl
  | c :: q, h => by
    rw [qbody_ne _ (blank_not (h c List.mem_cons_self)).1, qbody_blank fun c hc => h c (List.mem_cons_of_mem _ hc)]; rfl
theorem qbody_append {q : List UInt8} (hq : blanks q) : ∀ l : List UInt8, qbody (l ++ q) = qbody l
  | [] => qbody_blank hq
  | [c] => by
    by_cases hc : c = 39
    · subst hc
      cases q with
      | nil => rfl
      | cons b q =>
        have := (blank_not (hq b List.mem_cons_self)).1
        simp [qbody, this]
    · rw [List.singleton_append, qbody_ne _ hc, qbody_ne _ hc, qbody_blank hq]; rfl
  | c :: d :: l => by
    by_cases hc : c = 39
    · by_cases hd : d = 39
      · simp only [List.cons_append, qbody, hc, hd, if_true, qbody_append hq l]
      · simp [qbody, hc, hd]
    · have := qbody_append hq (d :: l)
      simp only [List.cons_append] at this ⊢
      rw [qbody_ne _ hc, qbody_ne _ hc, this]
theorem takeWhile_append_not {p : UInt8 → Bool} {q : List UInt8} (hq : ∀ c ∈ q, ¬ p c = true) : ∀ l : List UInt8, (l ++ q).takeWhile p = l.takeWhile p
  | [] => by
    cases q with
    | nil => rfl
    | cons b q => rw [List.nil_append, List.takeWhile_cons_of_neg (hq b List.mem_cons_self)]; rfl
  | a :: l => by
    rw [List.cons_append]
    by_cases h : p a = true
    · rw [List.takeWhile_cons_of_pos h, List.takeWhile_cons_of_pos h, takeWhile_append_not hq l]
    · rw [List.takeWhile_cons_of_neg h, List.takeWhile_cons_of_neg h]
theorem find_congr {α : Type} {p q : α → Bool} : ∀ {l : List α}, (∀ x ∈ l, p x = q x) → l.find? p = l.find? q
  | [], _ => rfl
  | a :: l, h => by
    rw [List.find?_cons, List.find?_cons, h a List.mem_cons_self, find_congr fun x hx => h x (List.mem_cons_of_mem _ hx)]
theorem signAt_append {q : List UInt8} (hq : blanks q) (c : UInt8) (r : List UInt8) : signAt (c :: r ++ q) = signAt (c :: r) := by
  unfold signAt
  refine find_congr fun w hw => ?_
  have hw2 : w.length ≤ 2 ∧ (w.length = 2 → ∃ a, w = [a, 62] ∨ w = [a, 61]) ∧ 1 ≤ w.length := by
    have key : ∀ w ∈ signs, w.length ≤ 2 ∧ (w.length = 2 → w[1]? = some 62 ∨ w[1]? = some 61) ∧ 1 ≤ w.length := by decide
    obtain ⟨h1, h2, h3⟩ := key w hw
    refine ⟨h1, fun hl => ?_, h3⟩
    match w, hl with
    | [a, b], _ =>
      rcases h2 rfl with h | h
      · simp at h; exact ⟨a, .inl (by rw [h])⟩
      · simp at h; exact ⟨a, .inr (by rw [h])⟩
  rcases Nat.lt_or_ge (c :: r).length w.length with hlt | hge
  · have h1 : w.length = 2 := by simp at hlt; omega
    have hr : r = [] := by cases r with
      | nil => rfl
      | cons a r => simp at hlt; omega
    subst hr
    obtain ⟨a, ha⟩ := hw2.2.1 h1
    cases q with
    | nil => rfl
    | cons b q =>
      have hb := blank_not (hq b List.mem_cons_self)
      rw [h1]
      rcases ha with rfl | rfl
      · simp [hb.2.2.2.2]
      · simp [hb.2.2.2.1]
  · rw [List.take_append_of_le_length hge]
theorem wordL_append {q : List UInt8} (hq : blanks q) : ∀ {l : List UInt8}, l ≠ [] → wordL (l ++ q) = wordL l
  | c :: r, _ => by
    have t1 := takeWhile_append_not (p := fun c => isW c.toNat) (fun c hc => (blank_not (hq c hc)).2.1) (c :: r)
    have t2 := takeWhile_append_not (p := fun c => isD c.toNat) (fun c hc => (blank_not (hq c hc)).2.2.1) (c :: r)
    have t3 := signAt_append hq c r
    have hh : (r ++ q).head? = some 39 ↔ r.head? = some 39 := by
      cases r with
      | cons a r => simp
      | nil =>
        cases q with
        | nil => simp
        | cons b q =>
          have := (blank_not (hq b List.mem_cons_self)).1
          simp [this]
    simp only [List.cons_append] at t1 t2 t3 ⊢
    simp only [wordL]
    rw [t1, t2, t3, qbody_append hq r]
    by_cases hx : c = 120 ∧ r.head? = some 39
    · rw [if_pos hx, if_pos ⟨hx.1, hh.2 hx.2⟩]
      cases r with
      | nil => cases hx.2
      | cons a r =>
        simp only [List.cons_append, List.drop_succ_cons, List.drop_zero]
        rw [qbody_append hq r]
    · rw [if_neg hx, if_neg (fun h => hx ⟨h.1, hh.1 h.2⟩)]

section
variable {p t q : List UInt8}
theorem drop_mid {j : Nat} (h : j ≤ t.length) : (p ++ t ++ q).drop (p.length + j) = t.drop j ++ q := by
  rw [List.append_assoc, ← List.drop_drop, List.drop_left, List.drop_append_of_le_length h]
theorem wordAt_mid (hq : blanks q) {j : Nat} (h : j < t.length) : wordAt (p ++ t ++ q) (p.length + j) = wordAt t j := by
  rw [wordAt_L, wordAt_L, drop_mid (by omega)]
  exact wordL_append hq (by
    intro e
    have := congrArg List.length e
    rw [List.length_drop, List.length_nil] at this
    omega)
theorem blanks_run {q : List UInt8} (hq : blanks q) : (q.takeWhile fun c => isB c.toNat) = q := takeWhile_all hq
/-- Where the next word begins: in the middle, or at the end. -/
theorem run_mid (hq : blanks q) {j : Nat} (h : j ≤ t.length) : runOf isB (p ++ t ++ q) (p.length + j) = if j + runOf isB t j < t.length then runOf isB t j else (t.length - j) + q.length := by
  unfold runOf
  rw [drop_mid h]
  have hl : (t.drop j).length = t.length - j := List.length_drop
  have hle : ((t.drop j).takeWhile fun c => isB c.toNat).length ≤ (t.drop j).length := List.Sublist.length_le (List.takeWhile_sublist _)
  generalize t.drop j = l at hl hle ⊢
  have key : ∀ l : List UInt8, ((l ++ q).takeWhile fun c => isB c.toNat) = if (l.takeWhile fun c => isB c.toNat).length < l.length then l.takeWhile fun c => isB c.toNat else l ++ q := by
    intro l
    induction l with
    | nil => simp [blanks_run hq]
    | cons a l ih =>
      rw [List.cons_append]
      by_cases ha : isB a.toNat = true
      · rw [List.takeWhile_cons_of_pos (p := fun c : UInt8 => isB c.toNat) ha, List.takeWhile_cons_of_pos (p := fun c : UInt8 => isB c.toNat) ha, ih]
        by_cases hc : (l.takeWhile fun c => isB c.toNat).length < l.length
        · rw [if_pos hc, if_pos (by simp; omega)]
        · rw [if_neg hc, if_neg (by simp; omega)]
      · rw [List.takeWhile_cons_of_neg (p := fun c : UInt8 => isB c.toNat) ha, List.takeWhile_cons_of_neg (p := fun c : UInt8 => isB c.toNat) ha, if_pos (by simp)]
  rw [key]
  by_cases hc : (l.takeWhile fun c => isB c.toNat).length < l.length
  · rw [if_pos hc, if_pos (by omega)]
  · rw [if_neg hc, if_neg (by omega), List.length_append, hl]

def moved (k : Nat) (w : W) : W := (w.1, w.2.1, w.2.2 + (k : Int))
theorem tk_mid (hq : blanks q) : ∀ (f f' j : Nat), j ≤ t.length → t.length - j < f → t.length - j < f' →
    tk (p ++ t ++ q) f' (p.length + j + runOf isB (p ++ t ++ q) (p.length + j)) = ((tk t f (j + runOf isB t j)).1.map (moved p.length), (tk t f (j + runOf isB t j)).2.map (p.length + ·)) := by
  intro f
  induction f with
  | zero => intro f' j h1 h2; omega
  | succ f ih =>
    intro f' j h1 h2 h3
    cases f' with
    | zero => omega
    | succ f' =>
    rw [run_mid hq h1]
    have hle := runOf_le isB t j h1
    have hlu : (p ++ t ++ q).length = p.length + t.length + q.length := by simp [Nat.add_assoc]
    by_cases hc : j + runOf isB t j < t.length
    · rw [if_pos hc]
      unfold tk
      rw [if_pos (by omega), if_pos hc, Nat.add_assoc, wordAt_mid hq hc]
      cases hw : wordAt t (j + runOf isB t j) with
      | none => rfl
      | some x =>
        obtain ⟨kd, w, n⟩ := x
        obtain ⟨l1, l2⟩ := wordAt_len hc hw
        simp only
        have h5 := ih f' (j + runOf isB t j + n) l2 (by omega) (by omega)
        rw [show p.length + (j + runOf isB t j) + n = p.length + (j + runOf isB t j + n) by omega, h5]
        simp only [List.map_cons, moved]
        congr 2
        congr 1
        congr 1
        omega
    · rw [if_neg hc]
      unfold tk
      rw [if_neg (by omega), if_neg hc]
      rfl
theorem run_pre {r : List UInt8} (hp : blanks p) : runOf isB (p ++ r) 0 = p.length + runOf isB (p ++ r) p.length := by
  unfold runOf
  rw [List.drop_zero, List.drop_left]
  induction p with
  | nil => simp
  | cons a p ih =>
    rw [List.cons_append, List.takeWhile_cons_of_pos (p := fun c : UInt8 => isB c.toNat) (hp a List.mem_cons_self), List.length_cons, List.length_cons, ih fun c hc => hp c (List.mem_cons_of_mem _ hc)]
    omega
theorem words_mid (hp : blanks p) (hq : blanks q) : wordsOf (p ++ t ++ q) = ((wordsOf t).1.map (moved p.length), (wordsOf t).2.map (p.length + ·)) := by
  unfold wordsOf
  rw [List.append_assoc, run_pre hp, ← List.append_assoc]
  have h := tk_mid (p := p) (t := t) hq (t.length + 1) ((p ++ t ++ q).length + 1) 0 (by omega) (by omega) (by simp; omega)
  simp only [Nat.zero_add, Nat.add_zero] at h
  exact h
theorem words_count (s : List UInt8) (hs : s.length ≤ 2000) : (wordsOf s).1.length ≤ s.length := by
  have hb := runOf_le isB s 0 (by omega)
  obtain ⟨_, _, _, _, h7⟩ := words_loop 3000 s hs (by omega) 3000 (s.length + 1) (runOf isB s 0) .snil St.empty [] (Sl.nil _ 3) (by omega) (by omega) (by omega) (by simp)
  unfold wordsOf
  simpa using h7

/-! ### LexBlanks -/
theorem lb_loop (R : Nat) (x y : AV) (k : Nat) (l m : List W) (st : St) (hx : Row 3 x (wsCells l)) (hy : Row 3 y (wsCells m)) (hl : l.length ≤ 1000000) (hlm : l.length = m.length) (hk : k ≤ 3)
    (h1 : ∀ i (h : i < l.length), (l[i]).1 = (m[i]'(hlm ▸ h)).1 ∧ (l[i]).2.1 = (m[i]'(hlm ▸ h)).2.1)
    (h2 : ∀ i (h : i + 1 < l.length), (m[i]'(by omega)).2.2 = (l[i]).2.2 + (k : Int) ∧ 0 ≤ (l[i]).2.2 ∧ (l[i]).2.2 ≤ 1000000) : ∀ (r i : Nat), i ≤ l.length → l.length - i < r → parchmentlaw11_LexBlanks_l1111111010 R x (k : Int) y r (i : Int) st = some (.inr st) := by
  intro r
  induction r with
  | zero => intro i h1 h2; omega
  | succ r ih =>
    intro i hi hr
    unfold parchmentlaw11_LexBlanks_l1111111010
    have hlen := lenOf_row hx (by omega)
    rw [wsCells_len, Nat.mul_div_cancel _ (by omega)] at hlen
    rw [hlen, Option.bind_some]
    by_cases hlt : i < l.length
    · rw [if_pos (by omega)]
      obtain ⟨r1, f1⟩ := wfields (st := st) hx hlt
      obtain ⟨r2, f2⟩ := wfields (st := st) hy (hlm ▸ hlt)
      obtain ⟨g1, g2⟩ := h1 i hlt
      rw [f1, Option.bind_some, shift0, Option.bind_some, load_one, Option.bind_some]
      simp only [avInt, if_true, Option.bind_some]
      rw [f2, Option.bind_some, shift0, Option.bind_some, load_one, Option.bind_some]
      simp only [avInt, if_true, Option.bind_some]
      rw [if_pos g1, shift1, Option.bind_some, load_one, Option.bind_some]
      simp only [avStr, Option.bind_some]
      rw [shift1, Option.bind_some, load_one, Option.bind_some]
      simp only [avStr, Option.bind_some]
      rw [if_pos g2, w1 (by omega)]
      by_cases hlast : i + 1 < l.length
      · obtain ⟨g3, g4, g5⟩ := h2 i hlast
        rw [if_pos (by omega), shift2, Option.bind_some, load_one, Option.bind_some]
        simp only [avInt, if_true, Option.bind_some]
        rw [shift2, Option.bind_some, load_one, Option.bind_some]
        simp only [avInt, if_true, Option.bind_some]
        rw [wrap64 (by omega) (by omega), if_pos g3]
        exact ih (i + 1) hlt (by omega)
      · rw [if_neg (by omega)]
        exact ih (i + 1) hlt (by omega)
    · rw [if_neg (by omega)]

theorem tk_at (s : List UInt8) : ∀ (f j : Nat), ∀ w ∈ (tk s f j).1, 0 ≤ w.2.2 ∧ w.2.2 ≤ (s.length : Int)
  | 0, _, w, h => by cases h
  | f + 1, j, w, h => by
    unfold tk at h
    split at h
    · split at h
      · cases h
      · rcases List.mem_cons.1 h with rfl | h
        · simp only; omega
        · exact tk_at s f _ w h
    · cases h

theorem lexBlanks_core (R : Nat) (s : List UInt8) (z : Int) (st : St) (hR : 3000 < R) (hs : s.length ≤ 600) : ∃ st',
   (Option.bind (lex_Words R s st) fun (x380, i381, i382, st384) =>
   Option.bind (subS [32, 10, 9, 32] 0 (andI .i64 z 3)) fun s386 =>
   Option.bind (catS s386 s) fun s388 =>
   Option.bind (subS [9, 10] 0 (IntKind.wrap .i64 (Int.tdiv (andI .i64 z 3) 2))) fun s390 =>
   Option.bind (catS s388 s390) fun s392 =>
   Option.bind (lex_Words R s392 st384) fun (x393, i394, i395, st397) =>
   Option.bind (parchmentlaw11_LexBlanks_j11111100 R x380 i382 x393 i395) fun b427 =>
   if b427 = true then
    some (false, st397)
   else
    Option.bind (parchmentlaw11_LexBlanks_l1111111010 R x380 (andI .i64 z 3) x393 R 0 st397) fun o => match o with
    | .inl (b534, st535) =>
     some (b534, st535)
    | .inr st536 =>
     some (true, st536)) = some (true, st') := by
  obtain ⟨k, hk, hz⟩ := and3 z
  obtain ⟨x, st1, h1, h2⟩ := words_eq R s st (by omega) (by omega)
  have hkd : IntKind.wrap .i64 (Int.tdiv (k : Int) 2) = ((k / 2 : Nat) : Int) := by
    rw [Int.tdiv_eq_ediv_of_nonneg (by omega), wrap64 (by omega) (by omega)]; omega
  have hp : blanks (([32, 10, 9, 32] : List UInt8).take k) := fun c hc => by
    have := List.mem_of_mem_take hc
    revert this
    have key : ∀ c ∈ ([32, 10, 9, 32] : List UInt8), isB c.toNat = true := by decide
    exact key c
  have hq : blanks (([9, 10] : List UInt8).take (k / 2)) := fun c hc => by
    have := List.mem_of_mem_take hc
    revert this
    have key : ∀ c ∈ ([9, 10] : List UInt8), isB c.toNat = true := by decide
    exact key c
  have hpl : (([32, 10, 9, 32] : List UInt8).take k).length = k := by simp; omega
  have hql : (([9, 10] : List UInt8).take (k / 2)).length ≤ 1 := by simp; omega
  have hmid := words_mid (t := s) hp hq
  rw [hpl] at hmid
  have e1 : subS [32, 10, 9, 32] 0 (k : Int) = some (([32, 10, 9, 32] : List UInt8).take k) := by
    rw [show (0 : Int) = ((0 : Nat) : Int) from rfl, subS_nat (by omega) (by simp; omega), List.drop_zero]
  have e2 : subS [9, 10] 0 ((k / 2 : Nat) : Int) = some (([9, 10] : List UInt8).take (k / 2)) := by
    rw [show (0 : Int) = ((0 : Nat) : Int) from rfl, subS_nat (by omega) (by simp; omega), List.drop_zero]
  rw [h1, hz, hkd, Option.bind_some]
  have hu : ((([32, 10, 9, 32] : List UInt8).take k) ++ s ++ (([9, 10] : List UInt8).take (k / 2))).length ≤ 700 := by
    rw [List.length_append, List.length_append, hpl]; omega
  have tail : ∀ (st1 : St), ∃ y st2, lex_Words R ((([32, 10, 9, 32] : List UInt8).take k) ++ s ++ (([9, 10] : List UInt8).take (k / 2))) st1 = some (match (wordsOf s).2 with
      | some e => (.snil, ((k + e : Nat) : Int), 110, st2)
      | none => (y, 0, 0, st2)) ∧ ((wordsOf s).2 = none → Row 3 y (wsCells ((wordsOf s).1.map (moved k) ++ [(0, [], (((([32, 10, 9, 32] : List UInt8).take k) ++ s ++ (([9, 10] : List UInt8).take (k / 2))).length : Int))]))) := by
    intro st1
    obtain ⟨y, st2, h3, h4⟩ := words_eq R ((([32, 10, 9, 32] : List UInt8).take k) ++ s ++ (([9, 10] : List UInt8).take (k / 2))) st1 (by omega) (by omega)
    rw [hmid] at h3 h4
    refine ⟨y, st2, h3.trans ?_, fun h => (h4 ?_).row⟩
    · cases (wordsOf s).2 <;> rfl
    · show Option.map _ (wordsOf s).2 = none
      rw [h]; rfl
  have cats : ∀ {α : Type} (f : List UInt8 → Option α), (Option.bind (subS [32, 10, 9, 32] 0 (k : Int)) fun s386 => Option.bind (catS s386 s) fun s388 => Option.bind (subS [9, 10] 0 ((k / 2 : Nat) : Int)) fun s390 => Option.bind (catS s388 s390) f) = f ((([32, 10, 9, 32] : List UInt8).take k) ++ s ++ (([9, 10] : List UInt8).take (k / 2))) := by
    intro α f
    rw [e1, Option.bind_some, catS_le (by rw [hpl]; omega), Option.bind_some, e2, Option.bind_some, catS_le (by rw [List.length_append, hpl]; omega), Option.bind_some]
  cases he : (wordsOf s).2 with
  | some e =>
    simp only
    obtain ⟨y, st2, h3, h4⟩ := tail st1
    rw [cats, h3, he, Option.bind_some]
    simp only [parchmentlaw11_LexBlanks_j11111100, xawake, Option.bind_some, lenOf, if_true, Bool.false_eq_true, if_false]
    rw [show (0 : Int) = ((0 : Nat) : Int) from rfl, lb_loop R .snil .snil k [] [] st2 (.inl ⟨rfl, rfl⟩) (.inl ⟨rfl, rfl⟩) (by simp) rfl hk (fun i h => absurd h (by simp)) (fun i h => absurd h (by simp)) R 0 (by simp) (by simp; omega)]
    exact ⟨st2, rfl⟩
  | none =>
    simp only
    obtain ⟨y, st2, h3, h4⟩ := tail st1
    rw [cats, h3, he, Option.bind_some]
    have r1 := (h2 he).row
    have r2 := h4 he
    have l1 := lenOf_row r1 (by omega)
    have l2 := lenOf_row r2 (by omega)
    rw [wsCells_len, Nat.mul_div_cancel _ (by omega)] at l1 l2
    have hcount := words_count s (by omega)
    simp only [parchmentlaw11_LexBlanks_j11111100, xawake, Option.bind_some, l1, l2, if_true, Bool.false_eq_true, if_false]
    rw [if_pos (by simp), Option.bind_some, if_neg (by simp)]
    rw [show (0 : Int) = ((0 : Nat) : Int) from rfl, lb_loop R x y k _ _ st2 r1 r2 (by simp; omega) (by simp) hk ?_ ?_ R 0 (by simp) (by simp; omega)]
    · exact ⟨st2, rfl⟩
    · intro i h
      rcases Nat.lt_or_ge i (wordsOf s).1.length with hi | hi
      · rw [List.getElem_append_left hi, List.getElem_append_left (by simpa using hi), List.getElem_map]
        exact ⟨rfl, rfl⟩
      · have : i = (wordsOf s).1.length := by simp at h; omega
        subst this
        simp
    · intro i h
      have hi : i < (wordsOf s).1.length := by simp at h; omega
      rw [List.getElem_append_left hi, List.getElem_append_left (by simpa using hi), List.getElem_map]
      have := tk_at s (s.length + 1) (runOf isB s 0) _ (List.getElem_mem (l := (wordsOf s).1) hi)
      exact ⟨rfl, this.1, by omega⟩
theorem lexBlanks_true (R : Nat) (s : List UInt8) (z : Int) (st : St) (hR : 3000 < R) (_ : (Lit.int .i64 z).wf = true) : ∃ st', parchmentlaw11_LexBlanks R s z st = some (true, st') := by
  unfold parchmentlaw11_LexBlanks
  by_cases h : s.length > 600
  · rw [if_pos (by omega), show (0 : Int) = ((0 : Nat) : Int) from rfl, show (600 : Int) = ((600 : Nat) : Int) from rfl, subS_nat (by omega) (by omega), Option.bind_some]
    exact lexBlanks_core R _ z st hR (by simp; omega)
  · rw [if_neg (by omega)]
    exact lexBlanks_core R s z st hR (by omega)
end
end
end Go.Proofs.Ytlmahcmmpfdglaa
