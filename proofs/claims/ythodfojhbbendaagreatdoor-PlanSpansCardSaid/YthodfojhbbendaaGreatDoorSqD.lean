/- Keys of values, and values as the document has them. -/
import Derived.Test.YthodfojhbbendaaGreatDoorSqC
set_option linter.all false
set_option maxRecDepth 100000
set_option maxHeartbeats 2000000
namespace Go.Proofs.YthodfojhbbendaaGreatDoor
open Go Go.Ev
noncomputable section
attribute [local congr] bindC iteC
instance t33 : LdTy C0.P 33 true 2 := ⟨by kernel_rfl, by kernel_rfl⟩
instance t46' : LdTy C0.P 46 false 1 := ⟨by kernel_rfl, by kernel_rfl⟩
instance t48 : LdTy C0.P 48 true 6 := ⟨by kernel_rfl, by kernel_rfl⟩
instance s23 : SlTy C0.P 23 6 := ⟨⟨25, 88, .agg [.int .i64 0, .bool false, .int .i64 0, .str [], .snil, .snil], by kernel_rfl, by kernel_rfl, by kernel_rfl, by kernel_rfl, by omega, by omega, by kernel_rfl, by kernel_rfl⟩⟩
instance s46 : SlTy C0.P 46 6 := ⟨⟨48, 88, .agg [.int .i64 0, .bool false, .int .i64 0, .str [], .snil, .snil], by kernel_rfl, by kernel_rfl, by kernel_rfl, by kernel_rfl, by omega, by omega, by kernel_rfl, by kernel_rfl⟩⟩
theorem deSS {a b : List UInt8} : de_As_sZ (.agg [.str a, .str b]) = .some (a, b) := rfl
/-! ### Keys, part by part -/
def optK (ns : List (List UInt8)) (i : Nat) : List UInt8 := match ns[i]? with
  | .some m => ktext m
  | .none => []
theorem keyL_take : ∀ (l : List Vt) (ns : List (List UInt8)) (i : Nat) (h : i < l.length), keyL (l.take (i + 1)) ns = keyL (l.take i) ns ++ ([1] ++ (optK ns i ++ keyV l[i]))
  | [], _, _, h => absurd h (Nat.not_lt_zero _)
  | v :: l, [], 0, _ => by simp [keyL, optK]
  | v :: l, [], i + 1, h => by
    have := keyL_take l [] i (by simpa using h)
    simp only [List.take_succ_cons, keyL, List.getElem_cons_succ]
    rw [this]
    simp [optK]
  | v :: l, m :: ns, 0, _ => by simp [keyL, optK]
  | v :: l, m :: ns, i + 1, h => by
    have := keyL_take l ns i (by simpa using h)
    simp only [List.take_succ_cons, keyL, List.getElem_cons_succ]
    rw [this]
    simp [optK]
theorem keyL_len {B : Nat} : ∀ (l : List Vt) (ns : List (List UInt8)), (∀ p ∈ l, (keyV p).length ≤ B) → (∀ m ∈ ns, m.length ≤ 16) → (keyL l ns).length ≤ l.length * (B + 40)
  | [], _, _, _ => by simp [keyL]
  | v :: l, [], h, h2 => by
    have h1 := h v List.mem_cons_self
    have := keyL_len l [] (fun p hp => h p (List.mem_cons_of_mem _ hp)) h2
    simp only [keyL, List.length_append, List.length_cons, List.length_nil, Nat.succ_mul]
    omega
  | v :: l, m :: ns, h, h2 => by
    have h1 := h v List.mem_cons_self
    have := keyL_len l ns (fun p hp => h p (List.mem_cons_of_mem _ hp)) (fun m hm => h2 m (List.mem_cons_of_mem _ hm))
    have hm := h2 m List.mem_cons_self
    have hk := ktext_len m
    simp only [keyL, List.length_append, List.length_cons, List.length_nil, Nat.succ_mul]
    omega
theorem optK_len {ns : List (List UInt8)} (h2 : ∀ m ∈ ns, m.length ≤ 16) (i : Nat) : (optK ns i).length ≤ 34 := by
  unfold optK
  split
  · rename_i m e
    have := h2 m (List.mem_of_getElem? e)
    have := ktext_len m
    omega
  · exact Nat.zero_le _
theorem keyV_len : ∀ (d : Nat) (v : Vt), dp d v → okC d v → (keyV v).length ≤ bd d
  | d, .mk k b n s parts names, hd, ho => by
    have hb := bd_ge d
    have hs := (dp_base hd).1.1
    have hk := ktext_len s
    have hnm := (okC_1 ho).2.2.2.1
    have hL : (keyL parts names).length + 4 ≤ bd d := by
      cases d with
      | zero =>
        obtain ⟨_, rfl⟩ := hd
        simp only [keyL, List.length_nil]; omega
      | succ d =>
        obtain ⟨_, hl, hd⟩ := hd
        have := keyL_len (B := bd d) parts names (fun p hp => keyV_len d p (hd p hp) (ho.2 p hp)) hnm
        have h4 : parts.length * (bd d + 40) ≤ 4 * (bd d + 40) := Nat.mul_le_mul_right _ hl
        have := bd_ge d
        rw [bd_succ]
        omega
    simp only [keyV]
    rw [List.length_append]
    simp only [List.length_cons, List.length_nil]
    repeat' split
    all_goals (try simp only [List.length_append, List.length_cons, List.length_nil, tb_len])
    all_goals omega
/-! ### The program's keys -/
def PF56 (R : Rc56) (o : Nat → Nat → Option AV) (B : Nat) (parts : List Vt) : Prop := ∀ k b n s pp nn, Vt.mk k b n s pp nn ∈ parts → (keyV (.mk k b n s pp nn)).length ≤ B ∧ ∀ (px nx : AV) (st : St) (φ : List UInt8 × St → Prop), RV (RN o) 23 25 o (.mk k b n s pp nn) [.int .i64 k, .bool b, .int .i64 n, .str s, px, nx] → st.old = o → (∀ st1, KN st st1 → φ (keyV (.mk k b n s pp nn), st1)) → T φ (R.f56 k b n s px nx st)
theorem ofC_s {R : Rc56} {o : Nat → Nat → Option AV} (hO : isNum (o 0 0) = true) {k n : Int} {b : Bool} {s : List UInt8} {parts : List Vt} {names : List (List UInt8)} {px nx : AV} {B : Nat} (hB : B ≤ 10000000) (hN : RN o nx names) (hnm : ∀ m ∈ names, m.length ≤ 16) (hP : RPs (RN o) 23 25 o parts px 0) (hf : PF56 R o B parts)
    {id : Nat} {st1 : St} (g1 : st1.objs.get id = .some (.cells 25 true [.int .i64 k, .bool b, .int .i64 n, .str s, px, nx])) (o1 : st1.old = o) (hid : id < st1.next) {i : Nat} (hlt : i < parts.length) {t : List UInt8} (ht : t.length ≤ 90000000) {len : Int} {χ : List UInt8 × St → Prop} (h : ∀ st', KN st1 st' → χ (t ++ ([1] ++ (optK names i ++ keyV parts[i])), st')) :
    T χ (keys_Of_c11010111111100100110 R (.ref id 0) t px len (i : Int) st1) := by
  unfold keys_Of_c11010111111100100110
  obtain ⟨a, cs, e1, e2, hrv⟩ := RPs_get hP i hlt
  rw [Nat.zero_add] at e1
  rcases hpi : parts[i] with ⟨k', b', n', s', pp, nn⟩
  rw [hpi] at hrv h
  have hmem : Vt.mk k' b' n' s' pp nn ∈ parts := hpi ▸ List.getElem_mem hlt
  obtain ⟨hkl, hf⟩ := hf _ _ _ _ _ _ hmem
  have hrv' := hrv
  simp only [RV] at hrv
  obtain ⟨px', nx', rfl, hp', hN', lp', hP'⟩ := hrv
  have hn' := hN'.one
  refine T.step e1 ?_
  refine T.step (e2 st1 o1) ?_
  repeat (refine T.step (by simp (disch := (first | ((repeat (first | rw [nxPush] | rw [nxPut] | rw [List.length_cons] | rw [List.length_nil])) <;> omega) | (refine (?_ : _ ∧ True).1; constructor; simp only [oneB_, *]; exact True.intro))) only [allS]; try exact rfl) ?_)
  have ln := hN.len
  have S1 : KN st1 ((st1.push (.cells 25 true [.int .i64 0, .bool false, .int .i64 0, .str [], .snil, .snil])).put st1.next (.cells 25 true [.int .i64 k', .bool b', .int .i64 n', .str s', px', nx'])) := KN.loc (KN.psh KN.refl) (Nat.le_refl _)
  refine T.step (catS_le (by simp only [List.length_cons, List.length_nil]; omega)) ?_
  have hend : ∀ (q : List UInt8) (st2 : St), KN ((st1.push (.cells 25 true [.int .i64 0, .bool false, .int .i64 0, .str [], .snil, .snil])).put st1.next (.cells 25 true [.int .i64 k', .bool b', .int .i64 n', .str s', px', nx'])) st2 → q = t ++ ([1] ++ optK names i) → T χ (Option.bind (loadAt C0.P st2 25 (.ref st1.next 0)) fun x1597 =>
      Option.bind (de_Ai64_b_i64_s_a_aZ x1597) fun (i1598, b1599, i1600, s1601, x1602, x1603) =>
      Option.bind (R.f56 i1598 b1599 i1600 s1601 x1602 x1603 st2) fun (s1605, st1607) =>
      Option.bind (catS q s1605) fun s1609 => .some (s1609, st1607)) := fun q st2 k2 hq => by
    have g2 : st2.objs.get st1.next = .some (.cells 25 true [.int .i64 k', .bool b', .int .i64 n', .str s', px', nx']) := (k2.2.1 _ (Nat.lt_succ_self _)).trans (get_put _ _ _)
    repeat (refine T.step (by simp (disch := (first | ((repeat (first | rw [nxPush] | rw [nxPut] | rw [List.length_cons] | rw [List.length_nil])) <;> omega) | (refine (?_ : _ ∧ True).1; constructor; simp only [oneB_, *]; exact True.intro))) only [allS, g2]; try exact rfl) ?_)
    have o2 : st2.old = o := k2.2.2.trans o1
    have hq' : q.length ≤ 90000100 := by
      have := optK_len hnm i
      rw [hq]
      simp only [List.length_append, List.length_cons, List.length_nil]; omega
    refine T.bind (hf px' nx' st2 _ hrv' o2 fun st3 k3 => ?_)
    refine T.step (catS_le (by omega)) ?_
    have e : q ++ keyV (.mk k' b' n' s' pp nn) = t ++ ([1] ++ (optK names i ++ keyV (.mk k' b' n' s' pp nn))) := by rw [hq]; simp only [List.append_assoc]
    rw [e]
    exact T.some (h _ ((S1.trans k2).trans k3))
  unfold keys_Of_j1101011111110010011001100 keys_Of_c1101011111110010011001101
  refine T.bind ?_
  repeat (refine T.step (by simp (disch := (first | ((repeat (first | rw [nxPush] | rw [nxPut] | rw [List.length_cons] | rw [List.length_nil])) <;> omega) | (refine (?_ : _ ∧ True).1; constructor; simp only [oneB_, *]; exact True.intro))) only [allS, g1, ln]; try exact rfl) ?_)
  refine T.ite (fun hin => T.some ?_) (fun hin => T.some ?_)
  · refine T.bind ?_
    refine T.ifT rfl ?_
    repeat (refine T.step (by simp (disch := (first | ((repeat (first | rw [nxPush] | rw [nxPut] | rw [List.length_cons] | rw [List.length_nil])) <;> omega) | (refine (?_ : _ ∧ True).1; constructor; simp only [oneB_, *]; exact True.intro))) only [allS, g1]; try exact rfl) ?_)
    have hin' : i < names.length := by omega
    obtain ⟨a', q1, q2⟩ := hN.get i hin'
    refine T.step q1 ?_
    refine T.step (q2 _ (by simp only [oldPush, oldPut]; exact o1)) ?_
    refine T.step avS ?_
    have hm16 := hnm _ (List.getElem_mem hin')
    have hk := ktext_len names[i]
    refine T.bind (text_s ⟨by simp only [oldPush, oldPut]; rw [o1]; exact hO⟩ (by omega) ?_)
    refine T.step (catS_le (by simp only [List.length_append, List.length_cons, List.length_nil]; omega)) ?_
    refine T.some (hend _ _ KN.refl ?_)
    have : optK names i = ktext names[i] := by unfold optK; rw [List.getElem?_eq_getElem hin']
    rw [this, List.append_assoc]
  · refine T.bind ?_
    refine T.ifF (by decide) ?_
    refine T.some (hend _ _ KN.refl ?_)
    have : optK names i = [] := by unfold optK; rw [List.getElem?_eq_none (by omega)]
    rw [this, List.append_nil]
theorem ofL_s {R : Rc56} {o : Nat → Nat → Option AV} (hO : isNum (o 0 0) = true) {k n : Int} {b : Bool} {s : List UInt8} {parts : List Vt} {names : List (List UInt8)} {px nx : AV} {B : Nat} (hB : B ≤ 10000000) (hl : parts.length ≤ 4) (hN : RN o nx names) (hnm : ∀ m ∈ names, m.length ≤ 16) (hP : RPs (RN o) 23 25 o parts px 0) (hf : PF56 R o B parts)
    {st0 : St} {id : Nat} (hid : id < st0.next) (hg : st0.objs.get id = .some (.cells 25 true [.int .i64 k, .bool b, .int .i64 n, .str s, px, nx])) (ho : st0.old = o) {q : List UInt8} (hq : q.length ≤ 100) {ψ : List UInt8 × St → Prop} (h : ∀ st1, KN st0 st1 → ψ (q ++ keyL parts names, st1)) :
    ∀ (r i : Nat) (st1 : St), i ≤ parts.length → parts.length - i < r → KN st0 st1 → T ψ (keys_Of_l1101011111110010 R (.ref id 0) px (parts.length : Int) r (q ++ keyL (parts.take i) names) (i : Int) st1)
  | 0, _, _, _, h, _ => absurd h (Nat.not_lt_zero _)
  | r + 1, i, st1, hi, hr, K1 => by
    unfold keys_Of_l1101011111110010
    have hiB := keyL_len (B := B) (parts.take i) names (fun p hp => by
      obtain ⟨k', b', n', s', pp, nn⟩ := p
      exact (hf _ _ _ _ _ _ (List.mem_of_mem_take hp)).1) hnm
    have h4 : (parts.take i).length * (B + 40) ≤ 4 * (B + 40) := Nat.mul_le_mul_right _ (by rw [List.length_take]; omega)
    by_cases hlt : i < parts.length
    · refine T.ifT (by omega) ?_
      refine T.bind (ofC_s hO hB hN hnm hP hf ((K1.2.1 _ hid).trans hg) (K1.2.2.trans ho) (Nat.lt_of_lt_of_le hid K1.1) hlt (by rw [List.length_append]; omega) fun st2 k2 => ?_)
      rw [wrapS (by omega), List.append_assoc, ← keyL_take parts names i hlt]
      exact ofL_s hO hB hl hN hnm hP hf hid hg ho hq h r (i + 1) st2 hlt (by omega) (K1.trans k2)
    · refine T.ifF (by omega) ?_
      rw [List.take_of_length_le (by omega)]
      exact T.some (h st1 K1)
theorem of_1 {R : Rc56} (hR : 18446744073709551616 ≤ R.n) {o : Nat → Nat → Option AV} (hO : isNum (o 0 0) = true) {k n : Int} {b : Bool} {s : List UInt8} {parts : List Vt} {names : List (List UInt8)} {px nx : AV} {B : Nat} (hB : B ≤ 10000000) (hl : parts.length ≤ 4) (hs : s.length ≤ 1100) (hnm : ∀ m ∈ names, m.length ≤ 16) (hrv : RV (RN o) 23 25 o (.mk k b n s parts names) [.int .i64 k, .bool b, .int .i64 n, .str s, px, nx]) (hf : PF56 R o B parts)
    {st : St} (ho : st.old = o) {φ : List UInt8 × St → Prop} (h : ∀ st1, KN st st1 → φ (keyV (.mk k b n s parts names), st1)) : T φ (keys_Of R k b n s px nx st) := by
  simp only [RV] at hrv
  obtain ⟨px', nx', e, hp, hN, lp, hP⟩ := hrv
  simp only [List.cons.injEq, true_and, and_true] at e
  obtain ⟨rfl, rfl⟩ := e
  have hn := hN.one
  have hkt := ktext_len s
  unfold keys_Of
  refine T.step (boxV hp hn) ?_
  have K1 : KN st (st.push (.cells 25 true [.int .i64 k, .bool b, .int .i64 n, .str s, px, nx])) := KN.refl.psh
  repeat (refine T.step (by simp (disch := (first | ((repeat (first | rw [nxPush] | rw [nxPut] | rw [List.length_cons] | rw [List.length_nil])) <;> omega) | (refine (?_ : _ ∧ True).1; constructor; simp only [oneB_, *]; exact True.intro))) only [allS]; try exact rfl) ?_)
  rw [wrapK]
  refine T.step (byte1 rfl) ?_
  refine T.step bstr1 ?_
  have K2 : KN st ((st.push (.cells 25 true [.int .i64 k, .bool b, .int .i64 n, .str s, px, nx])).push (.tip 1)) := K1.psh
  have g2 : ((st.push (.cells 25 true [.int .i64 k, .bool b, .int .i64 n, .str s, px, nx])).push (.tip 1)).objs.get st.next = .some (.cells 25 true [.int .i64 k, .bool b, .int .i64 n, .str s, px, nx]) := (get_push_ne _ (Nat.ne_of_lt (Nat.lt_succ_self _))).trans (get_push _ _)
  have o2 : ((st.push (.cells 25 true [.int .i64 k, .bool b, .int .i64 n, .str s, px, nx])).push (.tip 1)).old = o := ho
  generalize hst2 : (st.push (.cells 25 true [.int .i64 k, .bool b, .int .i64 n, .str s, px, nx])).push (.tip 1) = st2 at K2 g2 o2 ⊢
  have hid : st.next < st2.next := by rw [← hst2]; simp only [nxPush]; omega
  repeat (refine T.step (by simp (disch := (first | ((repeat (first | rw [nxPush] | rw [nxPut] | rw [List.length_cons] | rw [List.length_nil])) <;> omega) | (refine (?_ : _ ∧ True).1; constructor; simp only [oneB_, *]; exact True.intro))) only [allS, g2]; try exact rfl) ?_)
  simp only [keyV] at h
  unfold keys_Of_j11010111100 keys_Of_c11010111101 keys_Of_j1101011111100 keys_Of_c1101011111101 keys_Of_c110101111111001
  refine T.ite (fun h1 => ?_) (fun h1 => T.ite (fun h2 => ?_) (fun h2 => ?_))
  · repeat (refine T.step (by simp (disch := (first | ((repeat (first | rw [nxPush] | rw [nxPut] | rw [List.length_cons] | rw [List.length_nil])) <;> omega) | (refine (?_ : _ ∧ True).1; constructor; simp only [oneB_, *]; exact True.intro))) only [allS, g2]; try exact rfl) ?_)
    rw [if_pos h1] at h
    refine T.ite (fun hb => ?_) (fun hb => ?_)
    · refine T.step (catS_le (by simp)) ?_
      rw [if_pos hb] at h
      exact T.some (h _ K2)
    · refine T.step (catS_le (by simp)) ?_
      rw [if_neg hb] at h
      exact T.some (h _ K2)
  · repeat (refine T.step (by simp (disch := (first | ((repeat (first | rw [nxPush] | rw [nxPut] | rw [List.length_cons] | rw [List.length_nil])) <;> omega) | (refine (?_ : _ ∧ True).1; constructor; simp only [oneB_, *]; exact True.intro))) only [allS, g2]; try exact rfl) ?_)
    rw [if_neg h1, if_pos h2] at h
    rw [plN_xor]
    refine T.bind (number_s (by omega) fun st3 k3 => ?_)
    refine T.step (catS_le (by rw [tb_len]; simp)) ?_
    exact T.some (h _ (K2.trans k3))
  · rw [if_neg h1, if_neg h2] at h
    have htext : (k = 3 ∨ k = 4) → T φ (Option.bind (shift (.ref st.next 0) 3) fun x1401 =>
        Option.bind (loadAt C0.P st2 9 x1401) fun x1403 =>
        Option.bind (avStr x1403) fun s1404 =>
        Option.bind (keys_text R.n s1404 st2) fun (s1406, st1408) =>
        Option.bind (catS [kb k] s1406) fun s1410 => .some (s1410, st1408)) := fun hc => by
      repeat (refine T.step (by simp (disch := (first | ((repeat (first | rw [nxPush] | rw [nxPut] | rw [List.length_cons] | rw [List.length_nil])) <;> omega) | (refine (?_ : _ ∧ True).1; constructor; simp only [oneB_, *]; exact True.intro))) only [allS, g2]; try exact rfl) ?_)
      refine T.bind (text_s ⟨by rw [o2]; exact hO⟩ (by omega) ?_)
      refine T.step (catS_le (by simp only [List.length_cons, List.length_nil]; omega)) ?_
      refine T.some ?_
      rcases hc with hc | hc
      · rw [if_pos hc] at h; exact h _ K2
      · rw [if_neg (by omega), if_pos hc] at h; exact h _ K2
    have hmany : (k = 5 ∨ k = 6) → T φ (Option.bind (shift (.ref st.next 0) 4) fun x1992 =>
        Option.bind (loadAt C0.P st2 23 x1992) fun x1994 =>
        Option.bind (lenOf x1994) fun n1996 =>
        Option.bind (Option.bind (keys_Of_l1101011111110010 R (.ref st.next 0) x1994 (n1996 : Int) R.n [kb k] 0 st2) fun (s2183, st2184) => .some (s2183, st2184)) fun (s2186, st2187) =>
        Option.bind (catS s2186 [0]) fun s2189 => .some (s2189, st2187)) := fun hc => by
      repeat (refine T.step (by simp (disch := (first | ((repeat (first | rw [nxPush] | rw [nxPut] | rw [List.length_cons] | rw [List.length_nil])) <;> omega) | (refine (?_ : _ ∧ True).1; constructor; simp only [oneB_, *]; exact True.intro))) only [allS, g2, lp]; try exact rfl) ?_)
      have hL : (keyL parts names).length ≤ 4 * (B + 40) := by
        have := keyL_len (B := B) parts names (fun p hp => by
          obtain ⟨k', b', n', s', pp, nn⟩ := p
          exact (hf _ _ _ _ _ _ hp).1) hnm
        have h4 : parts.length * (B + 40) ≤ 4 * (B + 40) := Nat.mul_le_mul_right _ hl
        omega
      refine T.bind ?_
      refine T.bind ?_
      have := ofL_s (R := R) hO hB hl hN hnm hP hf (st0 := st2) hid g2 o2 (q := [kb k]) (by simp) (ψ := fun a => T (fun a => T φ (Option.bind (catS a.1 [0]) fun s2189 => .some (s2189, a.2))) (.some (a.1, a.2))) (fun st3 k3 => ?_) R.n 0 st2 (Nat.zero_le _) (by omega) KN.refl
      · simp only [List.take_zero, keyL, List.append_nil] at this
        exact this
      · refine T.some ?_
        refine T.step (catS_le (by simp only [List.length_append, List.length_cons, List.length_nil]; omega)) ?_
        refine T.some ?_
        rw [List.append_assoc]
        rcases hc with hc | hc
        · rw [if_neg (by omega), if_neg (by omega), if_pos hc] at h; exact h _ (K2.trans k3)
        · rw [if_neg (by omega), if_neg (by omega), if_neg (by omega), if_pos hc] at h; exact h _ (K2.trans k3)
    refine T.bind ?_
    refine T.ite (fun h3 => T.some ?_) (fun h3 => T.some ?_)
    · refine T.bind ?_
      refine T.ifT rfl (T.some ?_)
      exact T.ifT rfl (htext (.inl h3))
    · refine T.bind ?_
      refine T.ifF (by decide) ?_
      refine T.ite (fun h4 => T.some ?_) (fun h4 => T.some ?_)
      · exact T.ifT rfl (htext (.inr h4))
      · refine T.ifF (by decide) ?_
        refine T.bind ?_
        refine T.ite (fun h5 => T.some ?_) (fun h5 => T.some ?_)
        · refine T.bind ?_
          refine T.ifT rfl (T.some ?_)
          refine T.ifT rfl ?_
          exact hmany (.inl h5)
        · refine T.bind ?_
          refine T.ifF (by decide) ?_
          refine T.ite (fun h6 => T.some ?_) (fun h6 => T.some ?_)
          · refine T.ifT rfl ?_
            exact hmany (.inr h6)
          · refine T.ifF (by decide) ?_
            rw [if_neg h3, if_neg h4, if_neg h5, if_neg h6, List.append_nil] at h
            exact T.some (h _ K2)
theorem of_s {Rn : Nat} (hR : 18446744073709551616 ≤ Rn) {o : Nat → Nat → Option AV} (hO : isNum (o 0 0) = true) : ∀ (d m : Nat) (k : Int) (b : Bool) (n : Int) (s : List UInt8) (parts : List Vt) (names : List (List UInt8)) (px nx : AV) (st : St) (φ : List UInt8 × St → Prop), d ≤ m → d ≤ 3 → dp d (.mk k b n s parts names) → okC d (.mk k b n s parts names) → RV (RN o) 23 25 o (.mk k b n s parts names) [.int .i64 k, .bool b, .int .i64 n, .str s, px, nx] → st.old = o →
    (∀ st1, KN st st1 → φ (keyV (.mk k b n s parts names), st1)) → T φ (keys_Of (rc56 Rn m) k b n s px nx st)
  | 0, m, k, b, n, s, parts, names, px, nx, st, φ, hm, hd3, hdp, hok, hrv, ho, h => by
    obtain ⟨hB, rfl⟩ := hdp
    exact of_1 (B := 0) (by rw [rc56_n]; exact hR) hO (by decide) (Nat.zero_le _) hB.1 hok.2.2.2.1 hrv (fun k b n s pp nn hp => absurd hp (by simp)) ho h
  | d + 1, 0, k, b, n, s, parts, names, px, nx, st, φ, hm, hd3, hdp, hok, hrv, ho, h => absurd hm (by omega)
  | d + 1, m + 1, k, b, n, s, parts, names, px, nx, st, φ, hm, hd3, hdp, hok, hrv, ho, h => by
    obtain ⟨hB, hl, hd⟩ := hdp
    have b3 : bd d ≤ 400000 := by
      have : d = 0 ∨ d = 1 ∨ d = 2 := by omega
      rcases this with rfl | rfl | rfl <;> decide
    exact of_1 (B := bd d) (by rw [rc56_n]; exact hR) hO (by omega) hl hB.1 hok.1.2.2.2.1 hrv (fun k b n s pp nn hp => ⟨keyV_len d _ (hd _ hp) (hok.2 _ hp), fun px nx st φ hrv ho h => of_s hR hO d m k b n s pp nn px nx st φ (by omega) (by omega) (hd _ hp) (hok.2 _ hp) hrv ho h⟩) ho h
end
end Go.Proofs.YthodfojhbbendaaGreatDoor
