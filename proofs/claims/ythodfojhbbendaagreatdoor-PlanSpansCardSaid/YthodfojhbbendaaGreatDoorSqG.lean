/- Spans of keys; the order of values. -/
import Derived.Test.YthodfojhbbendaaGreatDoorSqF
set_option linter.all false
set_option maxRecDepth 100000
set_option maxHeartbeats 2000000
namespace Go.Proofs.YthodfojhbbendaaGreatDoor
open Go Go.Ev
noncomputable section
attribute [local congr] bindC iteC
theorem beq_cells {k n : Int} {b : Bool} {s : List UInt8} {px nx : AV} (hp : AV.beq px px = true) (hn : AV.beq nx nx = true) : AV.beq (.agg [.int .i64 k, .bool b, .int .i64 n, .str s, px, nx]) (.agg [.int .i64 k, .bool b, .int .i64 n, .str s, px, nx]) = true := by
  show AV.beqs [.int .i64 k, .bool b, .int .i64 n, .str s, px, nx] [.int .i64 k, .bool b, .int .i64 n, .str s, px, nx] = true
  refine beqs_all fun x hx => ?_
  simp only [List.mem_cons, List.not_mem_nil, or_false] at hx
  rcases hx with rfl | rfl | rfl | rfl | rfl | rfl <;> first | exact beq_int _ _ | exact beq_str _ | exact beq_bool _ | assumption
/-- A value that may be, in cells. -/
structure Vc (o : Nat → Nat → Option AV) (k : Int) (b : Bool) (n : Int) (s : List UInt8) (parts : List Vt) (names : List (List UInt8)) (px nx : AV) : Prop where
  dp : dp 3 (.mk k b n s parts names)
  ok : okC 3 (.mk k b n s parts names)
  rv : RV (RN o) 23 25 o (.mk k b n s parts names) [.int .i64 k, .bool b, .int .i64 n, .str s, px, nx]
  one : px.one = true ∧ nx.one = true
  beq : AV.beq px px = true ∧ AV.beq nx nx = true
section
variable {R : Nat} (hR : 18446744073709551616 ≤ R) {o : Nat → Nat → Option AV} (hO : isNum (o 0 0) = true) {k n : Int} {b : Bool} {s : List UInt8} {parts : List Vt} {names : List (List UInt8)} {px nx : AV} (V : Vc o k b n s parts names px nx)
include hR hO V
theorem ofT_s {st : St} (ho : st.old = o) {φ : List UInt8 × St → Prop} (h : ∀ st1, KN st st1 → φ (keyV (.mk k b n s parts names), st1)) : T φ (keys_Of_top R k b n s px nx st) := of_s hR hO 3 4000 k b n s parts names px nx st φ (by decide) (by decide) V.dp V.ok V.rv ho h
theorem keyV_le : (keyV (.mk k b n s parts names)).length ≤ 4000000 := Nat.le_trans (keyV_len 3 _ V.dp V.ok) (by decide)
theorem equal_s {st : St} (ho : st.old = o) {φ : List UInt8 × List UInt8 × St → Prop} (h : ∀ st1, KN st st1 → φ (keyV (.mk k b n s parts names), nextK (keyV (.mk k b n s parts names)), st1)) : T φ (keys_Equal R k b n s px nx st) := by
  have hp := V.one.1
  have hn := V.one.2
  have hkl := keyV_le hR hO V
  unfold keys_Equal
  refine T.step (boxV hp hn) ?_
  have K1 : KN st ((st.push (.cells 25 true [.int .i64 k, .bool b, .int .i64 n, .str s, px, nx])).push (.cells 33 true [.str [], .str []])) := KN.refl.psh.psh
  refine T.step (load_cells ((get_push_ne _ (Nat.ne_of_lt (Nat.lt_succ_self _))).trans (get_push _ _)) rfl) ?_
  refine T.step deV ?_
  refine T.bind (ofT_s hR hO V (by exact ho) fun st1 k1 => ?_)
  have g1 : st1.objs.get st.next = .some (.cells 25 true [.int .i64 k, .bool b, .int .i64 n, .str s, px, nx]) := (k1.2.1 _ (by simp only [nxPush]; omega)).trans ((get_push_ne _ (Nat.ne_of_lt (Nat.lt_succ_self _))).trans (get_push _ _))
  refine T.step (load_cells g1 rfl) ?_
  refine T.ifT (beq_cells V.beq.1 V.beq.2) ?_
  refine T.bind (ofT_s hR hO V (k1.2.2.trans ho) fun st2 k2 => ?_)
  refine T.bind (next_s (by omega) (by omega) fun st3 k3 => ?_)
  have g3 : st3.objs.get (st.next + 1) = .some (.cells 33 true [.str [], .str []]) := (((k1.trans k2).trans k3).2.1 _ (by simp only [nxPush]; omega)).trans (get_push _ _)
  refine T.step (store_cells g3 rfl rfl rfl) ?_
  refine T.step (load_cells (get_put _ _ _) rfl) ?_
  refine T.step deSS ?_
  exact T.some (h _ ((((K1.trans k1).trans k2).trans k3).loc (show st.next ≤ st.next + 1 by omega)))
end
def spanK (sg k : List UInt8) : List UInt8 × List UInt8 × Bool := if sg = [61] then (k, nextK k, true) else if sg = [60] then ([], k, true) else if sg = [60, 61] then ([], nextK k, true) else if sg = [62] then (nextK k, [], true) else if sg = [62, 61] then (k, [], true) else ([], [], false)
theorem span_s {R : Nat} (hR : 18446744073709551616 ≤ R) {o : Nat → Nat → Option AV} (hO : isNum (o 0 0) = true) {k n : Int} {b : Bool} {s : List UInt8} {parts : List Vt} {names : List (List UInt8)} {px nx : AV} (V : Vc o k b n s parts names px nx) {sg : List UInt8} {st : St} (ho : st.old = o) {φ : List UInt8 × List UInt8 × Bool × St → Prop}
    (h : ∀ st1, KN st st1 → φ ((spanK sg (keyV (.mk k b n s parts names))).1, (spanK sg (keyV (.mk k b n s parts names))).2.1, (spanK sg (keyV (.mk k b n s parts names))).2.2, st1)) : T φ (plan_Span R sg k b n s px nx st) := by
  have hp := V.one.1
  have hn := V.one.2
  have hkl := keyV_le hR hO V
  unfold plan_Span
  refine T.step (boxV hp hn) ?_
  have K1 : KN st ((st.push (.cells 25 true [.int .i64 k, .bool b, .int .i64 n, .str s, px, nx])).push (.cells 33 true [.str [], .str []])) := KN.refl.psh.psh
  refine T.step (load_cells ((get_push_ne _ (Nat.ne_of_lt (Nat.lt_succ_self _))).trans (get_push _ _)) rfl) ?_
  refine T.step deV ?_
  refine T.bind (ofT_s hR hO V (by exact ho) fun st1 k1 => ?_)
  have g1 : st1.objs.get st.next = .some (.cells 25 true [.int .i64 k, .bool b, .int .i64 n, .str s, px, nx]) := (k1.2.1 _ (by simp only [nxPush]; omega)).trans ((get_push_ne _ (Nat.ne_of_lt (Nat.lt_succ_self _))).trans (get_push _ _))
  have g2 : st1.objs.get (st.next + 1) = .some (.cells 33 true [.str [], .str []]) := (k1.2.1 _ (by simp only [nxPush]; omega)).trans (get_push _ _)
  have K2 := K1.trans k1
  have hS1 : st.next + 1 < st1.next := Nat.lt_of_lt_of_le (by simp only [nxPush]; omega) k1.1
  unfold spanK at h
  by_cases h1 : sg = [61]
  · rw [if_pos h1] at h
    refine T.ifT h1 ?_
    refine T.step (load_cells g1 rfl) ?_
    refine T.step deV ?_
    refine T.bind (equal_s hR hO V (k1.2.2.trans ho) fun st2 k2 => ?_)
    refine T.step (store_cells ((k2.2.1 _ hS1).trans g2) rfl rfl rfl) ?_
    refine T.step (load_cells (get_put _ _ _) rfl) ?_
    refine T.step deSS ?_
    exact T.some (h _ ((K2.trans k2).loc (show st.next ≤ st.next + 1 by omega)))
  · rw [if_neg h1] at h
    refine T.ifF h1 ?_
    have fin : ∀ {a b : List UInt8} {st2 : St}, KN st1 st2 → (∀ st3, KN st st3 → φ (a, b, true, st3)) → T φ (Option.bind (storeAt C0.P st2 33 (.ref (st.next + 1) 0) (.agg [.str a, .str b])) fun st3 => Option.bind (loadAt C0.P st3 33 (.ref (st.next + 1) 0)) fun x => Option.bind (de_As_sZ x) fun (s1, s2) => .some (s1, s2, true, st3)) := fun {a b st2} k2 hφ => by
      refine T.step (store_cells ((k2.2.1 _ hS1).trans g2) rfl rfl rfl) ?_
      refine T.step (load_cells (get_put _ _ _) rfl) ?_
      refine T.step deSS ?_
      exact T.some (hφ _ ((K2.trans k2).loc (by omega)))
    by_cases h2 : sg = [60]
    · rw [if_pos h2] at h
      refine T.ifT h2 ?_
      repeat (refine T.step (by simp (disch := (first | ((repeat (first | rw [nxPush] | rw [nxPut] | rw [List.length_cons] | rw [List.length_nil])) <;> omega) | (refine (?_ : _ ∧ True).1; constructor; simp only [oneB_, *]; exact True.intro))) only [allS, g2, deSS]; try exact rfl) ?_)
      exact T.some (h _ (by repeat' (first | exact KN.trans (by repeat' (first | exact KN.refl | exact KN.refl | refine KN.psh ?_ | refine KN.loc ?_ ?_ | ((try simp only [nxPush, nxPut]) <;> omega))) K2 | refine KN.psh ?_ | refine KN.loc ?_ ?_ | ((try simp only [nxPush, nxPut]) <;> omega))))
    · rw [if_neg h2] at h
      refine T.ifF h2 ?_
      by_cases h3 : sg = [60, 61]
      · rw [if_pos h3] at h
        refine T.ifT h3 ?_
        refine T.bind (next_s (by omega) (by omega) fun st2 k2 => ?_)
        have g3 := (k2.2.1 _ hS1).trans g2
        have n_k2 := k2.le; (try simp only [nxPush, nxPut] at n_k2)
        repeat (refine T.step (by simp (disch := (first | ((repeat (first | rw [nxPush] | rw [nxPut] | rw [List.length_cons] | rw [List.length_nil])) <;> omega) | (refine (?_ : _ ∧ True).1; constructor; simp only [oneB_, *]; exact True.intro))) only [allS, g3, deSS]; try exact rfl) ?_)
        exact T.some (h _ (by repeat' (first | exact (K2.trans k2) | exact KN.refl | refine KN.psh ?_ | refine KN.loc ?_ ?_ | ((try simp only [nxPush, nxPut]) <;> omega))))
      · rw [if_neg h3] at h
        refine T.ifF h3 ?_
        by_cases h4 : sg = [62]
        · rw [if_pos h4] at h
          refine T.ifT h4 ?_
          refine T.bind (next_s (by omega) (by omega) fun st2 k2 => ?_)
          have g3 := (k2.2.1 _ hS1).trans g2
          have n_k2 := k2.le; (try simp only [nxPush, nxPut] at n_k2)
          repeat (refine T.step (by simp (disch := (first | ((repeat (first | rw [nxPush] | rw [nxPut] | rw [List.length_cons] | rw [List.length_nil])) <;> omega) | (refine (?_ : _ ∧ True).1; constructor; simp only [oneB_, *]; exact True.intro))) only [allS, g3, deSS]; try exact rfl) ?_)
          exact T.some (h _ (by repeat' (first | exact (K2.trans k2) | exact KN.refl | refine KN.psh ?_ | refine KN.loc ?_ ?_ | ((try simp only [nxPush, nxPut]) <;> omega))))
        · rw [if_neg h4] at h
          refine T.ifF h4 ?_
          by_cases h5 : sg = [62, 61]
          · rw [if_pos h5] at h
            refine T.ifT h5 ?_
            repeat (refine T.step (by simp (disch := (first | ((repeat (first | rw [nxPush] | rw [nxPut] | rw [List.length_cons] | rw [List.length_nil])) <;> omega) | (refine (?_ : _ ∧ True).1; constructor; simp only [oneB_, *]; exact True.intro))) only [allS, g2, deSS]; try exact rfl) ?_)
            exact T.some (h _ (by repeat' (first | exact KN.trans (by repeat' (first | exact KN.refl | exact KN.refl | refine KN.psh ?_ | refine KN.loc ?_ ?_ | ((try simp only [nxPush, nxPut]) <;> omega))) K2 | refine KN.psh ?_ | refine KN.loc ?_ ?_ | ((try simp only [nxPush, nxPut]) <;> omega))))
          · rw [if_neg h5] at h
            refine T.ifF h5 ?_
            repeat (refine T.step (by simp (disch := (first | ((repeat (first | rw [nxPush] | rw [nxPut] | rw [List.length_cons] | rw [List.length_nil])) <;> omega) | (refine (?_ : _ ∧ True).1; constructor; simp only [oneB_, *]; exact True.intro))) only [allS, g2, deSS]; try exact rfl) ?_)
            exact T.some (h _ (by repeat' (first | exact KN.trans (by repeat' (first | exact KN.refl | exact KN.refl | refine KN.psh ?_ | refine KN.loc ?_ ?_ | ((try simp only [nxPush, nxPut]) <;> omega))) K2 | refine KN.psh ?_ | refine KN.loc ?_ ?_ | ((try simp only [nxPush, nxPut]) <;> omega))))
/-! ### Order -/
theorem cmpInt (R : Nat) (a b : Int) : cmp_Compare_int_ R a b = .some (cmpI a b) := by
  unfold cmp_Compare_int_ cmp_isNaN_int_ cmpI
  simp only [if_true, Option.bind_some, Bool.false_eq_true, if_false]
  split <;> (try rfl)
  split <;> rfl
theorem cmpInt64 (R : Nat) (a b : Int) : cmp_Compare_int64_ R a b = .some (cmpI a b) := by
  unfold cmp_Compare_int64_ cmp_isNaN_int64_ cmpI
  simp only [if_true, Option.bind_some, Bool.false_eq_true, if_false]
  split <;> (try rfl)
  split <;> rfl
theorem cmpStr (R : Nat) (a b : List UInt8) : strings_Compare R a b = .some (cmpS a b) := by
  unfold strings_Compare bytealg_CompareString xCs cmpS
  simp only [Option.bind_some]
  cases h1 : strLt a b with
  | true => simp
  | false =>
    cases h2 : strLt b a with
    | true =>
      have : ¬ a = b := fun e => by subst e; rw [lt_self] at h2; cases h2
      simp [strEqF this]
    | false =>
      have := strLt_tri a b h1 h2
      simp [strEqT this]
theorem cmpL_step {q : Bool} {l m : List Vt} {ns ms : List (List UInt8)} {i : Nat} (h1 : i < l.length) (h2 : i < m.length) :
    cmpL q (l.drop i) (ns.drop i) (m.drop i) (ms.drop i) = if q = true ∧ cmpN (ns.drop i) (ms.drop i) ≠ 0 then cmpN (ns.drop i) (ms.drop i) else if cmpV l[i] m[i] ≠ 0 then cmpV l[i] m[i] else cmpL q (l.drop (i + 1)) (ns.drop (i + 1)) (m.drop (i + 1)) (ms.drop (i + 1)) := by
  rw [List.drop_eq_getElem_cons h1, List.drop_eq_getElem_cons h2]
  simp only [cmpL, List.tail_drop]
theorem cmpL_end {q : Bool} {l m : List Vt} {ns ms : List (List UInt8)} {i : Nat} (h : i = min l.length m.length) : cmpL q (l.drop i) (ns.drop i) (m.drop i) (ms.drop i) = cmpI (l.length : Int) (m.length : Int) := by
  unfold cmpI
  rcases Nat.lt_trichotomy l.length m.length with hl | hl | hl
  · have e1 : l.drop i = [] := List.drop_eq_nil_of_le (by omega)
    have h2 : i < m.length := by omega
    rw [e1, List.drop_eq_getElem_cons h2, if_pos (by omega)]
    simp only [cmpL]
  · have e1 : l.drop i = [] := List.drop_eq_nil_of_le (by omega)
    have e2 : m.drop i = [] := List.drop_eq_nil_of_le (by omega)
    rw [e1, e2, if_neg (by omega), if_neg (by omega)]
    simp only [cmpL]
  · have e2 : m.drop i = [] := List.drop_eq_nil_of_le (by omega)
    have h2 : i < l.length := by omega
    rw [e2, List.drop_eq_getElem_cons h2, if_neg (by omega), if_pos (by omega)]
    simp only [cmpL]
theorem cmpN_at {ns ms : List (List UInt8)} {i : Nat} (h1 : i < ns.length) (h2 : i < ms.length) : cmpN (ns.drop i) (ms.drop i) = cmpS ns[i] ms[i] := by
  rw [List.drop_eq_getElem_cons h1, List.drop_eq_getElem_cons h2]
  simp only [cmpN]
theorem cmpN_no {ns ms : List (List UInt8)} {i : Nat} (h : ns.length ≤ i ∨ ms.length ≤ i) : cmpN (ns.drop i) (ms.drop i) = 0 := by
  rcases h with h | h
  · rw [List.drop_eq_nil_of_le h]; rfl
  · rw [List.drop_eq_nil_of_le h]
    cases ns.drop i <;> rfl
def PF28 (R : Rc28) (o : Nat → Nat → Option AV) (l m : List Vt) : Prop := ∀ k b n s pp nn k' b' n' s' pp' nn', Vt.mk k b n s pp nn ∈ l → Vt.mk k' b' n' s' pp' nn' ∈ m → ∀ (px nx px' nx' : AV) (st : St) (φ : Int × St → Prop), RV (RN o) 23 25 o (.mk k b n s pp nn) [.int .i64 k, .bool b, .int .i64 n, .str s, px, nx] → RV (RN o) 23 25 o (.mk k' b' n' s' pp' nn') [.int .i64 k', .bool b', .int .i64 n', .str s', px', nx'] → st.old = o →
  (∀ st1, KN st st1 → φ (cmpV (.mk k b n s pp nn) (.mk k' b' n' s' pp' nn'), st1)) → T φ (R.f28 k b n s px nx k' b' n' s' px' nx' st)
theorem cmpC_s {R : Rc28} {o : Nat → Nat → Option AV} {k n k' n' : Int} {b b' : Bool} {s s' : List UInt8} {l m : List Vt} {ns ms : List (List UInt8)} {px nx px' nx' : AV} (hN : RN o nx ns) (hN' : RN o nx' ms) (hP : RPs (RN o) 23 25 o l px 0) (hP' : RPs (RN o) 23 25 o m px' 0) (hf : PF28 R o l m)
    {st1 : St} {id id' : Nat} (o1 : st1.old = o) (g1 : st1.objs.get id = .some (.cells 25 true [.int .i64 k, .bool b, .int .i64 n, .str s, px, nx])) (g2 : st1.objs.get id' = .some (.cells 25 true [.int .i64 k', .bool b', .int .i64 n', .str s', px', nx'])) {i : Nat} (h1 : i < l.length) (h2 : i < m.length) {α : Type} {χ : α → Prop} {kk : Int × St → Option α}
    (h : ∀ st2, KN st1 st2 → T χ (kk (cmpV l[i] m[i], st2))) : T χ (Option.bind (shift (.ref id 0) 4) fun x2739 =>
       Option.bind (loadAt C0.P st1 23 x2739) fun x2741 =>
       Option.bind (indexAddrOp C0.P 23 x2741 (.int .i64 (i : Int))) fun x2743 =>
       Option.bind (loadAt C0.P st1 25 x2743) fun x2745 =>
       Option.bind (de_Ai64_b_i64_s_a_aZ x2745) fun (i2746, b2747, i2748, s2749, x2750, x2751) =>
       Option.bind (shift (.ref id' 0) 4) fun x2754 =>
       Option.bind (loadAt C0.P st1 23 x2754) fun x2756 =>
       Option.bind (indexAddrOp C0.P 23 x2756 (.int .i64 (i : Int))) fun x2758 =>
       Option.bind (loadAt C0.P st1 25 x2758) fun x2760 =>
       Option.bind (de_Ai64_b_i64_s_a_aZ x2760) fun (i2761, b2762, i2763, s2764, x2765, x2766) =>
       Option.bind (R.f28 i2746 b2747 i2748 s2749 x2750 x2751 i2761 b2762 i2763 s2764 x2765 x2766 st1) kk) := by
  obtain ⟨a, cs, e1, e2, hrv⟩ := RPs_get hP i h1
  rw [Nat.zero_add] at e1
  obtain ⟨a', cs', e1', e2', hrv'⟩ := RPs_get hP' i h2
  rw [Nat.zero_add] at e1'
  rcases hpi : l[i] with ⟨k1, b1, n1, s1, pp1, nn1⟩
  rcases hqi : m[i] with ⟨k2, b2, n2, s2, pp2, nn2⟩
  rw [hpi] at hrv h
  rw [hqi] at hrv' h
  have q := hrv
  have q' := hrv'
  simp only [RV] at hrv hrv'
  obtain ⟨px1, nx1, rfl, _, _, _, _⟩ := hrv
  obtain ⟨px2, nx2, rfl, _, _, _, _⟩ := hrv'
  refine T.step shR ?_
  refine T.step (load_cell g1 (by rfl)) ?_
  refine T.step e1 ?_
  refine T.step (e2 st1 o1) ?_
  refine T.step deV ?_
  refine T.step shR ?_
  refine T.step (load_cell g2 (by rfl)) ?_
  refine T.step e1' ?_
  refine T.step (e2' st1 o1) ?_
  refine T.step deV ?_
  exact T.bind (hf _ _ _ _ _ _ _ _ _ _ _ _ (hpi ▸ List.getElem_mem h1) (hqi ▸ List.getElem_mem h2) px1 nx1 px2 nx2 st1 _ q q' o1 fun st2 k2 => h st2 k2)
theorem cmpLp_s {R : Rc28} {o : Nat → Nat → Option AV} {k n k' n' : Int} {b b' : Bool} {s s' : List UInt8} {l m : List Vt} {ns ms : List (List UInt8)} {px nx px' nx' : AV} (hl : l.length ≤ 4) (hN : RN o nx ns) (hN' : RN o nx' ms) (hP : RPs (RN o) 23 25 o l px 0) (hP' : RPs (RN o) 23 25 o m px' 0) (hf : PF28 R o l m)
    {S : St} {id id' : Nat} (ho : S.old = o) (hid : id < S.next) (hid' : id' < S.next) (g1 : S.objs.get id = .some (.cells 25 true [.int .i64 k, .bool b, .int .i64 n, .str s, px, nx])) (g2 : S.objs.get id' = .some (.cells 25 true [.int .i64 k', .bool b', .int .i64 n', .str s', px', nx'])) {ψ : (Int × St) ⊕ St → Prop}
    (h1 : ∀ st1, KN S st1 → ψ (.inl (cmpL (decide (k = 6)) l ns m ms, st1))) (h2 : ∀ st1, KN S st1 → cmpL (decide (k = 6)) l ns m ms = cmpI (l.length : Int) (m.length : Int) → ψ (.inr st1)) :
    ∀ (r i : Nat) (st1 : St), i ≤ min l.length m.length → min l.length m.length - i < r → KN S st1 → cmpL (decide (k = 6)) l ns m ms = cmpL (decide (k = 6)) (l.drop i) (ns.drop i) (m.drop i) (ms.drop i) →
      T ψ (value_Compare_l111010 R (.ref id 0) (.ref id' 0) ((min l.length m.length : Nat) : Int) r (i : Int) st1)
  | 0, _, _, _, h, _, _ => absurd h (Nat.not_lt_zero _)
  | r + 1, i, st1, hi, hr, K1, hE => by
    unfold value_Compare_l111010
    by_cases hlt : i < min l.length m.length
    · refine T.ifT (by omega) ?_
      have a1 : i < l.length := by omega
      have a2 : i < m.length := by omega
      have o1 : st1.old = o := K1.2.2.trans ho
      have G1 := (K1.2.1 _ hid).trans g1
      have G2 := (K1.2.1 _ hid').trans g2
      have ln := hN.len
      have ln' := hN'.len
      rw [cmpL_step a1 a2] at hE
      have next : (¬ (decide (k = 6) = true ∧ cmpN (ns.drop i) (ms.drop i) ≠ 0)) → ∀ st2, KN st1 st2 → T ψ (if cmpV l[i] m[i] = 0 then value_Compare_l111010 R (.ref id 0) (.ref id' 0) ((min l.length m.length : Nat) : Int) r (IntKind.wrap .i64 ((i : Int) + 1)) st2 else .some (.inl (cmpV l[i] m[i], st2))) := fun hno st2 k2 => by
        rw [if_neg hno] at hE
        refine T.ite (fun e0 => ?_) (fun e0 => ?_)
        · rw [if_neg (by rw [e0]; decide)] at hE
          rw [wrapS (by omega)]
          exact cmpLp_s hl hN hN' hP hP' hf ho hid hid' g1 g2 h1 h2 r (i + 1) st2 (by omega) (by omega) (K1.trans k2) hE
        · rw [if_pos e0] at hE
          rw [← hE]
          exact T.some (h1 st2 (K1.trans k2))
      unfold value_Compare_j11101001100100
      refine T.bind ?_
      repeat (refine T.step (by simp (disch := (first | ((repeat (first | rw [nxPush] | rw [nxPut] | rw [List.length_cons] | rw [List.length_nil])) <;> omega) | (refine (?_ : _ ∧ True).1; constructor; simp only [oneB_, *]; exact True.intro))) only [allS, G1]; try exact rfl) ?_)
      refine T.ite (fun h6 => ?_) (fun h6 => T.some ?_)
      · repeat (refine T.step (by simp (disch := (first | ((repeat (first | rw [nxPush] | rw [nxPut] | rw [List.length_cons] | rw [List.length_nil])) <;> omega) | (refine (?_ : _ ∧ True).1; constructor; simp only [oneB_, *]; exact True.intro))) only [allS, G1, ln]; try exact rfl) ?_)
        refine T.ite (fun hin => ?_) (fun hin => T.some ?_)
        · repeat (refine T.step (by simp (disch := (first | ((repeat (first | rw [nxPush] | rw [nxPut] | rw [List.length_cons] | rw [List.length_nil])) <;> omega) | (refine (?_ : _ ∧ True).1; constructor; simp only [oneB_, *]; exact True.intro))) only [allS, G2, ln']; try exact rfl) ?_)
          refine T.ite (fun hin' => T.some ?_) (fun hin' => T.some ?_)
          · refine T.ifT rfl ?_
            have b1 : i < ns.length := by omega
            have b2 : i < ms.length := by omega
            obtain ⟨a, q1, q2⟩ := hN.get i b1
            obtain ⟨a', q1', q2'⟩ := hN'.get i b2
            refine T.step shR ?_
            refine T.step (load_cell G1 (by rfl)) ?_
            refine T.step q1 ?_
            refine T.step (q2 st1 o1) ?_
            refine T.step avS ?_
            refine T.step shR ?_
            refine T.step (load_cell G2 (by rfl)) ?_
            refine T.step q1' ?_
            refine T.step (q2' st1 o1) ?_
            refine T.step avS ?_
            refine T.step (cmpStr _ _ _) ?_
            rw [cmpN_at b1 b2] at hE next
            refine T.ite (fun e0 => ?_) (fun e0 => ?_)
            · exact cmpC_s hN hN' hP hP' hf o1 G1 G2 a1 a2 fun st2 k2 => next (fun q => q.2 e0) st2 k2
            · rw [if_pos ⟨decide_eq_true h6, e0⟩] at hE
              rw [← hE]
              exact T.some (h1 st1 K1)
          · refine T.ifF (by decide) ?_
            exact cmpC_s hN hN' hP hP' hf o1 G1 G2 a1 a2 fun st2 k2 => next (fun q => q.2 (cmpN_no (.inr (by omega)))) st2 k2
        · refine T.ifF (by decide) ?_
          exact cmpC_s hN hN' hP hP' hf o1 G1 G2 a1 a2 fun st2 k2 => next (fun q => q.2 (cmpN_no (.inl (by omega)))) st2 k2
      · refine T.ifF (by decide) ?_
        exact cmpC_s hN hN' hP hP' hf o1 G1 G2 a1 a2 fun st2 k2 => next (fun q => h6 (of_decide_eq_true q.1)) st2 k2
    · refine T.ifF (by omega) ?_
      rw [cmpL_end (by omega)] at hE
      exact T.some (h2 st1 K1 hE)
theorem cmp_1 {R : Rc28} (hR : 18446744073709551616 ≤ R.n) {o : Nat → Nat → Option AV} {k n k' n' : Int} {b b' : Bool} {s s' : List UInt8} {l m : List Vt} {ns ms : List (List UInt8)} {px nx px' nx' : AV} (hl : l.length ≤ 4) (hrv : RV (RN o) 23 25 o (.mk k b n s l ns) [.int .i64 k, .bool b, .int .i64 n, .str s, px, nx]) (hrv' : RV (RN o) 23 25 o (.mk k' b' n' s' m ms) [.int .i64 k', .bool b', .int .i64 n', .str s', px', nx']) (hf : PF28 R o l m)
    {st : St} (ho : st.old = o) {φ : Int × St → Prop} (h : ∀ st1, KN st st1 → φ (cmpV (.mk k b n s l ns) (.mk k' b' n' s' m ms), st1)) : T φ (value_Compare R k b n s px nx k' b' n' s' px' nx' st) := by
  simp only [RV] at hrv hrv'
  obtain ⟨p1, x1, e, hp, hN, lp, hP⟩ := hrv
  simp only [List.cons.injEq, true_and, and_true] at e
  obtain ⟨rfl, rfl⟩ := e
  obtain ⟨p2, x2, e, hp', hN', lp', hP'⟩ := hrv'
  simp only [List.cons.injEq, true_and, and_true] at e
  obtain ⟨rfl, rfl⟩ := e
  unfold value_Compare
  refine T.step (boxV hp hN.one) ?_
  refine T.step (boxV hp' hN'.one) ?_
  have K1 : KN st ((st.push (.cells 25 true [.int .i64 k, .bool b, .int .i64 n, .str s, px, nx])).push (.cells 25 true [.int .i64 k', .bool b', .int .i64 n', .str s', px', nx'])) := KN.refl.psh.psh
  have g1 : ((st.push (.cells 25 true [.int .i64 k, .bool b, .int .i64 n, .str s, px, nx])).push (.cells 25 true [.int .i64 k', .bool b', .int .i64 n', .str s', px', nx'])).objs.get st.next = .some (.cells 25 true [.int .i64 k, .bool b, .int .i64 n, .str s, px, nx]) := (get_push_ne _ (Nat.ne_of_lt (Nat.lt_succ_self _))).trans (get_push _ _)
  have g2 : ((st.push (.cells 25 true [.int .i64 k, .bool b, .int .i64 n, .str s, px, nx])).push (.cells 25 true [.int .i64 k', .bool b', .int .i64 n', .str s', px', nx'])).objs.get (st.next + 1) = .some (.cells 25 true [.int .i64 k', .bool b', .int .i64 n', .str s', px', nx']) := get_push _ _
  have o1 : ((st.push (.cells 25 true [.int .i64 k, .bool b, .int .i64 n, .str s, px, nx])).push (.cells 25 true [.int .i64 k', .bool b', .int .i64 n', .str s', px', nx'])).old = o := ho
  show T φ (Option.bind (shift (.ref st.next 0) 0) fun x2455 => Option.bind (loadAt C0.P ((st.push (.cells 25 true [.int .i64 k, .bool b, .int .i64 n, .str s, px, nx])).push (.cells 25 true [.int .i64 k', .bool b', .int .i64 n', .str s', px', nx'])) 3 x2455) fun x2457 => Option.bind (avInt .i64 x2457) fun i2458 => Option.bind (shift (.ref (st.next + 1) 0) 0) _)
  have hs1 : st.next + 2 = ((st.push (.cells 25 true [.int .i64 k, .bool b, .int .i64 n, .str s, px, nx])).push (.cells 25 true [.int .i64 k', .bool b', .int .i64 n', .str s', px', nx'])).next := rfl
  generalize ((st.push (.cells 25 true [.int .i64 k, .bool b, .int .i64 n, .str s, px, nx])).push (.cells 25 true [.int .i64 k', .bool b', .int .i64 n', .str s', px', nx'])) = S at K1 g1 g2 o1 hs1 ⊢
  simp only [cmpV] at h
  repeat (refine T.step (by simp (disch := (first | ((repeat (first | rw [nxPush] | rw [nxPut] | rw [List.length_cons] | rw [List.length_nil])) <;> omega) | (refine (?_ : _ ∧ True).1; constructor; simp only [oneB_, *]; exact True.intro))) only [allS, g1, g2]; try exact rfl) ?_)
  refine T.step (cmpInt _ _ _) ?_
  refine T.ite (fun hk => ?_) (fun hk => ?_)
  · rw [if_neg (fun q => q hk)] at h
    refine T.ite (fun c1 => ?_) (fun c1 => T.ite (fun c2 => ?_) (fun c2 => ?_))
    · rw [if_pos c1] at h
      repeat (refine T.step (by simp (disch := (first | ((repeat (first | rw [nxPush] | rw [nxPut] | rw [List.length_cons] | rw [List.length_nil])) <;> omega) | (refine (?_ : _ ∧ True).1; constructor; simp only [oneB_, *]; exact True.intro))) only [allS, g1, g2]; try exact rfl) ?_)
      have hnum : ∀ x : Bool, value_number R.n x = .some (if x = true then 1 else 0) := fun x => by unfold value_number; cases x <;> rfl
      refine T.step (hnum _) ?_
      refine T.step (hnum _) ?_
      refine T.step (cmpInt _ _ _) ?_
      exact T.some (h S K1)
    · rw [if_neg c1, if_pos c2] at h
      repeat (refine T.step (by simp (disch := (first | ((repeat (first | rw [nxPush] | rw [nxPut] | rw [List.length_cons] | rw [List.length_nil])) <;> omega) | (refine (?_ : _ ∧ True).1; constructor; simp only [oneB_, *]; exact True.intro))) only [allS, g1, g2]; try exact rfl) ?_)
      refine T.step (cmpInt64 _ _ _) ?_
      exact T.some (h S K1)
    · rw [if_neg c1, if_neg c2] at h
      have htext : (k = 3 ∨ k = 4) → T φ (Option.bind (shift (.ref st.next 0) 3) fun x2529 =>
          Option.bind (loadAt C0.P S 9 x2529) fun x2531 =>
          Option.bind (avStr x2531) fun s2532 =>
          Option.bind (shift (.ref (st.next + 1) 0) 3) fun x2535 =>
          Option.bind (loadAt C0.P S 9 x2535) fun x2537 =>
          Option.bind (avStr x2537) fun s2538 =>
          Option.bind (strings_Compare R.n s2532 s2538) fun i2540 => .some (i2540, S)) := fun hc => by
        repeat (refine T.step (by simp (disch := (first | ((repeat (first | rw [nxPush] | rw [nxPut] | rw [List.length_cons] | rw [List.length_nil])) <;> omega) | (refine (?_ : _ ∧ True).1; constructor; simp only [oneB_, *]; exact True.intro))) only [allS, g1, g2]; try exact rfl) ?_)
        refine T.step (cmpStr _ _ _) ?_
        refine T.some ?_
        rcases hc with hc | hc
        · rw [if_pos hc] at h; exact h S K1
        · rw [if_neg (by omega), if_pos hc] at h; exact h S K1
      unfold value_Compare_j11010111100 value_Compare_c11010111101
      refine T.bind ?_
      refine T.ite (fun c3 => T.some ?_) (fun c3 => T.some ?_)
      · refine T.bind ?_
        refine T.ifT rfl (T.some ?_)
        exact T.ifT rfl (htext (.inl c3))
      · refine T.bind ?_
        refine T.ifF (by decide) ?_
        refine T.ite (fun c4 => T.some ?_) (fun c4 => T.some ?_)
        · exact T.ifT rfl (htext (.inr c4))
        · refine T.ifF (by decide) ?_
          rw [if_neg c3, if_neg c4] at h
          repeat (refine T.step (by simp (disch := (first | ((repeat (first | rw [nxPush] | rw [nxPut] | rw [List.length_cons] | rw [List.length_nil])) <;> omega) | (refine (?_ : _ ∧ True).1; constructor; simp only [oneB_, *]; exact True.intro))) only [allS, g1, g2, lp, lp']; try exact rfl) ?_)
          have hmin : (if (m.length : Int) < (l.length : Int) then (m.length : Int) else (l.length : Int)) = ((min l.length m.length : Nat) : Int) := by
            split <;> omega
          rw [hmin]
          refine T.bind (cmpLp_s hl hN hN' hP hP' hf (S := S) o1 (by omega) (by omega) g1 g2 (fun st1 k1 => ?_) (fun st1 k1 hE => ?_) R.n 0 S (Nat.zero_le _) (by omega) KN.refl (by simp only [List.drop_zero]))
          · exact T.some (h st1 (K1.trans k1))
          · have G1 := (k1.2.1 st.next (by omega)).trans g1
            have G2 := (k1.2.1 (st.next + 1) (by omega)).trans g2
            repeat (refine T.step (by simp (disch := (first | ((repeat (first | rw [nxPush] | rw [nxPut] | rw [List.length_cons] | rw [List.length_nil])) <;> omega) | (refine (?_ : _ ∧ True).1; constructor; simp only [oneB_, *]; exact True.intro))) only [allS, G1, G2, lp, lp']; try exact rfl) ?_)
            refine T.step (cmpInt _ _ _) ?_
            rw [← hE]
            exact T.some (h st1 (K1.trans k1))
  · rw [if_pos hk] at h
    exact T.some (h S K1)
theorem cmp_s {Rn : Nat} (hR : 18446744073709551616 ≤ Rn) {o : Nat → Nat → Option AV} : ∀ (d m : Nat) (k : Int) (b : Bool) (n : Int) (s : List UInt8) (parts : List Vt) (names : List (List UInt8)) (k' : Int) (b' : Bool) (n' : Int) (s' : List UInt8) (parts' : List Vt) (names' : List (List UInt8)) (px nx px' nx' : AV) (st : St) (φ : Int × St → Prop), d ≤ m → dp d (.mk k b n s parts names) → dp d (.mk k' b' n' s' parts' names') → RV (RN o) 23 25 o (.mk k b n s parts names) [.int .i64 k, .bool b, .int .i64 n, .str s, px, nx] → RV (RN o) 23 25 o (.mk k' b' n' s' parts' names') [.int .i64 k', .bool b', .int .i64 n', .str s', px', nx'] → st.old = o →
    (∀ st1, KN st st1 → φ (cmpV (.mk k b n s parts names) (.mk k' b' n' s' parts' names'), st1)) → T φ (value_Compare (rc28 Rn m) k b n s px nx k' b' n' s' px' nx' st)
  | 0, m, k, b, n, s, parts, names, k', b', n', s', parts', names', px, nx, px', nx', st, φ, hm, hdp, hdp', hrv, hrv', ho, h => by
    obtain ⟨hB, rfl⟩ := hdp
    exact cmp_1 (by rw [rc28_n]; exact hR) (Nat.zero_le _) hrv hrv' (fun k b n s pp nn k' b' n' s' pp' nn' hp => absurd hp (by simp)) ho h
  | d + 1, 0, k, b, n, s, parts, names, k', b', n', s', parts', names', px, nx, px', nx', st, φ, hm, hdp, hdp', hrv, hrv', ho, h => absurd hm (by omega)
  | d + 1, m + 1, k, b, n, s, parts, names, k', b', n', s', parts', names', px, nx, px', nx', st, φ, hm, hdp, hdp', hrv, hrv', ho, h => by
    obtain ⟨hB, hl, hd⟩ := hdp
    obtain ⟨hB', hl', hd'⟩ := hdp'
    exact cmp_1 (by rw [rc28_n]; exact hR) hl hrv hrv' (fun k b n s pp nn k' b' n' s' pp' nn' hp hp' px nx px' nx' st φ hrv hrv' ho h => cmp_s hR d m k b n s pp nn k' b' n' s' pp' nn' px nx px' nx' st φ (by omega) (hd _ hp) (hd' _ hp') hrv hrv' ho h) ho h
end
end Go.Proofs.YthodfojhbbendaaGreatDoor
