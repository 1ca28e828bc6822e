/- PlanSpans: the keys that a comparison with a value holds for are just those in its span. -/
import Derived.Test.YthodfojhbbendaaGreatDoorSqG
import Derived.Test.YthodfojhbbendaaGreatDoorSpZ
set_option linter.all false
set_option maxRecDepth 100000
set_option maxHeartbeats 2000000
namespace Go.Proofs.YthodfojhbbendaaGreatDoor
open Go Go.Ev
noncomputable section
attribute [local congr] bindC iteC
mutual
/-- Numbers and texts are as great as they may be. -/
def Bd : Vt → Prop
  | .mk k _ n _ parts names => -9223372036854775808 ≤ k ∧ k ≤ 9223372036854775807 ∧ -9223372036854775808 ≤ n ∧ n ≤ 9223372036854775807 ∧ (∀ m ∈ names, m.length ≤ 9223372036854775807) ∧ BdL parts
def BdL : List Vt → Prop
  | [] => True
  | v :: l => Bd v ∧ BdL l
end
theorem BdL_mem : ∀ {l : List Vt}, BdL l → ∀ p ∈ l, Bd p
  | v :: l, h, p, hp => by
    simp only [BdL] at h
    rcases List.mem_cons.1 hp with rfl | hp
    · exact h.1
    · exact BdL_mem h.2 p hp
theorem cut_base {k n : Int} {b : Bool} {s : List UInt8} {parts : List Vt} {names : List (List UInt8)} (h : Bd (.mk k b n s parts names)) : baseV k n (s.take 1100) (names.take 4) := by
  simp only [Bd] at h
  refine ⟨?_, ?_, fun m hm => h.2.2.2.2.1 m (List.mem_of_mem_take hm), h.2.2.1, h.2.2.2.1, h.1, h.2.1⟩
  · rw [List.length_take]; omega
  · rw [List.length_take]; omega
theorem cut_dp : ∀ (d : Nat) (v : Vt), Bd v → dp d (cutV d v)
  | 0, .mk k b n s parts names, h => ⟨cut_base h, rfl⟩
  | d + 1, .mk k b n s parts names, h => by
    refine ⟨cut_base h, ?_, fun p hp => ?_⟩
    · rw [List.length_map, List.length_take]; omega
    · obtain ⟨q, hq, rfl⟩ := List.mem_map.1 hp
      simp only [Bd] at h
      exact cut_dp d q (BdL_mem h.2.2.2.2.2 q (List.mem_of_mem_take hq))
theorem keyV_ne (v : Vt) : keyV v ≠ [] := by
  obtain ⟨k, b, n, s, parts, names⟩ := v
  simp [keyV]
theorem lt_nil (a : List UInt8) : strLt a [] = false := by cases a <;> rfl
theorem eqSpan0 : (binOpV C0.P .eql 33 (.tmp 0) (.tmp 1) (.agg [(.str []), (.str [])]) (.agg [(.str []), (.str [])])).bind avBool = .some true := by kernel_rfl
theorem jIn_s {R : Nat} {sid : Nat} {kk lo hi : List UInt8} {st : St} (hg : st.objs.get sid = .some (.cells 33 true [.str lo, .str hi])) {φ : Bool × St → Prop} (h : φ ((!strLt kk lo) && (decide (hi = []) || strLt kk hi), st)) : T φ (parchmentlaw19_PlanSpans_j111111110 R sid kk st) := by
  unfold parchmentlaw19_PlanSpans_j111111110
  refine T.step (load_cell hg (by rfl)) ?_
  refine T.step avS ?_
  refine T.ite (fun h1 => ?_) (fun h1 => ?_)
  · rw [h1, Bool.true_and] at h
    refine T.step (load_cell hg (by rfl)) ?_
    refine T.step avS ?_
    refine T.ite (fun h2 => ?_) (fun h2 => T.ite (fun h3 => ?_) (fun h3 => ?_))
    · rw [decide_eq_true h2, Bool.true_or] at h; exact T.some h
    · rw [decide_eq_false h2, Bool.false_or, h3] at h; exact T.some h
    · rw [decide_eq_false h2, Bool.false_or, bF h3] at h; exact T.some h
  · rw [bF h1, Bool.false_and] at h; exact T.some h
def isSign (sg : List UInt8) : Bool := decide (sg = [61] ∨ sg = [60] ∨ sg = [60, 61] ∨ sg = [62] ∨ sg = [62, 61])
theorem jWant (R : Nat) (sg : List UInt8) : parchmentlaw19_PlanSpans_j11110 R sg = .some (isSign sg) := by
  unfold parchmentlaw19_PlanSpans_j11110 isSign
  by_cases h1 : sg = [61]
  · rw [if_pos h1, decide_eq_true (.inl h1)]
  · rw [if_neg h1]
    by_cases h2 : sg = [60]
    · rw [if_pos h2, decide_eq_true (.inr (.inl h2))]
    · rw [if_neg h2]
      by_cases h3 : sg = [60, 61]
      · rw [if_pos h3, decide_eq_true (.inr (.inr (.inl h3)))]
      · rw [if_neg h3]
        by_cases h4 : sg = [62]
        · rw [if_pos h4, decide_eq_true (.inr (.inr (.inr (.inl h4))))]
        · rw [if_neg h4]
          by_cases h5 : sg = [62, 61]
          · rw [if_pos h5, decide_eq_true (.inr (.inr (.inr (.inr h5))))]
          · rw [if_neg h5, decide_eq_false (by simp only [h1, h2, h3, h4, h5, or_self, not_false_iff])]
theorem spanK_ok (sg k : List UInt8) : (spanK sg k).2.2 = isSign sg := by
  unfold spanK isSign
  by_cases h1 : sg = [61]
  · rw [if_pos h1, decide_eq_true (.inl h1)]
  · rw [if_neg h1]
    by_cases h2 : sg = [60]
    · rw [if_pos h2, decide_eq_true (.inr (.inl h2))]
    · rw [if_neg h2]
      by_cases h3 : sg = [60, 61]
      · rw [if_pos h3, decide_eq_true (.inr (.inr (.inl h3)))]
      · rw [if_neg h3]
        by_cases h4 : sg = [62]
        · rw [if_pos h4, decide_eq_true (.inr (.inr (.inr (.inl h4))))]
        · rw [if_neg h4]
          by_cases h5 : sg = [62, 61]
          · rw [if_pos h5, decide_eq_true (.inr (.inr (.inr (.inr h5))))]
          · rw [if_neg h5, decide_eq_false (by simp only [h1, h2, h3, h4, h5, or_self, not_false_iff])]
theorem jBad (R : Nat) (b : Bool) : parchmentlaw19_PlanSpans_j1111100 R b b = .some false := by
  unfold parchmentlaw19_PlanSpans_j1111100 xawake
  cases b <;> rfl
theorem RV_cells {NN : AV → List (List UInt8) → Prop} {ts te : Nat} {o : Nat → Nat → Option AV} {v : Vt} {k n : Int} {b : Bool} {s : List UInt8} {px nx : AV} (h : RV NN ts te o v [.int .i64 k, .bool b, .int .i64 n, .str s, px, nx]) : ∃ parts names, v = .mk k b n s parts names := by
  obtain ⟨k', b', n', s', parts, names⟩ := v
  simp only [RV] at h
  obtain ⟨_, _, e, _⟩ := h
  simp only [List.cons.injEq, AV.int.injEq, AV.bool.injEq, AV.str.injEq, true_and] at e
  obtain ⟨rfl, rfl, rfl, rfl, _⟩ := e
  exact ⟨parts, names, rfl⟩
/-- Two values, both cut, that may be. -/
theorem checks_s {R : Nat} (hR : 18446744073709551616 ≤ R) {o : Nat → Nat → Option AV} {k n k' n' : Int} {b b' : Bool} {s s' : List UInt8} {parts parts' : List Vt} {names names' : List (List UInt8)} {px nx px' nx' : AV} (d1 : dp 3 (.mk k b n s parts names)) (d2 : dp 3 (.mk k' b' n' s' parts' names'))
    (r1 : RV (RN o) 23 25 o (.mk k b n s parts names) [.int .i64 k, .bool b, .int .i64 n, .str s, px, nx]) (r2 : RV (RN o) 23 25 o (.mk k' b' n' s' parts' names') [.int .i64 k', .bool b', .int .i64 n', .str s', px', nx']) {ida idb : Nat} {st : St} (ho : st.old = o) (ha : ida < st.next) (hb : idb < st.next)
    (ga : st.objs.get ida = .some (.cells 25 true [.int .i64 k, .bool b, .int .i64 n, .str s, px, nx])) (gb : st.objs.get idb = .some (.cells 25 true [.int .i64 k', .bool b', .int .i64 n', .str s', px', nx'])) {φ : Bool × St → Prop}
    (h : ∀ r st1, KN st st1 → (r = false → okC 3 (.mk k b n s parts names) ∧ okC 3 (.mk k' b' n' s' parts' names')) → φ (r, st1)) : T φ (parchmentlaw19_PlanSpans_j1100 R ida idb st) := by
  unfold parchmentlaw19_PlanSpans_j1100
  refine T.step (load_cells ga rfl) ?_
  refine T.step deV ?_
  refine T.bind (Check_s hR d1 r1 ho fun e st1 k1 he => ?_)
  refine T.ite (fun e0 => ?_) (fun e0 => T.some (h true st1 k1 (fun q => by cases q)))
  refine T.step (load_cells ((k1.2.1 _ hb).trans gb) rfl) ?_
  refine T.step deV ?_
  refine T.bind (Check_s hR d2 r2 (k1.2.2.trans ho) fun e' st2 k2 he' => ?_)
  exact T.ite (fun e1 => T.some (h false st2 (k1.trans k2) fun _ => ⟨he e0, he' e1⟩)) (fun e1 => T.some (h true st2 (k1.trans k2) (fun q => by cases q)))
theorem planSpans_s {R : Nat} (hR : 18446744073709551616 ≤ R) {o : Nat → Nat → Option AV} (hO : isNum (o 0 0) = true) {k n k' n' : Int} {b b' : Bool} {s s' : List UInt8} {parts parts' : List Vt} {names names' : List (List UInt8)} {px nx px' nx' : AV} (B1 : Bd (.mk k b n s parts names)) (B2 : Bd (.mk k' b' n' s' parts' names'))
    (r1 : RV (RNo o) 23 25 o (.mk k b n s parts names) [.int .i64 k, .bool b, .int .i64 n, .str s, px, nx]) (r2 : RV (RNo o) 23 25 o (.mk k' b' n' s' parts' names') [.int .i64 k', .bool b', .int .i64 n', .str s', px', nx']) (p1 : px.one = true) (p2 : nx.one = true) (p3 : px'.one = true) (p4 : nx'.one = true) (p5 : AV.beq px' px' = true) (p6 : AV.beq nx' nx' = true)
    {sg : List UInt8} {st : St} (ho : st.old = o) {φ : Bool × St → Prop} (h : ∀ st1, φ (true, st1)) : T φ (parchmentlaw19_PlanSpans R k b n s px nx k' b' n' s' px' nx' sg st) := by
  unfold parchmentlaw19_PlanSpans parchmentlaw03_Cut_top parchmentlaw03_Ref_top parchmentlaw04_Key_top value_Compare_top
  refine T.step (boxV p1 p2) ?_
  refine T.step (boxV p3 p4) ?_
  refine T.step (load_cells ((get_push_ne _ (Nat.ne_of_lt (Nat.lt_succ_self _))).trans (get_push _ _)) rfl) ?_
  refine T.step deV ?_
  refine T.step (load_cells (get_push _ _) rfl) ?_
  refine T.step deV ?_
  have G1 : ((((st.push (.cells 25 true [.int .i64 k, .bool b, .int .i64 n, .str s, px, nx])).push (.cells 25 true [.int .i64 k', .bool b', .int .i64 n', .str s', px', nx'])).push (.cells 25 true [.int .i64 0, .bool false, .int .i64 0, .str [], .snil, .snil])).push (.cells 25 true [.int .i64 0, .bool false, .int .i64 0, .str [], .snil, .snil])).objs.get (st.next + 1) = .some (.cells 25 true [.int .i64 k', .bool b', .int .i64 n', .str s', px', nx']) := (get_push_ne _ (by simp only [nxPush]; omega)).trans ((get_push_ne _ (by simp only [nxPush]; omega)).trans (get_push _ _))
  have Ga : ((((st.push (.cells 25 true [.int .i64 k, .bool b, .int .i64 n, .str s, px, nx])).push (.cells 25 true [.int .i64 k', .bool b', .int .i64 n', .str s', px', nx'])).push (.cells 25 true [.int .i64 0, .bool false, .int .i64 0, .str [], .snil, .snil])).push (.cells 25 true [.int .i64 0, .bool false, .int .i64 0, .str [], .snil, .snil])).objs.get (st.next + 1 + 1) = .some (.cells 25 true [.int .i64 0, .bool false, .int .i64 0, .str [], .snil, .snil]) := (get_push_ne _ (by simp only [nxPush]; omega)).trans (get_push _ _)
  have Gb : ((((st.push (.cells 25 true [.int .i64 k, .bool b, .int .i64 n, .str s, px, nx])).push (.cells 25 true [.int .i64 k', .bool b', .int .i64 n', .str s', px', nx'])).push (.cells 25 true [.int .i64 0, .bool false, .int .i64 0, .str [], .snil, .snil])).push (.cells 25 true [.int .i64 0, .bool false, .int .i64 0, .str [], .snil, .snil])).objs.get (st.next + 1 + 1 + 1) = .some (.cells 25 true [.int .i64 0, .bool false, .int .i64 0, .str [], .snil, .snil]) := get_push _ _
  have o0 : ((((st.push (.cells 25 true [.int .i64 k, .bool b, .int .i64 n, .str s, px, nx])).push (.cells 25 true [.int .i64 k', .bool b', .int .i64 n', .str s', px', nx'])).push (.cells 25 true [.int .i64 0, .bool false, .int .i64 0, .str [], .snil, .snil])).push (.cells 25 true [.int .i64 0, .bool false, .int .i64 0, .str [], .snil, .snil])).old = o := ho
  have n0 : ((((st.push (.cells 25 true [.int .i64 k, .bool b, .int .i64 n, .str s, px, nx])).push (.cells 25 true [.int .i64 k', .bool b', .int .i64 n', .str s', px', nx'])).push (.cells 25 true [.int .i64 0, .bool false, .int .i64 0, .str [], .snil, .snil])).push (.cells 25 true [.int .i64 0, .bool false, .int .i64 0, .str [], .snil, .snil])).next = st.next + 1 + 1 + 1 + 1 := rfl
  refine T.bind ?_
  show T _ (parchmentlaw03_Cut (rc15 R 4000) k b n s px nx ((3 : Nat) : Int) 4 ((((st.push (.cells 25 true [.int .i64 k, .bool b, .int .i64 n, .str s, px, nx])).push (.cells 25 true [.int .i64 k', .bool b', .int .i64 n', .str s', px', nx'])).push (.cells 25 true [.int .i64 0, .bool false, .int .i64 0, .str [], .snil, .snil])).push (.cells 25 true [.int .i64 0, .bool false, .int .i64 0, .str [], .snil, .snil])))
  generalize ((((st.push (.cells 25 true [.int .i64 k, .bool b, .int .i64 n, .str s, px, nx])).push (.cells 25 true [.int .i64 k', .bool b', .int .i64 n', .str s', px', nx'])).push (.cells 25 true [.int .i64 0, .bool false, .int .i64 0, .str [], .snil, .snil])).push (.cells 25 true [.int .i64 0, .bool false, .int .i64 0, .str [], .snil, .snil])) = S0 at G1 Ga Gb o0 n0 ⊢
  refine cut_s hR 3 4000 k b n s parts names px nx S0 _ (by decide) (by decide) r1 o0 fun ka ba na sa pa xa S1 k1 ra oa1 oa2 ba1 ba2 => ?_
  have n1 := k1.1
  refine T.step (load_cells ((k1.2.1 (st.next + 1) (by omega)).trans G1) rfl) ?_
  refine T.ifT (beq_cells p5 p6) ?_
  refine T.bind ?_
  refine cut_s hR 3 4000 k' b' n' s' parts' names' px' nx' S1 _ (by decide) (by decide) r2 (k1.2.2.trans o0) fun kb_ bb nb sb pb xb S2 k2 rb ob1 ob2 bb1 bb2 => ?_
  obtain ⟨qa, ma, ea⟩ := RV_cells ra
  obtain ⟨qb, mb, eb⟩ := RV_cells rb
  have da := cut_dp 3 _ B1
  have db := cut_dp 3 _ B2
  rw [ea] at ra da
  rw [eb] at rb db
  have k12 := k1.trans k2
  have n2 := k12.1
  have o2 : S2.old = o := k12.2.2.trans o0
  refine T.step (store_cells ((k12.2.1 (st.next + 1 + 1) (by omega)).trans Ga) rfl rfl (by simp only [oneB_, oa1, oa2])) ?_
  refine T.step (store_cells ((get_put_ne _ (by simp only [nxPush]; omega)).trans ((k12.2.1 (st.next + 1 + 1 + 1) (by omega)).trans Gb)) rfl rfl (by simp only [oneB_, ob1, ob2])) ?_
  have Ha : ((S2.put (st.next + 1 + 1) (.cells 25 true [.int .i64 ka, .bool ba, .int .i64 na, .str sa, pa, xa])).put (st.next + 1 + 1 + 1) (.cells 25 true [.int .i64 kb_, .bool bb, .int .i64 nb, .str sb, pb, xb])).objs.get (st.next + 1 + 1) = .some (.cells 25 true [.int .i64 ka, .bool ba, .int .i64 na, .str sa, pa, xa]) := (get_put_ne _ (by omega)).trans (get_put _ _ _)
  have Hb : ((S2.put (st.next + 1 + 1) (.cells 25 true [.int .i64 ka, .bool ba, .int .i64 na, .str sa, pa, xa])).put (st.next + 1 + 1 + 1) (.cells 25 true [.int .i64 kb_, .bool bb, .int .i64 nb, .str sb, pb, xb])).objs.get (st.next + 1 + 1 + 1) = .some (.cells 25 true [.int .i64 kb_, .bool bb, .int .i64 nb, .str sb, pb, xb]) := get_put _ _ _
  have o3 : ((S2.put (st.next + 1 + 1) (.cells 25 true [.int .i64 ka, .bool ba, .int .i64 na, .str sa, pa, xa])).put (st.next + 1 + 1 + 1) (.cells 25 true [.int .i64 kb_, .bool bb, .int .i64 nb, .str sb, pb, xb])).old = o := o2
  have n3 : st.next + 1 + 1 + 1 < ((S2.put (st.next + 1 + 1) (.cells 25 true [.int .i64 ka, .bool ba, .int .i64 na, .str sa, pa, xa])).put (st.next + 1 + 1 + 1) (.cells 25 true [.int .i64 kb_, .bool bb, .int .i64 nb, .str sb, pb, xb])).next := by simp only [nxPut]; omega
  refine T.bind ?_
  show T _ (parchmentlaw19_PlanSpans_j1100 R (st.next + 1 + 1) (st.next + 1 + 1 + 1) ((S2.put (st.next + 1 + 1) (.cells 25 true [.int .i64 ka, .bool ba, .int .i64 na, .str sa, pa, xa])).put (st.next + 1 + 1 + 1) (.cells 25 true [.int .i64 kb_, .bool bb, .int .i64 nb, .str sb, pb, xb])))
  generalize ((S2.put (st.next + 1 + 1) (.cells 25 true [.int .i64 ka, .bool ba, .int .i64 na, .str sa, pa, xa])).put (st.next + 1 + 1 + 1) (.cells 25 true [.int .i64 kb_, .bool bb, .int .i64 nb, .str sb, pb, xb])) = S3 at Ha Hb o3 n3 ⊢
  refine checks_s hR da db ra rb o3 (by omega) n3 Ha Hb fun r S4 k4 hr => ?_
  have hA : ∀ {S : St}, T φ (Option.bind (xawake R) fun b => .some (b, S)) := fun {S} => T.some (h S)
  refine T.ite (fun _ => hA) (fun hrf => ?_)
  obtain ⟨oka, okb⟩ := hr (by simpa using hrf)
  have Va : Vc o ka ba na sa qa ma pa xa := ⟨da, oka, ra, ⟨oa1, oa2⟩, ⟨ba1, ba2⟩⟩
  have Vb : Vc o kb_ bb nb sb qb mb pb xb := ⟨db, okb, rb, ⟨ob1, ob2⟩, ⟨bb1, bb2⟩⟩
  have Ha4 := (k4.2.1 (st.next + 1 + 1) (by omega)).trans Ha
  have Hb4 := (k4.2.1 (st.next + 1 + 1 + 1) n3).trans Hb
  have o4 : S4.old = o := k4.2.2.trans o3
  have n4 := Nat.lt_of_lt_of_le n3 k4.1
  refine T.step (load_cells Hb4 rfl) ?_
  refine T.step deV ?_
  refine T.bind (span_s hR hO Vb o4 fun S5 k5 => ?_)
  have n5 := Nat.lt_of_lt_of_le n4 k5.1
  have o5 : S5.old = o := k5.2.2.trans o4
  refine T.step (store_cells (get_push _ _) rfl rfl rfl) ?_
  refine T.step (jWant R sg) ?_
  rw [spanK_ok]
  refine T.step (jBad R (isSign sg)) ?_
  refine T.ifF (by decide) ?_
  have Ha5 : ((S5.push (.cells 33 true [.str [], .str []])).put S5.next (.cells 33 true [.str (spanK sg (keyV (.mk kb_ bb nb sb qb mb))).1, .str (spanK sg (keyV (.mk kb_ bb nb sb qb mb))).2.1])).objs.get (st.next + 1 + 1) = .some (.cells 25 true [.int .i64 ka, .bool ba, .int .i64 na, .str sa, pa, xa]) := (get_put_ne _ (by omega)).trans ((get_push_ne _ (by omega)).trans ((k5.2.1 _ (by omega)).trans Ha4))
  have Hb5 : ((S5.push (.cells 33 true [.str [], .str []])).put S5.next (.cells 33 true [.str (spanK sg (keyV (.mk kb_ bb nb sb qb mb))).1, .str (spanK sg (keyV (.mk kb_ bb nb sb qb mb))).2.1])).objs.get (st.next + 1 + 1 + 1) = .some (.cells 25 true [.int .i64 kb_, .bool bb, .int .i64 nb, .str sb, pb, xb]) := (get_put_ne _ (by omega)).trans ((get_push_ne _ (by omega)).trans ((k5.2.1 _ n4).trans Hb4))
  have Hs5 : ((S5.push (.cells 33 true [.str [], .str []])).put S5.next (.cells 33 true [.str (spanK sg (keyV (.mk kb_ bb nb sb qb mb))).1, .str (spanK sg (keyV (.mk kb_ bb nb sb qb mb))).2.1])).objs.get S5.next = .some (.cells 33 true [.str (spanK sg (keyV (.mk kb_ bb nb sb qb mb))).1, .str (spanK sg (keyV (.mk kb_ bb nb sb qb mb))).2.1]) := get_put _ _ _
  have o6 : ((S5.push (.cells 33 true [.str [], .str []])).put S5.next (.cells 33 true [.str (spanK sg (keyV (.mk kb_ bb nb sb qb mb))).1, .str (spanK sg (keyV (.mk kb_ bb nb sb qb mb))).2.1])).old = o := o5
  have n6 : S5.next < ((S5.push (.cells 33 true [.str [], .str []])).put S5.next (.cells 33 true [.str (spanK sg (keyV (.mk kb_ bb nb sb qb mb))).1, .str (spanK sg (keyV (.mk kb_ bb nb sb qb mb))).2.1])).next := Nat.lt_succ_self _
  generalize ((S5.push (.cells 33 true [.str [], .str []])).put S5.next (.cells 33 true [.str (spanK sg (keyV (.mk kb_ bb nb sb qb mb))).1, .str (spanK sg (keyV (.mk kb_ bb nb sb qb mb))).2.1])) = S6 at Ha5 Hb5 Hs5 o6 n6 ⊢
  refine T.ite (fun hsig => ?_) (fun hsig => ?_)
  · refine T.step (load_cells Ha5 rfl) ?_
    refine T.step deV ?_
    refine T.step (load_cells Hb5 rfl) ?_
    refine T.step deV ?_
    refine T.bind (ref_s hR 3 4000 ka ba na sa qa ma pa xa S6 _ (by decide) da ra o6 fun kr br nr sr pr xr S7 k7 rr or1 or2 br1 br2 => ?_)
    obtain ⟨qr, mr, er⟩ := RV_cells rr
    simp only [Vt.mk.injEq] at er
    obtain ⟨rfl, rfl, rfl, rfl, rfl, rfl⟩ := er
    have n7 := k7.1
    refine T.step (load_cells ((k7.2.1 (st.next + 1 + 1 + 1) (by omega)).trans Hb5) rfl) ?_
    refine T.ifT (beq_cells bb1 bb2) ?_
    refine T.step (load_cells ((k7.2.1 (st.next + 1 + 1) (by omega)).trans Ha5) rfl) ?_
    refine T.ifT (beq_cells ba1 ba2) ?_
    refine T.bind (lk_s hR 3 4000 _ _ _ _ _ _ pr xr S7 _ (by decide) (by decide) da oka rr (k7.2.2.trans o6) fun S8 k8 => ?_)
    have k78 := k7.trans k8
    have n8 := k78.1
    refine T.step (load_cells ((k78.2.1 (st.next + 1 + 1 + 1) (by omega)).trans Hb5) rfl) ?_
    refine T.ifT (beq_cells bb1 bb2) ?_
    refine T.step (load_cells ((k78.2.1 (st.next + 1 + 1) (by omega)).trans Ha5) rfl) ?_
    refine T.ifT (beq_cells ba1 ba2) ?_
    refine T.bind (cmp_s hR 3 4000 _ _ _ _ _ _ _ _ _ _ _ _ pa xa pb xb S8 _ (by decide) da db ra rb (k78.2.2.trans o6) fun S9 k9 => ?_)
    have k79 := k78.trans k9
    refine T.bind (jIn_s ((k79.2.1 _ n6).trans Hs5) ?_)
    obtain ⟨P1, P2, P3⟩ := spans (okV_of 3 _ da oka) (okV_of 3 _ db okb)
    have P4 := keyV_ne (.mk kb_ bb nb sb qb mb)
    generalize hc : cmpV (.mk _ _ _ _ _ _) (.mk kb_ bb nb sb qb mb) = c at P1 P2 ⊢
    have fin : ∀ {p : Prop} [Decidable p] {x : Bool}, x = decide p → T φ (if p then (if x = true then .some (true, S9) else .some (false, S9)) else (if x = true then .some (false, S9) else .some (true, S9))) := fun {p} _ {x} hx => by
      subst hx
      refine T.ite (fun hp => T.ifT (decide_eq_true hp) (T.some (h _))) (fun hp => T.ifF (by simpa using hp) (T.some (h _)))
    by_cases h1 : sg = [61]
    · have e : spanK sg (keyV (.mk kb_ bb nb sb qb mb)) = (keyV (.mk kb_ bb nb sb qb mb), nextK (keyV (.mk kb_ bb nb sb qb mb)), true) := by unfold spanK; rw [if_pos h1]
      rw [e]
      refine T.ifT h1 (fin ?_)
      simp only [P1, P2, decide_eq_false P3, Bool.false_or]
      by_cases q1 : c < 0
      · rw [decide_eq_true q1, decide_eq_false (by omega : ¬ c = 0)]; rfl
      · rw [decide_eq_false q1]
        by_cases q2 : c ≤ 0
        · rw [decide_eq_true q2, decide_eq_true (by omega : c = 0)]; rfl
        · rw [decide_eq_false q2, decide_eq_false (by omega : ¬ c = 0)]; rfl
    · refine T.ifF h1 ?_
      by_cases h2 : sg = [60]
      · have e : spanK sg (keyV (.mk kb_ bb nb sb qb mb)) = ([], keyV (.mk kb_ bb nb sb qb mb), true) := by unfold spanK; rw [if_neg h1, if_pos h2]
        rw [e]
        refine T.ifT h2 (fin ?_)
        simp only [P1, lt_nil, decide_eq_false P4, Bool.false_or, Bool.not_false, Bool.true_and]
      · refine T.ifF h2 ?_
        by_cases h3 : sg = [60, 61]
        · have e : spanK sg (keyV (.mk kb_ bb nb sb qb mb)) = ([], nextK (keyV (.mk kb_ bb nb sb qb mb)), true) := by unfold spanK; rw [if_neg h1, if_neg h2, if_pos h3]
          rw [e]
          refine T.ifT h3 (fin ?_)
          simp only [P2, lt_nil, decide_eq_false P3, Bool.false_or, Bool.not_false, Bool.true_and]
        · refine T.ifF h3 ?_
          by_cases h4 : sg = [62]
          · have e : spanK sg (keyV (.mk kb_ bb nb sb qb mb)) = (nextK (keyV (.mk kb_ bb nb sb qb mb)), [], true) := by unfold spanK; rw [if_neg h1, if_neg h2, if_neg h3, if_pos h4]
            rw [e]
            refine T.ifT h4 (fin ?_)
            simp only [P2, decide_eq_true (rfl : ([] : List UInt8) = []), Bool.true_or, Bool.and_true]
            by_cases q2 : c ≤ 0
            · rw [decide_eq_true q2, decide_eq_false (by omega : ¬ c > 0)]; rfl
            · rw [decide_eq_false q2, decide_eq_true (by omega : c > 0)]; rfl
          · refine T.ifF h4 ?_
            have h5 : sg = [62, 61] := by
              unfold isSign at hsig
              have := of_decide_eq_true hsig
              rcases this with q | q | q | q | q <;> first | exact absurd q (by assumption) | exact q
            have e : spanK sg (keyV (.mk kb_ bb nb sb qb mb)) = (keyV (.mk kb_ bb nb sb qb mb), [], true) := by unfold spanK; rw [if_neg h1, if_neg h2, if_neg h3, if_neg h4, if_pos h5]
            rw [e]
            refine fin ?_
            simp only [P1, decide_eq_true (rfl : ([] : List UInt8) = []), Bool.true_or, Bool.and_true]
            by_cases q1 : c < 0
            · rw [decide_eq_true q1, decide_eq_false (by omega : ¬ c ≥ 0)]; rfl
            · rw [decide_eq_false q1, decide_eq_true (by omega : c ≥ 0)]; rfl
  · have hno : (spanK sg (keyV (.mk kb_ bb nb sb qb mb))).1 = [] ∧ (spanK sg (keyV (.mk kb_ bb nb sb qb mb))).2.1 = [] := by
      have := spanK_ok sg (keyV (.mk kb_ bb nb sb qb mb))
      revert this
      unfold spanK
      repeat' split
      all_goals intro e
      all_goals first | exact ⟨rfl, rfl⟩ | exact absurd (by rw [← e]) hsig
    rw [hno.1, hno.2] at Hs5
    refine T.step (load_cells Hs5 rfl) ?_
    refine T.step deSS ?_
    refine T.step eqSpan0 ?_
    exact T.ifT rfl (T.some (h _))
end
end Go.Proofs.YthodfojhbbendaaGreatDoor
