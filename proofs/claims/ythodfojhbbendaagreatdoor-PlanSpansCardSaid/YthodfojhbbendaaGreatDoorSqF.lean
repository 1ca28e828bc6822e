/- Values as the document has them, and their keys. -/
import Derived.Test.YthodfojhbbendaaGreatDoorSqE
set_option linter.all false
set_option maxRecDepth 100000
set_option maxHeartbeats 2000000
namespace Go.Proofs.YthodfojhbbendaaGreatDoor
open Go Go.Ev
noncomputable section
attribute [local congr] bindC iteC
/-! ### A value as the document has it -/
def PF19 (R : Rc19) (o : Nat → Nat → Option AV) (parts : List Vt) : Prop := ∀ k b n s pp nn, Vt.mk k b n s pp nn ∈ parts → ∀ (px nx : AV) (st : St) (φ : Int × Bool × Int × List UInt8 × AV × AV × St → Prop), RV (RN o) 23 25 o (.mk k b n s pp nn) [.int .i64 k, .bool b, .int .i64 n, .str s, px, nx] → st.old = o →
  (∀ k' b' n' s' px' nx' st1, KN st st1 → RV (RN o) 46 48 o (.mk k b n s pp nn) [.int .i64 k', .bool b', .int .i64 n', .str s', px', nx'] → px'.one = true → nx'.one = true → AV.beq px' px' = true → AV.beq nx' nx' = true → φ (k', b', n', s', px', nx', st1)) → T φ (R.f19 k b n s px nx st)
theorem refL_s {R : Rc19} {o : Nat → Nat → Option AV} {parts : List Vt} {px nx0 nx : AV} {k n : Int} {b : Bool} {s s0 : List UInt8} (hl : parts.length ≤ 4) (lp : lenOf px = .some parts.length) (hP : RPs (RN o) 23 25 o parts px 0) (hf : PF19 R o parts)
    {S : St} (ho : S.old = o) {vid wid rid : Nat} (hv : vid < S.next) (hvw : vid ≠ wid) (hw : wid < S.next) (hg : S.objs.get vid = .some (.cells 25 true [.int .i64 k, .bool b, .int .i64 n, .str s0, px, nx0])) {ψ : St → Prop}
    (h : ∀ st1 x cells, Fr wid S st1 → Bt 46 48 o S.next wid k b n s nx st1 parts x cells → ψ st1) :
    ∀ (r i : Nat) (st1 : St) (x : AV) (cells : List AV), i ≤ parts.length → parts.length - i < r → Fr wid S st1 → Bt 46 48 o S.next wid k b n s nx st1 (parts.take i) x cells →
      T ψ (parchmentlaw03_Ref_l11010 R (.ref vid 0) rid wid r (i : Int) st1)
  | 0, _, _, _, _, _, h, _, _ => absurd h (Nat.not_lt_zero _)
  | r + 1, i, st1, x, cells, hi, hr, F1, hB => by
    unfold parchmentlaw03_Ref_l11010 parchmentlaw03_Ref_c11010010
    have g1 := (F1.get vid hv hvw).trans hg
    have o1 : st1.old = o := F1.old.trans ho
    repeat (refine T.step (by simp (disch := (first | ((repeat (first | rw [nxPush] | rw [nxPut] | rw [List.length_cons] | rw [List.length_nil])) <;> omega) | (refine (?_ : _ ∧ True).1; constructor; simp only [oneB_, *]; exact True.intro))) only [allS, g1, lp]; try exact rfl) ?_)
    by_cases hlt : i < parts.length
    · refine T.ifT (by omega) ?_
      obtain ⟨a, cs, e1, e2, hrv⟩ := RPs_get hP i hlt
      rw [Nat.zero_add] at e1
      rcases hpi : parts[i] with ⟨k', b', n', s', pp, nn⟩
      rw [hpi] at hrv
      have hmem : Vt.mk k' b' n' s' pp nn ∈ parts := hpi ▸ List.getElem_mem hlt
      have hrv' := hrv
      simp only [RV] at hrv
      obtain ⟨px', nx', rfl, hp', hN', lp', hP'⟩ := hrv
      refine T.bind ?_
      refine T.step (load_cell hB.at_ (by rfl)) ?_
      repeat (refine T.step (by simp (disch := (first | ((repeat (first | rw [nxPush] | rw [nxPut] | rw [List.length_cons] | rw [List.length_nil])) <;> omega) | (refine (?_ : _ ∧ True).1; constructor; simp only [oneB_, *]; exact True.intro))) only [allS, g1]; try exact rfl) ?_)
      refine T.step e1 ?_
      refine T.step (e2 st1 o1) ?_
      refine T.step deV ?_
      refine T.bind (hf k' b' n' s' pp nn hmem px' nx' st1 _ hrv' o1 fun k2 b2 n2 s2 px2 nx2 st2 K2 hrv2 q1 q2 q3 q4 => ?_)
      have hB2 := hB.kn (Nat.lt_of_lt_of_le hw F1.next) K2
      refine grow_s hB2 hw (Nat.le_trans F1.next K2.1) (by rw [List.length_take]; omega) hrv2 q1 q2 q3 q4 fun st3 x3 c3 hB3 n3 f3 o3 => ?_
      rw [wrapS (by omega)]
      have e : parts.take i ++ [.mk k' b' n' s' pp nn] = parts.take (i + 1) := by
        rw [List.take_add_one, List.getElem?_eq_getElem hlt, hpi]; rfl
      rw [e] at hB3
      have F2 := F1.kn K2
      exact refL_s hl lp hP hf ho hv hvw hw hg h r (i + 1) st3 x3 c3 hlt (by omega) ⟨Nat.le_trans F2.next n3, fun j hj hne => (f3 j hj hne).trans (F2.get j hj hne), o3.trans F2.old⟩ hB3
    · refine T.ifF (by omega) ?_
      rw [List.take_of_length_le (by omega)] at hB
      exact T.some (h st1 x cells F1 hB)
theorem ref_1 {R : Rc19} (hR : 18446744073709551616 ≤ R.n) {o : Nat → Nat → Option AV} {k n : Int} {b : Bool} {s : List UInt8} {parts : List Vt} {names : List (List UInt8)} {px nx : AV} (hl : parts.length ≤ 4) (hrv : RV (RN o) 23 25 o (.mk k b n s parts names) [.int .i64 k, .bool b, .int .i64 n, .str s, px, nx]) (hf : PF19 R o parts)
    {st : St} (ho : st.old = o) {φ : Int × Bool × Int × List UInt8 × AV × AV × St → Prop} (h : ∀ px' nx' st1, KN st st1 → RV (RN o) 46 48 o (.mk k b n s parts names) [.int .i64 k, .bool b, .int .i64 n, .str s, px', nx'] → px'.one = true → nx'.one = true → AV.beq px' px' = true → AV.beq nx' nx' = true → φ (k, b, n, s, px', nx', st1)) :
    T φ (parchmentlaw03_Ref R k b n s px nx st) := by
  simp only [RV] at hrv
  obtain ⟨px', nx', e, hp, hNm, lp, hP⟩ := hrv
  simp only [List.cons.injEq, true_and, and_true] at e
  obtain ⟨rfl, rfl⟩ := e
  have hn := hNm.one
  unfold parchmentlaw03_Ref
  refine T.step (boxV hp hn) ?_
  have hV : ((st.push (.cells 25 true [.int .i64 k, .bool b, .int .i64 n, .str s, px, nx])).push (.cells 48 true [.int .i64 0, .bool false, .int .i64 0, .str [], .snil, .snil])).objs.get st.next = .some (.cells 25 true [.int .i64 k, .bool b, .int .i64 n, .str s, px, nx]) := (get_push_ne _ (Nat.ne_of_lt (Nat.lt_succ_self _))).trans (get_push _ _)
  refine T.step shR ?_
  refine T.step (load_cell hV (by rfl)) ?_
  refine T.step avI ?_
  refine T.step shR ?_
  refine T.step (load_cell hV (by rfl)) ?_
  refine T.step avB ?_
  refine T.step shR ?_
  refine T.step (load_cell hV (by rfl)) ?_
  refine T.step avI ?_
  refine T.step shR ?_
  refine T.step (load_cell hV (by rfl)) ?_
  refine T.step avS ?_
  refine T.step shR ?_
  refine T.step (load_cell hV (by rfl)) ?_
  refine T.step (isO hn) ?_
  refine T.step (store_cells (get_push _ _) rfl rfl (by simp only [oneB_, hn])) ?_
  have K0 : KN st ((((st.push (.cells 25 true [.int .i64 k, .bool b, .int .i64 n, .str s, px, nx])).push (.cells 48 true [.int .i64 0, .bool false, .int .i64 0, .str [], .snil, .snil])).push (.cells 48 true [.int .i64 0, .bool false, .int .i64 0, .str [], .snil, .snil])).put (st.next + 1 + 1) (.cells 48 true [.int .i64 k, .bool b, .int .i64 n, .str s, .snil, nx])) := KN.loc (KN.psh (KN.psh (KN.psh KN.refl))) (by omega)
  have gW : ((((st.push (.cells 25 true [.int .i64 k, .bool b, .int .i64 n, .str s, px, nx])).push (.cells 48 true [.int .i64 0, .bool false, .int .i64 0, .str [], .snil, .snil])).push (.cells 48 true [.int .i64 0, .bool false, .int .i64 0, .str [], .snil, .snil])).put (st.next + 1 + 1) (.cells 48 true [.int .i64 k, .bool b, .int .i64 n, .str s, .snil, nx])).objs.get (st.next + 1 + 1) = .some (.cells 48 true [.int .i64 k, .bool b, .int .i64 n, .str s, .snil, nx]) := get_put _ _ _
  have gV : ((((st.push (.cells 25 true [.int .i64 k, .bool b, .int .i64 n, .str s, px, nx])).push (.cells 48 true [.int .i64 0, .bool false, .int .i64 0, .str [], .snil, .snil])).push (.cells 48 true [.int .i64 0, .bool false, .int .i64 0, .str [], .snil, .snil])).put (st.next + 1 + 1) (.cells 48 true [.int .i64 k, .bool b, .int .i64 n, .str s, .snil, nx])).objs.get st.next = .some (.cells 25 true [.int .i64 k, .bool b, .int .i64 n, .str s, px, nx]) := (get_put_ne _ (by omega)).trans ((get_push_ne _ (by simp only [nxPush]; omega)).trans hV)
  have gR : ((((st.push (.cells 25 true [.int .i64 k, .bool b, .int .i64 n, .str s, px, nx])).push (.cells 48 true [.int .i64 0, .bool false, .int .i64 0, .str [], .snil, .snil])).push (.cells 48 true [.int .i64 0, .bool false, .int .i64 0, .str [], .snil, .snil])).put (st.next + 1 + 1) (.cells 48 true [.int .i64 k, .bool b, .int .i64 n, .str s, .snil, nx])).objs.get (st.next + 1) = .some (.cells 48 true [.int .i64 0, .bool false, .int .i64 0, .str [], .snil, .snil]) := (get_put_ne _ (by omega)).trans ((get_push_ne _ (by simp only [nxPush]; omega)).trans (get_push _ _))
  show T φ (Option.bind (parchmentlaw03_Ref_c1101 R (.ref st.next 0) (st.next + 1) (st.next + 1 + 1) ((((st.push (.cells 25 true [.int .i64 k, .bool b, .int .i64 n, .str s, px, nx])).push (.cells 48 true [.int .i64 0, .bool false, .int .i64 0, .str [], .snil, .snil])).push (.cells 48 true [.int .i64 0, .bool false, .int .i64 0, .str [], .snil, .snil])).put (st.next + 1 + 1) (.cells 48 true [.int .i64 k, .bool b, .int .i64 n, .str s, .snil, nx]))) _)
  generalize hS0 : ((((st.push (.cells 25 true [.int .i64 k, .bool b, .int .i64 n, .str s, px, nx])).push (.cells 48 true [.int .i64 0, .bool false, .int .i64 0, .str [], .snil, .snil])).push (.cells 48 true [.int .i64 0, .bool false, .int .i64 0, .str [], .snil, .snil])).put (st.next + 1 + 1) (.cells 48 true [.int .i64 k, .bool b, .int .i64 n, .str s, .snil, nx])) = S0 at K0 gW gV gR ⊢
  have n0 : S0.next = st.next + 1 + 1 + 1 := by rw [← hS0]; rfl
  have o0 : S0.old = o := K0.2.2.trans ho
  unfold parchmentlaw03_Ref_c1101
  refine T.bind ?_
  refine T.bind (refL_s (s := s) (nx := nx) hl lp hP hf (S := S0) o0 (by omega) (by omega) (by omega) gV (fun S3 x cells F3 hB => ?_) R.n 0 S0 .snil [] (Nat.zero_le _) (by omega) Fr.refl ⟨gW, Sl.nil _ _, (fun _ h => by cases h), rfl, rfl, fun j hj => absurd hj (Nat.not_lt_zero _)⟩)
  refine T.some ?_
  have gR3 := (F3.get (st.next + 1) (by omega) (by omega)).trans gR
  have h3n := F3.next
  obtain ⟨r1, r2, r3, r4⟩ := hB.row
  refine T.step (load_cells hB.at_ rfl) ?_
  refine T.step deV ?_
  refine T.step (store_cells gR3 rfl rfl (by simp only [oneB_, r1, hn])) ?_
  refine T.step (load_cells (get_put _ _ _) rfl) ?_
  refine T.step deV ?_
  refine T.some (h x nx _ ?_ (RV_ns r1 hNm r3 r4) r1 hn r2 hNm.beq)
  exact (F3.toKN K0 (by omega)).loc (show st.next ≤ st.next + 1 by omega)
theorem ref_s {Rn : Nat} (hR : 18446744073709551616 ≤ Rn) {o : Nat → Nat → Option AV} : ∀ (d m : Nat) (k : Int) (b : Bool) (n : Int) (s : List UInt8) (parts : List Vt) (names : List (List UInt8)) (px nx : AV) (st : St) (φ : Int × Bool × Int × List UInt8 × AV × AV × St → Prop), d ≤ m → dp d (.mk k b n s parts names) → RV (RN o) 23 25 o (.mk k b n s parts names) [.int .i64 k, .bool b, .int .i64 n, .str s, px, nx] → st.old = o →
    (∀ k' b' n' s' px' nx' st1, KN st st1 → RV (RN o) 46 48 o (.mk k b n s parts names) [.int .i64 k', .bool b', .int .i64 n', .str s', px', nx'] → px'.one = true → nx'.one = true → AV.beq px' px' = true → AV.beq nx' nx' = true → φ (k', b', n', s', px', nx', st1)) → T φ (parchmentlaw03_Ref (rc19 Rn m) k b n s px nx st)
  | 0, m, k, b, n, s, parts, names, px, nx, st, φ, hm, hdp, hrv, ho, h => by
    obtain ⟨hB, rfl⟩ := hdp
    exact ref_1 (by rw [rc19_n]; exact hR) (Nat.zero_le _) hrv (fun k b n s pp nn hp => absurd hp (by simp)) ho fun px' nx' st1 => h k b n s px' nx' st1
  | d + 1, 0, k, b, n, s, parts, names, px, nx, st, φ, hm, hdp, hrv, ho, h => absurd hm (by omega)
  | d + 1, m + 1, k, b, n, s, parts, names, px, nx, st, φ, hm, hdp, hrv, ho, h => by
    obtain ⟨hB, hl, hd⟩ := hdp
    exact ref_1 (by rw [rc19_n]; exact hR) hl hrv (fun k b n s pp nn hp px nx st φ hrv ho h => ref_s hR d m k b n s pp nn px nx st φ (by omega) (hd _ hp) hrv ho h) ho fun px' nx' st1 => h k b n s px' nx' st1
/-! ### The document's keys -/
def PF20 (R : Rc20) (o : Nat → Nat → Option AV) (B : Nat) (parts : List Vt) : Prop := ∀ k b n s pp nn, Vt.mk k b n s pp nn ∈ parts → (keyV (.mk k b n s pp nn)).length ≤ B ∧ ∀ (px nx : AV) (st : St) (φ : List UInt8 × St → Prop), RV (RN o) 46 48 o (.mk k b n s pp nn) [.int .i64 k, .bool b, .int .i64 n, .str s, px, nx] → st.old = o → (∀ st1, KN st st1 → φ (keyV (.mk k b n s pp nn), st1)) → T φ (R.f20 k b n s px nx st)
theorem lkC_s {R : Rc20} (hR : 18446744073709551616 ≤ R.n) {o : Nat → Nat → Option AV} {k n : Int} {b : Bool} {s : List UInt8} {parts : List Vt} {names : List (List UInt8)} {px nx : AV} {B : Nat} (hB : B ≤ 10000000) (hk6 : k ≠ 6 → names.length = 0) (hN : RN o nx names) (hnm : ∀ m ∈ names, m.length ≤ 16) (hP : RPs (RN o) 46 48 o parts px 0) (hf : PF20 R o B parts)
    {id : Nat} {st1 : St} (g1 : st1.objs.get id = .some (.cells 48 true [.int .i64 k, .bool b, .int .i64 n, .str s, px, nx])) (o1 : st1.old = o) {i : Nat} (hlt : i < parts.length) {t : List UInt8} (ht : t.length ≤ 90000000) {χ : List UInt8 × St → Prop} (h : ∀ st', KN st1 st' → χ (t ++ ([1] ++ (optK names i ++ keyV parts[i])), st')) :
    T χ (parchmentlaw04_Key_c1101011111110010010 R (.ref id 0) t (i : Int) st1) := by
  unfold parchmentlaw04_Key_c1101011111110010010
  obtain ⟨a, cs, e1, e2, hrv⟩ := RPs_get hP i hlt
  rw [Nat.zero_add] at e1
  rcases hpi : parts[i] with ⟨k', b', n', s', pp, nn⟩
  rw [hpi] at hrv h
  have hmem : Vt.mk k' b' n' s' pp nn ∈ parts := hpi ▸ List.getElem_mem hlt
  obtain ⟨hkl, hf⟩ := hf _ _ _ _ _ _ hmem
  have hrv' := hrv
  simp only [RV] at hrv
  obtain ⟨px', nx', rfl, hp', hN', lp', hP'⟩ := hrv
  have ln := hN.len
  refine T.step (catS_le (by simp only [List.length_cons, List.length_nil]; omega)) ?_
  have hend : ∀ (q : List UInt8), q = t ++ ([1] ++ optK names i) → T χ (Option.bind (shift (.ref id 0) 4) fun x3426 =>
      Option.bind (loadAt C0.P st1 46 x3426) fun x3428 =>
      Option.bind (indexAddrOp C0.P 46 x3428 (.int .i64 (i : Int))) fun x3430 =>
      Option.bind (loadAt C0.P st1 48 x3430) fun x3432 =>
      Option.bind (de_Ai64_b_i64_s_a_aZ x3432) fun (i3433, b3434, i3435, s3436, x3437, x3438) =>
      Option.bind (R.f20 i3433 b3434 i3435 s3436 x3437 x3438 st1) fun (s3440, st3442) =>
      Option.bind (catS q s3440) fun s3444 => .some (s3444, st3442)) := fun q hq => by
    repeat (refine T.step (by simp (disch := (first | ((repeat (first | rw [nxPush] | rw [nxPut] | rw [List.length_cons] | rw [List.length_nil])) <;> omega) | (refine (?_ : _ ∧ True).1; constructor; simp only [oneB_, *]; exact True.intro))) only [allS, g1]; try exact rfl) ?_)
    refine T.step e1 ?_
    refine T.step (e2 st1 o1) ?_
    refine T.step deV ?_
    have hq' : q.length ≤ 90000100 := by
      have := optK_len hnm i
      rw [hq]
      simp only [List.length_append, List.length_cons, List.length_nil]; omega
    refine T.bind (hf px' nx' st1 _ hrv' o1 fun st3 k3 => ?_)
    refine T.step (catS_le (by omega)) ?_
    have e : q ++ keyV (.mk k' b' n' s' pp nn) = t ++ ([1] ++ (optK names i ++ keyV (.mk k' b' n' s' pp nn))) := by rw [hq]; simp only [List.append_assoc]
    rw [e]
    exact T.some (h _ k3)
  unfold parchmentlaw04_Key_j11010111111100100100100 parchmentlaw04_Key_c11010111111100100100101
  refine T.bind ?_
  repeat (refine T.step (by simp (disch := (first | ((repeat (first | rw [nxPush] | rw [nxPut] | rw [List.length_cons] | rw [List.length_nil])) <;> omega) | (refine (?_ : _ ∧ True).1; constructor; simp only [oneB_, *]; exact True.intro))) only [allS, g1]; try exact rfl) ?_)
  have hno : i ≥ names.length → optK names i = [] := fun hge => by unfold optK; rw [List.getElem?_eq_none (by omega)]
  refine T.ite (fun h6 => ?_) (fun h6 => T.some ?_)
  · repeat (refine T.step (by simp (disch := (first | ((repeat (first | rw [nxPush] | rw [nxPut] | rw [List.length_cons] | rw [List.length_nil])) <;> omega) | (refine (?_ : _ ∧ True).1; constructor; simp only [oneB_, *]; exact True.intro))) only [allS, g1, ln]; try exact rfl) ?_)
    refine T.ite (fun hin => T.some ?_) (fun hin => T.some ?_)
    · refine T.bind ?_
      refine T.ifT rfl ?_
      repeat (refine T.step (by simp (disch := (first | ((repeat (first | rw [nxPush] | rw [nxPut] | rw [List.length_cons] | rw [List.length_nil])) <;> omega) | (refine (?_ : _ ∧ True).1; constructor; simp only [oneB_, *]; exact True.intro))) only [allS, g1]; try exact rfl) ?_)
      have hin' : i < names.length := by omega
      obtain ⟨a', q1, q2⟩ := hN.get i hin'
      refine T.step q1 ?_
      refine T.step (q2 _ o1) ?_
      refine T.step avS ?_
      have hm16 := hnm _ (List.getElem_mem hin')
      have hk := ktext_len names[i]
      refine T.bind (ltext_s (by omega) (by omega) ?_)
      refine T.step (catS_le (by simp only [List.length_append, List.length_cons, List.length_nil]; omega)) ?_
      refine T.some (hend _ ?_)
      have : optK names i = ktext names[i] := by unfold optK; rw [List.getElem?_eq_getElem hin']
      rw [this, List.append_assoc]
    · refine T.bind ?_
      refine T.ifF (by decide) ?_
      refine T.some (hend _ ?_)
      rw [hno (by omega), List.append_nil]
  · refine T.bind ?_
    refine T.ifF (by decide) ?_
    refine T.some (hend _ ?_)
    rw [hno (by have := hk6 h6; omega), List.append_nil]
theorem lkL_s {R : Rc20} (hR : 18446744073709551616 ≤ R.n) {o : Nat → Nat → Option AV} {k n : Int} {b : Bool} {s : List UInt8} {parts : List Vt} {names : List (List UInt8)} {px nx : AV} {B : Nat} (hB : B ≤ 10000000) (hl : parts.length ≤ 4) (lp : lenOf px = .some parts.length) (hk6 : k ≠ 6 → names.length = 0) (hN : RN o nx names) (hnm : ∀ m ∈ names, m.length ≤ 16) (hP : RPs (RN o) 46 48 o parts px 0) (hf : PF20 R o B parts)
    {st0 : St} {id : Nat} (hid : id < st0.next) (hg : st0.objs.get id = .some (.cells 48 true [.int .i64 k, .bool b, .int .i64 n, .str s, px, nx])) (ho : st0.old = o) {q : List UInt8} (hq : q.length ≤ 100) {ψ : List UInt8 × St → Prop} (h : ∀ st1, KN st0 st1 → ψ (q ++ keyL parts names, st1)) :
    ∀ (r i : Nat) (st1 : St), i ≤ parts.length → parts.length - i < r → KN st0 st1 → T ψ (parchmentlaw04_Key_l1101011111110010 R (.ref id 0) r (q ++ keyL (parts.take i) names) (i : Int) st1)
  | 0, _, _, _, h, _ => absurd h (Nat.not_lt_zero _)
  | r + 1, i, st1, hi, hr, K1 => by
    unfold parchmentlaw04_Key_l1101011111110010
    have hiB := keyL_len (B := B) (parts.take i) names (fun p hp => by
      obtain ⟨k', b', n', s', pp, nn⟩ := p
      exact (hf _ _ _ _ _ _ (List.mem_of_mem_take hp)).1) hnm
    have h4 : (parts.take i).length * (B + 40) ≤ 4 * (B + 40) := Nat.mul_le_mul_right _ (by rw [List.length_take]; omega)
    have g1 := (K1.2.1 _ hid).trans hg
    repeat (refine T.step (by simp (disch := (first | ((repeat (first | rw [nxPush] | rw [nxPut] | rw [List.length_cons] | rw [List.length_nil])) <;> omega) | (refine (?_ : _ ∧ True).1; constructor; simp only [oneB_, *]; exact True.intro))) only [allS, g1, lp]; try exact rfl) ?_)
    by_cases hlt : i < parts.length
    · refine T.ifT (by omega) ?_
      refine T.bind (lkC_s hR hB hk6 hN hnm hP hf g1 (K1.2.2.trans ho) hlt (by rw [List.length_append]; omega) fun st2 k2 => ?_)
      rw [wrapS (by omega), List.append_assoc, ← keyL_take parts names i hlt]
      exact lkL_s hR hB hl lp hk6 hN hnm hP hf hid hg ho hq h r (i + 1) st2 hlt (by omega) (K1.trans k2)
    · refine T.ifF (by omega) ?_
      rw [List.take_of_length_le (by omega)]
      exact T.some (h st1 K1)
theorem lk_1 {R : Rc20} (hR : 18446744073709551616 ≤ R.n) {o : Nat → Nat → Option AV} {k n : Int} {b : Bool} {s : List UInt8} {parts : List Vt} {names : List (List UInt8)} {px nx : AV} {B : Nat} (hB : B ≤ 10000000) (hl : parts.length ≤ 4) (hs : s.length ≤ 1100) (hk6 : k ≠ 6 → names.length = 0) (hnm : ∀ m ∈ names, m.length ≤ 16) (hrv : RV (RN o) 46 48 o (.mk k b n s parts names) [.int .i64 k, .bool b, .int .i64 n, .str s, px, nx]) (hf : PF20 R o B parts)
    {st : St} (ho : st.old = o) {φ : List UInt8 × St → Prop} (h : ∀ st1, KN st st1 → φ (keyV (.mk k b n s parts names), st1)) : T φ (parchmentlaw04_Key R k b n s px nx st) := by
  simp only [RV] at hrv
  obtain ⟨px', nx', e, hp, hN, lp, hP⟩ := hrv
  simp only [List.cons.injEq, true_and, and_true] at e
  obtain ⟨rfl, rfl⟩ := e
  have hn := hN.one
  have hkt := ktext_len s
  unfold parchmentlaw04_Key
  refine T.step (boxV hp hn) ?_
  have K1 : KN st (st.push (.cells 48 true [.int .i64 k, .bool b, .int .i64 n, .str s, px, nx])) := KN.refl.psh
  repeat (refine T.step (by simp (disch := (first | ((repeat (first | rw [nxPush] | rw [nxPut] | rw [List.length_cons] | rw [List.length_nil])) <;> omega) | (refine (?_ : _ ∧ True).1; constructor; simp only [oneB_, *]; exact True.intro))) only [allS]; try exact rfl) ?_)
  rw [wrapK]
  refine T.step (byte1 rfl) ?_
  refine T.step bstr1 ?_
  have K2 : KN st ((st.push (.cells 48 true [.int .i64 k, .bool b, .int .i64 n, .str s, px, nx])).push (.tip 1)) := K1.psh
  have g2 : ((st.push (.cells 48 true [.int .i64 k, .bool b, .int .i64 n, .str s, px, nx])).push (.tip 1)).objs.get st.next = .some (.cells 48 true [.int .i64 k, .bool b, .int .i64 n, .str s, px, nx]) := (get_push_ne _ (Nat.ne_of_lt (Nat.lt_succ_self _))).trans (get_push _ _)
  have o2 : ((st.push (.cells 48 true [.int .i64 k, .bool b, .int .i64 n, .str s, px, nx])).push (.tip 1)).old = o := ho
  generalize hst2 : (st.push (.cells 48 true [.int .i64 k, .bool b, .int .i64 n, .str s, px, nx])).push (.tip 1) = st2 at K2 g2 o2 ⊢
  have hid : st.next < st2.next := by rw [← hst2]; simp only [nxPush]; omega
  repeat (refine T.step (by simp (disch := (first | ((repeat (first | rw [nxPush] | rw [nxPut] | rw [List.length_cons] | rw [List.length_nil])) <;> omega) | (refine (?_ : _ ∧ True).1; constructor; simp only [oneB_, *]; exact True.intro))) only [allS, g2]; try exact rfl) ?_)
  simp only [keyV] at h
  unfold parchmentlaw04_Key_j11010111100 parchmentlaw04_Key_c11010111101 parchmentlaw04_Key_j1101011111100 parchmentlaw04_Key_c1101011111101
  refine T.ite (fun h1 => ?_) (fun h1 => T.ite (fun h2 => ?_) (fun h2 => ?_))
  · repeat (refine T.step (by simp (disch := (first | ((repeat (first | rw [nxPush] | rw [nxPut] | rw [List.length_cons] | rw [List.length_nil])) <;> omega) | (refine (?_ : _ ∧ True).1; constructor; simp only [oneB_, *]; exact True.intro))) only [allS, g2]; try exact rfl) ?_)
    rw [if_pos h1] at h
    refine T.ite (fun hb => ?_) (fun hb => ?_)
    · refine T.step (catS_le (by simp)) ?_
      rw [if_pos hb] at h
      exact T.some (h _ K2)
    · refine T.step (catS_le (by simp)) ?_
      rw [if_neg hb] at h
      exact T.some (h _ K2)
  · repeat (refine T.step (by simp (disch := (first | ((repeat (first | rw [nxPush] | rw [nxPut] | rw [List.length_cons] | rw [List.length_nil])) <;> omega) | (refine (?_ : _ ∧ True).1; constructor; simp only [oneB_, *]; exact True.intro))) only [allS, g2]; try exact rfl) ?_)
    rw [if_neg h1, if_pos h2] at h
    rw [plN_add]
    refine T.bind (eight_s (by omega) (plN_lt _) fun st3 k3 => ?_)
    refine T.step (catS_le (by rw [tb_len]; simp)) ?_
    exact T.some (h _ (K2.trans k3))
  · rw [if_neg h1, if_neg h2] at h
    have htext : (k = 3 ∨ k = 4) → T φ (Option.bind (shift (.ref st.next 0) 3) fun x1401 =>
        Option.bind (loadAt C0.P st2 9 x1401) fun x1403 =>
        Option.bind (avStr x1403) fun s1404 =>
        Option.bind (parchmentlaw04_text R.n s1404) fun s1406 =>
        Option.bind (catS [kb k] s1406) fun s1410 => .some (s1410, st2)) := fun hc => by
      repeat (refine T.step (by simp (disch := (first | ((repeat (first | rw [nxPush] | rw [nxPut] | rw [List.length_cons] | rw [List.length_nil])) <;> omega) | (refine (?_ : _ ∧ True).1; constructor; simp only [oneB_, *]; exact True.intro))) only [allS, g2]; try exact rfl) ?_)
      refine T.bind (ltext_s (by omega) (by omega) ?_)
      refine T.step (catS_le (by simp only [List.length_cons, List.length_nil]; omega)) ?_
      refine T.some ?_
      rcases hc with hc | hc
      · rw [if_pos hc] at h; exact h _ K2
      · rw [if_neg (by omega), if_pos hc] at h; exact h _ K2
    have hmany : (k = 5 ∨ k = 6) → T φ (Option.bind (parchmentlaw04_Key_c110101111111001 R (.ref st.next 0) [kb k] st2) fun (s2186, st2187) =>
        Option.bind (catS s2186 [0]) fun s2189 => .some (s2189, st2187)) := fun hc => by
      unfold parchmentlaw04_Key_c110101111111001
      have hL : (keyL parts names).length ≤ 4 * (B + 40) := by
        have := keyL_len (B := B) parts names (fun p hp => by
          obtain ⟨k', b', n', s', pp, nn⟩ := p
          exact (hf _ _ _ _ _ _ hp).1) hnm
        have h4 : parts.length * (B + 40) ≤ 4 * (B + 40) := Nat.mul_le_mul_right _ hl
        omega
      refine T.bind ?_
      refine T.bind ?_
      have := lkL_s (R := R) hR hB hl lp hk6 hN hnm hP hf (st0 := st2) hid g2 o2 (q := [kb k]) (by simp) (ψ := fun a => T (fun a => T φ (Option.bind (catS a.1 [0]) fun s2189 => .some (s2189, a.2))) (.some (a.1, a.2))) (fun st3 k3 => ?_) R.n 0 st2 (Nat.zero_le _) (by omega) KN.refl
      · simp only [List.take_zero, keyL, List.append_nil] at this
        exact this
      · refine T.some ?_
        refine T.step (catS_le (by simp only [List.length_append, List.length_cons, List.length_nil]; omega)) ?_
        refine T.some ?_
        rw [List.append_assoc]
        rcases hc with hc | hc
        · rw [if_neg (by omega), if_neg (by omega), if_pos hc] at h; exact h _ (K2.trans k3)
        · rw [if_neg (by omega), if_neg (by omega), if_neg (by omega), if_pos hc] at h; exact h _ (K2.trans k3)
    refine T.bind ?_
    refine T.ite (fun h3 => T.some ?_) (fun h3 => T.some ?_)
    · refine T.bind ?_
      refine T.ifT rfl (T.some ?_)
      exact T.ifT rfl (htext (.inl h3))
    · refine T.bind ?_
      refine T.ifF (by decide) ?_
      refine T.ite (fun h4 => T.some ?_) (fun h4 => T.some ?_)
      · exact T.ifT rfl (htext (.inr h4))
      · refine T.ifF (by decide) ?_
        refine T.bind ?_
        refine T.ite (fun h5 => T.some ?_) (fun h5 => T.some ?_)
        · refine T.bind ?_
          refine T.ifT rfl (T.some ?_)
          refine T.ifT rfl ?_
          exact hmany (.inl h5)
        · refine T.bind ?_
          refine T.ifF (by decide) ?_
          refine T.ite (fun h6 => T.some ?_) (fun h6 => T.some ?_)
          · refine T.ifT rfl ?_
            exact hmany (.inr h6)
          · refine T.ifF (by decide) ?_
            rw [if_neg h3, if_neg h4, if_neg h5, if_neg h6, List.append_nil] at h
            exact T.some (h _ K2)
theorem lk_s {Rn : Nat} (hR : 18446744073709551616 ≤ Rn) {o : Nat → Nat → Option AV} : ∀ (d m : Nat) (k : Int) (b : Bool) (n : Int) (s : List UInt8) (parts : List Vt) (names : List (List UInt8)) (px nx : AV) (st : St) (φ : List UInt8 × St → Prop), d ≤ m → d ≤ 3 → dp d (.mk k b n s parts names) → okC d (.mk k b n s parts names) → RV (RN o) 46 48 o (.mk k b n s parts names) [.int .i64 k, .bool b, .int .i64 n, .str s, px, nx] → st.old = o →
    (∀ st1, KN st st1 → φ (keyV (.mk k b n s parts names), st1)) → T φ (parchmentlaw04_Key (rc20 Rn m) k b n s px nx st)
  | 0, m, k, b, n, s, parts, names, px, nx, st, φ, hm, hd3, hdp, hok, hrv, ho, h => by
    obtain ⟨hB, rfl⟩ := hdp
    exact lk_1 (B := 0) (by rw [rc20_n]; exact hR) (by decide) (Nat.zero_le _) hB.1 hok.2.2.1.2.2.2.2 hok.2.2.2.1 hrv (fun k b n s pp nn hp => absurd hp (by simp)) ho h
  | d + 1, 0, k, b, n, s, parts, names, px, nx, st, φ, hm, hd3, hdp, hok, hrv, ho, h => absurd hm (by omega)
  | d + 1, m + 1, k, b, n, s, parts, names, px, nx, st, φ, hm, hd3, hdp, hok, hrv, ho, h => by
    obtain ⟨hB, hl, hd⟩ := hdp
    have b3 : bd d ≤ 400000 := by
      have : d = 0 ∨ d = 1 ∨ d = 2 := by omega
      rcases this with rfl | rfl | rfl <;> decide
    exact lk_1 (B := bd d) (by rw [rc20_n]; exact hR) (by omega) hl hB.1 hok.1.2.2.1.2.2.2.2 hok.1.2.2.2.1 hrv (fun k b n s pp nn hp => ⟨keyV_len d _ (hd _ hp) (hok.2 _ hp), fun px nx st φ hrv ho h => lk_s hR d m k b n s pp nn px nx st φ (by omega) (by omega) (hd _ hp) (hok.2 _ hp) hrv ho h⟩) ho h
end
end Go.Proofs.YthodfojhbbendaaGreatDoor
