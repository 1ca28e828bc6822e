/- Values cut: so many within one another, and beside one another. -/
import Derived.Test.YthodfojhbbendaaGreatDoorSqD
set_option linter.all false
set_option maxRecDepth 100000
set_option maxHeartbeats 2000000
namespace Go.Proofs.YthodfojhbbendaaGreatDoor
open Go Go.Ev
noncomputable section
attribute [local congr] bindC iteC
/-- A row of texts that may be cut. -/
def RNo (o : Nat → Nat → Option AV) (x : AV) (l : List (List UInt8)) : Prop := RN o x l ∧ ∀ (m : Nat), 0 < m → m ≤ l.length → ∀ st : St, st.old = o → ∃ x', sliceSt C0.P st 22 x .none (.some (.int .i64 (m : Int))) .none = .some x' ∧ RN o x' (l.take m)
/-! ### A row that is made, element by element -/
structure Bt (ts te : Nat) (o : Nat → Nat → Option AV) (L wid : Nat) (k : Int) (b : Bool) (n : Int) (s : List UInt8) (nx : AV) (st : St) (vs : List Vt) (x : AV) (cells : List AV) : Prop where
  at_ : st.objs.get wid = .some (.cells te true [.int .i64 k, .bool b, .int .i64 n, .str s, x, nx])
  sl : Sl st 6 x cells
  fam : ∀ id, famOf x id → L ≤ id
  len : cells.length = vs.length * 6
  beq : AV.beqs cells cells = true
  get : ∀ (j : Nat) (h : j < vs.length), RV (RN o) ts te o vs[j] ((cells.drop (j * 6)).take 6)
theorem Bt.kn {ts te : Nat} {o : Nat → Nat → Option AV} {L wid : Nat} {k : Int} {b : Bool} {n : Int} {s : List UInt8} {nx : AV} {st st1 : St} {vs : List Vt} {x : AV} {cells : List AV} (h : Bt ts te o L wid k b n s nx st vs x cells) (hw : wid < st.next) (K : KN st st1) : Bt ts te o L wid k b n s nx st1 vs x cells :=
  ⟨(K.2.1 _ hw).trans h.at_, Sl.kn h.sl K, h.fam, h.len, h.beq, h.get⟩
theorem Bt.row {ts te : Nat} [SlTy C0.P ts 6] [LdTy C0.P te true 6] {o : Nat → Nat → Option AV} {L wid : Nat} {k : Int} {b : Bool} {n : Int} {s : List UInt8} {nx : AV} {st : St} {vs : List Vt} {x : AV} {cells : List AV} (h : Bt ts te o L wid k b n s nx st vs x cells) :
    x.one = true ∧ AV.beq x x = true ∧ lenOf x = .some vs.length ∧ RPs (RN o) ts te o vs x 0 := by
  refine ⟨Sl.one h.sl, beq_rowC h.sl.row h.beq, ?_, RPs_put fun i hi => ?_⟩
  · rw [lenOf_row h.sl.row (by decide), h.len, Nat.mul_div_cancel _ (by decide)]
  · rw [Nat.zero_add]
    have hlt : i * 6 + 6 ≤ cells.length := by rw [h.len]; omega
    refine ⟨_, _, elem_row h.sl.row (by omega), fun st _ => load_agg (by rw [List.length_drop]; omega), h.get i hi⟩
theorem grow_s {ts te : Nat} [SlTy C0.P ts 6] [LdTy C0.P ts false 1] {o : Nat → Nat → Option AV} {L wid : Nat} {k : Int} {b : Bool} {n : Int} {s : List UInt8} {nx : AV} {st : St} {vs : List Vt} {x : AV} {cells : List AV} (h : Bt ts te o L wid k b n s nx st vs x cells) (hw : wid < L) (hL : L ≤ st.next) (hvs : vs.length ≤ 100)
    {v : Vt} {k' : Int} {b' : Bool} {n' : Int} {s' : List UInt8} {px' nx' : AV} (hv : RV (RN o) ts te o v [.int .i64 k', .bool b', .int .i64 n', .str s', px', nx']) (hp' : px'.one = true) (hn' : nx'.one = true) (hpb : AV.beq px' px' = true) (hnb : AV.beq nx' nx' = true)
    {φ : St → Prop} (hk : ∀ st1 x' cells', Bt ts te o L wid k b n s nx st1 (vs ++ [v]) x' cells' → st.next ≤ st1.next → (∀ i, i < L → i ≠ wid → st1.objs.get i = st.objs.get i) → st1.old = st.old → φ st1) :
    T φ (Option.bind (loadAt C0.P st ts (.ref wid 4)) fun y => if AV.beq y x = true then
      Option.bind (mkNew (buildSliceOp C0.P false ts 1 [(0, (.agg [(.int .i64 k'), (.bool b'), (.int .i64 n'), (.str s'), px', nx']))]) st) fun (x246, st245) =>
      Option.bind (appendOp C0.P false st245 #[ts, ts] x x246) fun (x249, st248) =>
      Option.bind (storeAt C0.P st248 ts (.ref wid 4) x249) fun st251 => .some st251
     else none) := by
  refine T.step (load_cell h.at_ (by rfl)) ?_
  refine T.ifT (beq_rowC h.sl.row h.beq) ?_
  refine addS (L := L) h.sl h.fam hL rfl (by simp only [AV.cells, oneB_, hp', hn']) (by rw [h.len]; unfold most; omega) (by decide) fun x' st1 hS hF hO hN hold => ?_
  have g1 : st1.objs.get wid = .some (.cells te true [.int .i64 k, .bool b, .int .i64 n, .str s, x, nx]) := (hO _ hw).trans h.at_
  refine T.step (store_cell g1 (by simp) (Sl.one hS) (one_cells (Sl.one hS))) ?_
  refine T.some (hk _ x' (cells ++ (AV.agg [AV.int .i64 k', .bool b', .int .i64 n', .str s', px', nx']).cells) ⟨get_put _ _ _, ?_, hF, ?_, ?_, ?_⟩ hN (fun i hi hne => (guN hne).trans (hO i hi)) hold)
  · exact hS.keeps (p := fun i => i = wid) ⟨Nat.le_refl _, fun i _ hne => guN hne⟩ (fun id hi e => absurd (hF id hi) (by rw [e]; exact Nat.not_le_of_lt hw))
  · rw [List.length_append, h.len]
    show vs.length * 6 + 6 = _
    rw [List.length_append]
    simp only [List.length_cons, List.length_nil]
    omega
  · refine beqs_app h.beq (beqs_all fun y hy => ?_)
    have hy : y ∈ [AV.int .i64 k', .bool b', .int .i64 n', .str s', px', nx'] := hy
    simp only [List.mem_cons, List.not_mem_nil, or_false] at hy
    rcases hy with rfl | rfl | rfl | rfl | rfl | rfl <;> first | exact beq_int _ _ | exact beq_str _ | exact beq_bool _ | assumption
  · intro j hj
    rcases Nat.lt_or_ge j vs.length with hlt | hge
    · have e1 : (vs ++ [v])[j] = vs[j] := List.getElem_append_left hlt
      have hl6 : j * 6 + 6 ≤ cells.length := by rw [h.len]; omega
      have e2 : ((cells ++ (AV.agg [AV.int .i64 k', .bool b', .int .i64 n', .str s', px', nx']).cells).drop (j * 6)).take 6 = (cells.drop (j * 6)).take 6 := by
        rw [List.drop_append_of_le_length (by omega), List.take_append_of_le_length (by rw [List.length_drop]; omega)]
      rw [e1, e2]
      exact h.get j hlt
    · have hjl : j = vs.length := by simp at hj; omega
      subst hjl
      have e1 : (vs ++ [v])[vs.length] = v := by simp
      have e2 : ((cells ++ (AV.agg [AV.int .i64 k', .bool b', .int .i64 n', .str s', px', nx']).cells).drop (vs.length * 6)).take 6 = [AV.int .i64 k', .bool b', .int .i64 n', .str s', px', nx'] := by
        rw [← h.len, List.drop_left]; rfl
      rw [e1, e2]
      exact hv
/-! ### Cut -/
def cutV : Nat → Vt → Vt
  | 0, .mk k b n s _ names => .mk k b n (s.take 1100) [] (names.take 4)
  | d + 1, .mk k b n s parts names => .mk k b n (s.take 1100) ((parts.take 4).map (cutV d)) (names.take 4)
def PF15 (R : Rc15) (o : Nat → Nat → Option AV) (C : Vt → Vt) (deep : Int) (parts : List Vt) : Prop := ∀ k b n s pp nn, Vt.mk k b n s pp nn ∈ parts → ∀ (px nx : AV) (st : St) (φ : Int × Bool × Int × List UInt8 × AV × AV × St → Prop), RV (RNo o) 23 25 o (.mk k b n s pp nn) [.int .i64 k, .bool b, .int .i64 n, .str s, px, nx] → st.old = o →
  (∀ k' b' n' s' px' nx' st1, KN st st1 → RV (RN o) 23 25 o (C (.mk k b n s pp nn)) [.int .i64 k', .bool b', .int .i64 n', .str s', px', nx'] → px'.one = true → nx'.one = true → AV.beq px' px' = true → AV.beq nx' nx' = true → φ (k', b', n', s', px', nx', st1)) → T φ (R.f15 k b n s px nx deep 4 st)
/-- A store goes on from another one: what was there is as it was, but for one thing. -/
structure Fr (wid : Nat) (S st : St) : Prop where
  next : S.next ≤ st.next
  get : ∀ i, i < S.next → i ≠ wid → st.objs.get i = S.objs.get i
  old : st.old = S.old
theorem Fr.refl {wid : Nat} {S : St} : Fr wid S S := ⟨Nat.le_refl _, fun _ _ _ => rfl, rfl⟩
theorem Fr.kn {wid : Nat} {S st st1 : St} (F : Fr wid S st) (K : KN st st1) : Fr wid S st1 := ⟨Nat.le_trans F.next K.1, fun i hi hn => (K.2.1 i (Nat.lt_of_lt_of_le hi F.next)).trans (F.get i hi hn), K.2.2.trans F.old⟩
theorem Fr.toKN {wid : Nat} {st0 S st : St} (F : Fr wid S st) (K : KN st0 S) (hw : st0.next ≤ wid) : KN st0 st := ⟨Nat.le_trans K.1 F.next, fun i hi => (F.get i (Nat.lt_of_lt_of_le hi K.1) (by omega)).trans (K.2.1 i hi), F.old.trans K.2.2⟩
theorem cutL_s {R : Rc15} {o : Nat → Nat → Option AV} {C : Vt → Vt} {deep : Int} {parts : List Vt} {px nx0 nx : AV} {k n : Int} {b : Bool} {s s0 : List UInt8} (hP : RPs (RNo o) 23 25 o parts px 0) {N : Nat} (hf : 0 < N → PF15 R o C (IntKind.wrap .i64 (deep - 1)) parts) (hN : N ≤ parts.length) (hN4 : N ≤ 4)
    {S : St} (ho : S.old = o) {vid wid rid : Nat} {wide : Int} (hv : vid < S.next) (hvw : vid ≠ wid) (hw : wid < S.next) (hg : S.objs.get vid = .some (.cells 25 true [.int .i64 k, .bool b, .int .i64 n, .str s0, px, nx0])) {ψ : St → Prop}
    (h : ∀ st1 x cells, Fr wid S st1 → Bt 23 25 o S.next wid k b n s nx st1 ((parts.take N).map C) x cells → ψ st1) :
    ∀ (r i : Nat) (st1 : St) (x : AV) (cells : List AV), i ≤ N → N - i < r → Fr wid S st1 → Bt 23 25 o S.next wid k b n s nx st1 ((parts.take i).map C) x cells →
      T ψ (parchmentlaw03_Cut_l1111111010 R deep wide (.ref vid 0) rid wid (N : Int) r (i : Int) st1)
  | 0, _, _, _, _, _, h, _, _ => absurd h (Nat.not_lt_zero _)
  | r + 1, i, st1, x, cells, hi, hr, F1, hB => by
    unfold parchmentlaw03_Cut_l1111111010 parchmentlaw03_Cut_c1111111010010
    by_cases hlt : i < N
    · refine T.ifT (by omega) ?_
      have hltp : i < parts.length := by omega
      obtain ⟨a, cs, e1, e2, hrv⟩ := RPs_get hP i hltp
      rw [Nat.zero_add] at e1
      rcases hpi : parts[i] with ⟨k', b', n', s', pp, nn⟩
      rw [hpi] at hrv
      have hmem : Vt.mk k' b' n' s' pp nn ∈ parts := hpi ▸ List.getElem_mem hltp
      have hrv' := hrv
      simp only [RV] at hrv
      obtain ⟨px', nx', rfl, hp', hN', lp', hP'⟩ := hrv
      have g1 := (F1.get vid hv hvw).trans hg
      have o1 : st1.old = o := F1.old.trans ho
      refine T.bind ?_
      refine T.step (load_cell hB.at_ (by rfl)) ?_
      repeat (refine T.step (by simp (disch := (first | ((repeat (first | rw [nxPush] | rw [nxPut] | rw [List.length_cons] | rw [List.length_nil])) <;> omega) | (refine (?_ : _ ∧ True).1; constructor; simp only [oneB_, *]; exact True.intro))) only [allS, g1]; try exact rfl) ?_)
      refine T.step e1 ?_
      refine T.step (e2 st1 o1) ?_
      refine T.step deV ?_
      refine T.bind (hf (by omega) k' b' n' s' pp nn hmem px' nx' st1 _ hrv' o1 fun k2 b2 n2 s2 px2 nx2 st2 K2 hrv2 q1 q2 q3 q4 => ?_)
      have hB2 := hB.kn (Nat.lt_of_lt_of_le hw F1.next) K2
      refine grow_s hB2 hw (Nat.le_trans F1.next K2.1) (by simp; omega) hrv2 q1 q2 q3 q4 fun st3 x3 c3 hB3 n3 f3 o3 => ?_
      rw [wrapS (by omega)]
      have e : (parts.take i).map C ++ [C (.mk k' b' n' s' pp nn)] = (parts.take (i + 1)).map C := by
        rw [List.take_add_one, List.getElem?_eq_getElem hltp, hpi, List.map_append]; rfl
      rw [e] at hB3
      have F2 := F1.kn K2
      exact cutL_s hP hf hN hN4 ho hv hvw hw hg h r (i + 1) st3 x3 c3 hlt (by omega) ⟨Nat.le_trans F2.next n3, fun j hj hne => (f3 j hj hne).trans (F2.get j hj hne), o3.trans F2.old⟩ hB3
    · refine T.ifF (by omega) ?_
      have : i = N := by omega
      subst this
      exact T.some (h st1 x cells F1 hB)
theorem RV_ns {NN : AV → List (List UInt8) → Prop} {ts te : Nat} {o : Nat → Nat → Option AV} {k n : Int} {b : Bool} {s : List UInt8} {parts : List Vt} {names : List (List UInt8)} {px nx : AV} (hp : px.one = true) (hN : NN nx names) (lp : lenOf px = .some parts.length) (hP : RPs NN ts te o parts px 0) : RV NN ts te o (.mk k b n s parts names) [.int .i64 k, .bool b, .int .i64 n, .str s, px, nx] := by
  simp only [RV]
  exact ⟨px, nx, rfl, hp, hN, lp, hP⟩
theorem cutS_s {R : Rc15} {d wide : Int} {y : AV} {id1 wid : Nat} {k n : Int} {b : Bool} {s : List UInt8} {px nx : AV} {st : St} (hg : st.objs.get wid = .some (.cells 25 true [.int .i64 k, .bool b, .int .i64 n, .str s, px, nx])) {α : Type} {φ : α → Prop} {kk : St → Option α}
    (h : ∀ st1, Fr wid st st1 → st1.next = st.next → st1.objs.get wid = .some (.cells 25 true [.int .i64 k, .bool b, .int .i64 n, .str (s.take 1100), px, nx]) → T φ (kk st1)) : T φ (Option.bind (parchmentlaw03_Cut_j1100 R wid st) fun (b46, st47) => Option.bind (parchmentlaw03_Cut_c1101 R d wide y id1 wid b46 st47) kk) := by
  unfold parchmentlaw03_Cut_j1100 parchmentlaw03_Cut_c1101
  refine T.bind ?_
  repeat (refine T.step (by simp (disch := (first | ((repeat (first | rw [nxPush] | rw [nxPut] | rw [List.length_cons] | rw [List.length_nil])) <;> omega) | (refine (?_ : _ ∧ True).1; constructor; simp only [oneB_, *]; exact True.intro))) only [allS, hg]; try exact rfl) ?_)
  refine T.ite (fun hl => T.some ?_) (fun hl => T.some ?_)
  · refine T.bind ?_
    refine T.ifT rfl ?_
    repeat (refine T.step (by simp (disch := (first | ((repeat (first | rw [nxPush] | rw [nxPut] | rw [List.length_cons] | rw [List.length_nil])) <;> omega) | (refine (?_ : _ ∧ True).1; constructor; simp only [oneB_, *]; exact True.intro))) only [allS, hg]; try exact rfl) ?_)
    have hl' : 1100 ≤ s.length := by omega
    refine T.step (a := s.take 1100) ((subS_nat (Nat.zero_le _) hl').trans (by rw [List.drop_zero])) ?_
    refine T.step (store_cell hg (by simp) rfl rfl) ?_
    exact T.some (h _ ⟨Nat.le_refl _, fun i _ hne => guN hne, rfl⟩ rfl (get_put _ _ _))
  · refine T.bind ?_
    refine T.ifF (by decide) ?_
    have : s.take 1100 = s := List.take_of_length_le (by omega)
    exact T.some (h _ Fr.refl rfl (by rw [this]; exact hg))
theorem cutN_s {R : Rc15} {d : Int} {y : AV} {a w len : Nat} {α : Type} {φ : α → Prop} {kk : Int → Option α} (h : T φ (kk ((min len 4 : Nat) : Int))) : T φ (Option.bind (parchmentlaw03_Cut_j111100 R 4 (len : Int)) fun b97 => Option.bind (parchmentlaw03_Cut_c111101 R d 4 y a w (len : Int) b97) kk) := by
  unfold parchmentlaw03_Cut_j111100 parchmentlaw03_Cut_c111101
  refine T.bind ?_
  refine T.ite (fun hl => T.some ?_) (fun hl => T.some ?_)
  · refine T.bind ?_
    refine T.ifT rfl (T.some ?_)
    rw [Nat.min_eq_right (by omega)] at h
    exact h
  · refine T.bind ?_
    refine T.ifF (by decide) (T.some ?_)
    rw [Nat.min_eq_left (by omega)] at h
    exact h
theorem cutZ_s {R : Rc15} {d wide : Int} {y : AV} {a w m N : Nat} (hN : if d = 0 then N = 0 else N = m) {α : Type} {φ : α → Prop} {kk : Int → Option α} (h : T φ (kk (N : Int))) : T φ (Option.bind (parchmentlaw03_Cut_j1111100 R d) fun b97 => Option.bind (parchmentlaw03_Cut_c1111101 R d wide y a w (m : Int) b97) kk) := by
  unfold parchmentlaw03_Cut_j1111100 parchmentlaw03_Cut_c1111101
  refine T.bind ?_
  refine T.ite (fun hl => T.some ?_) (fun hl => T.some ?_)
  · refine T.bind ?_
    refine T.ifT rfl (T.some ?_)
    rw [if_pos hl] at hN
    subst hN
    exact h
  · refine T.bind ?_
    refine T.ifF (by decide) (T.some ?_)
    rw [if_neg hl] at hN
    subst hN
    exact h
theorem cutM_s {R : Rc15} {id1 wid : Nat} {o : Nat → Nat → Option AV} {k n : Int} {b : Bool} {s : List UInt8} {px nx : AV} {names : List (List UInt8)} (hNm : RN o nx names) (hNc : ∀ (m : Nat), 0 < m → m ≤ names.length → ∀ st : St, st.old = o → ∃ x', sliceSt C0.P st 22 nx .none (.some (.int .i64 (m : Int))) .none = .some x' ∧ RN o x' (names.take m)) {st : St} (ho : st.old = o) (hg : st.objs.get wid = .some (.cells 25 true [.int .i64 k, .bool b, .int .i64 n, .str s, px, nx])) {α : Type} {φ : α → Prop} {kk : St → Option α}
    (h : ∀ st1 nx', Fr wid st st1 → st1.next = st.next → RN o nx' (names.take 4) → st1.objs.get wid = .some (.cells 25 true [.int .i64 k, .bool b, .int .i64 n, .str s, px, nx']) → T φ (kk st1)) : T φ (Option.bind (parchmentlaw03_Cut_j1111111100 R 4 wid st) fun (b295, st296) => Option.bind (parchmentlaw03_Cut_c1111111101 R 4 id1 wid b295 st296) kk) := by
  unfold parchmentlaw03_Cut_j1111111100 parchmentlaw03_Cut_c1111111101
  have ln := hNm.len
  refine T.bind ?_
  repeat (refine T.step (by simp (disch := (first | ((repeat (first | rw [nxPush] | rw [nxPut] | rw [List.length_cons] | rw [List.length_nil])) <;> omega) | (refine (?_ : _ ∧ True).1; constructor; simp only [oneB_, *]; exact True.intro))) only [allS, hg, ln]; try exact rfl) ?_)
  refine T.ite (fun hl => T.some ?_) (fun hl => T.some ?_)
  · refine T.bind ?_
    refine T.ifT rfl ?_
    repeat (refine T.step (by simp (disch := (first | ((repeat (first | rw [nxPush] | rw [nxPut] | rw [List.length_cons] | rw [List.length_nil])) <;> omega) | (refine (?_ : _ ∧ True).1; constructor; simp only [oneB_, *]; exact True.intro))) only [allS, hg]; try exact rfl) ?_)
    obtain ⟨x', e1, e2⟩ := hNc 4 (by decide) (by omega) st ho
    refine T.step e1 ?_
    refine T.step (store_cell hg (by simp) e2.one (one_cells e2.one)) ?_
    exact T.some (h _ x' ⟨Nat.le_refl _, fun i _ hne => guN hne, rfl⟩ rfl e2 (get_put _ _ _))
  · refine T.bind ?_
    refine T.ifF (by decide) ?_
    have : names.take 4 = names := List.take_of_length_le (by omega)
    exact T.some (h _ nx Fr.refl rfl (by rw [this]; exact hNm) hg)
/-- A value that is cut. -/
theorem cut_1 {R : Rc15} (hR : 18446744073709551616 ≤ R.n) {o : Nat → Nat → Option AV} {C : Vt → Vt} {k n : Int} {b : Bool} {s : List UInt8} {parts : List Vt} {names : List (List UInt8)} {px nx : AV} {deep : Int} {N : Nat} (hN : if deep = 0 then N = 0 else N = min parts.length 4) (hrv : RV (RNo o) 23 25 o (.mk k b n s parts names) [.int .i64 k, .bool b, .int .i64 n, .str s, px, nx]) (hf : 0 < N → PF15 R o C (IntKind.wrap .i64 (deep - 1)) parts)
    {st : St} (ho : st.old = o) {φ : Int × Bool × Int × List UInt8 × AV × AV × St → Prop} (h : ∀ px' nx' st1, KN st st1 → RV (RN o) 23 25 o (.mk k b n (s.take 1100) ((parts.take N).map C) (names.take 4)) [.int .i64 k, .bool b, .int .i64 n, .str (s.take 1100), px', nx'] → px'.one = true → nx'.one = true → AV.beq px' px' = true → AV.beq nx' nx' = true → φ (k, b, n, s.take 1100, px', nx', st1)) :
    T φ (parchmentlaw03_Cut R k b n s px nx deep 4 st) := by
  have hNle : N ≤ parts.length ∧ N ≤ 4 := by
    split at hN <;> omega
  simp only [RV] at hrv
  obtain ⟨px', nx', e, hp, ⟨hNm, hNc⟩, lp, hP⟩ := hrv
  simp only [List.cons.injEq, true_and, and_true] at e
  obtain ⟨rfl, rfl⟩ := e
  have hn := hNm.one
  unfold parchmentlaw03_Cut
  refine T.step (boxV hp hn) ?_
  have hV : ((st.push (.cells 25 true [.int .i64 k, .bool b, .int .i64 n, .str s, px, nx])).push (.cells 25 true [.int .i64 0, .bool false, .int .i64 0, .str [], .snil, .snil])).objs.get st.next = .some (.cells 25 true [.int .i64 k, .bool b, .int .i64 n, .str s, px, nx]) := (get_push_ne _ (Nat.ne_of_lt (Nat.lt_succ_self _))).trans (get_push _ _)
  refine T.step (load_cells hV rfl) ?_
  refine T.step deV ?_
  refine T.step (store_cells (get_push _ _) rfl rfl (by simp only [oneB_, hp, hn])) ?_
  -- four things: the value, what comes of it, what is made
  have K0 : KN st ((((st.push (.cells 25 true [.int .i64 k, .bool b, .int .i64 n, .str s, px, nx])).push (.cells 25 true [.int .i64 0, .bool false, .int .i64 0, .str [], .snil, .snil])).push (.cells 25 true [.int .i64 0, .bool false, .int .i64 0, .str [], .snil, .snil])).put (st.next + 1 + 1) (.cells 25 true [.int .i64 k, .bool b, .int .i64 n, .str s, px, nx])) := KN.loc (KN.psh (KN.psh (KN.psh KN.refl))) (by omega)
  have gW : ((((st.push (.cells 25 true [.int .i64 k, .bool b, .int .i64 n, .str s, px, nx])).push (.cells 25 true [.int .i64 0, .bool false, .int .i64 0, .str [], .snil, .snil])).push (.cells 25 true [.int .i64 0, .bool false, .int .i64 0, .str [], .snil, .snil])).put (st.next + 1 + 1) (.cells 25 true [.int .i64 k, .bool b, .int .i64 n, .str s, px, nx])).objs.get (st.next + 1 + 1) = .some (.cells 25 true [.int .i64 k, .bool b, .int .i64 n, .str s, px, nx]) := get_put _ _ _
  have gV : ((((st.push (.cells 25 true [.int .i64 k, .bool b, .int .i64 n, .str s, px, nx])).push (.cells 25 true [.int .i64 0, .bool false, .int .i64 0, .str [], .snil, .snil])).push (.cells 25 true [.int .i64 0, .bool false, .int .i64 0, .str [], .snil, .snil])).put (st.next + 1 + 1) (.cells 25 true [.int .i64 k, .bool b, .int .i64 n, .str s, px, nx])).objs.get st.next = .some (.cells 25 true [.int .i64 k, .bool b, .int .i64 n, .str s, px, nx]) := (get_put_ne _ (by omega)).trans ((get_push_ne _ (by simp only [nxPush]; omega)).trans hV)
  have gR : ((((st.push (.cells 25 true [.int .i64 k, .bool b, .int .i64 n, .str s, px, nx])).push (.cells 25 true [.int .i64 0, .bool false, .int .i64 0, .str [], .snil, .snil])).push (.cells 25 true [.int .i64 0, .bool false, .int .i64 0, .str [], .snil, .snil])).put (st.next + 1 + 1) (.cells 25 true [.int .i64 k, .bool b, .int .i64 n, .str s, px, nx])).objs.get (st.next + 1) = .some (.cells 25 true [.int .i64 0, .bool false, .int .i64 0, .str [], .snil, .snil]) := (get_put_ne _ (by omega)).trans ((get_push_ne _ (by simp only [nxPush]; omega)).trans (get_push _ _))
  show T φ (Option.bind (parchmentlaw03_Cut_j1100 R (st.next + 1 + 1) ((((st.push (.cells 25 true [.int .i64 k, .bool b, .int .i64 n, .str s, px, nx])).push (.cells 25 true [.int .i64 0, .bool false, .int .i64 0, .str [], .snil, .snil])).push (.cells 25 true [.int .i64 0, .bool false, .int .i64 0, .str [], .snil, .snil])).put (st.next + 1 + 1) (.cells 25 true [.int .i64 k, .bool b, .int .i64 n, .str s, px, nx]))) _)
  generalize hS0 : ((((st.push (.cells 25 true [.int .i64 k, .bool b, .int .i64 n, .str s, px, nx])).push (.cells 25 true [.int .i64 0, .bool false, .int .i64 0, .str [], .snil, .snil])).push (.cells 25 true [.int .i64 0, .bool false, .int .i64 0, .str [], .snil, .snil])).put (st.next + 1 + 1) (.cells 25 true [.int .i64 k, .bool b, .int .i64 n, .str s, px, nx])) = S0 at K0 gW gV gR ⊢
  have n0 : S0.next = st.next + 1 + 1 + 1 := by rw [← hS0]; rfl
  refine cutS_s gW fun S1 F1 n1 g1 => ?_
  have gV1 := (F1.get st.next (by omega) (by omega)).trans gV
  have gR1 := (F1.get (st.next + 1) (by omega) (by omega)).trans gR
  refine T.step shR ?_
  refine T.step (load_cell gV1 (by rfl)) ?_
  refine T.step lp ?_
  refine cutN_s ?_
  refine cutZ_s hN ?_
  refine T.step (store_cell g1 (by simp) rfl rfl) ?_
  have F2 : Fr (st.next + 1 + 1) S0 (S1.put (st.next + 1 + 1) (.cells 25 true (List.set [AV.int .i64 k, .bool b, .int .i64 n, .str (s.take 1100), px, nx] 4 .snil))) := ⟨by rw [nxPut]; omega, fun i hi hne => (guN hne).trans (F1.get i hi hne), F1.old⟩
  have g2 : (S1.put (st.next + 1 + 1) (.cells 25 true (List.set [AV.int .i64 k, .bool b, .int .i64 n, .str (s.take 1100), px, nx] 4 .snil))).objs.get (st.next + 1 + 1) = .some (.cells 25 true [.int .i64 k, .bool b, .int .i64 n, .str (s.take 1100), .snil, nx]) := get_put _ _ _
  have n2 : (S1.put (st.next + 1 + 1) (.cells 25 true (List.set [AV.int .i64 k, .bool b, .int .i64 n, .str (s.take 1100), px, nx] 4 .snil))).next = st.next + 1 + 1 + 1 := by rw [nxPut]; omega
  show T φ (Option.bind (parchmentlaw03_Cut_c111111101 R deep 4 (.ref st.next 0) (st.next + 1) (st.next + 1 + 1) (N : Int) (S1.put (st.next + 1 + 1) (.cells 25 true (List.set [AV.int .i64 k, .bool b, .int .i64 n, .str (s.take 1100), px, nx] 4 .snil)))) _)
  generalize (S1.put (st.next + 1 + 1) (.cells 25 true (List.set [AV.int .i64 k, .bool b, .int .i64 n, .str (s.take 1100), px, nx] 4 .snil))) = S2 at F2 g2 n2 ⊢
  have gV2 := (F2.get st.next (by omega) (by omega)).trans gV
  have gR2 := (F2.get (st.next + 1) (by omega) (by omega)).trans gR
  have o2 : S2.old = o := F2.old.trans (K0.2.2.trans ho)
  unfold parchmentlaw03_Cut_c111111101
  refine T.bind ?_
  refine T.bind ?_
  show T _ (parchmentlaw03_Cut_l1111111010 R deep 4 (.ref st.next 0) (st.next + 1) (st.next + 1 + 1) (N : Int) R.n ((0 : Nat) : Int) S2)
  refine (cutL_s (s := s.take 1100) (nx := nx) hP hf hNle.1 hNle.2 (S := S2) o2 (by omega) (by omega) (by omega) gV2 (fun S3 x cells F3 hB => ?_) R.n 0 S2 .snil [] (Nat.zero_le _) (by omega) Fr.refl ⟨g2, Sl.nil _ _, (fun _ h => by cases h), rfl, rfl, fun j hj => absurd hj (Nat.not_lt_zero _)⟩)
  refine T.some ?_
  have o3 : S3.old = o := F3.old.trans o2
  have gR3 := (F3.get (st.next + 1) (by omega) (by omega)).trans gR2
  refine cutM_s hNm hNc o3 hB.at_ fun S4 nx' F4 n4 hN4 g4 => ?_
  have h3n := F3.next
  have gR4 := (F4.get (st.next + 1) (by omega) (by omega)).trans gR3
  obtain ⟨r1, r2, r3, r4⟩ := hB.row
  refine T.step (load_cells g4 rfl) ?_
  refine T.step deV ?_
  refine T.step (store_cells gR4 rfl rfl (by simp only [oneB_, r1, hN4.one])) ?_
  refine T.step (load_cells (get_put _ _ _) rfl) ?_
  refine T.step deV ?_
  refine T.some (h x nx' _ ?_ (RV_ns r1 hN4 (by rw [r3]) r4) r1 hN4.one r2 hN4.beq)
  have K1 := F2.toKN K0 (by omega)
  have K2 := F3.toKN K1 (by omega)
  have K3 := F4.toKN K2 (by omega)
  exact K3.loc (show st.next ≤ st.next + 1 by omega)
theorem cut_s {Rn : Nat} (hR : 18446744073709551616 ≤ Rn) {o : Nat → Nat → Option AV} : ∀ (d m : Nat) (k : Int) (b : Bool) (n : Int) (s : List UInt8) (parts : List Vt) (names : List (List UInt8)) (px nx : AV) (st : St) (φ : Int × Bool × Int × List UInt8 × AV × AV × St → Prop), d ≤ m → d ≤ 90 → RV (RNo o) 23 25 o (.mk k b n s parts names) [.int .i64 k, .bool b, .int .i64 n, .str s, px, nx] → st.old = o →
    (∀ k' b' n' s' px' nx' st1, KN st st1 → RV (RN o) 23 25 o (cutV d (.mk k b n s parts names)) [.int .i64 k', .bool b', .int .i64 n', .str s', px', nx'] → px'.one = true → nx'.one = true → AV.beq px' px' = true → AV.beq nx' nx' = true → φ (k', b', n', s', px', nx', st1)) → T φ (parchmentlaw03_Cut (rc15 Rn m) k b n s px nx (d : Int) 4 st)
  | 0, m, k, b, n, s, parts, names, px, nx, st, φ, hm, hd, hrv, ho, h => by
    refine cut_1 (C := fun v => v) (N := 0) (by rw [rc15_n]; exact hR) (by rfl) hrv (fun h => absurd h (Nat.lt_irrefl 0)) ho fun px' nx' st1 k1 r1 r2 r3 r4 r5 => h _ _ _ _ px' nx' st1 k1 ?_ r2 r3 r4 r5
    have e : cutV 0 (.mk k b n s parts names) = .mk k b n (s.take 1100) [] (names.take 4) := rfl
    rw [e]
    simpa only [List.take_zero, List.map_nil] using r1
  | d + 1, 0, k, b, n, s, parts, names, px, nx, st, φ, hm, hd, hrv, ho, h => absurd hm (by omega)
  | d + 1, m + 1, k, b, n, s, parts, names, px, nx, st, φ, hm, hd, hrv, ho, h => by
    refine cut_1 (C := cutV d) (N := min parts.length 4) (by rw [rc15_n]; exact hR) (by rw [if_neg (by omega)]) hrv (fun _ k b n s pp nn hp px nx st φ hrv ho h => ?_) ho fun px' nx' st1 k1 r1 r2 r3 r4 r5 => h _ _ _ _ px' nx' st1 k1 ?_ r2 r3 r4 r5
    · have e : IntKind.wrap .i64 (((d + 1 : Nat) : Int) - 1) = (d : Int) := by rw [wrap64 (by omega) (by omega)]; omega
      rw [e]
      exact cut_s hR d m k b n s pp nn px nx st φ (by omega) (by omega) hrv ho h
    · have e : parts.take (min parts.length 4) = parts.take 4 := by
        rcases Nat.le_total parts.length 4 with h | h
        · rw [Nat.min_eq_left h, List.take_length, List.take_of_length_le h]
        · rw [Nat.min_eq_right h]
      rw [e] at r1
      exact r1
end
end Go.Proofs.YthodfojhbbendaaGreatDoor
