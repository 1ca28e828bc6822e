/- Bytes in a slice; the least text above those that begin with one; texts and numbers in keys: what the walks compute. -/
import Derived.Test.YthodfojhbbendaaGreatDoorSpD
import Derived.Lib.ReplaceLaws
set_option linter.all false
set_option maxRecDepth 100000
set_option maxHeartbeats 1000000
namespace Go.Proofs.YthodfojhbbendaaGreatDoor
open Go Go.Ev
noncomputable section
attribute [local congr] bindC iteC
instance s90 : SlTy C0.P 90 1 := ⟨⟨5, 1, .int .u8 0, by kernel_rfl, by kernel_rfl, by kernel_rfl, by kernel_rfl, by decide, by decide, rfl, rfl⟩⟩
theorem beqs_all : ∀ {l : List AV}, (∀ x ∈ l, AV.beq x x = true) → AV.beqs l l = true
  | [], _ => rfl
  | a :: l, h => by
    show (AV.beq a a && AV.beqs l l) = true
    rw [h a List.mem_cons_self, beqs_all fun x hx => h x (List.mem_cons_of_mem _ hx)]; rfl
theorem beqs_mem : ∀ {l : List AV}, AV.beqs l l = true → ∀ x ∈ l, AV.beq x x = true
  | a :: l, h, x, hx => by
    have h : (AV.beq a a && AV.beqs l l) = true := h
    obtain ⟨h1, h2⟩ := Bool.and_eq_true_iff.1 h
    rcases List.mem_cons.1 hx with rfl | hx
    · exact h1
    · exact beqs_mem h2 x hx
theorem beqs_app {a b : List AV} (ha : AV.beqs a a = true) (hb : AV.beqs b b = true) : AV.beqs (a ++ b) (a ++ b) = true := beqs_all fun x hx => (List.mem_append.1 hx).elim (beqs_mem ha x) (beqs_mem hb x)
theorem beq_rowC {sz : Nat} {x : AV} {cs : List AV} (h : Row sz x cs) (k : AV.beqs cs cs = true) : AV.beq x x = true := by
  rcases h with ⟨rfl, _⟩ | ⟨id, e, len, cap, rfl, _⟩
  · rfl
  · simp only [AV.beq, Nat.beq_refl, k, beq_self_eq_true, Bool.and_self]
theorem Sl.one {st : St} {sz : Nat} {x : AV} {cs : List AV} (h : Sl st sz x cs) : x.one = true := by
  rcases h with ⟨rfl, _⟩ | ⟨id, e, len, cap, rfl, _⟩ <;> rfl
/-- One more element: what lies below a bound is as it was. -/
theorem addS {t : TypeId} {sz : Nat} [SlTy C0.P t sz] {st : St} {x v : AV} {cells : List AV} {β : Type} {φ : β → Prop} {k : AV × St → Option β} {L : Nat}
    (h : Sl st sz x cells) (hf : ∀ id, famOf x id → L ≤ id) (hL : L ≤ st.next) (hl : v.cells.length = sz) (h1 : v.cells.all AV.one = true) (hn : cells.length ≤ most) (hs : sz ≤ 16777216)
    (hk : ∀ x' st1, Sl st1 sz x' (cells ++ v.cells) → (∀ id, famOf x' id → L ≤ id) → (∀ i, i < L → st1.objs.get i = st.objs.get i) → st.next ≤ st1.next → st1.old = st.old → T φ (k (x', st1))) :
    T φ (Option.bind (mkNew (buildSliceOp C0.P false t 1 [(0, v)]) st) fun o => match o with | (x1, st1) => Option.bind (appendOp C0.P false st1 #[t, t] x x1) k) := by
  obtain ⟨x', st1, e, hS, hKe, hF, hO⟩ := push1o (P := C0.P) (t := t) k h hl h1 hn hs
  have := hk x' st1 hS (fun id hi => (hF id hi).elim (hf id) (fun h => Nat.le_trans hL h)) (fun i hi => hKe.2 i (Nat.lt_of_lt_of_le hi hL) fun hfi => absurd (hf i hfi) (Nat.not_le_of_lt hi)) hKe.1 hO
  exact e ▸ this
instance t5 : LdTy C0.P 5 false 1 := ⟨by kernel_rfl, by kernel_rfl⟩
/-- A byte of a slice of bytes that is told by its thing: its address. -/
theorem bAt {id m k off : Nat} {cap : Option Nat} (h : k < m) : indexAddrOp C0.P 90 (.sref id off m 1 cap) (.int .i64 (k : Int)) = .some (.ref id (off + k)) := by
  obtain ⟨e, bs, z, t1, t2, t3, t4, t5, t6, t7, t8⟩ := (inferInstance : SlTy C0.P 90 1).ok
  show (C0.P.underlying 90).bind _ = _
  rw [t1]
  show (size? C0.P e).bind _ = _
  rw [t2]
  show cond _ _ _ = _
  rw [condT (show (Nat.blt k m && Nat.beq 1 1) = true by rw [show Nat.blt k m = true from Nat.ble_eq_true_of_le h]; rfl), Nat.mul_one]
theorem bCut {id m k : Nat} {st : St} {t : TypeId} {u : Bool} {cs : List AV} (hg : st.objs.get id = .some (.cells t u cs)) (h : k ≤ m) (hm : m ≤ cs.length) : sliceSt C0.P st 90 (.sref id 0 m 1 none) none (.some (.int .i64 (k : Int))) none = .some (.sref id 0 k 1 none) := by
  obtain ⟨e, bs, z, t1, t2, t3, t4, t5, t6, t7, t8⟩ := (inferInstance : SlTy C0.P 90 1).ok
  unfold sliceSt
  simp only [hg]
  unfold sliceRoom
  rw [t1, Option.bind_some]
  simp only [t2, Option.bind_some]
  have c1 : (!Nat.beq 1 1 || !Nat.ble m ((cs.length - 0) / 1)) = false := by
    rw [Nat.sub_zero, Nat.div_one, Nat.ble_eq_true_of_le hm]; rfl
  rw [condF c1]
  have e1 : within (.int .i64 (k : Int)) ((cs.length - 0) / 1) = .some k := by
    show cond (Nat.ble k ((cs.length - 0) / 1)) (Option.some k) none = _
    rw [Nat.sub_zero, Nat.div_one, condT (Nat.ble_eq_true_of_le (Nat.le_trans h hm))]
  simp only [bounds, mxOf, hiOf, loOf, e1, Option.bind_some, Option.bind_none]
  have c2 : (Nat.blt 0 ((cs.length - 0) / 1) || Nat.beq 0 0) = true := Bool.or_true _
  rw [condT c2, Nat.zero_mul, Nat.sub_zero]
theorem u8Len (s : List UInt8) : (u8Cells s).length = s.length := by simp [u8Cells]
theorem bStr {id m : Nat} {st : St} {t : TypeId} {u : Bool} {l : List UInt8} {cap : Option Nat} (hg : st.objs.get id = .some (.cells t u (u8Cells l))) (hm : m ≤ l.length) : strOf st (.sref id 0 m 1 cap) = .some (l.take m) := by
  show (sliceCells st m (.sref id 0 m 1 cap) 1).bind _ = _
  have c1 : (Nat.ble m m && Nat.beq 1 1) = true := by rw [Nat.ble_eq_true_of_le (Nat.le_refl _)]; rfl
  simp only [sliceCells, hg, condT c1, range?]
  rw [condT (Nat.ble_eq_true_of_le (by rw [u8Len]; omega)), List.drop_zero, Nat.mul_one]
  have : (u8Cells l).take m = u8Cells (l.take m) := by unfold u8Cells; rw [List.map_take]
  rw [this]
  exact bytesOf_cells _
theorem u8At {l : List UInt8} {i : Nat} (h : i < l.length) : (u8Cells l)[i]? = .some (.int .u8 (l[i].toNat : Int)) := by
  unfold u8Cells
  rw [List.getElem?_map, List.getElem?_eq_getElem h]; rfl
theorem bNew {s : List UInt8} {st : St} (h : s.length ≤ 30000000) : mkNew (bytesNew 5 s) st = .some (.sref st.next 0 s.length 1 none, st.push (.cells 5 false (u8Cells s))) := by
  unfold bytesNew
  rw [condT (Nat.ble_eq_true_of_le (show s.length ≤ most by unfold most; omega))]
  rfl
theorem wrapN {n : Nat} (h : n ≤ 30000000) : IntKind.wrap .i64 (((n + 1 : Nat) : Int) - 1) = (n : Int) := by
  rw [wrap64 (by omega) (by omega)]; omega
theorem wrapU (b : UInt8) : IntKind.wrap .u8 ((b.toNat : Int) + 1) = ((b + 1).toNat : Int) := by
  have : b.toNat < 256 := b.toNat_lt
  rw [UInt8.toNat_add]
  show ((b.toNat : Int) + 1) % 256 = _
  have : (1 : UInt8).toNat = 1 := rfl
  rw [this]
  omega

/-! ### The least text above all that begin with one -/
/-- What is left of a text without the greatest bytes at its end. -/
def cutF (s : List UInt8) : Nat → Nat
  | 0 => 0
  | n + 1 => if s[n]? = .some 255 then cutF s n else n + 1
theorem cutF_le (s : List UInt8) : ∀ n, cutF s n ≤ n
  | 0 => Nat.le_refl _
  | n + 1 => by
    unfold cutF
    split
    · exact Nat.le_succ_of_le (cutF_le s n)
    · exact Nat.le_refl _
def nextK (s : List UInt8) : List UInt8 := match cutF s s.length with
  | 0 => []
  | n + 1 => s.take n ++ [(s[n]?.getD 0) + 1]
theorem nextK_len (s : List UInt8) : (nextK s).length ≤ s.length := by
  unfold nextK
  have := cutF_le s s.length
  split
  · exact Nat.zero_le _
  · rename_i n e
    rw [e] at this
    simp only [List.length_append, List.length_take, List.length_cons, List.length_nil]
    omega
theorem u255 {b : UInt8} : ((b.toNat : Int) = 255) ↔ b = 255 := by
  constructor
  · intro h
    apply UInt8.toNat_inj.1
    show b.toNat = 255
    omega
  · rintro rfl; rfl
theorem nextL_s {R : Nat} {s : List UInt8} (hs : s.length ≤ 30000000) {st : St} {id : Nat} (hg : st.objs.get id = .some (.cells 5 false (u8Cells s))) {φ : AV × St → Prop} : ∀ (r m : Nat), m ≤ s.length → m < r → φ (.sref id 0 (cutF s m) 1 none, st) → T φ (keys_Next_l1100 R r (.sref id 0 m 1 none) st)
  | 0, _, _, h, _ => absurd h (Nat.not_lt_zero _)
  | r + 1, 0, _, _, hφ => by
    unfold keys_Next_l1100 keys_Next_j1100000
    refine T.bind ?_
    refine T.step (show lenOf (.sref id 0 0 1 none) = .some 0 from rfl) ?_
    refine T.ifF (by omega) ?_
    refine T.some ?_
    refine T.ifF (by decide) ?_
    exact T.some hφ
  | r + 1, m + 1, hm, hr, hφ => by
    unfold keys_Next_l1100 keys_Next_j1100000
    refine T.bind ?_
    refine T.step (show lenOf (.sref id 0 (m + 1) 1 none) = .some (m + 1) from rfl) ?_
    refine T.ifT (by omega) ?_
    rw [wrapN (by omega)]
    refine T.step (bAt (Nat.lt_succ_self m)) ?_
    rw [Nat.zero_add]
    refine T.step (load_cell hg (u8At (by omega))) ?_
    refine T.step avI ?_
    by_cases e : s[m] = 255
    · refine T.ifT (u255.2 e) ?_
      refine T.some ?_
      refine T.ifT rfl ?_
      refine T.step (show lenOf (.sref id 0 (m + 1) 1 none) = .some (m + 1) from rfl) ?_
      rw [wrapN (by omega)]
      refine T.step (bCut hg (Nat.le_succ m) (by rw [u8Len]; exact hm)) ?_
      refine nextL_s hs hg r m (by omega) (by omega) ?_
      have : cutF s (m + 1) = cutF s m := by
        show (if s[m]? = .some 255 then cutF s m else m + 1) = _
        rw [if_pos (by rw [List.getElem?_eq_getElem (by omega), e])]
      rw [← this]; exact hφ
    · refine T.ifF (fun h => e (u255.1 h)) ?_
      refine T.some ?_
      refine T.ifF (by decide) ?_
      have : cutF s (m + 1) = m + 1 := by
        show (if s[m]? = .some 255 then cutF s m else m + 1) = _
        rw [if_neg]
        rw [List.getElem?_eq_getElem (by omega)]
        exact fun h => e (Option.some.inj h)
      rw [this] at hφ
      exact T.some hφ
theorem lastE {s : List UInt8} {n : Nat} (hn : n < s.length) {b : UInt8} : (s.set n b).take (n + 1) = s.take n ++ [b] := by
  apply List.ext_getElem?
  intro i
  rw [List.getElem?_take, List.getElem?_append, List.length_take, Nat.min_eq_left (by omega)]
  split <;> rename_i h1
  · split <;> rename_i h2
    · rw [List.getElem?_set_ne (by omega), List.getElem?_take, if_pos h2]
    · have : i = n := by omega
      subst this
      rw [List.getElem?_set_self (by omega), Nat.sub_self]; rfl
  · rw [if_neg (by omega), List.getElem?_eq_none (by simp; omega)]
theorem u8Set {s : List UInt8} {n : Nat} {b : UInt8} : (u8Cells s).set n (.int .u8 (b.toNat : Int)) = u8Cells (s.set n b) := by
  unfold u8Cells
  rw [List.map_set]
/-- What both say: the last byte that can be greater is. -/
theorem nextT {s : List UInt8} {n : Nat} (hs : s.length ≤ 30000000) (e : cutF s s.length = n + 1) {st : St} {id : Nat} (hg : st.objs.get id = .some (.cells 5 false (u8Cells s))) {α : Type} {φ : α → Prop} {k : St → Option α}
    (h : T φ (k (st.put id (.cells 5 false (u8Cells (s.set n ((s[n]?.getD 0) + 1))))))) :
    T φ (Option.bind (indexAddrOp C0.P 90 (.sref id 0 (n + 1) 1 none) (.int .i64 (IntKind.wrap .i64 (((n + 1 : Nat) : Int) - 1)))) fun x => Option.bind (loadAt C0.P st 5 x) fun y => Option.bind (avInt .u8 y) fun i => Option.bind (storeAt C0.P st 5 x (.int .u8 (IntKind.wrap .u8 (i + 1)))) fun st1 => k st1) := by
  have hl := cutF_le s s.length
  rw [wrapN (by omega)]
  refine T.step (bAt (Nat.lt_succ_self n)) ?_
  rw [Nat.zero_add]
  refine T.step (load_cell hg (u8At (by omega))) ?_
  refine T.step avI ?_
  rw [wrapU]
  refine T.step (store_cell hg (by rw [u8Len]; omega) oneI rfl) ?_
  rw [u8Set]
  rw [List.getElem?_eq_getElem (by omega), Option.getD_some] at h
  exact h
theorem next_s {R : Nat} {s : List UInt8} (hs : s.length ≤ 30000000) (hR : 100000000 < R) {st : St} {φ : List UInt8 × St → Prop} (h : ∀ st1, KN st st1 → φ (nextK s, st1)) : T φ (keys_Next R s st) := by
  unfold keys_Next keys_Next_c110 keys_Next_j11100 keys_Next_c11101
  refine T.step (bNew hs) ?_
  refine T.bind ?_
  refine T.bind (nextL_s hs (get_push _ _) R s.length (Nat.le_refl _) (by omega) ?_)
  refine T.some ?_
  have hl := cutF_le s s.length
  rcases e : cutF s s.length with _ | n
  · refine T.bind ?_
    refine T.step (show lenOf (.sref st.next 0 0 1 none) = .some 0 from rfl) ?_
    refine T.ifF (by omega) ?_
    refine T.some ?_
    refine T.bind ?_
    refine T.ifF (by decide) ?_
    refine T.some ?_
    refine T.step (bStr (get_push _ _) (Nat.zero_le _)) ?_
    refine T.some ?_
    have : nextK s = s.take 0 := by unfold nextK; rw [e]; rfl
    rw [← this]
    exact h _ (by repeat' (first | exact KN.refl | exact KN.refl | refine KN.psh ?_ | refine KN.loc ?_ ?_ | ((try simp only [nxPush, nxPut]) <;> omega)))
  · refine T.bind ?_
    refine T.step (show lenOf (.sref st.next 0 (n + 1) 1 none) = .some (n + 1) from rfl) ?_
    refine T.ifT (by omega) ?_
    refine T.some ?_
    refine T.bind ?_
    refine T.ifT rfl ?_
    refine T.step (show lenOf (.sref st.next 0 (n + 1) 1 none) = .some (n + 1) from rfl) ?_
    refine nextT hs e (get_push _ _) ?_
    refine T.some ?_
    refine T.step (bStr (get_put _ _ _) (by rw [List.length_set]; omega)) ?_
    refine T.some ?_
    rw [lastE (by omega)]
    have : nextK s = s.take n ++ [(s[n]?.getD 0) + 1] := by unfold nextK; rw [e]
    rw [← this]
    exact h _ (by repeat' (first | exact KN.refl | exact KN.refl | refine KN.psh ?_ | refine KN.loc ?_ ?_ | ((try simp only [nxPush, nxPut]) <;> omega)))
/-! ### A text in a key -/
def esc (s : List UInt8) : List UInt8 := s.flatMap fun b => if b = 0 then [0, 255] else [b]
def ktext (s : List UInt8) : List UInt8 := esc s ++ [0, 1]
theorem esc_append (a b : List UInt8) : esc (a ++ b) = esc a ++ esc b := List.flatMap_append
theorem esc_none : ∀ {s : List UInt8}, (∀ k : Nat, s[k]? ≠ .some 0) → esc s = s
  | [], _ => rfl
  | b :: s, h => by
    have h0 : b ≠ 0 := fun e => h 0 (by rw [e]; rfl)
    show (if b = 0 then [0, 255] else [b]) ++ esc s = b :: s
    rw [if_neg h0, esc_none fun k => h (k + 1)]; rfl
theorem esc_len : ∀ s : List UInt8, (esc s).length ≤ 2 * s.length
  | [] => Nat.le_refl _
  | b :: s => by
    show ((if b = 0 then [0, 255] else [b]) ++ esc s).length ≤ 2 * (s.length + 1)
    have := esc_len s
    rw [List.length_append]
    split <;> simp <;> omega
theorem rep_esc : ∀ (n : Nat) (s : List UInt8), s.length ≤ n → Go.Lib.replaceK [0] [0, 255] (Go.Lib.count s [0]) s = esc s
  | n, s, hn => by
    have hge : -1 ≤ Go.Lib.index s [0] := Go.Lib.index_ge s [0]
    by_cases hm : Go.Lib.index s [0] = -1
    · rw [Go.Lib.count_miss hm]
      rw [Go.Lib.index_one] at hm
      rw [esc_none (Go.Lib.indexByte_none hm)]
      rfl
    · obtain ⟨i, hi⟩ : ∃ i : Nat, Go.Lib.index s [0] = i := ⟨(Go.Lib.index s [0]).toNat, by omega⟩
      rw [Go.Lib.count_hit (by simp) hi, Nat.add_comm 1, Go.Lib.replaceK_hit _ _ _ _ _ hi]
      rw [Go.Lib.index_one] at hi
      obtain ⟨h1, h2⟩ := Go.Lib.indexByte_some hi
      have hl : i < s.length := (List.getElem?_eq_some_iff.1 h1).1
      have e : s = s.take i ++ 0 :: s.drop (i + 1) := by
        have : s[i] = 0 := (List.getElem?_eq_some_iff.1 h1).2
        rw [← this, ← List.drop_eq_getElem_cons hl, List.take_append_drop]
      have e1 : esc (s.take i) = s.take i := esc_none fun k hk => by
        rw [List.getElem?_take] at hk
        split at hk
        · rename_i hlt
          exact h2 k hlt hk
        · cases hk
      cases n with
      | zero => omega
      | succ n =>
        show s.take i ++ [0, 255] ++ Go.Lib.replaceK [0] [0, 255] (Go.Lib.count (s.drop (i + 1)) [0]) (s.drop (i + 1)) = esc s
        rw [rep_esc n (s.drop (i + 1)) (by rw [List.length_drop]; omega)]
        rw [show esc s = esc (s.take i ++ 0 :: s.drop (i + 1)) from congrArg esc e, esc_append, e1]
        show _ = s.take i ++ ([0, 255] ++ esc (s.drop (i + 1)))
        rw [List.append_assoc]
theorem repAll_esc (s : List UInt8) : Go.Lib.replaceAll s [0] [0, 255] = esc s := by
  unfold Go.Lib.replaceAll Go.Lib.replace
  rw [if_neg (by decide)]
  have : Go.Lib.replaceNum s [0] (-1) = Go.Lib.count s [0] := if_pos (.inl (by decide))
  rw [this]
  exact rep_esc s.length s (Nat.le_refl _)
/-- What is told of the world's own variables. -/
structure Old2 (st : St) : Prop where
  num : isNum (st.old 0 0) = true
theorem Old2.eq {st st1 : St} (h : Old2 st) (k : st1.old = st.old) : Old2 st1 := ⟨by rw [k]; exact h.num⟩
theorem Old2.kn {st st1 : St} (h : Old2 st) (k : KN st st1) : Old2 st1 := h.eq k.2.2
theorem text_s {R : Nat} {s : List UInt8} {st : St} (hO : Old2 st) (hs : s.length ≤ 10000000) {φ : List UInt8 × St → Prop} (h : φ (ktext s, st)) : T φ (keys_text R s st) := by
  unfold keys_text
  have e : xRA R s [0] [0, 255] st = .some (esc s, st) := by
    unfold xRA raH
    rw [condT (by rw [hO.num]; simp; omega), Option.map_some, repAll_esc]
  refine T.step e ?_
  have := esc_len s
  refine T.step (catS_le (by simp only [List.length_cons, List.length_nil]; omega)) ?_
  exact T.some h
theorem ltextL_s {R : Nat} {s : List UInt8} (hs : s.length ≤ 10000000) {φ : List UInt8 → Prop} (h : φ (esc s)) : ∀ (r i : Nat), i ≤ s.length → s.length - i < r → T φ (parchmentlaw04_text_l11010 R s r (esc (s.take i)) (i : Int))
  | 0, _, _, hr => absurd hr (Nat.not_lt_zero _)
  | r + 1, i, hi, hr => by
    unfold parchmentlaw04_text_l11010 parchmentlaw04_text_c11010010
    have el := esc_len (s.take i)
    rw [List.length_take] at el
    by_cases hlt : i < s.length
    · refine T.ifT (by omega) ?_
      have e1 : IntKind.wrap .i64 ((i : Int) + 1) = ((i + 1 : Nat) : Int) := by rw [wrap64 (by omega) (by omega)]; omega
      rw [e1]
      refine T.bind ?_
      refine T.step (subS_nat (Nat.le_succ i) hlt) ?_
      have e2 : (s.take (i + 1)).drop i = [s[i]] := by
        rw [List.take_add_one, List.getElem?_eq_getElem hlt, Option.toList_some, List.drop_append_of_le_length (by rw [List.length_take]; omega), List.drop_eq_nil_of_le (by rw [List.length_take]; omega), List.nil_append]
      rw [e2]
      refine T.step (catS_le (by simp only [List.length_cons, List.length_nil]; omega)) ?_
      have e3 : idxS s (i : Int) = .some (s[i].toNat : Int) := by
        show (s[i]?).bind _ = _
        rw [List.getElem?_eq_getElem hlt]; rfl
      refine T.step e3 ?_
      have e4 : esc (s.take (i + 1)) = esc (s.take i) ++ (if s[i] = 0 then [0, 255] else [s[i]]) := by
        rw [List.take_add_one, List.getElem?_eq_getElem hlt, Option.toList_some, esc_append]
        show _ ++ ((if s[i] = 0 then [0, 255] else [s[i]]) ++ []) = _
        rw [List.append_nil]
      by_cases hz : s[i] = 0
      · refine T.ifT (by rw [hz]; rfl) ?_
        refine T.step (catS_le (by simp only [List.length_append, List.length_cons, List.length_nil]; omega)) ?_
        refine T.some ?_
        have := ltextL_s (R := R) hs h r (i + 1) hlt (by omega)
        rw [e4, if_pos hz] at this
        rw [hz, List.append_assoc]
        exact this
      · refine T.ifF (fun e => hz (by apply UInt8.toNat_inj.1; show s[i].toNat = 0; omega)) ?_
        refine T.some ?_
        have := ltextL_s (R := R) hs h r (i + 1) hlt (by omega)
        rw [e4, if_neg hz] at this
        exact this
    · refine T.ifF (by omega) ?_
      rw [List.take_of_length_le (by omega)]
      exact T.some h
theorem ltext_s {R : Nat} (hR : 100000000 < R) {s : List UInt8} (hs : s.length ≤ 10000000) {φ : List UInt8 → Prop} (h : φ (ktext s)) : T φ (parchmentlaw04_text R s) := by
  unfold parchmentlaw04_text parchmentlaw04_text_c1101
  refine T.bind ?_
  refine T.bind (ltextL_s hs ?_ R 0 (Nat.zero_le _) (by omega))
  refine T.some ?_
  have := esc_len s
  refine T.step (catS_le (by simp only [List.length_cons, List.length_nil]; omega)) ?_
  exact T.some h

/-! ### A number in a key -/
def b8 (n : Nat) : UInt8 := UInt8.ofNat (n % 256)
/-- The last i bytes of a number. -/
def tb (n : Nat) : Nat → List UInt8
  | 0 => []
  | i + 1 => b8 (n / 256 ^ i) :: tb n i
theorem tb_len (n : Nat) : ∀ i, (tb n i).length = i
  | 0 => rfl
  | i + 1 => congrArg (· + 1) (tb_len n i)
theorem b8_nat (n : Nat) : ((b8 n).toNat : Int) = ((n % 256 : Nat) : Int) := by
  unfold b8
  rw [UInt8.toNat_ofNat']
  congr 1
  omega
theorem wrapB (n : Nat) : IntKind.wrap .u8 (n : Int) = ((b8 n).toNat : Int) := by
  rw [b8_nat]
  show (n : Int) % 256 = _
  omega
theorem wrapB' {n : Nat} (h : n < 256) : IntKind.wrap .u8 (n : Int) = ((b8 n).toNat : Int) := wrapB n
theorem rep_set {k : Nat} {b : UInt8} {l : List UInt8} : (List.replicate (k + 1) 0 ++ l).set k b = List.replicate k 0 ++ b :: l := by
  rw [List.replicate_succ', List.append_assoc, List.set_append_right _ _ (by simp), List.length_replicate, Nat.sub_self]
  rfl
theorem pow256 (i : Nat) : 2 ^ (8 * i) = 256 ^ i := by rw [Nat.pow_mul]
theorem numL_s {R : Nat} {n : Nat} {id : Nat} {φ : St → Prop} {st0 : St} (h : ∀ st, KN st0 st → st.objs.get id = .some (.cells 5 true (u8Cells (tb n 8))) → φ st) (hid : st0.next ≤ id) :
    ∀ (r i : Nat) {st : St}, i ≤ 8 → 8 - i < r → KN st0 st → st.objs.get id = .some (.cells 5 true (u8Cells (List.replicate (8 - i) 0 ++ tb n i))) → T φ (keys_Number_l11010 R (n : Int) (.sref id 0 8 1 (.some 8)) 8 r (i : Int) st)
  | 0, _, _, _, hr, _, _ => absurd hr (Nat.not_lt_zero _)
  | r + 1, i, st, hi, hr, hK, hg => by
    unfold keys_Number_l11010 keys_Number_c110100110
    by_cases hlt : i < 8
    · refine T.ifT (by omega) ?_
      refine T.bind ?_
      have e1 : IntKind.wrap .i64 (8 * (i : Int)) = ((8 * i : Nat) : Int) := by rw [wrap64 (by omega) (by omega)]; omega
      rw [e1]
      have e2 : intOp .shr .u64 (n : Int) .i64 ((8 * i : Nat) : Int) = .some (.int .u64 ((n / 256 ^ i : Nat) : Int)) := by
        show (if ((8 * i : Nat) : Int) < 0 then none else Option.some (AV.int .u64 ((n : Int).fdiv (2 ^ (min ((8 * i : Nat) : Int).toNat 64))))) = _
        rw [if_neg (by omega), Int.toNat_natCast, Nat.min_eq_left (by omega)]
        congr 2
        rw [Int.fdiv_eq_ediv_of_nonneg _ (Int.le_of_lt (Int.pow_pos (by decide)))]
        rw [← pow256]
        norm_cast
      refine T.step e2 ?_
      refine T.step avI ?_
      have e3 : IntKind.wrap .i64 (7 - (i : Int)) = ((7 - i : Nat) : Int) := by rw [wrap64 (by omega) (by omega)]; omega
      rw [e3]
      refine T.step (bAt (by omega)) ?_
      rw [wrapB, Nat.zero_add]
      refine T.step (store_cell hg (by rw [u8Len, List.length_append, List.length_replicate, tb_len]; omega) oneI rfl) ?_
      refine T.some ?_
      have e4 : IntKind.wrap .i64 ((i : Int) + 1) = ((i + 1 : Nat) : Int) := by rw [wrap64 (by omega) (by omega)]; omega
      rw [e4]
      refine numL_s h hid r (i + 1) hlt (by omega) (hK.loc hid) ?_
      rw [get_put, u8Set, show 8 - i = (7 - i) + 1 from by omega, rep_set, show 8 - (i + 1) = 7 - i from by omega]
      rfl
    · refine T.ifF (by omega) ?_
      have : i = 8 := by omega
      subst this
      exact T.some (h st hK hg)
theorem number_s {R : Nat} (hR : 100000000 < R) {n : Nat} {st : St} {φ : List UInt8 × St → Prop} (h : ∀ st1, KN st st1 → φ (tb n 8, st1)) : T φ (keys_Number R (n : Int) st) := by
  unfold keys_Number keys_Number_c1101
  have e : mkNew (makeSliceOp C0.P 90 (.int .i64 8) (.int .i64 8)) st = .some (.sref st.next 0 8 1 (.some 8), st.push (.cells 5 true (u8Cells (List.replicate 8 0)))) := by kernel_rfl
  refine T.step e ?_
  refine T.step (show lenOf (.sref st.next 0 8 1 (.some 8)) = .some 8 from rfl) ?_
  refine T.bind ?_
  refine T.bind (numL_s (st0 := st) (id := st.next) (fun st1 k hg => ?_) (Nat.le_refl _) R 0 (Nat.zero_le _) (by omega) (KN.refl.psh) (get_push _ _))
  refine T.some ?_
  refine T.step (bStr hg (by rw [tb_len]; exact Nat.le_refl _)) ?_
  rw [List.take_of_length_le (by rw [tb_len]; exact Nat.le_refl _)]
  exact T.some (h st1 k)
theorem byte1 {f : Bool} {b : UInt8} {st : St} (hf : f = false) : mkNew (buildSliceOp C0.P f 90 1 [(0, (.int .u8 (b.toNat : Int)))]) st = .some (.sl st.next 1 1 1 (.some 1) [.int .u8 (b.toNat : Int)], st.push (.tip 1)) := by
  subst hf
  exact build1 (P := C0.P) (t := 90) (sz := 1) st rfl rfl (by decide)
theorem bstr1 {b : UInt8} {st : St} {id : Nat} : strOf st (.sl id 1 1 1 (.some 1) [.int .u8 (b.toNat : Int)]) = .some [b] := by
  show (bytesOf [.int .u8 (b.toNat : Int)]) = _
  exact bytesOf_cells [b]
theorem eightL_s {R : Nat} {n : Nat} (hn : n < 18446744073709551616) {φ : List UInt8 × St → Prop} {st0 : St} (h : ∀ st, KN st0 st → φ (tb n 8, st)) :
    ∀ (r i : Nat) {st : St}, i ≤ 8 → 8 - i < r → KN st0 st → T φ (parchmentlaw04_eight_l11010 R r ((n / 256 ^ i : Nat) : Int) (tb n i) (i : Int) st)
  | 0, _, _, _, hr, _ => absurd hr (Nat.not_lt_zero _)
  | r + 1, i, st, hi, hr, hK => by
    unfold parchmentlaw04_eight_l11010 parchmentlaw04_eight_c11010010
    by_cases hlt : i < 8
    · refine T.ifT (by omega) ?_
      refine T.bind ?_
      have e1 : ∀ m : Nat, Int.tmod (m : Int) 256 = ((m % 256 : Nat) : Int) := fun m => by
        rw [Int.tmod_eq_emod_of_nonneg (by omega)]; omega
      have e2 : ∀ m : Nat, m ≤ n → IntKind.wrap .u64 (Int.tdiv (m : Int) 256) = ((m / 256 : Nat) : Int) := fun m hm => by
        rw [Int.tdiv_eq_ediv_of_nonneg (by omega)]
        show ((m : Int) / 256) % 18446744073709551616 = _
        omega
      have q : n / 256 ^ (i + 1) = n / 256 ^ i / 256 := by rw [Nat.pow_succ, Nat.div_div_eq_div_mul]
      have q2 : n / 256 ^ i ≤ n := Nat.div_le_self _ _
      rw [e1, e2 _ q2, ← q, wrapB, show b8 (n / 256 ^ i % 256) = b8 (n / 256 ^ i) from by unfold b8; rw [Nat.mod_mod]]
      refine T.step (byte1 rfl) ?_
      refine T.step bstr1 ?_
      refine T.step (catS_le (by rw [tb_len]; simp only [List.length_cons, List.length_nil]; omega)) ?_
      refine T.some ?_
      have e4 : IntKind.wrap .i64 ((i : Int) + 1) = ((i + 1 : Nat) : Int) := by rw [wrap64 (by omega) (by omega)]; omega
      rw [e4]
      exact eightL_s hn h r (i + 1) hlt (by omega) hK.psh
    · refine T.ifF (by omega) ?_
      have : i = 8 := by omega
      subst this
      exact T.some (h st hK)
theorem eight_s {R : Nat} (hR : 100000000 < R) {n : Nat} (hn : n < 18446744073709551616) {st : St} {φ : List UInt8 × St → Prop} (h : ∀ st1, KN st st1 → φ (tb n 8, st1)) : T φ (parchmentlaw04_eight R (n : Int) st) := by
  unfold parchmentlaw04_eight parchmentlaw04_eight_c1101
  refine T.bind ?_
  have := eightL_s (R := R) hn (φ := fun a => T (fun a => T φ (.some (a.1, a.2))) (.some (a.1, a.2))) (fun st1 k => T.some (T.some (h st1 k))) R 0 (Nat.zero_le _) (by omega) (KN.refl (st := st))
  rw [Nat.pow_zero, Nat.div_one] at this
  exact T.bind this

/-! ### The sign turned -/
theorem xor63 {n : Nat} (h : n < 18446744073709551616) : n ^^^ 9223372036854775808 = (n + 9223372036854775808) % 18446744073709551616 := by
  rcases Nat.lt_or_ge n 9223372036854775808 with h1 | h1
  · rw [Nat.mod_eq_of_lt (by omega)]
    have e : (9223372036854775808 : Nat) = 2 ^ 63 := by decide
    apply Nat.eq_of_testBit_eq
    intro i
    rw [Nat.testBit_xor, e, Nat.testBit_two_pow, Nat.add_comm]
    by_cases hi : 63 = i
    · subst hi
      rw [Nat.testBit_two_pow_add_eq, Nat.testBit_lt_two_pow (by rw [← e]; exact h1)]
      rfl
    · rw [decide_eq_false hi, Bool.xor_false]
      rcases Nat.lt_or_ge i 63 with h2 | h2
      · rw [Nat.testBit_two_pow_add_gt h2]
      · have h3 : 63 < i := by omega
        have q1 : n < 2 ^ i := Nat.lt_of_lt_of_le (by rw [← e]; exact h1) (Nat.pow_le_pow_right (by decide) (Nat.le_of_lt h3))
        have q2 : 2 ^ 63 + n < 2 ^ i := Nat.lt_of_lt_of_le (show 2 ^ 63 + n < 2 ^ 64 by omega) (Nat.pow_le_pow_right (by decide) h3)
        rw [Nat.testBit_lt_two_pow q1, Nat.testBit_lt_two_pow q2]
  · obtain ⟨m, rfl⟩ : ∃ m, n = 9223372036854775808 + m := ⟨n - 9223372036854775808, by omega⟩
    have e : (9223372036854775808 : Nat) = 2 ^ 63 := by decide
    have hm : m < 9223372036854775808 := by omega
    have q : (9223372036854775808 + m + 9223372036854775808) % 18446744073709551616 = m := by omega
    rw [q]
    apply Nat.eq_of_testBit_eq
    intro i
    rw [Nat.testBit_xor, e, Nat.testBit_two_pow]
    by_cases hi : 63 = i
    · subst hi
      rw [Nat.testBit_two_pow_add_eq, Nat.testBit_lt_two_pow (by rw [← e]; exact hm)]
      rfl
    · rw [decide_eq_false hi, Bool.xor_false]
      rcases Nat.lt_or_ge i 63 with h2 | h2
      · rw [Nat.testBit_two_pow_add_gt h2]
      · have h3 : 63 < i := by omega
        have q1 : m < 2 ^ i := Nat.lt_of_lt_of_le (by rw [← e]; exact hm) (Nat.pow_le_pow_right (by decide) (Nat.le_of_lt h3))
        have q2 : 2 ^ 63 + m < 2 ^ i := Nat.lt_of_lt_of_le (show 2 ^ 63 + m < 2 ^ 64 by omega) (Nat.pow_le_pow_right (by decide) h3)
        rw [Nat.testBit_lt_two_pow q1, Nat.testBit_lt_two_pow q2]
/-- A number's place among all of them. -/
def plN (n : Int) : Nat := ((IntKind.wrap .u64 n + 9223372036854775808) % 18446744073709551616).toNat
theorem wrap_u64 (n : Int) : IntKind.wrap .u64 n = n % 18446744073709551616 := rfl
theorem plN_lt (n : Int) : plN n < 18446744073709551616 := by unfold plN; omega
theorem plN_add (n : Int) : IntKind.wrap .u64 (IntKind.wrap .u64 n + 9223372036854775808) = (plN n : Int) := by
  rw [wrap_u64]
  unfold plN
  omega
theorem plN_xor (n : Int) : xorI .u64 (IntKind.wrap .u64 n) 9223372036854775808 = (plN n : Int) := by
  have h1 : 0 ≤ IntKind.wrap .u64 n ∧ IntKind.wrap .u64 n < 18446744073709551616 := by rw [wrap_u64]; omega
  obtain ⟨m, hm⟩ : ∃ m : Nat, IntKind.wrap .u64 n = m := ⟨(IntKind.wrap .u64 n).toNat, by omega⟩
  unfold plN
  rw [hm] at h1 ⊢
  unfold xorI
  rw [wrap_u64]
  show (((BitVec.ofInt 64 (m : Int) ^^^ BitVec.ofInt 64 9223372036854775808).toNat : Nat) : Int) % 18446744073709551616 = _
  rw [BitVec.toNat_xor]
  have e1 : (BitVec.ofInt 64 (m : Int)).toNat = m := by
    rw [BitVec.toNat_ofInt]; omega
  have e2 : (BitVec.ofInt 64 9223372036854775808).toNat = 9223372036854775808 := by decide
  rw [e1, e2, xor63 (by omega)]
  omega
end
end Go.Proofs.YthodfojhbbendaaGreatDoor
