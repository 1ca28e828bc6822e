/- Rows and stores of one's own. -/
import Derived.Test.YthodfojhbbendaaGreatDoorSpC
set_option linter.all false
set_option maxRecDepth 100000
set_option maxHeartbeats 4000000
namespace Go.Proofs.YthodfojhbbendaaGreatDoor
open Go Go.Ev
noncomputable section
attribute [local congr] bindC iteC
theorem T.ifT {α : Type} {φ : α → Prop} {c : Prop} [Decidable c] {a b : Option α} (h : c) (k : T φ a) : T φ (ite c a b) := by rwa [if_pos h]
theorem T.ifF {α : Type} {φ : α → Prop} {c : Prop} [Decidable c] {a b : Option α} (h : ¬ c) (k : T φ b) : T φ (ite c a b) := by rwa [if_neg h]
/-- One more element: of a row that was written out for it. -/
theorem append1o {P : Program} {t : TypeId} {sz : Nat} [T : SlTy P t sz] {st : St} {x : AV} {cells new : List AV} {j : Nat} {e' : Nat} {c' : Option Nat} (h : Sl st sz x cells) (hl : new.length = sz) (h1 : new.all AV.one = true) (hn : cells.length ≤ most) :
    ∃ x' st', appendOp P false st #[t, t] x (.sl j e' 1 sz c' new) = some (x', st') ∧ Sl st' sz x' (cells ++ new) ∧ Keeps st st' (famOf x) ∧ (∀ id, famOf x' id → famOf x id ∨ st.next ≤ id) ∧ st'.old = st.old := by
  obtain ⟨e, bs, z, t1, t2, t3, t4, t5, t6, t7, t8⟩ := T.ok
  have q1 : Nat.beq t t = true := Nat.beq_refl t
  have q2 : (Nat.ble 1 1 && Nat.beq sz sz) = true := by rw [Nat.beq_refl]; rfl
  have q3 : range? new 0 (1 * sz) = some new := by
    unfold range?
    rw [condT (Nat.ble_eq_true_of_le (by omega)), List.drop_zero, List.take_of_length_le (by omega)]
  have c1 : Nat.beq sz 0 = false := by cases sz with
    | zero => exact absurd t6 (Nat.lt_irrefl 0)
    | succ n => rfl
  have c2 : Nat.ble 1 most = true := rfl
  have c3 : Nat.ble bs 4096 = true := Nat.ble_eq_true_of_le t5
  have c4 : Nat.beq z.cells.length sz = true := by rw [t7]; exact Nat.beq_refl sz
  have c5 : (!(new.all AV.one && Nat.ble 1 most && Nat.ble bs 4096 && !Nat.beq sz 0 && Nat.beq z.cells.length sz)) = false := by rw [h1, c1, c2, c3, c4]; rfl
  have b0 : Nat.beq 1 0 = false := rfl
  have base : ∀ (q : AV), appendOp P false st #[t, t] q (.sl j e' 1 sz c' new) = (match q with
      | .snil => cond (Nat.beq 1 0) (some (.snil, st)) (some (st.mk1 (newSlice false e 1 sz none new)))
      | .sl id e len sz' cap cs =>
        cond (Nat.beq 1 0) (some (q, st)) <| cond (!(Nat.ble len most && Nat.beq sz sz')) none <|
        cond (cap.any fun c => Nat.blt c (len + 1)) (some (st.mk1 (newSlice false e (len + 1) sz none (cs ++ new)))) <|
        match st.objs.get id with
        | some (.tip h) => cond (Nat.beq h e && !false) (some (.sl id (e + new.length) (len + 1) sz cap (cs ++ new), st.put id (.tip (e + new.length)))) none
        | _ => none
      | q => appendOp P false st #[t, t] q (.sl j e' 1 sz c' new)) := by
    intro q
    cases q <;> first | rfl | (simp only [appendOp, t1, t2, t3, t4, Option.bind_some, addLen, lenOf, appended, condT q1, sliceCells, condT q2, q3, condF c5]; try rfl)
  rcases h with ⟨rfl, rfl⟩ | ⟨id, e0, len, cap, rfl, h2, h3, h4⟩
  · refine ⟨.sl st.next new.length 1 sz none new, st.push (.tip new.length), ?_, .inr ⟨_, _, _, _, rfl, by rw [List.nil_append, hl, Nat.one_mul], Nat.lt_succ_self _, .inr ⟨rfl, by simp [St.push, Tr.get_set]⟩⟩, Keeps.push st _ _, fun id hi => .inr (by rw [show id = st.next from hi]; exact Nat.le_refl _), rfl⟩
    rw [base]; rfl
  · have hlen : len ≤ most := by
      have : len * 1 ≤ len * sz := Nat.mul_le_mul_left _ t6
      omega
    have d1 : (!(Nat.ble len most && Nat.beq sz sz)) = false := by rw [Nat.ble_eq_true_of_le hlen, Nat.beq_refl]; rfl
    rcases h4 with rfl | ⟨rfl, h4⟩
    · have d2 : Option.any (fun c => Nat.blt c (len + 1)) (some len) = true := by
        show Nat.ble (len + 1) (len + 1) = true
        exact Nat.ble_eq_true_of_le (Nat.le_refl _)
      refine ⟨.sl st.next (cells ++ new).length (len + 1) sz none (cells ++ new), st.push (.tip (cells ++ new).length), ?_, .inr ⟨_, _, _, _, rfl, by rw [List.length_append, h2, hl, Nat.succ_mul], Nat.lt_succ_self _, .inr ⟨rfl, by simp [St.push, Tr.get_set]⟩⟩, Keeps.push st _ _, fun id hi => .inr (by rw [show id = st.next from hi]; exact Nat.le_refl _), rfl⟩
      rw [base]
      simp only [b0, cond_false, condF d1, condT d2]
      rfl
    · have d3 : (Nat.beq e0 e0 && !false) = true := by rw [Nat.beq_refl]; rfl
      refine ⟨.sl id (e0 + new.length) (len + 1) sz none (cells ++ new), st.put id (.tip (e0 + new.length)), ?_, .inr ⟨_, _, _, _, rfl, by rw [List.length_append, h2, hl, Nat.succ_mul], h3, .inr ⟨rfl, by simp [St.put, Tr.get_set]⟩⟩, ⟨Nat.le_refl _, fun i hi hn => ?_⟩, fun i hi => .inl hi, rfl⟩
      · rw [base]
        simp only [b0, cond_false, condF d1, Option.any_none, h4, condT d3]
      · simp only [St.put, Tr.get_set]
        exact if_neg fun e : i = id => hn e
/-- Written out and appended: one more element. -/
theorem push1o {P : Program} {t : TypeId} {sz : Nat} [T : SlTy P t sz] {st : St} {x v : AV} {cells : List AV} {α : Type} (k : AV × St → Option α) (h : Sl st sz x cells) (hl : v.cells.length = sz) (h1 : v.cells.all AV.one = true) (hn : cells.length ≤ most) (hs : sz ≤ 16777216) :
    ∃ x' st', ((mkNew (buildSliceOp P false t 1 [(0, v)]) st).bind fun p => (appendOp P false p.2 #[t, t] x p.1).bind k) = k (x', st') ∧ Sl st' sz x' (cells ++ v.cells) ∧ Keeps st st' (famOf x) ∧ (∀ id, famOf x' id → famOf x id ∨ st.next ≤ id) ∧ st'.old = st.old := by
  obtain ⟨x', st', k1, k2, k3, k4, k5⟩ := append1o (P := P) (t := t) (j := st.next) (e' := sz) (c' := some 1) (h.push (.tip sz)) hl h1 hn
  refine ⟨x', st', ?_, k2, (Keeps.push st (.tip sz) (famOf x)).trans k3, fun id hi => (k4 id hi).imp (fun h => h) fun h => ?_, k5⟩
  · rw [build1 st hl h1 hs, Option.bind_some, k1, Option.bind_some]
  · simp only [St.push] at h; omega
def KN (st st' : St) : Prop := st.next ≤ st'.next ∧ (∀ i, i < st.next → st'.objs.get i = st.objs.get i) ∧ st'.old = st.old
theorem KN.refl {st : St} : KN st st := ⟨Nat.le_refl _, fun _ _ => rfl, rfl⟩
theorem KN.trans {a b c : St} (h : KN a b) (k : KN b c) : KN a c := ⟨Nat.le_trans h.1 k.1, fun i hi => (k.2.1 i (Nat.lt_of_lt_of_le hi h.1)).trans (h.2.1 i hi), k.2.2.trans h.2.2⟩
theorem KN.psh {st s : St} {o : AObj} (h : KN st s) : KN st (s.push o) := ⟨Nat.le_succ_of_le h.1, fun i hi => (gpN (by have := h.1; omega)).trans (h.2.1 i hi), h.2.2⟩
theorem KN.loc {st s : St} {id : Nat} {o : AObj} (h : KN st s) (hi : st.next ≤ id) : KN st (s.put id o) := ⟨h.1, fun i h1 => (guN (by omega)).trans (h.2.1 i h1), h.2.2⟩
theorem KN.le {st s : St} (h : KN st s) : st.next ≤ s.next := h.1
theorem Sl.kn {sz : Nat} {st st1 : St} {x : AV} {cells : List AV} (h : Sl st sz x cells) (k : KN st st1) : Sl st1 sz x cells := h.keeps (p := fun _ => False) ⟨k.1, fun i hi _ => k.2.1 i hi⟩ (fun _ _ h => h)
theorem KN.keeps {st0 st st1 : St} {x : AV} (h : KN st0 st) (k : Keeps st st1 (famOf x)) (ho : st1.old = st.old) (hf : ∀ id, famOf x id → st0.next ≤ id) : KN st0 st1 :=
  ⟨Nat.le_trans h.1 k.1, fun i h1 => (k.2 i (Nat.lt_of_lt_of_le h1 h.1) (fun e => absurd (hf i e) (by omega))).trans (h.2.1 i h1), ho.trans h.2.2⟩
theorem addN {t : TypeId} {sz : Nat} [SlTy C0.P t sz] {st0 st : St} {x v : AV} {cells : List AV} {β : Type} {φ : β → Prop} {k : AV × St → Option β}
    (hK : KN st0 st) (h : Sl st sz x cells) (hf : ∀ id, famOf x id → st0.next ≤ id) (hl : v.cells.length = sz) (h1 : v.cells.all AV.one = true) (hn : cells.length ≤ most) (hs : sz ≤ 16777216)
    (hk : ∀ x' st1, KN st0 st1 → Sl st1 sz x' (cells ++ v.cells) → (∀ id, famOf x' id → st0.next ≤ id) → (∀ i, i < st.next → ¬ famOf x i → st1.objs.get i = st.objs.get i) → st.next ≤ st1.next → T φ (k (x', st1))) :
    T φ (Option.bind (mkNew (buildSliceOp C0.P false t 1 [(0, v)]) st) fun o => match o with | (x1, st1) => Option.bind (appendOp C0.P false st1 #[t, t] x x1) k) := by
  obtain ⟨x', st1, e, hS, hKe, hF, hO⟩ := push1o (P := C0.P) (t := t) k h hl h1 hn hs
  have := hk x' st1 (hK.keeps hKe hO hf) hS (fun id hi => (hF id hi).elim (hf id) (fun h => Nat.le_trans hK.1 h)) hKe.2 hKe.1
  exact e ▸ this
end
end Go.Proofs.YthodfojhbbendaaGreatDoor
