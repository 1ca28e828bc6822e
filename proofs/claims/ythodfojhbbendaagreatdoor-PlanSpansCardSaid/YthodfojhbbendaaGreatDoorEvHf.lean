/- What is reasoned with over printed walks: numbers, texts, rows by value. -/
import Derived.Test.YthodfojhbbendaaGreatDoorEvHe
set_option linter.all false
namespace Go.Ev

/-! ### Numbers -/
theorem wrap64 {n : Int} (h1 : -9223372036854775808 ≤ n) (h2 : n ≤ 9223372036854775807) : IntKind.wrap .i64 n = n := by
  unfold IntKind.wrap
  simp only [IntKind.bits, IntKind.signed, Bool.true_and, decide_eq_true_eq, show ((2 : Int) ^ 64) = 18446744073709551616 from rfl, show ((2 : Int) ^ (64 - 1)) = 9223372036854775808 from rfl]
  split <;> omega
theorem wrapU8 {n : Int} (h1 : 0 ≤ n) (h2 : n ≤ 255) : IntKind.wrap .u8 n = n := by
  unfold IntKind.wrap
  simp only [IntKind.bits, IntKind.signed, Bool.false_and, Bool.false_eq_true, if_false]
  omega

/-! ### Texts -/
theorem idxS_nat (s : List UInt8) (k : Nat) : idxS s (k : Int) = (s[k]?).map fun b => (b.toNat : Int) := by
  show (match (Int.ofNat k : Int) with | .ofNat k => (s[k]?).bind fun b => some (b.toNat : Int) | .negSucc _ => none) = _
  simp only [Int.ofNat_eq_natCast]
  cases h : s[k]? <;> simp [h]
theorem idxS_lt {s : List UInt8} {k : Nat} (h : k < s.length) : idxS s (k : Int) = some ((s[k].toNat : Nat) : Int) := by
  rw [idxS_nat, List.getElem?_eq_getElem h]; rfl
theorem subS_nat {s : List UInt8} {a b : Nat} (h1 : a ≤ b) (h2 : b ≤ s.length) : subS s (a : Int) (b : Int) = some ((s.take b).drop a) := by
  show (if a ≤ b ∧ b ≤ s.length then some ((s.take b).drop a) else none) = _
  rw [if_pos ⟨h1, h2⟩]
theorem catS_le {a b : List UInt8} (h : a.length + b.length ≤ 9223372036854775807) : catS a b = some (a ++ b) := by
  unfold catS; rw [if_pos h]

/-! ### Rows by value -/
/-- A type of rows: how many cells an element has. -/
class SlTy (P : Program) (t : TypeId) (sz : outParam Nat) : Prop where
  ok : ∃ e bs z, P.underlying t = some (.slice e) ∧ size? P e = some sz ∧ bytes? P e = some bs ∧ zero? P e = some z ∧ bs ≤ 4096 ∧ 0 < sz ∧ z.cells.length = sz ∧ z.cells.all AV.one = true
/-- A type of values: one cell, or so many. -/
class LdTy (P : Program) (t : TypeId) (g : outParam Bool) (n : outParam Nat) : Prop where
  agg : agg? P t = some g
  size : size? P t = some n

/-- A row by value, which may be appended to: its cells. -/
def Sl (st : St) (sz : Nat) (x : AV) (cells : List AV) : Prop :=
  (x = .snil ∧ cells = []) ∨ ∃ id e len cap, x = .sl id e len sz cap cells ∧ cells.length = len * sz ∧ id < st.next ∧ (cap = some len ∨ cap = none ∧ st.objs.get id = some (.tip e))
/-- What was there is as it was, but for these things. -/
def Keeps (st st' : St) (but : Nat → Prop) : Prop := st.next ≤ st'.next ∧ ∀ id, id < st.next → ¬ but id → st'.objs.get id = st.objs.get id
theorem Keeps.refl (st : St) (but : Nat → Prop) : Keeps st st but := ⟨Nat.le_refl _, fun _ _ _ => rfl⟩
theorem Keeps.trans {a b c : St} {p : Nat → Prop} (h : Keeps a b p) (k : Keeps b c p) : Keeps a c p :=
  ⟨Nat.le_trans h.1 k.1, fun id hi hn => (k.2 id (Nat.lt_of_lt_of_le hi h.1) hn).trans (h.2 id hi hn)⟩
theorem Keeps.mono {a b : St} {p q : Nat → Prop} (h : Keeps a b p) (k : ∀ id, id < a.next → p id → q id) : Keeps a b q :=
  ⟨h.1, fun id hi hn => h.2 id hi fun hp => hn (k id hi hp)⟩
theorem Keeps.push (st : St) (o : AObj) (p : Nat → Prop) : Keeps st (st.push o) p :=
  ⟨Nat.le_succ _, fun id hi _ => by simp only [St.push, Tr.get_set]; rw [if_neg (by omega)]⟩
/-- The family that a row may turn. -/
def famOf : AV → Nat → Prop
  | .sl id .., i => i = id
  | _, _ => False

theorem Sl.push {st : St} {sz : Nat} {x : AV} {cells : List AV} (h : Sl st sz x cells) (o : AObj) : Sl (st.push o) sz x cells := by
  rcases h with h | ⟨id, e, len, cap, rfl, h1, h2, h3⟩
  · exact .inl h
  · refine .inr ⟨id, e, len, cap, rfl, h1, Nat.lt_succ_of_lt h2, ?_⟩
    rcases h3 with h3 | ⟨h3, h4⟩
    · exact .inl h3
    · exact .inr ⟨h3, by simp only [St.push, Tr.get_set]; rw [if_neg (by omega)]; exact h4⟩
theorem Sl.keeps {st st' : St} {sz : Nat} {x : AV} {cells : List AV} {p : Nat → Prop} (h : Sl st sz x cells) (k : Keeps st st' p) (hp : ∀ id, famOf x id → ¬ p id) : Sl st' sz x cells := by
  rcases h with h | ⟨id, e, len, cap, rfl, h1, h2, h3⟩
  · exact .inl h
  · refine .inr ⟨id, e, len, cap, rfl, h1, Nat.lt_of_lt_of_le h2 k.1, ?_⟩
    rcases h3 with h3 | ⟨h3, h4⟩
    · exact .inl h3
    · exact .inr ⟨h3, by rw [k.2 id h2 (hp id rfl)]; exact h4⟩
theorem Sl.nil (st : St) (sz : Nat) : Sl st sz .snil [] := .inl ⟨rfl, rfl⟩

theorem condT {α : Type} {c : Bool} {x y : α} (h : c = true) : cond c x y = x := by rw [h]; rfl
theorem condF {α : Type} {c : Bool} {x y : α} (h : c = false) : cond c x y = y := by rw [h]; rfl

/-- A row of one element, written out. -/
theorem build1 {P : Program} {t : TypeId} {sz : Nat} [T : SlTy P t sz] {v : AV} (st : St) (hl : v.cells.length = sz) (h1 : v.cells.all AV.one = true) (hs : sz ≤ 16777216) :
    mkNew (buildSliceOp P false t 1 [(0, v)]) st = some (.sl st.next sz 1 sz (some 1) v.cells, st.push (.tip sz)) := by
  obtain ⟨e, bs, z, t1, t2, t3, t4, t5, t6, t7, t8⟩ := T.ok
  have c1 : Nat.ble (1 * sz) 16777216 = true := Nat.ble_eq_true_of_le (by omega)
  have c2 : Nat.beq z.cells.length sz = true := by rw [t7]; exact Nat.beq_refl sz
  have c3 : Nat.beq sz 0 = false := by cases sz with
    | zero => exact absurd t6 (Nat.lt_irrefl 0)
    | succ n => rfl
  have c4 : (!(Nat.ble (1 * sz) 16777216 && Nat.beq z.cells.length sz && !Nat.beq sz 0)) = false := by rw [c1, c2, c3]; rfl
  have c5 : (Nat.beq sz sz && Nat.ble (0 * sz + sz) (repeatCells z.cells 1).length) = true := by
    rw [Nat.beq_refl, Bool.true_and]
    refine Nat.ble_eq_true_of_le ?_
    simp [repeatCells, t7]
  have c6 : setRange (repeatCells z.cells 1) (0 * sz) v.cells = v.cells := by
    simp only [setRange, repeatCells, List.append_nil, Nat.zero_mul, List.take_zero, List.nil_append, Nat.zero_add]
    rw [List.drop_eq_nil_of_le (by rw [t7, hl]; exact Nat.le_refl _), List.append_nil]
  simp only [mkNew, buildSliceOp, t1, t2, t4, Option.bind_some, condF c4, fillAV, hl, condT c5, c6, condT h1, newSlice]
theorem lenOf_sl {st : St} {sz : Nat} {x : AV} {cells : List AV} (h : Sl st sz x cells) (hz : 0 < sz) : lenOf x = some (cells.length / sz) := by
  rcases h with ⟨rfl, rfl⟩ | ⟨id, e, len, cap, rfl, h1, h2, h3⟩
  · simp [lenOf]
  · simp only [lenOf]; rw [h1, Nat.mul_div_cancel _ hz]
/-- One more element: of a row that was written out for it. -/
theorem append1 {P : Program} {t : TypeId} {sz : Nat} [T : SlTy P t sz] {st : St} {x : AV} {cells new : List AV} {j : Nat} {e' : Nat} {c' : Option Nat} (h : Sl st sz x cells) (hl : new.length = sz) (h1 : new.all AV.one = true) (hn : cells.length ≤ most) :
    ∃ x' st', appendOp P false st #[t, t] x (.sl j e' 1 sz c' new) = some (x', st') ∧ Sl st' sz x' (cells ++ new) ∧ Keeps st st' (famOf x) ∧ (∀ id, famOf x' id → famOf x id ∨ st.next ≤ id) := by
  obtain ⟨e, bs, z, t1, t2, t3, t4, t5, t6, t7, t8⟩ := T.ok
  have q1 : Nat.beq t t = true := Nat.beq_refl t
  have q2 : (Nat.ble 1 1 && Nat.beq sz sz) = true := by rw [Nat.beq_refl]; rfl
  have q3 : range? new 0 (1 * sz) = some new := by
    unfold range?
    rw [condT (Nat.ble_eq_true_of_le (by omega)), List.drop_zero, List.take_of_length_le (by omega)]
  have c1 : Nat.beq sz 0 = false := by cases sz with
    | zero => exact absurd t6 (Nat.lt_irrefl 0)
    | succ n => rfl
  have c2 : Nat.ble 1 most = true := rfl
  have c3 : Nat.ble bs 4096 = true := Nat.ble_eq_true_of_le t5
  have c4 : Nat.beq z.cells.length sz = true := by rw [t7]; exact Nat.beq_refl sz
  have c5 : (!(new.all AV.one && Nat.ble 1 most && Nat.ble bs 4096 && !Nat.beq sz 0 && Nat.beq z.cells.length sz)) = false := by rw [h1, c1, c2, c3, c4]; rfl
  have b0 : Nat.beq 1 0 = false := rfl
  have base : ∀ (q : AV), appendOp P false st #[t, t] q (.sl j e' 1 sz c' new) = (match q with
      | .snil => cond (Nat.beq 1 0) (some (.snil, st)) (some (st.mk1 (newSlice false e 1 sz none new)))
      | .sl id e len sz' cap cs =>
        cond (Nat.beq 1 0) (some (q, st)) <| cond (!(Nat.ble len most && Nat.beq sz sz')) none <|
        cond (cap.any fun c => Nat.blt c (len + 1)) (some (st.mk1 (newSlice false e (len + 1) sz none (cs ++ new)))) <|
        match st.objs.get id with
        | some (.tip h) => cond (Nat.beq h e && !false) (some (.sl id (e + new.length) (len + 1) sz cap (cs ++ new), st.put id (.tip (e + new.length)))) none
        | _ => none
      | q => appendOp P false st #[t, t] q (.sl j e' 1 sz c' new)) := by
    intro q
    cases q <;> first | rfl | (simp only [appendOp, t1, t2, t3, t4, Option.bind_some, addLen, lenOf, appended, condT q1, sliceCells, condT q2, q3, condF c5]; try rfl)
  rcases h with ⟨rfl, rfl⟩ | ⟨id, e0, len, cap, rfl, h2, h3, h4⟩
  · refine ⟨.sl st.next new.length 1 sz none new, st.push (.tip new.length), ?_, .inr ⟨_, _, _, _, rfl, by rw [List.nil_append, hl, Nat.one_mul], Nat.lt_succ_self _, .inr ⟨rfl, by simp [St.push, Tr.get_set]⟩⟩, Keeps.push st _ _, fun id hi => .inr (by rw [show id = st.next from hi]; exact Nat.le_refl _)⟩
    rw [base]; rfl
  · have hlen : len ≤ most := by
      have : len * 1 ≤ len * sz := Nat.mul_le_mul_left _ t6
      omega
    have d1 : (!(Nat.ble len most && Nat.beq sz sz)) = false := by rw [Nat.ble_eq_true_of_le hlen, Nat.beq_refl]; rfl
    rcases h4 with rfl | ⟨rfl, h4⟩
    · have d2 : Option.any (fun c => Nat.blt c (len + 1)) (some len) = true := by
        show Nat.ble (len + 1) (len + 1) = true
        exact Nat.ble_eq_true_of_le (Nat.le_refl _)
      refine ⟨.sl st.next (cells ++ new).length (len + 1) sz none (cells ++ new), st.push (.tip (cells ++ new).length), ?_, .inr ⟨_, _, _, _, rfl, by rw [List.length_append, h2, hl, Nat.succ_mul], Nat.lt_succ_self _, .inr ⟨rfl, by simp [St.push, Tr.get_set]⟩⟩, Keeps.push st _ _, fun id hi => .inr (by rw [show id = st.next from hi]; exact Nat.le_refl _)⟩
      rw [base]
      simp only [b0, cond_false, condF d1, condT d2]
      rfl
    · have d3 : (Nat.beq e0 e0 && !false) = true := by rw [Nat.beq_refl]; rfl
      refine ⟨.sl id (e0 + new.length) (len + 1) sz none (cells ++ new), st.put id (.tip (e0 + new.length)), ?_, .inr ⟨_, _, _, _, rfl, by rw [List.length_append, h2, hl, Nat.succ_mul], h3, .inr ⟨rfl, by simp [St.put, Tr.get_set]⟩⟩, ⟨Nat.le_refl _, fun i hi hn => ?_⟩, fun i hi => .inl hi⟩
      · rw [base]
        simp only [b0, cond_false, condF d1, Option.any_none, h4, condT d3]
      · simp only [St.put, Tr.get_set]
        exact if_neg fun e : i = id => hn e

/-- Written out and appended: one more element. -/
theorem push1 {P : Program} {t : TypeId} {sz : Nat} [T : SlTy P t sz] {st : St} {x v : AV} {cells : List AV} {α : Type} (k : AV × St → Option α) (h : Sl st sz x cells) (hl : v.cells.length = sz) (h1 : v.cells.all AV.one = true) (hn : cells.length ≤ most) (hs : sz ≤ 16777216) :
    ∃ x' st', ((mkNew (buildSliceOp P false t 1 [(0, v)]) st).bind fun p => (appendOp P false p.2 #[t, t] x p.1).bind k) = k (x', st') ∧ Sl st' sz x' (cells ++ v.cells) ∧ Keeps st st' (famOf x) ∧ (∀ id, famOf x' id → famOf x id ∨ st.next ≤ id) := by
  obtain ⟨x', st', k1, k2, k3, k4⟩ := append1 (P := P) (t := t) (j := st.next) (e' := sz) (c' := some 1) (h.push (.tip sz)) hl h1 hn
  refine ⟨x', st', ?_, k2, (Keeps.push st (.tip sz) (famOf x)).trans k3, fun id hi => (k4 id hi).imp (fun h => h) fun h => ?_⟩
  · rw [build1 st hl h1 hs, Option.bind_some, k1, Option.bind_some]
  · simp only [St.push] at h; omega

/-- A row that is looked at alone. -/
def Row (sz : Nat) (x : AV) (cells : List AV) : Prop := (x = .snil ∧ cells = []) ∨ ∃ id e len cap, x = .sl id e len sz cap cells ∧ cells.length = len * sz
theorem Sl.row {st : St} {sz : Nat} {x : AV} {cells : List AV} (h : Sl st sz x cells) : Row sz x cells := by
  rcases h with h | ⟨id, e, len, cap, h1, h2, _, _⟩
  · exact .inl h
  · exact .inr ⟨id, e, len, cap, h1, h2⟩
theorem lenOf_row {sz : Nat} {x : AV} {cells : List AV} (h : Row sz x cells) (hz : 0 < sz) : lenOf x = some (cells.length / sz) := by
  rcases h with ⟨rfl, rfl⟩ | ⟨id, e, len, cap, rfl, h1⟩
  · simp [lenOf]
  · simp only [lenOf]; rw [h1, Nat.mul_div_cancel _ hz]
theorem elem_row {P : Program} {t : TypeId} {sz : Nat} [T : SlTy P t sz] {x : AV} {cells : List AV} {k : IntKind} {i : Nat} (h : Row sz x cells) (hi : i * sz < cells.length) : indexAddrOp P t x (.int k (i : Int)) = some (.vptr (cells.drop (i * sz))) := by
  obtain ⟨e, bs, z, t1, t2, t3, t4, t5, t6, t7, t8⟩ := T.ok
  rcases h with ⟨rfl, rfl⟩ | ⟨id, e0, len, cap, rfl, h2⟩
  · simp at hi
  · have hlt : i < len := by
      rw [h2] at hi
      exact Nat.lt_of_mul_lt_mul_right hi
    have c1 : (Nat.blt i len && Nat.beq sz sz) = true := by
      rw [Nat.beq_refl, Bool.and_true]
      exact Nat.ble_eq_true_of_le hlt
    show (P.underlying t).bind _ = _
    rw [t1]
    show (size? P e).bind _ = _
    rw [t2]
    show cond _ _ _ = _
    rw [condT c1]
    show cond _ _ _ = _
    rw [condT (Nat.ble_eq_true_of_le (Nat.le_of_lt hi))]
/-- An element's address in a row by value. -/
theorem elem_sl {P : Program} {t : TypeId} {sz : Nat} [T : SlTy P t sz] {st : St} {x : AV} {cells : List AV} {k : IntKind} {i : Nat} (h : Sl st sz x cells) (hi : i * sz < cells.length) : indexAddrOp P t x (.int k (i : Int)) = some (.vptr (cells.drop (i * sz))) := elem_row h.row hi
theorem Sl.same {st st' : St} {sz : Nat} {x : AV} {cells : List AV} (h : Sl st sz x cells) (hn : st.next ≤ st'.next) (k : ∀ i, i < st.next → st'.objs.get i = st.objs.get i) : Sl st' sz x cells :=
  h.keeps (p := fun _ => False) ⟨hn, fun i hi _ => k i hi⟩ (fun _ _ h => h)
theorem load_one {P : Program} {t : TypeId} [T : LdTy P t false 1] {st : St} {c : AV} {cs : List AV} : loadAt P st t (.vptr (c :: cs)) = some c := by
  simp only [loadAt, T.agg, T.size, Option.bind_some, cond_false, readAt, range?]
  rw [condT (Nat.ble_eq_true_of_le (by simp))]
  rfl
theorem load_agg {P : Program} {t : TypeId} {n : Nat} [T : LdTy P t true n] {st : St} {cs : List AV} (h : n ≤ cs.length) : loadAt P st t (.vptr cs) = some (.agg (cs.take n)) := by
  simp only [loadAt, T.agg, T.size, Option.bind_some, cond_true, readAt, range?]
  rw [condT (Nat.ble_eq_true_of_le (by omega))]
  rfl
/-! ### Things in the store -/
theorem get_put (st : St) (id : Nat) (o : AObj) : (st.put id o).objs.get id = some o := by simp [St.put, Tr.get_set]
theorem get_put_ne {st : St} {id j : Nat} (o : AObj) (h : j ≠ id) : (st.put id o).objs.get j = st.objs.get j := by simp [St.put, Tr.get_set, h]
theorem get_push (st : St) (o : AObj) : (st.push o).objs.get st.next = some o := by simp [St.push, Tr.get_set]
theorem get_push_ne {st : St} {j : Nat} (o : AObj) (h : j ≠ st.next) : (st.push o).objs.get j = st.objs.get j := by simp [St.push, Tr.get_set, h]
section
variable {P : Program} {T : TypeId} {st : St} {id off n : Nat} {t : TypeId} {u : Bool} {cs new : List AV} {c v : AV}
theorem load_cell [L : LdTy P T false 1] (h : st.objs.get id = some (.cells t u cs)) (hc : cs[off]? = some c) : loadAt P st T (.ref id off) = some c := by
  have hl : off < cs.length := (List.getElem?_eq_some_iff.1 hc).1
  simp only [loadAt, L.agg, L.size, Option.bind_some, cond_false, readAt, h, range?]
  rw [condT (Nat.ble_eq_true_of_le (by omega)), List.drop_eq_getElem_cons hl, Option.bind_some]
  have : cs[off] = c := (List.getElem?_eq_some_iff.1 hc).2
  simp [shaped, this]
theorem load_cells [L : LdTy P T true n] (h : st.objs.get id = some (.cells t u cs)) (hn : cs.length = n) : loadAt P st T (.ref id 0) = some (.agg cs) := by
  simp only [loadAt, L.agg, L.size, Option.bind_some, cond_true, readAt, h, range?]
  rw [condT (Nat.ble_eq_true_of_le (by omega)), List.drop_zero, List.take_of_length_le (by omega)]
  rfl
theorem store_cell [L : LdTy P T false 1] (h : st.objs.get id = some (.cells t u cs)) (hl : off < cs.length) (hv : v.one = true) (hc : v.cells = [v]) : storeAt P st T (.ref id off) v = some (st.put id (.cells t u (cs.set off v))) := by
  simp only [storeAt, L.size, Option.bind_some, hc]
  have c1 : (Nat.beq [v].length 1 && [v].all AV.one) = true := by simp [hv]
  rw [condT c1]
  simp only [storeCellsAt, h]
  rw [condT (Nat.ble_eq_true_of_le (by simp; omega))]
  simp only [setRange, List.length_cons, List.length_nil]
  rw [List.set_eq_take_append_cons_drop, if_pos hl]
  simp
theorem store_cells [L : LdTy P T true n] (h : st.objs.get id = some (.cells t u cs)) (hn : cs.length = n) (hm : new.length = n) (ho : new.all AV.one = true) : storeAt P st T (.ref id 0) (.agg new) = some (st.put id (.cells t u new)) := by
  simp only [storeAt, L.size, Option.bind_some, AV.cells]
  have c1 : (Nat.beq new.length n && new.all AV.one) = true := by rw [hm, ho, Nat.beq_refl]; rfl
  rw [condT c1]
  simp only [storeCellsAt, h]
  rw [condT (Nat.ble_eq_true_of_le (by omega))]
  simp only [setRange, List.take_zero, List.nil_append, Nat.zero_add]
  rw [List.drop_eq_nil_of_le (by omega), List.append_nil]
end

/-! ### Rows by reference, with room that is known -/
def Sr (st : St) (sz : Nat) (x : AV) (room : Nat) (cells : List AV) : Prop :=
  ∃ id len t u cs, x = .sref id 0 len sz (some room) ∧ st.objs.get id = some (.cells t u cs) ∧ cs.length = room * sz ∧ len ≤ room ∧ cells = cs.take (len * sz) ∧ id < st.next
theorem Sr.length {st : St} {sz : Nat} {x : AV} {room : Nat} {cells : List AV} (h : Sr st sz x room cells) : cells.length ≤ room * sz := by
  obtain ⟨id, len, t, u, cs, rfl, h1, h2, h3, rfl, h4⟩ := h
  rw [List.length_take, h2]; exact Nat.min_le_right _ _
theorem Sr.push {st : St} {sz : Nat} {x : AV} {room : Nat} {cells : List AV} (h : Sr st sz x room cells) (o : AObj) : Sr (st.push o) sz x room cells := by
  obtain ⟨id, len, t, u, cs, rfl, h1, h2, h3, rfl, h4⟩ := h
  exact ⟨id, len, t, u, cs, rfl, by simp only [St.push, Tr.get_set]; rw [if_neg (by omega)]; exact h1, h2, h3, rfl, Nat.lt_succ_of_lt h4⟩
theorem repeat_len (z : List AV) : ∀ n, (repeatCells z n).length = n * z.length
  | 0 => by simp [repeatCells]
  | n + 1 => by simp [repeatCells, repeat_len z n, Nat.succ_mul, Nat.add_comm]
theorem make_sr {P : Program} {t : TypeId} {sz : Nat} [T : SlTy P t sz] {k k' : IntKind} {c : Nat} (st : St) (hc : c ≤ most) :
    ∃ x st', mkNew (makeSliceOp P t (.int k 0) (.int k' (c : Int))) st = some (x, st') ∧ Sr st' sz x c [] ∧ Keeps st st' (fun _ => False) := by
  obtain ⟨e, bs, z, t1, t2, t3, t4, t5, t6, t7, t8⟩ := T.ok
  have c3 : Nat.beq sz 0 = false := by cases sz with
    | zero => exact absurd t6 (Nat.lt_irrefl 0)
    | succ n => rfl
  have c1 : (Nat.ble 0 c && Nat.ble c most && Nat.ble bs 4096 && Nat.beq z.cells.length sz && !Nat.beq sz 0 && z.cells.all AV.one) = true := by
    rw [Nat.ble_eq_true_of_le (Nat.zero_le _), Nat.ble_eq_true_of_le hc, Nat.ble_eq_true_of_le t5, t7, Nat.beq_refl, c3, t8]; rfl
  have e1 : makeSliceOp P t (.int k 0) (.int k' (c : Int)) = some (fun id => .sref id 0 0 sz (some c), .cells e true (repeatCells z.cells c)) := by
    show (P.underlying t).bind _ = _
    rw [t1]
    show (size? P e).bind _ = _
    rw [t2]
    show (bytes? P e).bind _ = _
    rw [t3]
    show (zero? P e).bind _ = _
    rw [t4]
    show cond _ _ _ = _
    rw [condT c1]
  refine ⟨.sref st.next 0 0 sz (some c), st.push (.cells e true (repeatCells z.cells c)), ?_, ⟨_, _, _, _, _, rfl, by simp [St.push, Tr.get_set]; exact ⟨rfl, rfl, rfl⟩, by rw [repeat_len, t7], Nat.zero_le _, by simp, Nat.lt_succ_self _⟩, Keeps.push st _ _⟩
  simp only [mkNew, e1, Option.bind_some]
theorem pushR1 {P : Program} {t : TypeId} {sz : Nat} [T : SlTy P t sz] {st : St} {x v : AV} {room : Nat} {cells : List AV} {α : Type} (k : AV × St → Option α) (h : Sr st sz x room cells) (hl : v.cells.length = sz) (h1 : v.cells.all AV.one = true) (hn : cells.length < room * sz) (hr : room ≤ most) (hs : sz ≤ 16777216) :
    ∃ x' st', ((mkNew (buildSliceOp P false t 1 [(0, v)]) st).bind fun p => (appendOp P false p.2 #[t, t] x p.1).bind k) = k (x', st') ∧ Sr st' sz x' room (cells ++ v.cells) := by
  rw [build1 st hl h1 hs, Option.bind_some]
  have h' := h.push (.tip sz)
  generalize hst : st.push (.tip sz) = st1 at h'
  obtain ⟨id, len, tt, u, cs, rfl, g1, g2, g3, rfl, g4⟩ := h'
  obtain ⟨e, bs, z, t1, t2, t3, t4, t5, t6, t7, t8⟩ := T.ok
  have hlt : len < room := by
    rw [List.length_take, g2] at hn
    rcases Nat.lt_or_ge len room with h | h
    · exact h
    · have : room * sz ≤ len * sz := Nat.mul_le_mul_right _ h
      omega
  have hle : (len + 1) * sz ≤ room * sz := Nat.mul_le_mul_right _ hlt
  rw [Nat.succ_mul] at hle
  have q1 : Nat.beq t t = true := Nat.beq_refl t
  have q2 : (Nat.ble 1 1 && Nat.beq sz sz) = true := by rw [Nat.beq_refl]; rfl
  have q3 : range? v.cells 0 (1 * sz) = some v.cells := by
    unfold range?
    rw [condT (Nat.ble_eq_true_of_le (by omega)), List.drop_zero, List.take_of_length_le (by omega)]
  have c1 : Nat.beq sz 0 = false := by cases sz with
    | zero => exact absurd t6 (Nat.lt_irrefl 0)
    | succ n => rfl
  have c5 : (!(v.cells.all AV.one && Nat.ble 1 most && Nat.ble bs 4096 && !Nat.beq sz 0 && Nat.beq z.cells.length sz)) = false := by
    rw [h1, c1, Nat.ble_eq_true_of_le t5, t7, Nat.beq_refl]; rfl
  have d1 : (!(Nat.ble len most && Nat.beq sz sz)) = false := by rw [Nat.ble_eq_true_of_le (by omega), Nat.beq_refl]; rfl
  have d2 : Nat.ble (len + 1) room = true := Nat.ble_eq_true_of_le hlt
  have d3 : Nat.ble (0 + len * sz + v.cells.length) cs.length = true := Nat.ble_eq_true_of_le (by rw [hl, g2]; omega)
  refine ⟨.sref id 0 (len + 1) sz (some room), st1.put id (.cells tt u (setRange cs (0 + len * sz) v.cells)), ?_, ⟨_, _, _, _, _, rfl, by simp [St.put, Tr.get_set]; exact ⟨rfl, rfl, rfl⟩, ?_, hlt, ?_, by simpa [St.put] using g4⟩⟩
  · have e1 : appendOp P false st1 #[t, t] (.sref id 0 len sz (some room)) (.sl st.next sz 1 sz (some 1) v.cells) = some (.sref id 0 (len + 1) sz (some room), st1.put id (.cells tt u (setRange cs (0 + len * sz) v.cells))) := by
      simp only [appendOp, t1, t2, t3, t4, Option.bind_some, addLen, lenOf, appended, condT q1, sliceCells, condT q2, q3, condF c5, show Nat.beq 1 0 = false from rfl, cond_false, condF d1, condT d2, storeCellsAt, g1, condT d3]
    show (appendOp P false st1 #[t, t] (.sref id 0 len sz (some room)) (.sl st.next sz 1 sz (some 1) v.cells)).bind k = _
    rw [e1, Option.bind_some]
  · simp only [setRange, List.length_append, List.length_take, List.length_drop, g2, hl]
    omega
  · simp only [setRange, Nat.zero_add]
    have e : (len + 1) * sz = (cs.take (len * sz) ++ v.cells).length := by
      rw [List.length_append, List.length_take, g2, hl, Nat.succ_mul]; omega
    rw [e, List.take_left]
theorem strOf_sr {st : St} {x : AV} {room : Nat} {l : List UInt8} (h : Sr st 1 x room (l.map fun b => .int .u8 (b.toNat : Int))) (hb : bytesOf (l.map fun b => .int .u8 (b.toNat : Int)) = some l) : strOf st x = some l := by
  obtain ⟨id, len, t, u, cs, rfl, h1, h2, h3, h4, h5⟩ := h
  show (sliceCells st len (.sref id 0 len 1 (some room)) 1).bind _ = _
  have c1 : (Nat.ble len len && Nat.beq 1 1) = true := by rw [Nat.ble_eq_true_of_le (Nat.le_refl _)]; rfl
  simp only [sliceCells, h1, condT c1, range?]
  rw [condT (Nat.ble_eq_true_of_le (by omega)), List.drop_zero, ← h4]
  exact hb
/-- The bytes of a row. -/
def u8Cells (l : List UInt8) : List AV := l.map fun b => .int .u8 (b.toNat : Int)
theorem bytesOf_cells : ∀ l : List UInt8, bytesOf (u8Cells l) = some l
  | [] => rfl
  | b :: l => by
    show (bytesOf (u8Cells l)).bind _ = _
    rw [bytesOf_cells l]
    simp
theorem strOf_sl {st : St} {x : AV} {l : List UInt8} (h : Sl st 1 x (u8Cells l)) : strOf st x = some l := by
  have hl : (u8Cells l).length = l.length := by simp [u8Cells]
  rcases h with ⟨rfl, h⟩ | ⟨id, e0, len, cap, rfl, h2, h3, h4⟩
  · cases l with
    | nil => rfl
    | cons a l => cases h
  · have e : len = l.length := by omega
    subst e
    show (sliceCells st l.length (.sl id e0 l.length 1 cap (u8Cells l)) 1).bind _ = _
    have c1 : (Nat.ble l.length l.length && Nat.beq 1 1) = true := by rw [Nat.ble_eq_true_of_le (Nat.le_refl _)]; rfl
    simp only [sliceCells, condT c1, range?]
    rw [condT (Nat.ble_eq_true_of_le (by omega)), List.drop_zero, List.take_of_length_le (by omega)]
    exact bytesOf_cells l
end Go.Ev
