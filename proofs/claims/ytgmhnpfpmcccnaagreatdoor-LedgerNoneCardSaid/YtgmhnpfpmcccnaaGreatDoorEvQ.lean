/- A region that draws its order: the proof. -/
import Derived.Test.YtgmhnpfpmcccnaaGreatDoorEvM
set_option linter.all false
namespace Go.Ev
open Go.RowKit (Below)

/-! ### Equality of values -/
mutual
theorem AV.beq_sound : ∀ (a b : AV), AV.beq a b = true → a = b
  | .int k n, b, h => by
    cases b <;> simp only [AV.beq, Bool.and_eq_true, beq_iff_eq, Bool.false_eq_true] at h
    rw [h.1, h.2]
  | .bool x, b, h => by
    cases b <;> simp only [AV.beq, beq_iff_eq, Bool.false_eq_true] at h
    rw [h]
  | .str x, b, h => by
    cases b <;> simp only [AV.beq, strEq_eq, beq_iff_eq, Bool.false_eq_true] at h
    rw [h]
  | .nilp, b, h => by cases b <;> first | rfl | (simp only [AV.beq, Bool.false_eq_true] at h)
  | .ref i o, b, h => by
    cases b <;> simp only [AV.beq, Bool.and_eq_true, Nat.beq_eq, Bool.false_eq_true] at h
    rw [h.1, h.2]
  | .glob i o, b, h => by
    cases b <;> simp only [AV.beq, Bool.and_eq_true, Nat.beq_eq, Bool.false_eq_true] at h
    rw [h.1, h.2]
  | .vptr x, b, h => by
    cases b <;> simp only [AV.beq, Bool.false_eq_true] at h
    rw [AV.beqs_sound _ _ h]
  | .snil, b, h => by cases b <;> first | rfl | (simp only [AV.beq, Bool.false_eq_true] at h)
  | .sl i e n z c x, b, h => by
    cases b <;> simp only [AV.beq, Bool.and_eq_true, Nat.beq_eq, beq_iff_eq, Bool.false_eq_true] at h
    obtain ⟨⟨⟨⟨⟨h1, h2⟩, h3⟩, h4⟩, h5⟩, h6⟩ := h
    rw [h1, h2, h3, h4, h5, AV.beqs_sound _ _ h6]
  | .sempty, b, h => by cases b <;> first | rfl | (simp only [AV.beq, Bool.false_eq_true] at h)
  | .yield i, b, h => by
    cases b <;> simp only [AV.beq, Nat.beq_eq, Bool.false_eq_true] at h
    rw [h]
  | .sref i o n z c, b, h => by
    cases b <;> simp only [AV.beq, Bool.and_eq_true, Nat.beq_eq, beq_iff_eq, Bool.false_eq_true] at h
    obtain ⟨⟨⟨⟨h1, h2⟩, h3⟩, h4⟩, h5⟩ := h
    rw [h1, h2, h3, h4, h5]
  | .mnil, b, h => by cases b <;> first | rfl | (simp only [AV.beq, Bool.false_eq_true] at h)
  | .map i, b, h => by
    cases b <;> simp only [AV.beq, Nat.beq_eq, Bool.false_eq_true] at h
    rw [h]
  | .func f x y, b, h => by
    cases b <;> simp only [AV.beq, Bool.and_eq_true, beq_iff_eq, Bool.false_eq_true] at h
    obtain ⟨⟨h1, h2⟩, h3⟩ := h
    rw [h1, AV.beqs_sound _ _ h2, AV.beqs_sound _ _ h3]
  | .nilf, b, h => by cases b <;> first | rfl | (simp only [AV.beq, Bool.false_eq_true] at h)
  | .iface t x, b, h => by
    cases b <;> simp only [AV.beq, Bool.and_eq_true, Nat.beq_eq, Bool.false_eq_true] at h
    rw [h.1, AV.beq_sound _ _ h.2]
  | .nili, b, h => by cases b <;> first | rfl | (simp only [AV.beq, Bool.false_eq_true] at h)
  | .agg x, b, h => by
    cases b <;> simp only [AV.beq, Bool.false_eq_true] at h
    rw [AV.beqs_sound _ _ h]
  | .tuple x, b, h => by
    cases b <;> simp only [AV.beq, Bool.false_eq_true] at h
    rw [AV.beqs_sound _ _ h]
  | .resi .., b, h => by cases b <;> simp only [AV.beq, Bool.false_eq_true] at h
  | .strx .., b, h => by cases b <;> simp only [AV.beq, Bool.false_eq_true] at h
  | .any, b, h => by cases b <;> simp only [AV.beq, Bool.false_eq_true] at h
theorem AV.beqs_sound : ∀ (a b : List AV), AV.beqs a b = true → a = b
  | [], b, h => by cases b <;> first | rfl | (simp only [AV.beqs, Bool.false_eq_true] at h)
  | a :: as, b, h => by
    cases b <;> simp only [AV.beqs, Bool.and_eq_true, Bool.false_eq_true] at h
    rw [AV.beq_sound _ _ h.1, AV.beqs_sound _ _ h.2]
end

/-! ### What has been done -/
structure HItem where
  s : PStep
  v : AV
  made : Bool
  id : Nat

def puts (p : HItem → Bool) : List HItem → List AV → List AV
  | [], ts => ts
  | x :: H, ts => puts p H (cond (p x) (putT ts x.s.o.dst x.v) ts)
theorem puts_append (p : HItem → Bool) : ∀ (H K : List HItem) (ts : List AV), puts p (H ++ K) ts = puts p K (puts p H ts)
  | [], _, _ => rfl
  | _ :: H, K, _ => puts_append p H K _
theorem puts_congr {p q : HItem → Bool} : ∀ {H : List HItem} {ts : List AV}, (∀ x ∈ H, p x = q x) → puts p H ts = puts q H ts
  | [], _, _ => rfl
  | x :: H, ts, h => by
    simp only [puts, h x (by simp)]
    exact puts_congr fun y hy => h y (List.mem_cons_of_mem _ hy)
theorem putT_getD_ne {ts : List AV} {dst : Option Tmp} {v : AV} {t : Nat} (h : dst ≠ some t) : (putT ts dst v).getD t AV.undef = ts.getD t AV.undef := by
  cases dst with
  | none => rfl
  | some d =>
    simp only [putT, List.getD_eq_getElem?_getD]
    rw [List.getElem?_set_ne (fun e => h (by rw [e]))]
theorem putT_length (ts : List AV) (dst : Option Tmp) (v : AV) : (putT ts dst v).length = ts.length := by cases dst <;> simp [putT]
theorem puts_length (p : HItem → Bool) : ∀ (H : List HItem) (ts : List AV), (puts p H ts).length = ts.length
  | [], _ => rfl
  | x :: H, ts => by
    simp only [puts, puts_length p H]
    cases p x <;> simp [putT_length]
theorem puts_getD_ne {p : HItem → Bool} {t : Nat} : ∀ {H : List HItem} {ts : List AV}, (∀ x ∈ H, p x = true → x.s.o.dst ≠ some t) → (puts p H ts).getD t AV.undef = ts.getD t AV.undef
  | [], _, _ => rfl
  | x :: H, ts, h => by
    simp only [puts]
    rw [puts_getD_ne fun y hy => h y (List.mem_cons_of_mem _ hy)]
    cases hp : p x with
    | true => exact putT_getD_ne (h x (by simp) hp)
    | false => rfl
theorem putT_getD_congr {ts ts' : List AV} {dst : Option Tmp} {v : AV} {t : Nat} (hl : ts.length = ts'.length) (h : ts.getD t AV.undef = ts'.getD t AV.undef) :
    (putT ts dst v).getD t AV.undef = (putT ts' dst v).getD t AV.undef := by
  cases dst with
  | none => exact h
  | some d =>
    simp only [putT, List.getD_eq_getElem?_getD] at h ⊢
    by_cases hd : d = t
    · subst hd
      rcases Nat.lt_or_ge d ts.length with hlt | hge
      · rw [List.getElem?_set_self hlt, List.getElem?_set_self (by omega)]
      · rw [List.set_eq_of_length_le hge, List.set_eq_of_length_le (by omega)]
        exact h
    · rw [List.getElem?_set_ne hd, List.getElem?_set_ne hd]
      exact h
theorem puts_getD_congr {p q : HItem → Bool} {t : Nat} : ∀ {H : List HItem} {ts ts' : List AV}, ts.length = ts'.length → ts.getD t AV.undef = ts'.getD t AV.undef → (∀ x ∈ H, x.s.o.dst = some t → p x = q x) →
    (puts p H ts).getD t AV.undef = (puts q H ts').getD t AV.undef
  | [], _, _, _, h, _ => h
  | x :: H, ts, ts', hl, h, hx => by
    simp only [puts]
    refine puts_getD_congr ?_ ?_ fun y hy => hx y (List.mem_cons_of_mem _ hy)
    · cases p x <;> cases q x <;> simp [putT_length, hl]
    · by_cases hd : x.s.o.dst = some t
      · rw [hx x (by simp) hd]
        cases q x with
        | true => exact putT_getD_congr hl h
        | false => exact h
      · have hc : ∀ (b : Bool) (l : List AV), (cond b (putT l x.s.o.dst x.v) l).getD t AV.undef = l.getD t AV.undef := fun b l => by
          cases b
          · rfl
          · exact putT_getD_ne hd
        rw [hc, hc]
        exact h
theorem putT_comm {ts : List AV} {d e : Option Tmp} {v u : AV} (h : ∀ t, d = some t → e ≠ some t) : putT (putT ts d v) e u = putT (putT ts e u) d v := by
  cases d with
  | none => rfl
  | some d =>
    cases e with
    | none => rfl
    | some e =>
      simp only [putT]
      exact List.set_comm _ _ (fun he => h d rfl (by rw [he]))
theorem puts_putT {p : HItem → Bool} {d : Option Tmp} {v : AV} : ∀ {H : List HItem} {ts : List AV}, (∀ x ∈ H, p x = true → ∀ t, d = some t → x.s.o.dst ≠ some t) → puts p H (putT ts d v) = putT (puts p H ts) d v
  | [], _, _ => rfl
  | x :: H, ts, h => by
    simp only [puts]
    have := puts_putT (p := p) (d := d) (v := v) (H := H) (ts := cond (p x) (putT ts x.s.o.dst x.v) ts) fun y hy => h y (List.mem_cons_of_mem _ hy)
    rw [← this]
    cases hp : p x with
    | true =>
      simp only [cond_true]
      rw [putT_comm (h x (by simp) hp)]
    | false => rfl

def Is (H : List HItem) (i : Nat) : Prop := ∃ x ∈ H, x.s.i = i
def Li (lst : Array Bool) (i : Nat) : Prop := lst.getD i false = true
def lq (lst : Array Bool) (x : HItem) : Bool := lst.getD x.s.i false

/-- What has been taken, in the plan's order; what of it has been done in fact. -/
structure HOk (ops : Array Oper) (lst : Array Bool) (H : List HItem) : Prop where
  op : ∀ x ∈ H, ops[x.s.i]? = some x.s.o
  nd : (H.map (·.s.i)).Nodup
  sub : ∀ i, Li lst i → Is H i
  down : ∀ i o, Li lst i → ops[i]? = some o → Wait (Li lst) o
  ord : ∀ H1 x H2, H = H1 ++ x :: H2 → Wait (Is H1) x.s.o

section
variable {ops : Array Oper} {lst : Array Bool} {H : List HItem} {befs : List Nat}
theorem HOk.apart (h : HOk ops lst H) {H1 H2 : List HItem} {x : HItem} (e : H = H1 ++ x :: H2) : (∀ y ∈ H1, y.s.i ≠ x.s.i) ∧ (∀ y ∈ H2, y.s.i ≠ x.s.i) ∧ ∀ y ∈ H2, ¬ Is H1 y.s.i := by
  have := h.nd
  rw [e] at this
  simp only [List.map_append, List.map_cons, List.nodup_append, List.nodup_cons, List.mem_map, List.mem_cons] at this
  obtain ⟨_, ⟨a1, _⟩, a2⟩ := this
  refine ⟨fun y hy e => ?_, fun y hy e => a1 ⟨y, hy, e⟩, fun y hy ⟨z, hz, e⟩ => ?_⟩
  · exact a2 y.s.i ⟨y, hy, rfl⟩ x.s.i (.inl rfl) e
  · exact a2 z.s.i ⟨z, hz, rfl⟩ y.s.i (.inr ⟨y, hy, rfl⟩) e
theorem HOk.prefix_down (h : HOk ops lst H) {H1 H2 : List HItem} (e : H = H1 ++ H2) : ∀ i o, Is H1 i → ops[i]? = some o → Wait (Is H1) o := by
  rintro i o ⟨y, hy, rfl⟩ ho
  obtain ⟨A, B, rfl⟩ := List.append_of_mem hy
  have : o = y.s.o := by
    rw [h.op y (by rw [e]; simp)] at ho
    injection ho with ho
    exact ho.symm
  subst this
  refine (h.ord A y (B ++ H2) (by rw [e]; simp)).mono fun j ⟨z, hz, e⟩ => ⟨z, by simp [hz], e⟩
theorem HOk.bef_prefix (hb : BefOk ops.toList befs) (h : HOk ops lst H) {H1 H2 : List HItem} {x : HItem} (e : H = H1 ++ x :: H2) {j : Nat} (hj : (befs.getD x.s.i 0).testBit j = true) : Is H1 j :=
  bef_wait hb (h.prefix_down e) (h.op x (by rw [e]; simp)) (h.ord _ _ _ e) hj
theorem HOk.bef_listed (hb : BefOk ops.toList befs) (h : HOk ops lst H) {i j : Nat} (hi : Li lst i) (hj : (befs.getD i 0).testBit j = true) : Li lst j :=
  bef_in hb h.down i j hi hj
theorem HOk.bef_ready (hb : BefOk ops.toList befs) (h : HOk ops lst H) {i j : Nat} {o : Oper} (ho : ops[i]? = some o) (hw : Wait (Li lst) o) (hj : (befs.getD i 0).testBit j = true) : Li lst j :=
  bef_wait hb h.down ho hw hj

/-- What is taken and not done, and waits for nothing, finds its temporaries as the plan has them. -/
theorem HOk.names (hb : BefOk ops.toList befs) (ht : TempsOk ops befs) (h : HOk ops lst H) {H1 H2 : List HItem} {x : HItem} (e : H = H1 ++ x :: H2) (hn : ¬ Li lst x.s.i) (hw : Wait (Li lst) x.s.o) (ts : List AV) :
    ∀ t ∈ namesOf ops.toList x.s.o, (puts (lq lst) H ts).getD t AV.undef = (puts (fun _ => true) H1 ts).getD t AV.undef := by
  intro t htn
  obtain ⟨a1, a2, a3⟩ := h.apart e
  have hx : ops[x.s.i]? = some x.s.o := h.op x (by rw [e]; simp)
  subst e
  rw [puts_append]
  have hlx : lq lst x = false := by simpa [lq, Li] using hn
  have e1 : puts (lq lst) (x :: H2) (puts (lq lst) H1 ts) = puts (lq lst) H2 (puts (lq lst) H1 ts) := by simp only [puts, hlx, cond_false]
  rw [e1, puts_getD_ne]
  · refine puts_getD_congr rfl rfl fun y hy hd => ?_
    cases hl : lq lst y with
    | true => rfl
    | false =>
      exfalso
      obtain ⟨A, B, rfl⟩ := List.append_of_mem hy
      rcases ht y.s.i x.s.i _ _ (h.op y (by simp)) hx (a1 y hy) t hd (.inl htn) with h1 | h1
      · have : Li lst y.s.i := h.bef_ready hb hx hw h1
        simp only [lq] at hl
        simp [Li, hl] at this
      · obtain ⟨z, hz, ez⟩ := h.bef_prefix hb (H1 := A) (x := y) (H2 := B ++ x :: H2) (by simp) h1
        exact a1 z (by simp [hz]) ez
  · intro y hy hl hd
    rcases ht y.s.i x.s.i _ _ (h.op y (by simp [hy])) hx (a2 y hy) t hd (.inl htn) with h1 | h1
    · exact a3 y hy (h.bef_prefix hb rfl h1)
    · exact hn (h.bef_listed hb hl h1)
/-- Nothing that is done, and was taken later, writes what it writes. -/
theorem HOk.writes (hb : BefOk ops.toList befs) (ht : TempsOk ops befs) (h : HOk ops lst H) {H1 H2 : List HItem} {x : HItem} (e : H = H1 ++ x :: H2) (hn : ¬ Li lst x.s.i) :
    ∀ y ∈ H2, lq lst y = true → ∀ t, x.s.o.dst = some t → y.s.o.dst ≠ some t := by
  intro y hy hl t hx hd
  obtain ⟨a1, a2, a3⟩ := h.apart e
  have hxo : ops[x.s.i]? = some x.s.o := h.op x (by rw [e]; simp)
  rcases ht y.s.i x.s.i _ _ (h.op y (by rw [e]; simp [hy])) hxo (a2 y hy) t hd (.inr hx) with h1 | h1
  · exact a3 y hy (h.bef_prefix hb e h1)
  · exact hn (h.bef_listed hb hl h1)
/-- What is not taken yet, and waits for nothing. -/
theorem HOk.names_new (hb : BefOk ops.toList befs) (ht : TempsOk ops befs) (h : HOk ops lst H) {i : Nat} {o : Oper} (ho : ops[i]? = some o) (hn : ¬ Is H i) (hw : Wait (Li lst) o) (ts : List AV) :
    ∀ t ∈ namesOf ops.toList o, (puts (lq lst) H ts).getD t AV.undef = (puts (fun _ => true) H ts).getD t AV.undef := by
  intro t htn
  refine puts_getD_congr rfl rfl fun y hy hd => ?_
  cases hl : lq lst y with
  | true => rfl
  | false =>
    exfalso
    obtain ⟨A, B, rfl⟩ := List.append_of_mem hy
    rcases ht y.s.i i _ _ (h.op y (by simp)) ho (fun e => hn ⟨y, hy, e⟩) t hd (.inl htn) with h1 | h1
    · have : Li lst y.s.i := h.bef_ready hb ho hw h1
      simp only [lq] at hl
      simp [Li, hl] at this
    · obtain ⟨z, hz, ez⟩ := h.bef_prefix hb (H1 := A) (x := y) (H2 := B) rfl h1
      exact hn ⟨z, by simp [hz], ez⟩
end
end Go.Ev
