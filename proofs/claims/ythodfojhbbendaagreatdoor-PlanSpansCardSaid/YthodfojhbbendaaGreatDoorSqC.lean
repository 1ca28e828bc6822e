/- Values in cells, whatever their slices are: which may be, and their bytes. -/
import Derived.Test.YthodfojhbbendaaGreatDoorSqB
set_option linter.all false
set_option maxRecDepth 100000
set_option maxHeartbeats 2000000
namespace Go.Proofs.YthodfojhbbendaaGreatDoor
open Go Go.Ev
noncomputable section
attribute [local congr] bindC iteC
instance t23 : LdTy C0.P 23 false 1 := ⟨by kernel_rfl, by kernel_rfl⟩
instance t2' : LdTy C0.P 2 false 1 := ⟨by kernel_rfl, by kernel_rfl⟩
theorem T.ite {α : Type} {φ : α → Prop} {c : Prop} [Decidable c] {a b : Option α} (h : c → T φ a) (k : ¬ c → T φ b) : T φ (ite c a b) := by
  by_cases hc : c
  · rw [if_pos hc]; exact h hc
  · rw [if_neg hc]; exact k hc
theorem wrapS {i : Nat} (h : i + 1 ≤ 9223372036854775807) : IntKind.wrap .i64 ((i : Int) + 1) = ((i + 1 : Nat) : Int) := by rw [wrap64 (by omega) (by omega)]; omega
theorem boxV {a : Int} {b : Bool} {c : Int} {d : List UInt8} {px nx : AV} {st : St} {t : Nat} (hp : px.one = true) (hn : nx.one = true) : boxOp t (.agg [.int .i64 a, .bool b, .int .i64 c, .str d, px, nx]) st = .some (.ref st.next 0, st.push (.cells t true [.int .i64 a, .bool b, .int .i64 c, .str d, px, nx])) := by
  unfold boxOp
  rw [if_pos (by simp only [AV.cells, oneB_, hp, hn])]
  rfl
/-! ### Values in cells -/
/-- A row of texts, whatever it is. -/
structure RN (o : Nat → Nat → Option AV) (x : AV) (l : List (List UInt8)) : Prop where
  one : x.one = true
  len : lenOf x = .some l.length
  get : ∀ (i : Nat) (h : i < l.length), ∃ a, indexAddrOp C0.P 22 x (.int .i64 (i : Int)) = .some a ∧ ∀ st : St, st.old = o → loadAt C0.P st 9 a = .some (.str l[i])
  beq : AV.beq x x = true
mutual
def RV (NN : AV → List (List UInt8) → Prop) (ts te : Nat) (o : Nat → Nat → Option AV) : Vt → List AV → Prop
  | .mk k b n s parts names, cs => ∃ px nx, cs = [.int .i64 k, .bool b, .int .i64 n, .str s, px, nx] ∧ px.one = true ∧ NN nx names ∧ lenOf px = .some parts.length ∧ RPs NN ts te o parts px 0
def RPs (NN : AV → List (List UInt8) → Prop) (ts te : Nat) (o : Nat → Nat → Option AV) : List Vt → AV → Nat → Prop
  | [], _, _ => True
  | v :: l, px, i => (∃ a cs, indexAddrOp C0.P ts px (.int .i64 (i : Int)) = .some a ∧ (∀ st : St, st.old = o → loadAt C0.P st te a = .some (.agg cs)) ∧ RV NN ts te o v cs) ∧ RPs NN ts te o l px (i + 1)
end
theorem RPs_get {NN : AV → List (List UInt8) → Prop} {ts te : Nat} {o : Nat → Nat → Option AV} {px : AV} : ∀ {l : List Vt} {j : Nat}, RPs NN ts te o l px j → ∀ (i : Nat) (h : i < l.length), ∃ a cs, indexAddrOp C0.P ts px (.int .i64 ((j + i : Nat) : Int)) = .some a ∧ (∀ st : St, st.old = o → loadAt C0.P st te a = .some (.agg cs)) ∧ RV NN ts te o l[i] cs
  | [], _, _, i, h => absurd h (Nat.not_lt_zero _)
  | v :: l, j, hr, 0, _ => by
    simp only [RPs] at hr
    exact hr.1
  | v :: l, j, hr, i + 1, h => by
    simp only [RPs] at hr
    have := RPs_get hr.2 i (by simpa using h)
    rw [show j + 1 + i = j + (i + 1) by omega] at this
    exact this
theorem RPs_put {NN : AV → List (List UInt8) → Prop} {ts te : Nat} {o : Nat → Nat → Option AV} {px : AV} : ∀ {l : List Vt} {j : Nat}, (∀ (i : Nat) (h : i < l.length), ∃ a cs, indexAddrOp C0.P ts px (.int .i64 ((j + i : Nat) : Int)) = .some a ∧ (∀ st : St, st.old = o → loadAt C0.P st te a = .some (.agg cs)) ∧ RV NN ts te o l[i] cs) → RPs NN ts te o l px j
  | [], _, _ => by simp only [RPs]
  | v :: l, j, h => by
    simp only [RPs]
    refine ⟨h 0 (Nat.succ_pos _), RPs_put fun i hi => ?_⟩
    have := h (i + 1) (by simpa using hi)
    rw [show j + (i + 1) = j + 1 + i by omega] at this
    exact this
/-- A value that is not too deep, nor too wide. -/
def baseV (k n : Int) (s : List UInt8) (names : List (List UInt8)) : Prop := s.length ≤ 1100 ∧ names.length ≤ 4 ∧ (∀ m ∈ names, m.length ≤ 9223372036854775807) ∧ -9223372036854775808 ≤ n ∧ n ≤ 9223372036854775807 ∧ -9223372036854775808 ≤ k ∧ k ≤ 9223372036854775807
def dp : Nat → Vt → Prop
  | 0, .mk k _ n s parts names => baseV k n s names ∧ parts = []
  | d + 1, .mk k _ n s parts names => baseV k n s names ∧ parts.length ≤ 4 ∧ ∀ p ∈ parts, dp d p
theorem dp_base {d : Nat} {k n : Int} {b : Bool} {s : List UInt8} {parts : List Vt} {names : List (List UInt8)} (h : dp d (.mk k b n s parts names)) : baseV k n s names ∧ parts.length ≤ 4 := by
  cases d with
  | zero => exact ⟨h.1, by rw [h.2]; exact Nat.zero_le _⟩
  | succ d => exact ⟨h.1, h.2.1⟩
def OK1 (k : Int) (b : Bool) (n : Int) (s : List UInt8) (np : Nat) (names : List (List UInt8)) : Prop :=
  0 ≤ k ∧ k ≤ 6 ∧ ((k ≠ 1 → b = false) ∧ (k ≠ 2 → n = 0) ∧ (k ≠ 3 → k ≠ 4 → s = []) ∧ (k ≠ 5 → k ≠ 6 → np = 0) ∧ (k ≠ 6 → names.length = 0)) ∧ (∀ m ∈ names, m.length ≤ 16) ∧ (k = 6 → names.length = np)
def okC : Nat → Vt → Prop
  | 0, .mk k b n s parts names => OK1 k b n s parts.length names
  | d + 1, .mk k b n s parts names => OK1 k b n s parts.length names ∧ ∀ p ∈ parts, okC d p
theorem okC_1 {d : Nat} {k n : Int} {b : Bool} {s : List UInt8} {parts : List Vt} {names : List (List UInt8)} (h : okC d (.mk k b n s parts names)) : OK1 k b n s parts.length names := by
  cases d with
  | zero => exact h
  | succ d => exact h.1
theorem okL_of : ∀ {l : List Vt}, (∀ p ∈ l, okV p) → okL l
  | [], _ => by simp only [okL]
  | v :: l, h => by
    simp only [okL]
    exact ⟨h v List.mem_cons_self, okL_of fun p hp => h p (List.mem_cons_of_mem _ hp)⟩
theorem okV_of : ∀ (d : Nat) (v : Vt), dp d v → okC d v → okV v
  | 0, .mk k b n s parts names, hd, ho => by
    obtain ⟨⟨h1, h2, h3, h4, h5, h6, h7⟩, hp⟩ := hd
    obtain ⟨a1, a2, ⟨a3, a4, a5, a6, a7⟩, a8, a9⟩ := ho
    subst hp
    simp only [okV, okL]
    exact ⟨a1, a2, a3, a4, h4, h5, a5, (fun _ => by first | rfl | trivial), fun h => List.length_eq_zero_iff.1 (a7 h), a9, trivial⟩
  | d + 1, .mk k b n s parts names, hd, ho => by
    obtain ⟨⟨h1, h2, h3, h4, h5, h6, h7⟩, hp, hd⟩ := hd
    obtain ⟨⟨a1, a2, ⟨a3, a4, a5, a6, a7⟩, a8, a9⟩, ho⟩ := ho
    simp only [okV]
    exact ⟨a1, a2, a3, a4, h4, h5, a5, fun h => List.length_eq_zero_iff.1 (a6 (by omega) (by omega)), fun h => List.length_eq_zero_iff.1 (a7 h), a9, okL_of fun p hp' => okV_of d p (hd p hp') (ho p hp')⟩

/-! ### Names -/
theorem nj1 (R : Nat) (c : Int) : ∃ b, value_Name_j101001100110 R c = .some b := by
  unfold value_Name_j101001100110
  repeat' split
  all_goals exact ⟨_, rfl⟩
theorem nj2 (R : Nat) (i c : Int) (b : Bool) : ∃ b', value_Name_j1010011001110 R i c b = .some b' := by
  unfold value_Name_j1010011001110
  repeat' split
  all_goals exact ⟨_, rfl⟩
theorem nameL_s {R : Nat} {s : List UInt8} (hs : s.length ≤ 9223372036854775807) {ψ : Bool ⊕ Unit → Prop} (h1 : ψ (.inl false)) (h2 : ψ (.inr ())) : ∀ (r i : Nat), i ≤ s.length → s.length - i < r → T ψ (value_Name_l1010 R s (s.length : Int) r (i : Int))
  | 0, _, _, h => absurd h (Nat.not_lt_zero _)
  | r + 1, i, hi, hr => by
    unfold value_Name_l1010
    by_cases hlt : i < s.length
    · refine T.ifT (by omega) ?_
      refine T.step (idxS_lt hlt) ?_
      obtain ⟨b1, e1⟩ := nj1 R (s[i].toNat : Int)
      refine T.step e1 ?_
      obtain ⟨b2, e2⟩ := nj2 R (i : Int) (s[i].toNat : Int) b1
      refine T.step e2 ?_
      cases b2
      · refine T.ifF (by decide) ?_
        rw [wrapS (by omega)]
        exact nameL_s hs h1 h2 r (i + 1) hlt (by omega)
      · refine T.ifT rfl ?_
        exact T.some h1
    · refine T.ifF (by omega) ?_
      exact T.some h2
theorem name_s {R : Nat} (hR : 18446744073709551616 ≤ R) {s : List UInt8} (hs : s.length ≤ 9223372036854775807) {φ : Bool → Prop} (h : ∀ b, (b = true → s.length ≤ 16) → φ b) : T φ (value_Name R s) := by
  unfold value_Name value_Name_j110
  refine T.bind (nameL_s hs ?_ ?_ R 0 (Nat.zero_le _) (by omega))
  · exact T.some (h false (fun e => by cases e))
  · refine T.bind ?_
    refine T.ite (fun a => T.ite (fun b => ?_) (fun b => ?_)) (fun a => ?_)
    · exact T.some (T.some (h true fun _ => by omega))
    · exact T.some (T.some (h false (fun e => by cases e)))
    · exact T.some (T.some (h false (fun e => by cases e)))
theorem jn_s {R : Nat} (hR : 18446744073709551616 ≤ R) {names : List (List UInt8)} {nx : AV} {o : Nat → Nat → Option AV} (hN : RN o nx names) (hnm : ∀ m ∈ names, m.length ≤ 9223372036854775807) {k n : Int} {b : Bool} {s : List UInt8} {px : AV} {id : Nat} {st : St} (ho : st.old = o) (hg : st.objs.get id = .some (.cells 25 true [.int .i64 k, .bool b, .int .i64 n, .str s, px, nx]))
    {i : Nat} (hi : i < names.length) (hl : names.length ≤ 4) {χ : Bool × St → Prop} (h1 : χ (true, st)) (h2 : names[i].length ≤ 16 → χ (false, st)) : T χ (value_names_j10100110010 R (.ref id 0) (i : Int) names[i] st) := by
  unfold value_names_j10100110010
  have q3 := hN.get
  refine T.bind (name_s hR (hnm _ (List.getElem_mem hi)) fun b hb => ?_)
  refine T.ite (fun hbt => ?_) (fun _ => T.some h1)
  refine T.ite (fun h0 => ?_) (fun _ => T.some (h2 (hb hbt)))
  repeat (refine T.step (by simp (disch := (first | ((repeat (first | rw [nxPush] | rw [nxPut] | rw [List.length_cons] | rw [List.length_nil])) <;> omega) | (refine (?_ : _ ∧ True).1; constructor; simp only [oneB_, *]; exact True.intro))) only [allS, hg]; try exact rfl) ?_)
  obtain ⟨a, e1, e2⟩ := q3 (i - 1) (by omega)
  have e3 : IntKind.wrap .i64 ((i : Int) - 1) = ((i - 1 : Nat) : Int) := by rw [wrap64 (by omega) (by omega)]; omega
  rw [e3]
  refine T.step e1 ?_
  refine T.step (e2 st ho) ?_
  refine T.step avS ?_
  exact T.ite (fun _ => T.some h1) (fun _ => T.some (h2 (hb hbt)))
theorem namesL_s {R : Nat} (hR : 18446744073709551616 ≤ R) {names : List (List UInt8)} {nx : AV} {o : Nat → Nat → Option AV} (hN : RN o nx names) (hnm : ∀ m ∈ names, m.length ≤ 9223372036854775807) (hl : names.length ≤ 4) {k n : Int} {b : Bool} {s : List UInt8} {px : AV} {id : Nat} {st : St} (ho : st.old = o) (hg : st.objs.get id = .some (.cells 25 true [.int .i64 k, .bool b, .int .i64 n, .str s, px, nx]))
    {ψ : (Bool × St) ⊕ St → Prop} (h1 : ψ (.inl (false, st))) (h2 : (∀ m ∈ names, m.length ≤ 16) → ψ (.inr st)) : ∀ (r i : Nat), i ≤ names.length → names.length - i < r → (∀ (j : Nat) (h : j < names.length), j < i → names[j].length ≤ 16) → T ψ (value_names_l1010 R (.ref id 0) nx (names.length : Int) r (i : Int) st)
  | 0, _, _, h, _ => absurd h (Nat.not_lt_zero _)
  | r + 1, i, hi, hr, hall => by
    unfold value_names_l1010
    by_cases hlt : i < names.length
    · refine T.ifT (by omega) ?_
      obtain ⟨a, e1, e2⟩ := hN.get i hlt
      refine T.step e1 ?_
      refine T.step (e2 st ho) ?_
      refine T.step avS ?_
      refine T.bind (jn_s hR hN hnm ho hg hlt hl ?_ fun hle => ?_)
      · exact T.ifT rfl (T.some h1)
      · refine T.ifF (by decide) ?_
        rw [wrapS (by omega)]
        refine namesL_s hR hN hnm hl ho hg h1 h2 r (i + 1) hlt (by omega) fun j hj hji => ?_
        rcases Nat.lt_or_ge j i with h | h
        · exact hall j hj h
        · have : j = i := by omega
          subst this
          exact hle
    · refine T.ifF (by omega) ?_
      refine T.some (h2 fun m hm => ?_)
      obtain ⟨j, hj, e⟩ := List.mem_iff_getElem.1 hm
      rw [← e]
      exact hall j hj (by omega)
theorem names_s {R : Nat} (hR : 18446744073709551616 ≤ R) {names : List (List UInt8)} {nx : AV} {o : Nat → Nat → Option AV} (hN : RN o nx names) (hnm : ∀ m ∈ names, m.length ≤ 9223372036854775807) (hl : names.length ≤ 4) {k n : Int} {b : Bool} {s : List UInt8} {px : AV} {np : Nat} (hp : px.one = true) (lp : lenOf px = .some np) {st : St} (ho : st.old = o)
    {φ : Bool × St → Prop} (h : ∀ r st1, KN st st1 → (r = true → (∀ m ∈ names, m.length ≤ 16) ∧ (k = 6 → names.length = np)) → φ (r, st1)) : T φ (value_names R k b n s px nx st) := by
  unfold value_names
  have ln := hN.len
  refine T.step (boxV hp hN.one) ?_
  have K1 : KN st (st.push (.cells 25 true [.int .i64 k, .bool b, .int .i64 n, .str s, px, nx])) := KN.refl.psh
  repeat (refine T.step (by simp (disch := (first | ((repeat (first | rw [nxPush] | rw [nxPut] | rw [List.length_cons] | rw [List.length_nil])) <;> omega) | (refine (?_ : _ ∧ True).1; constructor; simp only [oneB_, *]; exact True.intro))) only [allS, ln]; try exact rfl) ?_)
  refine T.bind (namesL_s hR hN hnm hl (st := st.push (.cells 25 true [.int .i64 k, .bool b, .int .i64 n, .str s, px, nx])) (id := st.next) (by exact ho) (get_push _ _) ?_ (fun hall => ?_) R 0 (Nat.zero_le _) (by omega) (fun j _ hj => absurd hj (Nat.not_lt_zero _)))
  · exact T.some (h false _ K1 (fun e => by cases e))
  · unfold value_names_j110
    refine T.bind ?_
    repeat (refine T.step (by simp (disch := (first | ((repeat (first | rw [nxPush] | rw [nxPut] | rw [List.length_cons] | rw [List.length_nil])) <;> omega) | (refine (?_ : _ ∧ True).1; constructor; simp only [oneB_, *]; exact True.intro))) only [allS]; try exact rfl) ?_)
    refine T.ite (fun h6 => ?_) (fun h6 => ?_)
    · repeat (refine T.step (by simp (disch := (first | ((repeat (first | rw [nxPush] | rw [nxPut] | rw [List.length_cons] | rw [List.length_nil])) <;> omega) | (refine (?_ : _ ∧ True).1; constructor; simp only [oneB_, *]; exact True.intro))) only [allS, ln, lp]; try exact rfl) ?_)
      refine T.ite (fun e => ?_) (fun e => ?_)
      · exact T.some (T.some (h true _ K1 fun _ => ⟨hall, fun _ => by omega⟩))
      · exact T.some (T.some (h false _ K1 (fun e => by cases e)))
    · exact T.some (T.some (h true _ K1 fun _ => ⟨hall, fun e => absurd e h6⟩))
/-! ### What a kind does not have is zero -/
section
variable {R : Nat} {k n : Int} {b : Bool} {s : List UInt8} {px nx : AV} {id : Nat} {st : St} {np nn : Nat}
theorem bj10 (hg : st.objs.get id = .some (.cells 25 true [.int .i64 k, .bool b, .int .i64 n, .str s, px, nx])) {φ : Bool × St → Prop} (h : ∀ t : Bool, (t = true ↔ k = 3 ∨ k = 4) → φ (t, st)) : T φ (value_bare_j10 R (.ref id 0) st) := by
  unfold value_bare_j10
  repeat (refine T.step (by simp (disch := (first | ((repeat (first | rw [nxPush] | rw [nxPut] | rw [List.length_cons] | rw [List.length_nil])) <;> omega) | (refine (?_ : _ ∧ True).1; constructor; simp only [oneB_, *]; exact True.intro))) only [allS, hg]; try exact rfl) ?_)
  refine T.ite (fun e => T.some (h true ⟨fun _ => .inl e, fun _ => rfl⟩)) (fun e => T.ite (fun e2 => T.some (h true ⟨fun _ => .inr e2, fun _ => rfl⟩)) (fun e2 => T.some (h false ⟨fun x => (by cases x), fun x => (by omega)⟩)))
theorem bj110 (hg : st.objs.get id = .some (.cells 25 true [.int .i64 k, .bool b, .int .i64 n, .str s, px, nx])) {φ : Bool × St → Prop} (h : ∀ t : Bool, (t = true ↔ k = 5 ∨ k = 6) → φ (t, st)) : T φ (value_bare_j110 R (.ref id 0) st) := by
  unfold value_bare_j110
  repeat (refine T.step (by simp (disch := (first | ((repeat (first | rw [nxPush] | rw [nxPut] | rw [List.length_cons] | rw [List.length_nil])) <;> omega) | (refine (?_ : _ ∧ True).1; constructor; simp only [oneB_, *]; exact True.intro))) only [allS, hg]; try exact rfl) ?_)
  refine T.ite (fun e => T.some (h true ⟨fun _ => .inl e, fun _ => rfl⟩)) (fun e => T.ite (fun e2 => T.some (h true ⟨fun _ => .inr e2, fun _ => rfl⟩)) (fun e2 => T.some (h false ⟨fun x => (by cases x), fun x => (by omega)⟩)))
theorem bj1110 (lp : lenOf px = .some np) (ln : lenOf nx = .some nn) (hg : st.objs.get id = .some (.cells 25 true [.int .i64 k, .bool b, .int .i64 n, .str s, px, nx])) {t m : Bool} (ht : t = true ↔ k = 3 ∨ k = 4) (hm : m = true ↔ k = 5 ∨ k = 6)
    {φ : Bool × St → Prop} (h : ∀ r : Bool, (r = true → (k ≠ 1 → b = false) ∧ (k ≠ 2 → n = 0) ∧ (k ≠ 3 → k ≠ 4 → s = []) ∧ (k ≠ 5 → k ≠ 6 → np = 0) ∧ (k ≠ 6 → nn = 0)) → φ (r, st)) : T φ (value_bare_j1110 R (.ref id 0) t m st) := by
  have hF : φ (false, st) := h false (fun e => by cases e)
  have hT : (k ≠ 1 → b = false) → (k ≠ 2 → n = 0) → (t = true ∨ s = []) → (m = true ∨ np = 0) → (k ≠ 6 → nn = 0) → φ (true, st) := fun a1 a2 a3 a4 a5 => h true fun _ => ⟨a1, a2, fun q1 q2 => a3.elim (fun e => absurd (ht.1 e) (by omega)) (fun e => e), fun q1 q2 => a4.elim (fun e => absurd (hm.1 e) (by omega)) (fun e => e), a5⟩
  unfold value_bare_j1110
  clear h ht hm
  repeat' (first | exact T.some hF | (refine T.step (by simp (disch := (refine (?_ : _ ∧ True).1; constructor; simp only [oneB_, *]; exact True.intro)) only [allS, hg, lp, ln]; try exact rfl) ?_) | (refine T.ite (fun _ => ?_) (fun _ => ?_)))
  all_goals
    refine T.some (hT ?_ ?_ ?_ ?_ ?_)
    all_goals first
      | (intro _; omega)
      | (intro _; contradiction)
      | (left; assumption)
      | (right; assumption)
      | (right; omega)
      | (intro _; assumption)
      | (intro _; rename_i q; exact bF q)
      | (intro _; exact bF (by assumption))
      | simp_all
theorem bare_s (hp : px.one = true) (hn : nx.one = true) (lp : lenOf px = .some np) (ln : lenOf nx = .some nn) {φ : Bool × St → Prop} (h : ∀ r st1, KN st st1 → (r = true → (k ≠ 1 → b = false) ∧ (k ≠ 2 → n = 0) ∧ (k ≠ 3 → k ≠ 4 → s = []) ∧ (k ≠ 5 → k ≠ 6 → np = 0) ∧ (k ≠ 6 → nn = 0)) → φ (r, st1)) : T φ (value_bare R k b n s px nx st) := by
  unfold value_bare
  refine T.step (boxV hp hn) ?_
  have K1 : KN st (st.push (.cells 25 true [.int .i64 k, .bool b, .int .i64 n, .str s, px, nx])) := KN.refl.psh
  refine T.bind (bj10 (get_push _ _) fun t ht => ?_)
  refine T.bind (bj110 (get_push _ _) fun m hm => ?_)
  refine T.bind (bj1110 lp ln (get_push _ _) ht hm fun r hr => ?_)
  exact T.some (h r _ K1 hr)
end
/-! ### Which values may be -/
abbrev cv (k : Int) (b : Bool) (n : Int) (s : List UInt8) (px nx : AV) : List AV := [.int .i64 k, .bool b, .int .i64 n, .str s, px, nx]
theorem checkL_s {R : Rc41} {o : Nat → Nat → Option AV} {parts : List Vt} {px : AV} {C : Vt → Prop} {deep : Nat} (hdeep : deep ≤ 100) (hl : parts.length ≤ 4) (hP : RPs (RN o) 23 25 o parts px 0)
    (hf : ∀ k b n s pp nn, Vt.mk k b n s pp nn ∈ parts → ∀ (px nx : AV) (st : St) (φ : Int × St → Prop), RV (RN o) 23 25 o (.mk k b n s pp nn) [.int .i64 k, .bool b, .int .i64 n, .str s, px, nx] → st.old = o → (∀ e st1, KN st st1 → (e = 0 → C (.mk k b n s pp nn)) → φ (e, st1)) → T φ (R.f41 k b n s px nx ((deep + 1 : Nat) : Int) st))
    {st0 : St} (ho : st0.old = o) {ψ : (Int × St) ⊕ St → Prop} (h1 : ∀ e st1, KN st0 st1 → e ≠ 0 → ψ (.inl (e, st1))) (h2 : ∀ st1, KN st0 st1 → (∀ p ∈ parts, C p) → ψ (.inr st1)) :
    ∀ (r i : Nat) (st1 : St), i ≤ parts.length → parts.length - i < r → KN st0 st1 → (∀ (j : Nat) (h : j < parts.length), j < i → C parts[j]) → T ψ (value_check_l11010 R (deep : Int) px (parts.length : Int) r (i : Int) st1)
  | 0, _, _, _, h, _, _ => absurd h (Nat.not_lt_zero _)
  | r + 1, i, st1, hi, hr, K1, hall => by
    unfold value_check_l11010
    by_cases hlt : i < parts.length
    · refine T.ifT (by omega) ?_
      obtain ⟨a, cs, e1, e2, hrv⟩ := RPs_get hP i hlt
      rw [Nat.zero_add] at e1
      rcases hpi : parts[i] with ⟨k', b', n', s', pp, nn⟩
      rw [hpi] at hrv
      have hmem : Vt.mk k' b' n' s' pp nn ∈ parts := hpi ▸ List.getElem_mem hlt
      have hrv' := hrv
      simp only [RV] at hrv
      obtain ⟨px', nx', rfl, hp', hN', lp', hP'⟩ := hrv
      have hn' := hN'.one
      refine T.step e1 ?_
      refine T.step (e2 st1 (K1.2.2.trans ho)) ?_
      have n_K1 := K1.le; (try simp only [nxPush, nxPut] at n_K1)
      repeat (refine T.step (by simp (disch := (first | ((repeat (first | rw [nxPush] | rw [nxPut] | rw [List.length_cons] | rw [List.length_nil])) <;> omega) | (refine (?_ : _ ∧ True).1; constructor; simp only [oneB_, *]; exact True.intro))) only [allS]; try exact rfl) ?_)
      rw [wrapS (by omega)]
      refine T.bind (hf k' b' n' s' pp nn hmem px' nx' _ _ hrv' (by simp only [oldPush, oldPut]; exact K1.2.2.trans ho) fun e st2 k2 he => ?_)
      have K2 : KN st0 st2 := (by repeat' (first | exact KN.trans (by repeat' (first | exact K1 | exact KN.refl | refine KN.psh ?_ | refine KN.loc ?_ ?_ | ((try simp only [nxPush, nxPut]) <;> omega))) k2 | refine KN.psh ?_ | refine KN.loc ?_ ?_ | ((try simp only [nxPush, nxPut]) <;> omega)))
      refine T.ite (fun e0 => ?_) (fun e0 => ?_)
      · rw [wrapS (by omega)]
        refine checkL_s hdeep hl hP hf ho h1 h2 r (i + 1) st2 hlt (by omega) K2 fun j hj hji => ?_
        rcases Nat.lt_or_ge j i with h | h
        · exact hall j hj h
        · have : j = i := by omega
          subst this
          rw [hpi]
          exact he e0
      · exact T.some (h1 e st2 K2 e0)
    · refine T.ifF (by omega) ?_
      refine T.some (h2 st1 K1 fun m hm => ?_)
      obtain ⟨j, hj, e⟩ := List.mem_iff_getElem.1 hm
      rw [← e]
      exact hall j hj (by omega)
theorem cj_s {R : Rc41} {k n : Int} {b : Bool} {s : List UInt8} {px nx : AV} {id np nn : Nat} {st : St} (hp : px.one = true) (hn : nx.one = true) (lp : lenOf px = .some np) (ln : lenOf nx = .some nn) (hg : st.objs.get id = .some (.cells 25 true [.int .i64 k, .bool b, .int .i64 n, .str s, px, nx]))
    {χ : Bool × St → Prop} (h1 : ∀ st1, KN st st1 → χ (true, st1)) (h2 : ∀ st1, KN st st1 → 0 ≤ k → k ≤ 6 → ((k ≠ 1 → b = false) ∧ (k ≠ 2 → n = 0) ∧ (k ≠ 3 → k ≠ 4 → s = []) ∧ (k ≠ 5 → k ≠ 6 → np = 0) ∧ (k ≠ 6 → nn = 0)) → χ (false, st1)) : T χ (value_check_j100110 R (.ref id 0) st) := by
  unfold value_check_j100110
  repeat (refine T.step (by simp (disch := (first | ((repeat (first | rw [nxPush] | rw [nxPut] | rw [List.length_cons] | rw [List.length_nil])) <;> omega) | (refine (?_ : _ ∧ True).1; constructor; simp only [oneB_, *]; exact True.intro))) only [allS, hg]; try exact rfl) ?_)
  refine T.ite (fun _ => T.some (h1 st KN.refl)) (fun a1 => T.ite (fun _ => T.some (h1 st KN.refl)) (fun a2 => ?_))
  repeat (refine T.step (by simp (disch := (first | ((repeat (first | rw [nxPush] | rw [nxPut] | rw [List.length_cons] | rw [List.length_nil])) <;> omega) | (refine (?_ : _ ∧ True).1; constructor; simp only [oneB_, *]; exact True.intro))) only [allS, hg]; try exact rfl) ?_)
  refine T.bind (bare_s hp hn lp ln fun r st1 k1 hr => ?_)
  exact T.ite (fun e => T.some (h2 st1 k1 (by omega) (by omega) (hr e))) (fun _ => T.some (h1 st1 k1))
theorem check_1 {R : Rc41} (hR : 18446744073709551616 ≤ R.n) {o : Nat → Nat → Option AV} {k n : Int} {b : Bool} {s : List UInt8} {parts : List Vt} {names : List (List UInt8)} {px nx : AV} {C : Vt → Prop} {deep : Nat} (hdeep : deep ≤ 100) (hl : parts.length ≤ 4) (hB : baseV k n s names) (hrv : RV (RN o) 23 25 o (.mk k b n s parts names) [.int .i64 k, .bool b, .int .i64 n, .str s, px, nx])
    (hf : ∀ k b n s pp nn, Vt.mk k b n s pp nn ∈ parts → ∀ (px nx : AV) (st : St) (φ : Int × St → Prop), RV (RN o) 23 25 o (.mk k b n s pp nn) [.int .i64 k, .bool b, .int .i64 n, .str s, px, nx] → st.old = o → (∀ e st1, KN st st1 → (e = 0 → C (.mk k b n s pp nn)) → φ (e, st1)) → T φ (R.f41 k b n s px nx ((deep + 1 : Nat) : Int) st))
    {st : St} (ho : st.old = o) {φ : Int × St → Prop} (h : ∀ e st1, KN st st1 → (e = 0 → OK1 k b n s parts.length names ∧ ∀ p ∈ parts, C p) → φ (e, st1)) : T φ (value_check R k b n s px nx (deep : Int) st) := by
  simp only [RV] at hrv
  obtain ⟨px', nx', e, hp, hN, lp, hP⟩ := hrv
  simp only [List.cons.injEq, true_and, and_true] at e
  obtain ⟨rfl, rfl⟩ := e
  obtain ⟨b1, b2, b3, b4, b5, b6, b7⟩ := hB
  have hn := hN.one
  have ln := hN.len
  unfold value_check
  refine T.step (boxV hp hn) ?_
  have K1 : KN st (st.push (.cells 25 true [.int .i64 k, .bool b, .int .i64 n, .str s, px, nx])) := KN.refl.psh
  refine T.ite (fun _ => T.some (h 30 _ K1 (fun e => absurd e (by decide)))) (fun _ => ?_)
  refine T.bind (cj_s hp hn lp ln (get_push _ _) (fun st1 k1 => ?_) (fun st1 k1 a1 a2 a3 => ?_))
  · exact T.ifT rfl (T.some (h 6 _ (K1.trans k1) (fun e => absurd e (by decide))))
  · refine T.ifF (by decide) ?_
    have g1 : st1.objs.get st.next = .some (.cells 25 true [.int .i64 k, .bool b, .int .i64 n, .str s, px, nx]) := (k1.2.1 _ (Nat.lt_succ_self _)).trans (get_push _ _)
    have o1 : st1.old = o := k1.2.2.trans ho
    repeat (refine T.step (by simp (disch := (first | ((repeat (first | rw [nxPush] | rw [nxPut] | rw [List.length_cons] | rw [List.length_nil])) <;> omega) | (refine (?_ : _ ∧ True).1; constructor; simp only [oneB_, *]; exact True.intro))) only [allS, g1, lp]; try exact rfl) ?_)
    refine T.ite (fun _ => T.some (h 3 _ (K1.trans k1) (fun e => absurd e (by decide)))) (fun _ => ?_)
    repeat (refine T.step (by simp (disch := (first | ((repeat (first | rw [nxPush] | rw [nxPut] | rw [List.length_cons] | rw [List.length_nil])) <;> omega) | (refine (?_ : _ ∧ True).1; constructor; simp only [oneB_, *]; exact True.intro))) only [allS, g1]; try exact rfl) ?_)
    refine T.bind (names_s hR hN b3 b2 hp lp o1 fun r st2 k2 hr => ?_)
    have g2 : st2.objs.get st.next = .some (.cells 25 true [.int .i64 k, .bool b, .int .i64 n, .str s, px, nx]) := (k2.2.1 _ (Nat.lt_of_lt_of_le (Nat.lt_succ_self _) k1.1)).trans g1
    refine T.ite (fun er => ?_) (fun _ => T.some (h 31 _ ((K1.trans k1).trans k2) (fun e => absurd e (by decide))))
    repeat (refine T.step (by simp (disch := (first | ((repeat (first | rw [nxPush] | rw [nxPut] | rw [List.length_cons] | rw [List.length_nil])) <;> omega) | (refine (?_ : _ ∧ True).1; constructor; simp only [oneB_, *]; exact True.intro))) only [allS, g2, lp]; try exact rfl) ?_)
    refine T.bind (checkL_s (C := C) hdeep hl hP hf (st0 := st2) (k2.2.2.trans o1) (fun e st3 k3 he => ?_) (fun st3 k3 hall => ?_) R.n 0 st2 (Nat.zero_le _) (by omega) KN.refl (fun j _ hj => absurd hj (Nat.not_lt_zero _)))
    · exact T.some (h e _ (((K1.trans k1).trans k2).trans k3) (fun e0 => absurd e0 he))
    · obtain ⟨r1, r2⟩ := hr er
      exact T.some (h 0 _ (((K1.trans k1).trans k2).trans k3) (fun _ => ⟨⟨a1, a2, a3, r1, r2⟩, hall⟩))
theorem check_s {Rn : Nat} (hR : 18446744073709551616 ≤ Rn) {o : Nat → Nat → Option AV} : ∀ (d m : Nat) (k : Int) (b : Bool) (n : Int) (s : List UInt8) (parts : List Vt) (names : List (List UInt8)) (px nx : AV) (deep : Nat) (st : St) (φ : Int × St → Prop), d ≤ m → deep + d ≤ 90 → dp d (.mk k b n s parts names) → RV (RN o) 23 25 o (.mk k b n s parts names) [.int .i64 k, .bool b, .int .i64 n, .str s, px, nx] → st.old = o →
    (∀ e st1, KN st st1 → (e = 0 → okC d (.mk k b n s parts names)) → φ (e, st1)) → T φ (value_check (rc41 Rn m) k b n s px nx (deep : Int) st)
  | 0, m, k, b, n, s, parts, names, px, nx, deep, st, φ, hm, hdeep, hdp, hrv, ho, h => by
    obtain ⟨hB, rfl⟩ := hdp
    refine check_1 (C := fun _ => True) (by rw [rc41_n]; exact hR) (by omega) (Nat.zero_le _) hB hrv (fun k b n s pp nn hp => absurd hp (by simp)) ho fun e st1 k1 he => h e st1 k1 fun e0 => ?_
    exact (he e0).1
  | d + 1, 0, k, b, n, s, parts, names, px, nx, deep, st, φ, hm, hdeep, hdp, hrv, ho, h => absurd hm (by omega)
  | d + 1, m + 1, k, b, n, s, parts, names, px, nx, deep, st, φ, hm, hdeep, hdp, hrv, ho, h => by
    obtain ⟨hB, hl, hd⟩ := hdp
    refine check_1 (C := okC d) (by rw [rc41_n]; exact hR) (by omega) hl hB hrv (fun k b n s pp nn hp px nx st φ hrv ho h => ?_) ho fun e st1 k1 he => h e st1 k1 fun e0 => ?_
    · exact check_s hR d m k b n s pp nn px nx (deep + 1) st φ (by omega) (by omega) (hd _ hp) hrv ho h
    · exact he e0
/-! ### Bytes -/
theorem u8of (v : Int) : ∃ b : UInt8, IntKind.wrap .u8 v = (b.toNat : Int) := ⟨UInt8.ofNat (v % 256).toNat, by
  show v % 256 = _
  rw [UInt8.toNat_ofNat']
  omega⟩
theorem u8snoc (l : List UInt8) (b : UInt8) : u8Cells l ++ (AV.int .u8 (b.toNat : Int)).cells = u8Cells (l ++ [b]) := by
  show u8Cells l ++ [.int .u8 (b.toNat : Int)] = _
  simp [u8Cells]
theorem uintL_s {R : Nat} {st0 : St} {ψ : Int × AV × St → Prop} : ∀ (j r n : Nat) (x : AV) (l : List UInt8) (st : St), n < 128 ^ (j + 1) → j < r → KN st0 st → Sl st 1 x (u8Cells l) → (∀ id, famOf x id → st0.next ≤ id) → l.length + j ≤ 20 →
    (∀ (n' : Int) x' l' st', KN st0 st' → Sl st' 1 x' (u8Cells l') → (∀ id, famOf x' id → st0.next ≤ id) → l'.length ≤ l.length + j → ψ (n', x', st')) → T ψ (enc_Uint_l1100 R r (n : Int) x st)
  | _, 0, _, _, _, _, _, h, _, _, _, _, _ => absurd h (Nat.not_lt_zero _)
  | j, r + 1, n, x, l, st, hn, hr, K, hS, hF, hl, h => by
    unfold enc_Uint_l1100
    by_cases hb : 128 ≤ n
    · refine T.ifT (by omega) ?_
      cases j with
      | zero => exact absurd hn (by omega)
      | succ j =>
        obtain ⟨c, hc⟩ := u8of (orI .u8 (IntKind.wrap .u8 (n : Int)) 128)
        have hc' : orI .u8 (IntKind.wrap .u8 (n : Int)) 128 = (c.toNat : Int) := by
          rw [← hc]
          unfold orI
          show (_ : Int) % 256 = ((_ : Int) % 256) % 256
          omega
        rw [hc']
        have e1 : Int.fdiv (n : Int) (2 ^ 7) = ((n / 128 : Nat) : Int) := by
          rw [Int.fdiv_eq_ediv_of_nonneg _ (by decide)]
          show (n : Int) / 128 = _
          omega
        rw [e1]
        refine addN K hS hF rfl rfl (by rw [u8Len]; unfold most; omega) (by decide) fun x' st1 K' hS' hF' _ _ => ?_
        rw [u8snoc] at hS'
        refine uintL_s j r (n / 128) x' (l ++ [c]) st1 ?_ (by omega) K' hS' hF' (by simp only [List.length_append, List.length_cons, List.length_nil]; omega) fun n' x'' l' st' a1 a2 a3 a4 => h n' x'' l' st' a1 a2 a3 (by simp only [List.length_append, List.length_cons, List.length_nil] at a4; omega)
        rw [Nat.pow_succ] at hn
        exact Nat.div_lt_of_lt_mul (by rw [Nat.mul_comm]; exact hn)
    · refine T.ifF (by omega) ?_
      exact T.some (h _ x l st K hS hF (Nat.le_add_right _ _))
theorem uint_s {R : Nat} (hR : 18446744073709551616 ≤ R) {n : Int} (h0 : 0 ≤ n) (h1 : n < 18446744073709551616) {st : St} {φ : List UInt8 × St → Prop} (h : ∀ s st1, KN st st1 → s.length ≤ 11 → φ (s, st1)) : T φ (enc_Uint R n st) := by
  obtain ⟨m, rfl⟩ : ∃ m : Nat, n = m := ⟨n.toNat, by omega⟩
  unfold enc_Uint enc_Uint_c110
  refine T.bind ?_
  refine T.bind (uintL_s (st0 := st) 9 R m .snil [] st (Nat.lt_of_lt_of_le (show m < 18446744073709551616 by omega) (by decide)) (by omega) KN.refl (.inl ⟨rfl, rfl⟩) (fun _ h => by cases h) (by decide) fun n' x' l' st' k1 s1 f1 q1 => ?_)
  refine T.some ?_
  obtain ⟨c, hc⟩ := u8of n'
  dsimp only
  rw [hc]
  simp only [List.length_nil] at q1
  refine addN k1 s1 f1 rfl rfl (by rw [u8Len]; unfold most; omega) (by decide) fun x2 st2 k2 s2 _ _ _ => ?_
  rw [u8snoc] at s2
  refine T.step (strOf_sl s2) ?_
  exact T.some (h _ st2 k2 (by simp only [List.length_append, List.length_cons, List.length_nil]; omega))
theorem wrap_u64_bd (n : Int) : 0 ≤ IntKind.wrap .u64 n ∧ IntKind.wrap .u64 n < 18446744073709551616 := by
  rw [wrap_u64]; omega
theorem int_s {R : Nat} (hR : 18446744073709551616 ≤ R) {n : Int} {st : St} {φ : List UInt8 × St → Prop} (h : ∀ s st1, KN st st1 → s.length ≤ 11 → φ (s, st1)) : T φ (enc_Int R n st) := by
  unfold enc_Int
  have hx : ∀ a b : Int, 0 ≤ xorI .u64 a b ∧ xorI .u64 a b < 18446744073709551616 := fun a b => wrap_u64_bd _
  refine T.bind (uint_s hR (hx _ _).1 (hx _ _).2 fun s st1 k1 hs => ?_)
  exact T.some (h s st1 k1 hs)
theorem etext_s {R : Nat} (hR : 18446744073709551616 ≤ R) {s : List UInt8} (hs : s.length ≤ 10000000) {st : St} {φ : List UInt8 × St → Prop} (h : ∀ t st1, KN st st1 → t.length ≤ s.length + 11 → φ (t, st1)) : T φ (enc_Text R s st) := by
  unfold enc_Text
  refine T.bind (uint_s hR (wrap_u64_bd _).1 (wrap_u64_bd _).2 fun t st1 k1 ht => ?_)
  refine T.step (catS_le (by omega)) ?_
  exact T.some (h _ st1 k1 (by rw [List.length_append]; omega))
/-- How many bytes a value of some depth has at most. -/
def bd (d : Nat) : Nat := 4000 * 10 ^ d
theorem bd_succ (d : Nat) : bd (d + 1) = 10 * bd d := by unfold bd; rw [Nat.pow_succ]; omega
theorem bd_ge (d : Nat) : 4000 ≤ bd d := by
  unfold bd
  have := Nat.one_le_pow d 10 (by decide)
  omega
/-- What is told of calls for the parts of a value. -/
def PF42 (R : Rc42) (o : Nat → Nat → Option AV) (B : Nat) (parts : List Vt) : Prop := ∀ k b n s pp nn, Vt.mk k b n s pp nn ∈ parts → ∀ (px nx : AV) (st : St) (φ : List UInt8 × St → Prop), RV (RN o) 23 25 o (.mk k b n s pp nn) [.int .i64 k, .bool b, .int .i64 n, .str s, px, nx] → st.old = o → (∀ t st1, KN st st1 → t.length ≤ B → φ (t, st1)) → T φ (R.f42 k b n s px nx st)
theorem bytesC_s {R : Rc42} (hR : 18446744073709551616 ≤ R.n) {o : Nat → Nat → Option AV} {k n : Int} {b : Bool} {s : List UInt8} {parts : List Vt} {names : List (List UInt8)} {px nx : AV} {B : Nat} (hB : B ≤ 10000000) (hN : RN o nx names) (hnm : ∀ m ∈ names, m.length ≤ 16) (hP : RPs (RN o) 23 25 o parts px 0) (hf : PF42 R o B parts)
    {id : Nat} {st1 : St} (g1 : st1.objs.get id = .some (.cells 25 true [.int .i64 k, .bool b, .int .i64 n, .str s, px, nx])) (o1 : st1.old = o) (hid : id < st1.next) {i : Nat} (hlt : i < parts.length) {t : List UInt8} (ht : t.length ≤ 90000000) {len : Int} {χ : List UInt8 × St → Prop} (h : ∀ t' st', KN st1 st' → t'.length ≤ t.length + (B + 40) → χ (t', st')) :
    T χ (value_bytes_c11010111111101100110 R (.ref id 0) t px len (i : Int) st1) := by
  unfold value_bytes_c11010111111101100110
  obtain ⟨a, cs, e1, e2, hrv⟩ := RPs_get hP i hlt
  rw [Nat.zero_add] at e1
  rcases hpi : parts[i] with ⟨k', b', n', s', pp, nn⟩
  rw [hpi] at hrv
  have hmem : Vt.mk k' b' n' s' pp nn ∈ parts := hpi ▸ List.getElem_mem hlt
  have hrv' := hrv
  simp only [RV] at hrv
  obtain ⟨px', nx', rfl, hp', hN', lp', hP'⟩ := hrv
  have hn' := hN'.one
  refine T.step e1 ?_
  refine T.step (e2 st1 o1) ?_
  repeat (refine T.step (by simp (disch := (first | ((repeat (first | rw [nxPush] | rw [nxPut] | rw [List.length_cons] | rw [List.length_nil])) <;> omega) | (refine (?_ : _ ∧ True).1; constructor; simp only [oneB_, *]; exact True.intro))) only [allS]; try exact rfl) ?_)
  have ln := hN.len
  have S1 : KN st1 ((st1.push (.cells 25 true [.int .i64 0, .bool false, .int .i64 0, .str [], .snil, .snil])).put st1.next (.cells 25 true [.int .i64 k', .bool b', .int .i64 n', .str s', px', nx'])) := KN.loc (KN.psh KN.refl) (Nat.le_refl _)
  have hend : ∀ (t2 : List UInt8) (st2 : St), KN ((st1.push (.cells 25 true [.int .i64 0, .bool false, .int .i64 0, .str [], .snil, .snil])).put st1.next (.cells 25 true [.int .i64 k', .bool b', .int .i64 n', .str s', px', nx'])) st2 → t2.length ≤ t.length + 30 → T χ (Option.bind (loadAt C0.P st2 25 (.ref st1.next 0)) fun x1597 =>
      Option.bind (de_Ai64_b_i64_s_a_aZ x1597) fun (i1598, b1599, i1600, s1601, x1602, x1603) =>
      Option.bind (R.f42 i1598 b1599 i1600 s1601 x1602 x1603 st2) fun (s1605, st1607) =>
      Option.bind (catS t2 s1605) fun s1609 => .some (s1609, st1607)) := fun t2 st2 k2 ht2 => by
    have g2 : st2.objs.get st1.next = .some (.cells 25 true [.int .i64 k', .bool b', .int .i64 n', .str s', px', nx']) := (k2.2.1 _ (Nat.lt_succ_self _)).trans (get_put _ _ _)
    repeat (refine T.step (by simp (disch := (first | ((repeat (first | rw [nxPush] | rw [nxPut] | rw [List.length_cons] | rw [List.length_nil])) <;> omega) | (refine (?_ : _ ∧ True).1; constructor; simp only [oneB_, *]; exact True.intro))) only [allS, g2]; try exact rfl) ?_)
    have o2 : st2.old = o := k2.2.2.trans o1
    refine T.bind (hf k' b' n' s' pp nn hmem px' nx' st2 _ hrv' o2 fun t3 st3 k3 ht3 => ?_)
    refine T.step (catS_le (by omega)) ?_
    exact T.some (h _ _ ((S1.trans k2).trans k3) (by rw [List.length_append]; omega))
  unfold value_bytes_j110101111111011001100100 value_bytes_c110101111111011001100101
  refine T.bind ?_
  repeat (refine T.step (by simp (disch := (first | ((repeat (first | rw [nxPush] | rw [nxPut] | rw [List.length_cons] | rw [List.length_nil])) <;> omega) | (refine (?_ : _ ∧ True).1; constructor; simp only [oneB_, *]; exact True.intro))) only [allS, g1, ln]; try exact rfl) ?_)
  refine T.ite (fun hin => T.some ?_) (fun hin => T.some ?_)
  · refine T.bind ?_
    refine T.ifT rfl ?_
    repeat (refine T.step (by simp (disch := (first | ((repeat (first | rw [nxPush] | rw [nxPut] | rw [List.length_cons] | rw [List.length_nil])) <;> omega) | (refine (?_ : _ ∧ True).1; constructor; simp only [oneB_, *]; exact True.intro))) only [allS, g1]; try exact rfl) ?_)
    have hin' : i < names.length := by omega
    obtain ⟨a', q1, q2⟩ := hN.get i hin'
    refine T.step q1 ?_
    refine T.step (q2 _ (by simp only [oldPush, oldPut]; exact o1)) ?_
    refine T.step avS ?_
    have hm16 := hnm _ (List.getElem_mem hin')
    refine T.bind (etext_s hR (by omega) fun t2 st2 k2 ht2 => ?_)
    refine T.step (catS_le (by omega)) ?_
    exact T.some (hend (t ++ t2) st2 k2 (by rw [List.length_append]; omega))
  · refine T.bind ?_
    refine T.ifF (by decide) ?_
    exact T.some (hend t _ KN.refl (by omega))
theorem bytesL_s {R : Rc42} (hR : 18446744073709551616 ≤ R.n) {o : Nat → Nat → Option AV} {k n : Int} {b : Bool} {s : List UInt8} {parts : List Vt} {names : List (List UInt8)} {px nx : AV} {B : Nat} (hB : B ≤ 10000000) (hl : parts.length ≤ 4) (hN : RN o nx names) (hnm : ∀ m ∈ names, m.length ≤ 16) (hP : RPs (RN o) 23 25 o parts px 0) (hf : PF42 R o B parts)
    {st0 : St} {id : Nat} (hid : id < st0.next) (hg : st0.objs.get id = .some (.cells 25 true [.int .i64 k, .bool b, .int .i64 n, .str s, px, nx])) (ho : st0.old = o) {ψ : List UInt8 × St → Prop} {A : Nat} (hA : A ≤ 100000) (h : ∀ t st1, KN st0 st1 → t.length ≤ A + 4 * (B + 40) → ψ (t, st1)) :
    ∀ (r i : Nat) (t : List UInt8) (st1 : St), i ≤ parts.length → parts.length - i < r → t.length ≤ A + i * (B + 40) → KN st0 st1 → T ψ (value_bytes_l1101011111110110 R (.ref id 0) px (parts.length : Int) r t (i : Int) st1)
  | 0, _, _, _, _, h, _, _ => absurd h (Nat.not_lt_zero _)
  | r + 1, i, t, st1, hi, hr, ht, K1 => by
    unfold value_bytes_l1101011111110110
    have hiB : i * (B + 40) ≤ 4 * (B + 40) := Nat.mul_le_mul_right _ (by omega)
    by_cases hlt : i < parts.length
    · refine T.ifT (by omega) ?_
      refine T.bind (bytesC_s hR hB hN hnm hP hf ((K1.2.1 _ hid).trans hg) (K1.2.2.trans ho) (Nat.lt_of_lt_of_le hid K1.1) hlt (by omega) fun t2 st2 k2 ht2 => ?_)
      rw [wrapS (by omega)]
      exact bytesL_s hR hB hl hN hnm hP hf hid hg ho hA h r (i + 1) t2 st2 hlt (by omega) (by rw [Nat.succ_mul]; omega) (K1.trans k2)
    · refine T.ifF (by omega) ?_
      refine T.some (h t st1 K1 (by omega))
theorem bytes_1 {R : Rc42} (hR : 18446744073709551616 ≤ R.n) {o : Nat → Nat → Option AV} {k n : Int} {b : Bool} {s : List UInt8} {parts : List Vt} {names : List (List UInt8)} {px nx : AV} {B : Nat} (hB : B ≤ 10000000) (hl : parts.length ≤ 4) (hs : s.length ≤ 1100) (hnm : ∀ m ∈ names, m.length ≤ 16) (hrv : RV (RN o) 23 25 o (.mk k b n s parts names) [.int .i64 k, .bool b, .int .i64 n, .str s, px, nx]) (hf : PF42 R o B parts)
    {st : St} (ho : st.old = o) {φ : List UInt8 × St → Prop} (h : ∀ t st1, KN st st1 → t.length ≤ 1200 + 4 * (B + 40) → φ (t, st1)) : T φ (value_bytes R k b n s px nx st) := by
  simp only [RV] at hrv
  obtain ⟨px', nx', e, hp, hN, lp, hP⟩ := hrv
  simp only [List.cons.injEq, true_and, and_true] at e
  obtain ⟨rfl, rfl⟩ := e
  have hn := hN.one
  unfold value_bytes
  refine T.step (boxV hp hn) ?_
  have K1 : KN st (st.push (.cells 25 true [.int .i64 k, .bool b, .int .i64 n, .str s, px, nx])) := KN.refl.psh
  repeat (refine T.step (by simp (disch := (first | ((repeat (first | rw [nxPush] | rw [nxPut] | rw [List.length_cons] | rw [List.length_nil])) <;> omega) | (refine (?_ : _ ∧ True).1; constructor; simp only [oneB_, *]; exact True.intro))) only [allS]; try exact rfl) ?_)
  rw [wrapK]
  refine T.step (byte1 rfl) ?_
  refine T.step bstr1 ?_
  have K2 : KN st ((st.push (.cells 25 true [.int .i64 k, .bool b, .int .i64 n, .str s, px, nx])).push (.tip 1)) := K1.psh
  have g2 : ((st.push (.cells 25 true [.int .i64 k, .bool b, .int .i64 n, .str s, px, nx])).push (.tip 1)).objs.get st.next = .some (.cells 25 true [.int .i64 k, .bool b, .int .i64 n, .str s, px, nx]) := (get_push_ne _ (Nat.ne_of_lt (Nat.lt_succ_self _))).trans (get_push _ _)
  have o2 : ((st.push (.cells 25 true [.int .i64 k, .bool b, .int .i64 n, .str s, px, nx])).push (.tip 1)).old = o := ho
  generalize hst2 : (st.push (.cells 25 true [.int .i64 k, .bool b, .int .i64 n, .str s, px, nx])).push (.tip 1) = st2 at K2 g2 o2 ⊢
  have hid : st.next < st2.next := by rw [← hst2]; simp only [nxPush]; omega
  repeat (refine T.step (by simp (disch := (first | ((repeat (first | rw [nxPush] | rw [nxPut] | rw [List.length_cons] | rw [List.length_nil])) <;> omega) | (refine (?_ : _ ∧ True).1; constructor; simp only [oneB_, *]; exact True.intro))) only [allS, g2]; try exact rfl) ?_)
  unfold enc_Bool value_bytes_j11010111100 value_bytes_c11010111101 value_bytes_j1101011111100 value_bytes_c1101011111101 value_bytes_c110101111111
  refine T.ite (fun _ => ?_) (fun _ => T.ite (fun _ => ?_) (fun _ => ?_))
  · repeat (refine T.step (by simp (disch := (first | ((repeat (first | rw [nxPush] | rw [nxPut] | rw [List.length_cons] | rw [List.length_nil])) <;> omega) | (refine (?_ : _ ∧ True).1; constructor; simp only [oneB_, *]; exact True.intro))) only [allS, g2]; try exact rfl) ?_)
    refine T.bind ?_
    refine T.ite (fun _ => T.some ?_) (fun _ => T.some ?_)
    · refine T.step (catS_le (by simp)) ?_
      exact T.some (h _ _ K2 (by simp; omega))
    · refine T.step (catS_le (by simp)) ?_
      exact T.some (h _ _ K2 (by simp; omega))
  · repeat (refine T.step (by simp (disch := (first | ((repeat (first | rw [nxPush] | rw [nxPut] | rw [List.length_cons] | rw [List.length_nil])) <;> omega) | (refine (?_ : _ ∧ True).1; constructor; simp only [oneB_, *]; exact True.intro))) only [allS, g2]; try exact rfl) ?_)
    refine T.bind (int_s hR fun t st3 k3 ht => ?_)
    refine T.step (catS_le (by simp only [List.length_cons, List.length_nil]; omega)) ?_
    exact T.some (h _ _ (K2.trans k3) (by simp only [List.length_append, List.length_cons, List.length_nil]; omega))
  · have htext : T φ (Option.bind (shift (.ref st.next 0) 3) fun x1401 =>
        Option.bind (loadAt C0.P st2 9 x1401) fun x1403 =>
        Option.bind (avStr x1403) fun s1404 =>
        Option.bind (enc_Text R.n s1404 st2) fun (s1406, st1408) =>
        Option.bind (catS [kb k] s1406) fun s1410 => .some (s1410, st1408)) := by
      repeat (refine T.step (by simp (disch := (first | ((repeat (first | rw [nxPush] | rw [nxPut] | rw [List.length_cons] | rw [List.length_nil])) <;> omega) | (refine (?_ : _ ∧ True).1; constructor; simp only [oneB_, *]; exact True.intro))) only [allS, g2]; try exact rfl) ?_)
      refine T.bind (etext_s hR (by omega) fun t st3 k3 ht => ?_)
      refine T.step (catS_le (by simp only [List.length_cons, List.length_nil]; omega)) ?_
      exact T.some (h _ _ (K2.trans k3) (by simp only [List.length_append, List.length_cons, List.length_nil]; omega))
    have hmany : T (fun a : List UInt8 × St => T φ (.some (a.1, a.2))) (Option.bind (shift (.ref st.next 0) 4) fun x1632 =>
        Option.bind (loadAt C0.P st2 23 x1632) fun x1634 =>
        Option.bind (lenOf x1634) fun n1636 =>
        Option.bind (enc_Uint R.n (IntKind.wrap .u64 (n1636 : Int)) st2) fun (s1637, st1639) =>
        Option.bind (catS [kb k] s1637) fun s1641 =>
        Option.bind (loadAt C0.P st1639 23 x1632) fun x1643 =>
        Option.bind (lenOf x1643) fun n1645 =>
        Option.bind (value_bytes_l1101011111110110 R (.ref st.next 0) x1643 (n1645 : Int) R.n s1641 0 st1639) fun (s1647, st1648) => .some (s1647, st1648)) := by
      repeat (refine T.step (by simp (disch := (first | ((repeat (first | rw [nxPush] | rw [nxPut] | rw [List.length_cons] | rw [List.length_nil])) <;> omega) | (refine (?_ : _ ∧ True).1; constructor; simp only [oneB_, *]; exact True.intro))) only [allS, g2, lp]; try exact rfl) ?_)
      refine T.bind (uint_s hR (wrap_u64_bd _).1 (wrap_u64_bd _).2 fun t st3 k3 ht => ?_)
      refine T.step (catS_le (by simp only [List.length_cons, List.length_nil]; omega)) ?_
      have g3 : st3.objs.get st.next = .some (.cells 25 true [.int .i64 k, .bool b, .int .i64 n, .str s, px, nx]) := (k3.2.1 _ hid).trans g2
      repeat (refine T.step (by simp (disch := (first | ((repeat (first | rw [nxPush] | rw [nxPut] | rw [List.length_cons] | rw [List.length_nil])) <;> omega) | (refine (?_ : _ ∧ True).1; constructor; simp only [oneB_, *]; exact True.intro))) only [allS, g3, lp]; try exact rfl) ?_)
      refine T.bind (bytesL_s hR hB hl hN hnm hP hf (st0 := st3) (Nat.lt_of_lt_of_le hid k3.1) g3 (k3.2.2.trans o2) (A := 100) (by decide) (fun t' st4 k4 ht' => ?_) R.n 0 _ st3 (Nat.zero_le _) (by omega) (by simp only [List.length_append, List.length_cons, List.length_nil]; omega) KN.refl)
      exact T.some (T.some (h t' st4 ((K2.trans k3).trans k4) (by omega)))
    have hnone : T (fun a : List UInt8 × St => T φ (.some (a.1, a.2))) (.some ([kb k], st2)) := T.some (T.some (h _ _ K2 (by simp only [List.length_cons, List.length_nil]; omega)))
    refine T.bind ?_
    refine T.ite (fun _ => T.some ?_) (fun _ => T.some ?_)
    · refine T.bind ?_
      refine T.ifT rfl (T.some ?_)
      exact T.ifT rfl htext
    · refine T.bind ?_
      refine T.ifF (by decide) ?_
      refine T.ite (fun _ => T.some ?_) (fun _ => T.some ?_)
      · exact T.ifT rfl htext
      · refine T.ifF (by decide) ?_
        refine T.bind ?_
        refine T.ite (fun _ => T.some ?_) (fun _ => T.some ?_)
        · refine T.bind ?_
          refine T.ifT rfl (T.some ?_)
          refine T.bind ?_
          refine T.ifT rfl ?_
          exact hmany
        · refine T.bind ?_
          refine T.ifF (by decide) ?_
          refine T.ite (fun _ => T.some ?_) (fun _ => T.some ?_)
          · refine T.bind ?_
            refine T.ifT rfl ?_
            exact hmany
          · refine T.bind ?_
            refine T.ifF (by decide) ?_
            exact hnone
theorem bytes_s {Rn : Nat} (hR : 18446744073709551616 ≤ Rn) {o : Nat → Nat → Option AV} : ∀ (d m : Nat) (k : Int) (b : Bool) (n : Int) (s : List UInt8) (parts : List Vt) (names : List (List UInt8)) (px nx : AV) (st : St) (φ : List UInt8 × St → Prop), d ≤ m → d ≤ 3 → dp d (.mk k b n s parts names) → okC d (.mk k b n s parts names) → RV (RN o) 23 25 o (.mk k b n s parts names) [.int .i64 k, .bool b, .int .i64 n, .str s, px, nx] → st.old = o →
    (∀ t st1, KN st st1 → t.length ≤ bd d → φ (t, st1)) → T φ (value_bytes (rc42 Rn m) k b n s px nx st)
  | 0, m, k, b, n, s, parts, names, px, nx, st, φ, hm, hd3, hdp, hok, hrv, ho, h => by
    obtain ⟨hB, rfl⟩ := hdp
    refine bytes_1 (B := 0) (by rw [rc42_n]; exact hR) (by decide) (Nat.zero_le _) hB.1 hok.2.2.2.1 hrv (fun k b n s pp nn hp => absurd hp (by simp)) ho fun t st1 k1 ht => h t st1 k1 ?_
    have := bd_ge 0
    omega
  | d + 1, 0, k, b, n, s, parts, names, px, nx, st, φ, hm, hd3, hdp, hok, hrv, ho, h => absurd hm (by omega)
  | d + 1, m + 1, k, b, n, s, parts, names, px, nx, st, φ, hm, hd3, hdp, hok, hrv, ho, h => by
    obtain ⟨hB, hl, hd⟩ := hdp
    have b3 : bd d ≤ 400000 := by
      have : d = 0 ∨ d = 1 ∨ d = 2 := by omega
      rcases this with rfl | rfl | rfl <;> decide
    refine bytes_1 (B := bd d) (by rw [rc42_n]; exact hR) (by omega) hl hB.1 hok.1.2.2.2.1 hrv (fun k b n s pp nn hp px nx st φ hrv ho h => ?_) ho fun t st1 k1 ht => h t st1 k1 ?_
    · exact bytes_s hR d m k b n s pp nn px nx st φ (by omega) (by omega) (hd _ hp) (hok.2 _ hp) hrv ho h
    · have := bd_ge d
      rw [bd_succ]
      omega
theorem Check_s {R : Nat} (hR : 18446744073709551616 ≤ R) {o : Nat → Nat → Option AV} {k : Int} {b : Bool} {n : Int} {s : List UInt8} {parts : List Vt} {names : List (List UInt8)} {px nx : AV} {st : St} {φ : Int × St → Prop} (hdp : dp 3 (.mk k b n s parts names)) (hrv : RV (RN o) 23 25 o (.mk k b n s parts names) [.int .i64 k, .bool b, .int .i64 n, .str s, px, nx]) (ho : st.old = o)
    (h : ∀ e st1, KN st st1 → (e = 0 → okC 3 (.mk k b n s parts names)) → φ (e, st1)) : T φ (value_Check R k b n s px nx st) := by
  have hrv' := hrv
  simp only [RV] at hrv
  obtain ⟨px', nx', e, hp, hN, lp, hP⟩ := hrv
  simp only [List.cons.injEq, true_and, and_true] at e
  obtain ⟨rfl, rfl⟩ := e
  have hn := hN.one
  unfold value_Check value_check_top value_bytes_top
  refine T.step (boxV hp hn) ?_
  have K1 : KN st (st.push (.cells 25 true [.int .i64 k, .bool b, .int .i64 n, .str s, px, nx])) := KN.refl.psh
  repeat (refine T.step (by simp (disch := (first | ((repeat (first | rw [nxPush] | rw [nxPut] | rw [List.length_cons] | rw [List.length_nil])) <;> omega) | (refine (?_ : _ ∧ True).1; constructor; simp only [oneB_, *]; exact True.intro))) only [allS]; try exact rfl) ?_)
  refine T.bind (check_s hR 3 4000 k b n s parts names px nx 1 _ _ (by decide) (by decide) hdp hrv' ho fun e st1 k1 he => ?_)
  refine T.ite (fun e0 => ?_) (fun e0 => T.some (h e st1 (K1.trans k1) fun q => absurd q e0))
  have g1 : st1.objs.get st.next = .some (.cells 25 true [.int .i64 k, .bool b, .int .i64 n, .str s, px, nx]) := (k1.2.1 _ (Nat.lt_succ_self _)).trans (get_push _ _)
  repeat (refine T.step (by simp (disch := (first | ((repeat (first | rw [nxPush] | rw [nxPut] | rw [List.length_cons] | rw [List.length_nil])) <;> omega) | (refine (?_ : _ ∧ True).1; constructor; simp only [oneB_, *]; exact True.intro))) only [allS, g1]; try exact rfl) ?_)
  refine T.bind (bytes_s hR 3 4000 k b n s parts names px nx st1 _ (by decide) (by decide) hdp (he e0) hrv' (k1.2.2.trans ho) fun t st2 k2 ht => ?_)
  refine T.ite (fun _ => T.some (h 3 st2 ((K1.trans k1).trans k2) fun q => absurd q (by decide))) (fun _ => T.some (h 0 st2 ((K1.trans k1).trans k2) fun _ => he e0))
end
end Go.Proofs.YthodfojhbbendaaGreatDoor
