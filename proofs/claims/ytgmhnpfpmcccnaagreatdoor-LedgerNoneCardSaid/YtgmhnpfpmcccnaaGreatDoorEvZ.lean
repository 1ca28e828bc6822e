/- What the ready steps answer the evaluator answers. -/
import Derived.Test.YtgmhnpfpmcccnaaGreatDoorEvY
import Derived.Test.YtgmhnpfpmcccnaaGreatDoorEvS
set_option linter.all false
namespace Go.Ev

def E2.at (e : E2) (i : Nat) : AV := (e.r.getD (i / 16) E1.none).l.getD (i % 16) AV.undef
def RelE (e : E2) (ts : List AV) : Prop := ∀ i, ts.getD i AV.undef = e.at i

theorem getT_ok {i : Nat} {g : Get} (h : getT i = some g) (e : E2) (k : AV → Bool) : g e k = k (e.at i) := by
  simp only [getT, Option.bind_eq_some_iff] at h
  obtain ⟨f, hf, g', hg, h⟩ := h
  injection h with h
  subst h
  simp only [gg]
  rw [E2.gs_ok hf, E1.gs_ok hg]
  rfl
theorem getX_ok {x : Operand} {g : Get} {e : E2} {ts : List AV} {k : AV → Bool} (h : getX x = some g) (R : RelE e ts) (hk : g e k = true) : ∃ v, opnd ts x = some v ∧ k v = true := by
  cases x with
  | tmp t =>
    rw [getT_ok h] at hk
    exact ⟨_, rfl, by rw [R t]; exact hk⟩
  | const v =>
    simp only [getX, Option.bind_eq_some_iff] at h
    obtain ⟨a, ha, h⟩ := h
    injection h with h
    subst h
    exact ⟨a, ha, hk⟩
  | global g => injection h with h; subst h; exact ⟨_, rfl, hk⟩
  | func f => injection h with h; subst h; exact ⟨_, rfl, hk⟩
theorem gather_ok {e : E2} {ts : List AV} (R : RelE e ts) : ∀ {xs : List Operand} {gs : List Get} {k : List AV → Bool}, getXs xs = some gs → gather gs e k = true → ∃ vs, opnds ts xs = some vs ∧ k vs = true
  | [], gs, k, h, hk => by
    injection h with h
    subst h
    exact ⟨[], rfl, hk⟩
  | x :: xs, gs, k, h, hk => by
    simp only [getXs, Option.bind_eq_some_iff] at h
    obtain ⟨g, hg, gs', hgs, h⟩ := h
    injection h with h
    subst h
    obtain ⟨v, hv, hk⟩ := getX_ok (k := fun a => gather gs' e fun as => k (a :: as)) hg R hk
    obtain ⟨vs, hvs, hk⟩ := gather_ok R hgs hk
    exact ⟨v :: vs, by simp [opnds, hv, hvs], hk⟩

theorem getD_set (l : List AV) (i j : Nat) (v : AV) (h : i < l.length) : (l.set i v).getD j AV.undef = if j = i then v else l.getD j AV.undef := by
  simp only [List.getD_eq_getElem?_getD]
  by_cases e : i = j
  · subst e
    rw [List.getElem?_set_self h, if_pos rfl]
    rfl
  · rw [List.getElem?_set_ne e, if_neg (fun h => e h.symm)]
theorem putN_ok {i : Nat} {p : Put} (h : putN i = some p) (e : E2) (v : AV) (k : E2 → Bool) (hk : p e v k = true) : ∃ e', k e' = true ∧ ∀ j, e'.at j = if j = i then v else e.at j := by
  simp only [putN, Option.bind_eq_some_iff] at h
  obtain ⟨f, hf, g, hg, h⟩ := h
  injection h with h
  subst h
  simp only [ss] at hk
  obtain ⟨h1, hi⟩ := E2.ss_ok hf e (fun r k' => g r v k') k
  rw [h1] at hk
  obtain ⟨r', h2, h3, hi'⟩ := E1.ss_ok hg (e.r.getD (i / 16) E1.none) v (fun r => k (e.put (i / 16) r))
  rw [h2] at hk
  refine ⟨_, hk, fun j => ?_⟩
  simp only [E2.at, E2.put_r]
  by_cases hj : j / 16 = i / 16
  · rw [hj]
    have : ((e.r.set (i / 16) r').getD (i / 16) E1.none) = r' := by
      simp only [List.getD_eq_getElem?_getD]
      rw [List.getElem?_set_self (by rw [E2.r_length]; exact hi)]
      rfl
    rw [this, h3, getD_set _ _ _ _ (by rw [E1.l_length]; exact hi')]
    by_cases hm : j % 16 = i % 16
    · have : j = i := by omega
      rw [if_pos hm, if_pos this]
    · have : ¬ j = i := fun e => hm (by rw [e])
      rw [if_neg hm, if_neg this]
  · have h4 : ¬ j = i := fun e => hj (by rw [e])
    rw [if_neg h4]
    simp only [List.getD_eq_getElem?_getD]
    rw [List.getElem?_set_ne (fun e => hj e.symm)]
theorem putX_ok {n : Nat} {dst : Option Tmp} {p : Put} {e : E2} {ts : List AV} {v : AV} {k : E2 → Bool} (h : putX n dst = some p) (R : RelE e ts) (hn : n ≤ ts.length) (hk : p e v k = true) : ∃ e', RelE e' (putT ts dst v) ∧ k e' = true := by
  cases dst with
  | none =>
    injection h with h
    subst h
    exact ⟨e, R, hk⟩
  | some d =>
    simp only [putX] at h
    obtain ⟨hd, h⟩ := cond_some h
    have hd' : d < n := by simpa [Nat.blt_eq] using hd
    obtain ⟨e', h1, h2⟩ := putN_ok h e v k hk
    refine ⟨e', fun j => ?_, h1⟩
    rw [h2]
    simp only [putT]
    rw [getD_set _ _ _ _ (Nat.lt_of_lt_of_le hd' hn), R j]

theorem optK_ok {α : Type} {o : Option α} {k : α → Bool} (h : optK o k = true) : ∃ v, o = some v ∧ k v = true := by
  cases o with
  | none => cases h
  | some v => exact ⟨v, rfl, h⟩
theorem dropK_ok : ∀ {n : Nat} {cs : List AV} {k : List AV → Bool}, dropK n cs k = true → n ≤ cs.length ∧ k (cs.drop n) = true
  | 0, _, _, h => ⟨by simp, h⟩
  | n + 1, [], _, h => by cases h
  | n + 1, a :: t, k, h => by
    have h : dropK n t k = true := h
    obtain ⟨h1, h2⟩ := dropK_ok h
    exact ⟨by simp; exact h1, h2⟩
theorem takeK_ok : ∀ {n : Nat} {cs : List AV} {k : List AV → Bool}, takeK n cs k = true → n ≤ cs.length ∧ k (cs.take n) = true
  | 0, _, _, h => ⟨by simp, h⟩
  | n + 1, [], _, h => by cases h
  | n + 1, a :: t, k, h => by
    have h : takeK n t (fun l => k (a :: l)) = true := h
    obtain ⟨h1, h2⟩ := takeK_ok h
    exact ⟨by simp; exact h1, h2⟩
theorem headK_ok {cs : List AV} {k : AV → Bool} (h : headK cs k = true) : ∃ a t, cs = a :: t ∧ k a = true := by
  cases cs with
  | nil => cases h
  | cons a t => exact ⟨a, t, rfl, h⟩
theorem trGet_ok {α : Type} : ∀ (t : Tr α) (n : Nat) (k : Option α → Bool), trGet t n k = k (t.get n)
  | .leaf, _, _ => rfl
  | .node l v r, n, k => by
    show cond (Nat.beq n 0) (k v) (cond (Nat.beq (Nat.mod n 2) 1) (trGet l (Nat.div n 2) k) (trGet r (Nat.sub (Nat.div n 2) 1) k)) = _
    rw [trGet_ok l, trGet_ok r]
    simp only [Tr.get]
    change _ = k (cond (Nat.beq n 0) v (cond (Nat.beq (Nat.mod n 2) 1) (l.get (Nat.div n 2)) (r.get (Nat.sub (Nat.div n 2) 1))))
    cases Nat.beq n 0 <;> cases Nat.beq (Nat.mod n 2) 1 <;> rfl
theorem trSet_ok {α : Type} (a : α) : ∀ (t : Tr α) (n : Nat) (k : Tr α → Bool), trSet a t n k = k (t.set a n)
  | .leaf, _, _ => rfl
  | .node l v r, n, k => by
    show cond (Nat.beq n 0) (k (.node l (some a) r)) (cond (Nat.beq (Nat.mod n 2) 1) (trSet a l (Nat.div n 2) fun l' => k (.node l' v r)) (trSet a r (Nat.sub (Nat.div n 2) 1) fun r' => k (.node l v r'))) = _
    rw [trSet_ok a l, trSet_ok a r]
    simp only [Tr.set]
    change _ = k (cond (Nat.beq n 0) (.node l (some a) r) (cond (Nat.beq (Nat.mod n 2) 1) (.node (l.set a (Nat.div n 2)) v r) (.node l v (r.set a (Nat.sub (Nat.div n 2) 1)))))
    cases Nat.beq n 0 <;> cases Nat.beq (Nat.mod n 2) 1 <;> rfl
theorem pushK_ok {s : St} {o : AObj} {k : Nat → St → Bool} (h : pushK s o k = true) : k s.next (s.push o) = true := by
  cases s with
  | mk t n =>
    change trSet o t n (fun t' => k n ⟨t', n + 1⟩) = true at h
    rw [trSet_ok] at h
    exact h
theorem cellsK_ok {o : Option AObj} {k : TypeId → Bool → List AV → Bool} (h : cellsK o k = true) : ∃ t u cs, o = some (.cells t u cs) ∧ k t u cs = true := by
  cases o with
  | none => cases h
  | some o => cases o <;> first | exact ⟨_, _, _, rfl, h⟩ | exact absurd h (by intro h; cases h)
theorem nthK_ok {k : AV → Bool} : ∀ {cs : List AV} {n : Nat}, nthK cs n k = true → ∃ v, cs[n]? = some v ∧ k v = true
  | [], _, h => by cases h
  | a :: cs, n, h => by
    change cond (Nat.beq n 0) (k a) (nthK cs (Nat.sub n 1) k) = true at h
    rw [cond_beq] at h
    split at h
    · rename_i e; subst e; exact ⟨a, rfl, h⟩
    · obtain ⟨v, h1, h2⟩ := nthK_ok h
      refine ⟨v, ?_, h2⟩
      cases n with
      | zero => contradiction
      | succ n => simpa using h1
theorem setK_ok {v : AV} : ∀ {cs : List AV} {n : Nat} {k : List AV → Bool}, setK v cs n k = true → n < cs.length ∧ k (cs.set n v) = true
  | [], _, _, h => by cases h
  | a :: cs, n, k, h => by
    change cond (Nat.beq n 0) (k (v :: cs)) (setK v cs (Nat.sub n 1) fun l' => k (a :: l')) = true at h
    rw [cond_beq] at h
    split at h
    · rename_i e; subst e; exact ⟨by simp, h⟩
    · obtain ⟨h1, h2⟩ := setK_ok h
      cases n with
      | zero => contradiction
      | succ n => exact ⟨by simpa using h1, by simpa using h2⟩
theorem shiftK_ok {p : AV} {n : Nat} {k : AV → Bool} (h : shiftK p n k = true) : ∃ v, shift p n = some v ∧ k v = true := by
  rcases ptrK_ok h with ⟨i, o, rfl, h⟩ | ⟨cs, rfl, h⟩ | h
  · exact ⟨_, rfl, h⟩
  · obtain ⟨h1, h2⟩ := dropK_ok h
    exact ⟨_, by simp only [shift, cond_ble, if_pos h1], h2⟩
  · exact optK_ok h
theorem indexAddrK_ok {P : Program} {t : TypeId} {v i : AV} {k : AV → Bool} (h : indexAddrK P t v i (elemSize P t) k = true) : ∃ u, indexAddrOp P t v i = some u ∧ k u = true := by
  cases he : elemSize P t with
  | none =>
    rw [he] at h
    exact optK_ok h
  | some sz =>
    rw [he] at h
    simp only [elemSize, Option.bind_eq_some_iff] at he
    obtain ⟨d, hd, he⟩ := he
    split at he
    rotate_left
    · cases he
    rcases slK_ok h with ⟨id, e, n, sz', c, cs, rfl, h5⟩ | ⟨id, off, n, sz', c, rfl, h5⟩ | h5
    · clear h
      obtain ⟨kd, j, rfl, h⟩ := natK_ok h5
      clear h5
      cases hc : Nat.blt j n && Nat.beq sz sz' with
      | false => rw [hc] at h; cases h
      | true =>
        rw [hc] at h
        obtain ⟨h1, h2⟩ := dropK_ok h
        refine ⟨_, ?_, h2⟩
        simp only [indexAddrOp, hd, he, intOf, Option.bind_some, hc, cond_true, shift, cond_ble]
        exact if_pos h1
    · clear h
      obtain ⟨kd, j, rfl, h⟩ := natK_ok h5
      clear h5
      cases hc : Nat.blt j n && Nat.beq sz sz' with
      | false => rw [hc] at h; cases h
      | true =>
        rw [hc] at h
        refine ⟨_, ?_, h⟩
        simp only [indexAddrOp, hd, he, intOf, Option.bind_some, hc, cond_true]
        rfl
    · exact optK_ok h5
theorem optG_ok {e : E2} {ts : List AV} {x : Option Operand} {g : E2 → (Option AV → Bool) → Bool} {k : Option AV → Bool} (h : optG x = some g) (R : RelE e ts) (hk : g e k = true) : ∃ v, optV ts x = some v ∧ k v = true := by
  cases x with
  | none =>
    injection h with h
    subst h
    exact ⟨none, rfl, hk⟩
  | some y =>
    simp only [optG, Option.bind_eq_some_iff] at h
    obtain ⟨g', hg, h⟩ := h
    injection h with h
    subst h
    obtain ⟨v, h1, h2⟩ := getX_ok (k := fun a => k (some a)) hg R hk
    exact ⟨some v, by simp [optV, h1], h2⟩
theorem parts_ok {ts : List AV} : ∀ {ps : List (Nat × Operand)} {vs : List AV}, opnds ts (ps.map (·.2)) = some vs → parts? ts ps = some (zipParts ps vs)
  | [], vs, h => by
    simp only [List.map_nil, opnds, Option.some.injEq] at h
    subst h
    rfl
  | (i, x) :: ps, vs, h => by
    simp only [List.map_cons, opnds, Option.bind_eq_some_iff] at h
    obtain ⟨a, ha, as, has, h⟩ := h
    injection h with h
    subst h
    simp only [parts?, ha, parts_ok has, Option.bind_some, zipParts]

theorem opnds_length {ts : List AV} : ∀ {xs : List Operand} {vs : List AV}, opnds ts xs = some vs → vs.length = xs.length
  | [], vs, h => by
    injection h with h
    subst h
    rfl
  | x :: xs, vs, h => by
    simp only [opnds, Option.bind_eq_some_iff] at h
    obtain ⟨a, ha, as, has, h⟩ := h
    injection h with h
    subst h
    simp [opnds_length has]
theorem opnds_tmps : ∀ (vs pre : List AV), opnds (pre ++ vs) (tmpsUpTo pre.length vs.length) = some vs
  | [], pre => rfl
  | v :: vs, pre => by
    have := opnds_tmps vs (pre ++ [v])
    simp only [List.append_assoc, List.singleton_append, List.length_append, List.length_singleton] at this
    simp only [List.length_cons, tmpsUpTo, opnds, opnd, this, Option.bind_some]
    simp
theorem opnds_all (vs : List AV) : opnds vs (tmpsUpTo 0 vs.length) = some vs := opnds_tmps vs []

section
variable {P : Program} {e : E2} {ts : List AV}
theorem pureG_ok {op : Op} {g : Get} {k : AV → Bool} (h : pureG P op = some g) (R : RelE e ts) (hk : g e k = true) : ∃ v, pureOp P ts op = some v ∧ k v = true := by
  unfold pureG at h
  split at h
  case h_1 x => exact getX_ok h R hk
  case h_2 x => exact getX_ok h R hk
  case h_3 c a b =>
    simp only [Option.bind_eq_some_iff] at h
    obtain ⟨gc, hc, ga, ha, gb, hb, h⟩ := h
    injection h with h; subst h
    obtain ⟨c', c1, hk⟩ := getX_ok (k := fun c => boolK c fun b => cond b (ga e k) (gb e k)) hc R hk
    obtain ⟨b', rfl, hk⟩ := boolK_ok hk
    cases b' with
    | true =>
      obtain ⟨v, h1, h2⟩ := getX_ok ha R hk
      exact ⟨v, by simp [pureOp, c1, h1], h2⟩
    | false =>
      obtain ⟨v, h1, h2⟩ := getX_ok hb R hk
      exact ⟨v, by simp [pureOp, c1, h1], h2⟩
  case h_4 t ps =>
    simp only [Option.bind_eq_some_iff] at h
    obtain ⟨gs, hgs, h⟩ := h
    injection h with h; subst h
    obtain ⟨vs, h1, hk⟩ := gather_ok R hgs hk
    obtain ⟨v, h2, h3⟩ := optK_ok hk
    exact ⟨v, by simp [pureOp, parts_ok h1, h2], h3⟩
  case h_5 x =>
    simp only [Option.bind_eq_some_iff] at h
    obtain ⟨gx, hx, h⟩ := h
    injection h with h; subst h
    obtain ⟨a, h1, hk⟩ := getX_ok (k := fun p => optK (nilCheckOp p) k) hx R hk
    obtain ⟨v, h2, h3⟩ := optK_ok hk
    exact ⟨v, by simp [pureOp, h1, h2], h3⟩
  case h_6 op t x y _ =>
    simp only [Option.bind_eq_some_iff] at h
    obtain ⟨gx, hx, gy, hy, h⟩ := h
    injection h with h; subst h
    obtain ⟨a, h1, hk⟩ := getX_ok (k := fun a => gy e fun b => binK P op t x y a b k) hx R hk
    obtain ⟨b, h2, hk⟩ := getX_ok (k := fun b => binK P op t x y a b k) hy R hk
    obtain ⟨v, h3, h4⟩ := optK_ok hk
    exact ⟨v, by simp [pureOp, h1, h2, h3], h4⟩
  case h_7 op _ x =>
    simp only [Option.bind_eq_some_iff] at h
    obtain ⟨gx, hx, h⟩ := h
    injection h with h; subst h
    obtain ⟨a, h1, hk⟩ := getX_ok (k := fun a => optK (unOpV op a) k) hx R hk
    obtain ⟨v, h2, h3⟩ := optK_ok hk
    exact ⟨v, by simp [pureOp, h1, h2], h3⟩
  case h_8 s d x =>
    simp only [Option.bind_eq_some_iff] at h
    obtain ⟨gx, hx, ds, hs, dd, hd, h⟩ := h
    injection h with h; subst h
    obtain ⟨a, h1, hk⟩ := getX_ok (k := fun a => optK (convPure dd a) k) hx R hk
    obtain ⟨v, h2, h3⟩ := optK_ok hk
    exact ⟨v, by simp [pureOp, h1, hs, hd, h2], h3⟩
  case h_9 t x =>
    simp only [Option.bind_eq_some_iff] at h
    obtain ⟨gx, hx, d, hd, h⟩ := h
    split at h
    · cases h
    · injection h with h; subst h
      obtain ⟨a, h1, hk⟩ := getX_ok (k := fun a => k (.iface t a)) hx R hk
      refine ⟨_, ?_, hk⟩
      simp only [pureOp, h1, hd, Option.bind_some]
  case h_10 fn first cap =>
    simp only [Option.bind_eq_some_iff] at h
    obtain ⟨ga, ha, gb, hb, h⟩ := h
    injection h with h; subst h
    obtain ⟨a, h1, hk⟩ := gather_ok R ha hk
    obtain ⟨b, h2, hk⟩ := gather_ok R hb hk
    exact ⟨_, by simp [pureOp, h1, h2], hk⟩
  case h_11 t x lo hi mx =>
    simp only [Option.bind_eq_some_iff] at h
    obtain ⟨gx, hx, gl, hl, gh, hh, gm, hm, h⟩ := h
    injection h with h; subst h
    obtain ⟨a, h1, hk⟩ := getX_ok (k := fun v => gl e fun lo => gh e fun hi => gm e fun mx => optK (sliceOp P t v lo hi mx) k) hx R hk
    obtain ⟨l, h2, hk⟩ := optG_ok (k := fun lo => gh e fun hi => gm e fun mx => optK (sliceOp P t a lo hi mx) k) hl R hk
    obtain ⟨h', h3, hk⟩ := optG_ok (k := fun hi => gm e fun mx => optK (sliceOp P t a l hi mx) k) hh R hk
    obtain ⟨m, h4, hk⟩ := optG_ok (k := fun mx => optK (sliceOp P t a l h' mx) k) hm R hk
    obtain ⟨v, h5, h6⟩ := optK_ok hk
    exact ⟨v, by simp [pureOp, h1, h2, h3, h4, h5], h6⟩
  case h_12 s x i =>
    simp only [Option.bind_eq_some_iff] at h
    obtain ⟨gx, hx, fd, hfd, n, hn, h⟩ := h
    obtain ⟨hz, h⟩ := cond_none h
    injection h with h; subst h
    obtain ⟨a, h1, hk⟩ := getX_ok (k := fun p => shiftK p fd.offset k) hx R hk
    obtain ⟨v, h2, h3⟩ := shiftK_ok hk
    exact ⟨v, by simp only [pureOp, h1, hfd, hn, hz, h2, Option.bind_some, cond_false], h3⟩
  case h_13 s x i =>
    simp only [Option.bind_eq_some_iff] at h
    obtain ⟨gx, hx, fd, hfd, h⟩ := h
    injection h with h; subst h
    obtain ⟨a, h1, hk⟩ := getX_ok (k := fun v => optK (match v with | .agg cs => partOf P fd.type cs fd.offset | _ => none) k) hx R hk
    obtain ⟨v, h2, h3⟩ := optK_ok hk
    exact ⟨v, by simp only [pureOp, h1, hfd, Option.bind_some]; exact h2, h3⟩
  case h_14 t x i =>
    simp only [Option.bind_eq_some_iff] at h
    obtain ⟨gx, hx, gi, hi, h⟩ := h
    injection h with h; subst h
    obtain ⟨a, h1, hk⟩ := getX_ok (k := fun v => gi e fun i => indexAddrK P t v i (elemSize P t) k) hx R hk
    obtain ⟨b, h2, hk⟩ := getX_ok (k := fun i => indexAddrK P t a i (elemSize P t) k) hi R hk
    obtain ⟨v, h3, h4⟩ := indexAddrK_ok hk
    exact ⟨v, by simp [pureOp, h1, h2, h3], h4⟩
  case h_15 t x i =>
    simp only [Option.bind_eq_some_iff] at h
    obtain ⟨gx, hx, gi, hi, h⟩ := h
    injection h with h; subst h
    obtain ⟨a, h1, hk⟩ := getX_ok (k := fun v => gi e fun i => optK (indexOp P t v i) k) hx R hk
    obtain ⟨b, h2, hk⟩ := getX_ok (k := fun i => optK (indexOp P t a i) k) hi R hk
    obtain ⟨v, h3, h4⟩ := optK_ok hk
    exact ⟨v, by simp [pureOp, h1, h2, h3], h4⟩
  case h_16 x i =>
    simp only [Option.bind_eq_some_iff] at h
    obtain ⟨gx, hx, h⟩ := h
    injection h with h; subst h
    obtain ⟨a, h1, hk⟩ := getX_ok (k := fun v => optK (match v with | .tuple vs => vs[i]? | _ => none) k) hx R hk
    obtain ⟨v, h2, h3⟩ := optK_ok hk
    exact ⟨v, by simp only [pureOp, h1, Option.bind_some]; exact h2, h3⟩
  case h_17 x _ t ok =>
    simp only [Option.bind_eq_some_iff] at h
    obtain ⟨gx, hx, h⟩ := h
    injection h with h; subst h
    obtain ⟨a, h1, hk⟩ := getX_ok (k := fun v => optK (assertOp P t ok v) k) hx R hk
    obtain ⟨v, h2, h3⟩ := optK_ok hk
    exact ⟨v, by simp only [pureOp, h1, Option.bind_some]; exact h2, h3⟩
  case h_18 b args ats =>
    simp only [Option.bind_eq_some_iff] at h
    obtain ⟨gs, hgs, h⟩ := h
    injection h with h; subst h
    obtain ⟨vs, h1, hk⟩ := gather_ok (k := fun vs => optK (pureOp P vs (builtinOf b args.size ats)) k) R hgs hk
    obtain ⟨v, h2, h3⟩ := optK_ok hk
    refine ⟨v, ?_, h3⟩
    rw [← h2]
    have e : opnds vs (tmpsUpTo 0 args.size) = opnds ts args.toList := by rw [h1, show args.size = vs.length by rw [opnds_length h1]; simp]; exact opnds_all vs
    unfold builtinOf
    cases b <;> simp only [pureOp, List.toList_toArray, e]
  case h_19 => cases h

theorem mkG_ok {b : Bool} {op : Op} {g : E2 → ((Nat → AV) → AObj → Bool) → Bool} {k : (Nat → AV) → AObj → Bool} (h : mkG P b op = some g) (R : RelE e ts) (hk : g e k = true) : ∃ f x, mkOp P b ts op = some (f, x) ∧ k f x = true := by
  unfold mkG at h
  split at h
  case h_1 t =>
    simp only [Option.bind_eq_some_iff] at h
    obtain ⟨z, hz, h⟩ := h
    obtain ⟨hq, h⟩ := cond_some h
    injection h with h; subst h
    exact ⟨_, _, by simp only [mkOp, hz, Option.bind_some, hq, cond_true], hk⟩
  case h_2 t x =>
    simp only [Option.bind_eq_some_iff] at h
    obtain ⟨gx, hx, h⟩ := h
    injection h with h; subst h
    obtain ⟨v, h1, hk⟩ := getX_ok (k := fun v => cond (v.cells.all AV.one) (k (fun id => .ref id 0) (.cells t true v.cells)) false) hx R hk
    cases hq : v.cells.all AV.one with
    | false => rw [hq] at hk; cases hk
    | true =>
      rw [hq] at hk
      exact ⟨_, _, by simp only [mkOp, h1, Option.bind_some, hq, cond_true], hk⟩
  case h_3 t n ps =>
    simp only [Option.bind_eq_some_iff] at h
    obtain ⟨gs, hgs, h⟩ := h
    injection h with h; subst h
    obtain ⟨vs, h1, hk⟩ := gather_ok R hgs hk
    obtain ⟨⟨f, x⟩, h2, h3⟩ := optK_ok hk
    exact ⟨f, x, by simp [mkOp, parts_ok h1, h2], h3⟩
  case h_4 t l c =>
    simp only [Option.bind_eq_some_iff] at h
    obtain ⟨gl, hl, gc, hc, h⟩ := h
    injection h with h; subst h
    obtain ⟨a, h1, hk⟩ := getX_ok (k := fun l => gc e fun c => optK (makeSliceOp P t l c) fun (f, x) => k f x) hl R hk
    obtain ⟨b, h2, hk⟩ := getX_ok (k := fun c => optK (makeSliceOp P t a c) fun (f, x) => k f x) hc R hk
    obtain ⟨⟨f, x⟩, h3, h4⟩ := optK_ok hk
    exact ⟨f, x, by simp [mkOp, h1, h2, h3], h4⟩
  case h_5 t =>
    injection h with h; subst h
    exact ⟨_, _, rfl, hk⟩
  case h_6 t x =>
    simp only [Option.bind_eq_some_iff] at h
    obtain ⟨gx, hx, h⟩ := h
    injection h with h; subst h
    obtain ⟨a, h1, hk⟩ := getX_ok (k := fun v => optK (mkOp P b [v] (.makeMap t (some (.tmp 0)))) fun (f, x) => k f x) hx R hk
    obtain ⟨⟨f, x⟩, h2, h3⟩ := optK_ok hk
    refine ⟨f, x, ?_, h3⟩
    rw [← h2]
    simp only [mkOp, h1]
    rfl
  case h_7 s d x =>
    simp only [Option.bind_eq_some_iff] at h
    obtain ⟨gx, hx, h⟩ := h
    injection h with h; subst h
    obtain ⟨a, h1, hk⟩ := getX_ok (k := fun v => optK (mkOp P b [v] (.convert s d (.tmp 0))) fun (f, x) => k f x) hx R hk
    obtain ⟨⟨f, x⟩, h2, h3⟩ := optK_ok hk
    refine ⟨f, x, ?_, h3⟩
    rw [← h2]
    simp only [mkOp, h1]
    rfl
  case h_8 => cases h

theorem loadG_ok {st : St} {t : TypeId} {a : Operand} {g : E2 → St → (AV → Bool) → Bool} {k : AV → Bool} (h : loadG P t a = some g) (R : RelE e ts) (hk : g e st k = true) : ∃ p v, opnd ts a = some p ∧ loadAt P st t p = some v ∧ k v = true := by
  simp only [loadG, Option.bind_eq_some_iff] at h
  obtain ⟨ga, ha, gg, hg, n, hn, h⟩ := h
  cases gg with
  | true =>
    injection h with h; subst h
    obtain ⟨p, h1, hk⟩ := getX_ok (k := fun p => ptrK p (fun id off => stK st fun t _ => trGet t id fun o => cellsK o fun _ _ cs => dropK off cs fun r => takeK n r fun l => k (.agg l)) (fun cs => takeK n cs fun l => k (.agg l)) false) ha R hk
    rcases ptrK_ok hk with ⟨id, off, rfl, hk⟩ | ⟨cs, rfl, hk⟩ | hk
    · cases st with
      | mk tr nx =>
        change trGet tr id (fun o => cellsK o fun _ _ cs => dropK off cs fun r => takeK n r fun l => k (.agg l)) = true at hk
        rw [trGet_ok] at hk
        obtain ⟨ty, u, cs, h2, hk⟩ := cellsK_ok hk
        obtain ⟨h3, hk⟩ := dropK_ok hk
        obtain ⟨h4, hk⟩ := takeK_ok hk
        refine ⟨_, _, h1, ?_, hk⟩
        simp only [List.length_drop] at h4
        simp only [loadAt, hg, hn, Option.bind_some, cond_true, readAt, h2, range?, cond_ble, shaped]
        rw [if_pos (by omega)]
        rfl
    · obtain ⟨h4, hk⟩ := takeK_ok hk
      refine ⟨_, _, h1, ?_, hk⟩
      simp only [loadAt, hg, hn, Option.bind_some, cond_true, readAt, range?, cond_ble, shaped]
      rw [if_pos (by omega)]
      rfl
    · cases hk
  | false =>
    injection h with h; subst h
    obtain ⟨p, h1, hk⟩ := getX_ok (k := fun p => ptrK p (fun id off => stK st fun t _ => trGet t id fun o => cellsK o fun _ _ cs => nthK cs off k) (fun cs => headK cs k) false) ha R hk
    rcases ptrK_ok hk with ⟨id, off, rfl, hk⟩ | ⟨cs, rfl, hk⟩ | hk
    · cases st with
      | mk tr nx =>
        change trGet tr id (fun o => cellsK o fun _ _ cs => nthK cs off k) = true at hk
        rw [trGet_ok] at hk
        obtain ⟨ty, u, cs, h2, hk⟩ := cellsK_ok hk
        obtain ⟨v, h3, hk⟩ := nthK_ok hk
        refine ⟨_, v, h1, ?_, hk⟩
        have hlt : off < cs.length := (List.getElem?_eq_some_iff.1 h3).1
        have hr : range? cs off 1 = some [v] := by
          unfold range?
          rw [cond_ble, if_pos (by omega)]
          congr 1
          rw [List.take_one, List.head?_drop, h3]
          rfl
        simp only [loadAt, hg, hn, Option.bind_some, cond_false, readAt, h2, hr, shaped]
    · obtain ⟨a, t', rfl, hk⟩ := headK_ok hk
      refine ⟨_, a, h1, ?_, hk⟩
      simp [loadAt, hg, hn, readAt, range?, cond_ble, shaped]
    · cases hk

theorem lookG_ok {st : St} {op : Op} {g : E2 → St → (AV → Bool) → Bool} {k : AV → Bool} (h : lookG P op = some g) (R : RelE e ts) (hk : g e st k = true) : ∃ vs v, opnds ts op.operands.toList = some vs ∧ readV P st op vs = some v ∧ k v = true := by
  unfold lookG at h
  split at h
  · obtain ⟨p, v, h1, h2, h3⟩ := loadG_ok h R hk
    exact ⟨[p], v, by simp [Op.operands, opnds, h1], h2, h3⟩
  · simp only [Option.bind_eq_some_iff] at h
    obtain ⟨gs, hgs, h⟩ := h
    injection h with h; subst h
    obtain ⟨vs, h1, hk⟩ := gather_ok (k := fun vs => optK (readV P st op vs) k) R hgs hk
    obtain ⟨v, h2, h3⟩ := optK_ok hk
    exact ⟨vs, v, h1, h2, h3⟩

theorem storeG_ok {st : St} {t : TypeId} {a x : Operand} {g : E2 → St → (St → Bool) → Bool} {k : St → Bool} (h : storeG P t a x = some g) (R : RelE e ts) (hk : g e st k = true) :
    ∃ p v st', opnd ts a = some p ∧ opnd ts x = some v ∧ storeAt P st t p v = some st' ∧ k st' = true := by
  simp only [storeG, Option.bind_eq_some_iff] at h
  obtain ⟨ga, ha, gx, hx, gg, hg, n, hn, h⟩ := h
  split at h
  · injection h with h; subst h
    obtain ⟨p, h1, hk⟩ := getX_ok (k := fun p => gx e fun v => cond v.one (refK p (fun id off => stK st fun t n => trGet t id fun o => cellsK o fun ty u cs => setK v cs off fun cs' => trSet (.cells ty u cs') t id fun t' => k ⟨t', n⟩) (optK (storeAt P st t p v) k)) false) ha R hk
    obtain ⟨v, h2, hk⟩ := getX_ok (k := fun v => cond v.one (refK p (fun id off => stK st fun t n => trGet t id fun o => cellsK o fun ty u cs => setK v cs off fun cs' => trSet (.cells ty u cs') t id fun t' => k ⟨t', n⟩) (optK (storeAt P st t p v) k)) false) hx R hk
    cases ho : v.one with
    | false => rw [ho] at hk; cases hk
    | true =>
      rw [ho] at hk
      simp only [cond_true] at hk
      rcases refK_ok hk with ⟨id, off, rfl, hk⟩ | hk
      · cases st with
        | mk tr nx =>
          change trGet tr id (fun o => cellsK o fun ty u cs => setK v cs off fun cs' => trSet (.cells ty u cs') tr id fun t' => k ⟨t', nx⟩) = true at hk
          rw [trGet_ok] at hk
          obtain ⟨ty, u, cs, h3, hk⟩ := cellsK_ok hk
          obtain ⟨h4, hk⟩ := setK_ok hk
          rw [trSet_ok] at hk
          refine ⟨_, v, _, h1, h2, ?_, hk⟩
          have hc : v.cells = [v] := by cases v <;> first | rfl | cases ho
          simp only [storeAt, hn, Option.bind_some, hc, List.length_singleton, List.all_cons, ho, List.all_nil, Bool.and_true, (show Nat.beq 1 1 = true from rfl), cond_true, storeCellsAt, h3, cond_ble, St.put]
          rw [if_pos (by omega)]
          congr 4
          rw [setRange, List.set_eq_take_append_cons_drop, if_pos h4]
          simp
      · obtain ⟨st', h3, h4⟩ := optK_ok hk
        exact ⟨p, v, st', h1, h2, h3, h4⟩
  · injection h with h; subst h
    obtain ⟨p, h1, hk⟩ := getX_ok (k := fun p => gx e fun v => optK (storeAt P st t p v) k) ha R hk
    obtain ⟨v, h2, hk⟩ := getX_ok (k := fun v => optK (storeAt P st t p v) k) hx R hk
    obtain ⟨st', h3, h4⟩ := optK_ok hk
    exact ⟨p, v, st', h1, h2, h3, h4⟩

theorem effG_ok {b : Bool} {st : St} {op : Op} {g : E2 → St → (AV → St → Bool) → Bool} {k : AV → St → Bool} (h : effG P b op = some g) (R : RelE e ts) (hk : g e st k = true) : ∃ v st', effOp P b ts st op = some (v, st') ∧ k v st' = true := by
  unfold effG at h
  split at h
  case h_1 t a x =>
    simp only [Option.bind_eq_some_iff] at h
    obtain ⟨s, hs, h⟩ := h
    injection h with h; subst h
    obtain ⟨p, v, st', h1, h2, h3, h4⟩ := storeG_ok hs R hk
    exact ⟨_, st', by simp [effOp, h1, h2, h3], h4⟩
  case h_2 t x kk v =>
    simp only [Option.bind_eq_some_iff] at h
    obtain ⟨gx, hx, gk, hgk, gv, hv, h⟩ := h
    injection h with h; subst h
    obtain ⟨a, h1, hk⟩ := getX_ok (k := fun m => gk e fun kk => gv e fun v => optK (updateOp P st t m kk v) fun st' => k AV.undef st') hx R hk
    obtain ⟨b, h2, hk⟩ := getX_ok (k := fun kk => gv e fun v => optK (updateOp P st t a kk v) fun st' => k AV.undef st') hgk R hk
    obtain ⟨c, h3, hk⟩ := getX_ok (k := fun v => optK (updateOp P st t a b v) fun st' => k AV.undef st') hv R hk
    obtain ⟨st', h4, h5⟩ := optK_ok hk
    exact ⟨_, st', by simp only [effOp, h1, h2, h3, h4, Option.bind_some], h5⟩
  case h_3 t x kk v =>
    simp only [Option.bind_eq_some_iff] at h
    obtain ⟨gx, hx, gk, hgk, gv, hv, h⟩ := h
    injection h with h; subst h
    obtain ⟨a, h1, hk⟩ := getX_ok (k := fun m => gk e fun kk => gv e fun v => optK (updateOp P st t m kk v) fun st' => k AV.undef st') hx R hk
    obtain ⟨b, h2, hk⟩ := getX_ok (k := fun kk => gv e fun v => optK (updateOp P st t a kk v) fun st' => k AV.undef st') hgk R hk
    obtain ⟨c, h3, hk⟩ := getX_ok (k := fun v => optK (updateOp P st t a b v) fun st' => k AV.undef st') hv R hk
    obtain ⟨st', h4, h5⟩ := optK_ok hk
    exact ⟨_, st', by simp only [effOp, h1, h2, h3, h4, Option.bind_some], h5⟩
  case h_4 t x =>
    simp only [Option.bind_eq_some_iff] at h
    obtain ⟨gx, hx, h⟩ := h
    injection h with h; subst h
    obtain ⟨a, h1, hk⟩ := getX_ok (k := fun x => optK (rangeOp P st t x) fun (v, st') => k v st') hx R hk
    obtain ⟨⟨v, st'⟩, h2, h3⟩ := optK_ok hk
    exact ⟨v, st', by simp only [effOp, h1, h2, Option.bind_some], h3⟩
  case h_5 x =>
    simp only [Option.bind_eq_some_iff] at h
    obtain ⟨gx, hx, h⟩ := h
    injection h with h; subst h
    obtain ⟨a, h1, hk⟩ := getX_ok (k := fun x => optK (entryOp st x) fun v => k v st) hx R hk
    obtain ⟨v, h2, h3⟩ := optK_ok hk
    exact ⟨v, st, by simp only [effOp, h1, h2, Option.bind_some], h3⟩
  case h_6 b' args ats =>
    simp only [Option.bind_eq_some_iff] at h
    obtain ⟨gs, hgs, h⟩ := h
    injection h with h; subst h
    obtain ⟨vs, h1, hk⟩ := gather_ok (k := fun vs => optK (effOp P b vs st (builtinOf b' args.size ats)) fun (v, st') => k v st') R hgs hk
    obtain ⟨⟨v, st'⟩, h2, h3⟩ := optK_ok hk
    refine ⟨v, st', ?_, h3⟩
    rw [← h2]
    have e : opnds vs (tmpsUpTo 0 args.size) = opnds ts args.toList := by rw [h1, show args.size = vs.length by rw [opnds_length h1]; simp]; exact opnds_all vs
    unfold builtinOf
    cases b' <;> simp only [effOp, List.toList_toArray, e]
  case h_7 => cases h
end

/-! ### Operations -/
def CKRel (ck ck' : CK) : Prop := ∀ y f args st (k k' : Bool → AV → St → Bool), (∀ p v st', k p v st' = true → k' p v st' = true) → ck y f args st k = true → ck' y f args st k' = true

section
variable {C : Cfg} {ck ck' : CK} {f : FuncId} {inr : Bool} {ro : Option Nat} {n : Nat} {e : E2} {ts : List AV} {ds : List ADefer} {st : St}

theorem opG_ok (hck : CKRel ck ck') (hro : ro.isSome = inr) {o : Oper} {s : Sem} {k : Ends} {k' : AV → List ADefer → St → Bool} (h : opG C f inr n o = some s) (R : RelE e ts) (hn : ts.length = n) (hk : s ck e ds st k = true)
    (hkk : ∀ v ds' st' e', RelE e' (putT ts o.dst v) → k e' (ds' ++ ds) st' = true → k' v ds' st' = true) : doOpK C ck' f ro ts st o k' = true := by
  simp only [opG, Option.bind_eq_some_iff] at h
  obtain ⟨put, hput, h⟩ := h
  have hn' : n ≤ ts.length := by omega
  have putk : ∀ {v : AV} {ds' : List ADefer} {st' : St}, (put e v fun e' => k e' (ds' ++ ds) st') = true → k' v ds' st' = true := by
    intro v ds' st' hp
    obtain ⟨e', h3, h4⟩ := putX_ok (k := fun e' => k e' (ds' ++ ds) st') hput R hn' hp
    exact hkk v ds' st' e' h3 h4
  split at h
  case h_1 x args _ hop =>
    simp only [Option.bind_eq_some_iff] at h
    obtain ⟨gs, hgs, h⟩ := h
    split at h
    · rename_i g
      injection h with h; subst h
      obtain ⟨as, h1, hk⟩ := gather_ok (k := fun as => ck false g as st fun _ v st' => put e v fun e' => k e' ds st') R hgs hk
      unfold doOpK
      rw [hop]
      simp only [h1, opnd, List.nil_append, List.append_nil]
      exact hck _ _ _ _ _ _ (fun p v st' hp => putk (ds' := []) hp) hk
    · simp only [Option.bind_eq_some_iff] at h
      obtain ⟨gx, hx, h⟩ := h
      injection h with h; subst h
      obtain ⟨fv, h0, hk⟩ := getX_ok (k := fun fv => callK2 fv (fun fn first cap => match fn with
        | .func g => gather gs e fun as => ck false g (first ++ as ++ cap) st fun _ v st' => put e v fun e' => k e' ds st'
        | _ => false) fun l => gather gs e fun as => ck true l as st fun _ v st' => put e v fun e' => k e' ds st') hx R hk
      rcases callK2_ok hk with ⟨fn, first, cap, rfl, hk2⟩ | ⟨l, rfl, hk2⟩
      · clear hk
        have hk := hk2
        clear hk2
        split at hk
        · rename_i g
          obtain ⟨as, h1, hk⟩ := gather_ok (k := fun as => ck false g (first ++ as ++ cap) st fun _ v st' => put e v fun e' => k e' ds st') R hgs hk
          unfold doOpK
          rw [hop]
          simp only [h0, h1]
          exact hck _ _ _ _ _ _ (fun p v st' hp => putk (ds' := []) hp) hk
        · cases hk
      · obtain ⟨as, h1, hk⟩ := gather_ok (k := fun as => ck true l as st fun _ v st' => put e v fun e' => k e' ds st') R hgs hk2
        unfold doOpK
        rw [hop]
        simp only [h0, h1]
        exact hck _ _ _ _ _ _ (fun p v st' hp => putk (ds' := []) hp) hk
  case h_2 x name args _ hop =>
    simp only [Option.bind_eq_some_iff] at h
    obtain ⟨gs, hgs, gx, hx, h⟩ := h
    injection h with h; subst h
    obtain ⟨fv, h0, hk⟩ := getX_ok (k := fun fv => ifaceK fv fun t v => optK (methodOf C.P st t v name) fun (g, r) =>
      gather gs e fun as => ck false g (r :: as) st fun _ v st' => put e v fun e' => k e' ds st') hx R hk
    obtain ⟨t, v, rfl, hk2⟩ := ifaceK_ok hk
    obtain ⟨⟨g, r⟩, hm, hk3⟩ := optK_ok hk2
    obtain ⟨as, h1, hk⟩ := gather_ok (k := fun as => ck false g (r :: as) st fun _ v st' => put e v fun e' => k e' ds st') R hgs hk3
    unfold doOpK
    rw [hop]
    simp only [h0, h1, hm]
    exact hck _ _ _ _ _ _ (fun p v st' hp => putk (ds' := []) hp) hk
  case h_3 x args _ hop =>
    cases inr with
    | true => cases h
    | false =>
    simp only [cond_false, Option.bind_eq_some_iff] at h
    obtain ⟨gs, hgs, gx, hx, h⟩ := h
    injection h with h; subst h
    obtain ⟨fv, h0, hk⟩ := getX_ok (k := fun fv => callK2 fv (fun fn first cap => match fn with
      | .func g => gather gs e fun as => put e AV.undef fun e' => k e' (.call g (first ++ as ++ cap) :: ds) st
      | _ => false) fun _ => false) hx R hk
    rcases callK2_ok hk with ⟨fn, first, cap, rfl, hk2⟩ | ⟨l, rfl, hk2⟩
    · clear hk
      have hk := hk2
      clear hk2
      split at hk
      · rename_i g
        obtain ⟨as, h1, hk⟩ := gather_ok (k := fun as => put e AV.undef fun e' => k e' (.call g (first ++ as ++ cap) :: ds) st) R hgs hk
        unfold doOpK
        rw [hop]
        simp only [h0, h1, hro, cond_false]
        exact putk (ds' := [.call g (first ++ as ++ cap)]) hk
      · cases hk
    · cases hk2
  case h_4 x s' hop =>
    simp only [Option.bind_eq_some_iff] at h
    obtain ⟨gx, hx, h⟩ := h
    injection h with h; subst h
    obtain ⟨v, h0, hk⟩ := getX_ok (k := fun x => optK (nextOp st x s') fun l => l.all fun r => put e r.1 fun e' => k e' ds r.2) hx R hk
    obtain ⟨l, hl, hk⟩ := optK_ok hk
    unfold doOpK
    rw [hop]
    simp only [h0, Option.bind_some, hl]
    exact List.all_eq_true.2 fun r hr => putk (ds' := []) (List.all_eq_true.1 hk r hr)
  case h_5 op hne1 hne2 hne3 hne4 =>
    have hdo : ∀ v st', aop C f ts st o = some (v, st') → k' v [] st' = true → doOpK C ck' f ro ts st o k' = true := by
      intro v st' ha hk
      unfold doOpK
      split
      · rename_i hop
        exact absurd hop (hne1 _ _ _)
      · rename_i hop
        exact absurd hop (hne2 _ _ _ _)
      · rename_i hop
        exact absurd hop (hne3 _ _ _)
      · rename_i hop
        exact absurd hop (hne4 _ _)
      · rw [ha]; exact hk
    split at h
    · rename_i hkd
      simp only [Option.bind_eq_some_iff] at h
      obtain ⟨g, hg, h⟩ := h
      injection h with h; subst h
      obtain ⟨v, h1, hk⟩ := pureG_ok (k := fun v => put e v fun e' => k e' ds st) hg R hk
      exact hdo v st (by simp only [aop, hkd, h1, Option.bind_some]) (putk (ds' := []) hk)
    · rename_i hkd
      simp only [Option.bind_eq_some_iff] at h
      obtain ⟨g, hg, h⟩ := h
      injection h with h; subst h
      obtain ⟨vs, v, h1, h2, hk⟩ := lookG_ok (k := fun v => put e v fun e' => k e' ds st) hg R hk
      exact hdo v st (by simp only [aop, hkd, h1, h2, Option.bind_some]) (putk (ds' := []) hk)
    · rename_i hkd
      simp only [Option.bind_eq_some_iff] at h
      obtain ⟨g, hg, h⟩ := h
      injection h with h; subst h
      obtain ⟨m, x, h1, hk⟩ := mkG_ok (k := fun h x => pushK st x fun id st' => put e (h id) fun e' => k e' ds st') hg R hk
      have hk := pushK_ok hk
      exact hdo _ _ (by simp only [aop, hkd, h1, Option.bind_some]) (putk (ds' := []) hk)
    · rename_i hkd
      simp only [Option.bind_eq_some_iff] at h
      obtain ⟨g, hg, h⟩ := h
      injection h with h; subst h
      obtain ⟨v, st', h1, hk⟩ := effG_ok (k := fun v st' => put e v fun e' => k e' ds st') hg R hk
      exact hdo v st' (by simp only [aop, hkd, h1]) (putk (ds' := []) hk)
end
end Go.Ev
