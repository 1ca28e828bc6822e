/- A region that draws its order: whatever order is drawn, it comes to what the plan comes to. -/
import Derived.Test.YtgmhnpfpmcccnaaGreatDoorEvL
set_option linter.all false
namespace Go.Ev
open Go.RowKit (Below)

/-! ### What the plan says -/
section
variable {P : Program}

/-- All that an operation waits for. -/
def Wait (S : Nat → Prop) (o : Oper) : Prop := ∀ e ∈ o.after, Region.binds .any e = true → S e.on
theorem Wait.mono {S S' : Nat → Prop} {o : Oper} (h : Wait S o) (hs : ∀ i, S i → S' i) : Wait S' o := fun e he hb => hs _ (h e he hb)

inductive PlanOk (P : Program) (ops : Array Oper) (befs : List Nat) : (Nat → Prop) → List PStep → Prop
  | nil {S : Nat → Prop} (h : ∀ i o, ops[i]? = some o → ¬ S i → ¬ Wait S o) : PlanOk P ops befs S []
  | cons {S : Nat → Prop} {s : PStep} {l : List PStep} (ho : ops[s.i]? = some s.o) (hn : ¬ S s.i) (hw : Wait S s.o) (he : s.eff = effect P s.o) (hb : s.bef = befs.getD s.i 0)
      (hone : s.eff = true → ∀ i o, ops[i]? = some o → ¬ S i → Wait S o → i = s.i) (h : PlanOk P ops befs (fun j => S j ∨ j = s.i) l) : PlanOk P ops befs S (s :: l)

theorem readyA_spec {ops : List Oper} {mask i : Nat} {o : Oper} : readyA ops mask i o = true ↔ ¬ mask.testBit i = true ∧ Wait (fun j => mask.testBit j = true) o := by
  simp only [readyA, Bool.and_eq_true, Bool.not_eq_true', List.all_eq_true, Bool.or_eq_true, Bool.not_eq_true]
  constructor
  · rintro ⟨h1, h2⟩
    exact ⟨h1, fun e he hb => (h2 e (by simpa using he)).resolve_left (by simp [hb])⟩
  · rintro ⟨h1, h2⟩
    refine ⟨h1, fun e he => ?_⟩
    cases hb : Region.binds .any e
    · exact .inl rfl
    · exact .inr (h2 e (by simpa using he) hb)

theorem readies_mem {ops : List Oper} {mask : Nat} {i : Nat} {o : Oper} : ∀ {l : List Oper} {k : Nat}, (i, o) ∈ readies ops mask l k ↔ ∃ m, l[m]? = some o ∧ i = k + m ∧ readyA ops mask i o = true
  | [], k => by simp [readies]
  | x :: l, k => by
    simp only [readies]
    have step : (∃ m, (x :: l)[m]? = some o ∧ i = k + m ∧ readyA ops mask i o = true) ↔ (x = o ∧ i = k ∧ readyA ops mask i o = true) ∨ ∃ m, l[m]? = some o ∧ i = k + 1 + m ∧ readyA ops mask i o = true := by
      constructor
      · rintro ⟨m, h1, h2, h3⟩
        cases m with
        | zero => simp at h1; exact .inl ⟨h1, by omega, h3⟩
        | succ m => simp at h1; exact .inr ⟨m, h1, by omega, h3⟩
      · rintro (⟨h1, h2, h3⟩ | ⟨m, h1, h2, h3⟩)
        · exact ⟨0, by simp [h1], by omega, h3⟩
        · exact ⟨m + 1, by simpa using h1, by omega, h3⟩
    rw [step]
    cases hr : readyA ops mask k x with
    | true =>
      simp only [cond_true, List.mem_cons, Prod.mk.injEq, readies_mem (l := l) (k := k + 1)]
      constructor
      · rintro (⟨rfl, rfl⟩ | h)
        · exact .inl ⟨rfl, rfl, hr⟩
        · exact .inr h
      · rintro (⟨rfl, rfl, _⟩ | h)
        · exact .inl ⟨rfl, rfl⟩
        · exact .inr h
    | false =>
      simp only [cond_false, readies_mem (l := l) (k := k + 1)]
      constructor
      · exact fun h => .inr h
      · rintro (⟨rfl, rfl, h⟩ | h)
        · rw [hr] at h; cases h
        · exact h

theorem mask_ext (mask i : Nat) : (fun j => (mask ||| 2 ^ i).testBit j = true) = fun j => mask.testBit j = true ∨ j = i := by
  funext j
  simp only [Nat.testBit_or, Bool.or_eq_true, Nat.testBit_two_pow, decide_eq_true_eq, eq_iff_iff]
  constructor
  · rintro (h | h)
    · exact .inl h
    · exact .inr h.symm
  · rintro (h | h)
    · exact .inl h
    · exact .inr h.symm

theorem planGo_ok {ops : Array Oper} {befs : List Nat} : ∀ (n mask : Nat) (l : List PStep), planGo P ops.toList befs n mask = some l → PlanOk P ops befs (fun j => mask.testBit j = true) l := by
  have none_ready : ∀ {mask : Nat}, readies ops.toList mask ops.toList 0 = [] → PlanOk P ops befs (fun j => mask.testBit j = true) [] := by
    intro mask h
    refine .nil fun i o ho hi hw => ?_
    have : (i, o) ∈ readies ops.toList mask ops.toList 0 := readies_mem.2 ⟨i, by simpa using ho, by omega, readyA_spec.2 ⟨hi, hw⟩⟩
    rw [h] at this
    cases this
  intro n
  induction n with
  | zero =>
    intro mask l h
    simp only [planGo] at h
    split at h
    · injection h with h; subst h; exact none_ready (by assumption)
    · cases h
  | succ n ih =>
    intro mask l h
    simp only [planGo] at h
    have mem : ∀ {i o}, (i, o) ∈ readies ops.toList mask ops.toList 0 → ops[i]? = some o ∧ ¬ mask.testBit i = true ∧ Wait (fun j => mask.testBit j = true) o := by
      intro i o hm
      obtain ⟨m, h1, h2, h3⟩ := readies_mem.1 hm
      obtain ⟨h4, h5⟩ := readyA_spec.1 h3
      have : i = m := by omega
      subst this
      exact ⟨by simpa using h1, h4, h5⟩
    split at h
    · rename_i i o hf
      simp only [Option.bind_eq_some_iff] at h
      obtain ⟨l', h1, h2⟩ := h
      injection h2 with h2
      subst h2
      obtain ⟨m1, m2, m3⟩ := mem (List.mem_of_find?_eq_some hf)
      have heff := List.find?_some hf
      have ih' := ih _ _ h1
      rw [mask_ext] at ih'
      exact .cons m1 m2 m3 (by simpa using heff.symm) rfl (fun h => by cases h) ih'
    · rename_i hrs
      injection h with h
      subst h
      exact none_ready hrs
    · rename_i i o hf hrs
      simp only [Option.bind_eq_some_iff] at h
      obtain ⟨l', h1, h2⟩ := h
      injection h2 with h2
      subst h2
      obtain ⟨m1, m2, m3⟩ := mem (i := i) (o := o) (by rw [hrs]; simp)
      have heff : effect P o = true := by
        rw [hrs] at hf
        simpa using hf
      have ih' := ih _ _ h1
      rw [mask_ext] at ih'
      refine .cons m1 m2 m3 heff.symm rfl (fun _ i' o' ho' hi' hw' => ?_) ih'
      have : (i', o') ∈ readies ops.toList mask ops.toList 0 := readies_mem.2 ⟨i', by simpa using ho', by omega, readyA_spec.2 ⟨hi', hw'⟩⟩
      rw [hrs] at this
      simp at this
      exact this.1
    · cases h

/-! ### What waits for what, through others -/
theorem befOf_bit (befs : List Nat) (o : Oper) (j : Nat) (h : (befOf befs o).testBit j = true) : ∃ e ∈ o.after, Region.binds .any e = true ∧ (e.on = j ∨ (befs.getD e.on 0).testBit j = true) := by
  unfold befOf at h
  have : ∀ (l : List Edge) (s : Nat), (l.foldl (fun s e => if Region.binds .any e then s ||| 2 ^ e.on ||| befs.getD e.on 0 else s) s).testBit j = true → s.testBit j = true ∨ ∃ e ∈ l, Region.binds .any e = true ∧ (e.on = j ∨ (befs.getD e.on 0).testBit j = true) := by
    intro l
    induction l with
    | nil => intro s h; exact .inl h
    | cons e l ih =>
      intro s h
      simp only [List.foldl_cons] at h
      rcases ih _ h with h1 | ⟨e', h1, h2⟩
      · split at h1
        · rename_i hb
          simp only [Nat.testBit_or, Bool.or_eq_true, Nat.testBit_two_pow, decide_eq_true_eq] at h1
          rcases h1 with (h1 | h1) | h1
          · exact .inl h1
          · exact .inr ⟨e, by simp, hb, .inl h1⟩
          · exact .inr ⟨e, by simp, hb, .inr h1⟩
        · exact .inl h1
      · exact .inr ⟨e', by simp [h1], h2⟩
  rcases this _ _ h with h1 | ⟨e, h1, h2⟩
  · simp at h1
  · exact ⟨e, by simpa using h1, h2⟩

theorem getD_lt {l : List Nat} {i j : Nat} (h : (l.getD i 0).testBit j = true) : i < l.length := by
  rcases Nat.lt_or_ge i l.length with h' | h'
  · exact h'
  · rw [List.getD_eq_getElem?_getD, List.getElem?_eq_none h'] at h
    simp at h

/-- The masks of 'befAll', as far as they are made. -/
def BefOk (ops : List Oper) (befs : List Nat) : Prop := ∀ i j, (befs.getD i 0).testBit j = true → ∃ o, ops[i]? = some o ∧ ∃ e ∈ o.after, Region.binds .any e = true ∧ (e.on = j ∨ e.on < i ∧ (befs.getD e.on 0).testBit j = true)
theorem befAll_ok : ∀ (l pre : List Oper) (acc : List Nat), acc.length = pre.length → BefOk (pre ++ l) acc → BefOk (pre ++ l) (befAll l acc)
  | [], _, _, _, h => by simpa [befAll] using h
  | o :: l, pre, acc, hl, h => by
    simp only [befAll]
    have e : pre ++ o :: l = (pre ++ [o]) ++ l := by simp
    rw [e] at h ⊢
    refine befAll_ok l (pre ++ [o]) (acc ++ [befOf acc o]) (by simp [hl]) fun i j hb => ?_
    have hi := getD_lt hb
    simp only [List.length_append, List.length_singleton] at hi
    have low : ∀ k, k < acc.length → (acc ++ [befOf acc o]).getD k 0 = acc.getD k 0 := fun k hk => by
      simp only [List.getD_eq_getElem?_getD]
      rw [List.getElem?_append_left hk]
    by_cases hlt : i < acc.length
    · rw [low i hlt] at hb
      obtain ⟨o', h1, e', h2, h3, h4⟩ := h i j hb
      refine ⟨o', h1, e', h2, h3, h4.imp id fun ⟨h5, h6⟩ => ⟨h5, ?_⟩⟩
      rw [low _ (by omega)]
      exact h6
    · have hie : i = acc.length := by omega
      subst hie
      have : (acc ++ [befOf acc o]).getD acc.length 0 = befOf acc o := by simp [List.getD_eq_getElem?_getD]
      rw [this] at hb
      obtain ⟨e', h2, h3, h4⟩ := befOf_bit acc o j hb
      refine ⟨o, by rw [hl]; simp, e', h2, h3, h4.imp id fun h5 => ?_⟩
      have := getD_lt h5
      exact ⟨this, by rw [low _ this]; exact h5⟩

/-- Who is listed has all listed that it waits for, through others, too. -/
theorem bef_in {ops : Array Oper} {befs : List Nat} (hb : BefOk ops.toList befs) {S : Nat → Prop} (hd : ∀ i o, S i → ops[i]? = some o → Wait S o) : ∀ (i j : Nat), S i → (befs.getD i 0).testBit j = true → S j := by
  intro i
  induction i using Nat.strongRecOn with
  | _ i ih =>
    intro j hi h
    obtain ⟨o, ho, e, h1, h2, h3⟩ := hb i j h
    have hs := hd i o hi (by simpa using ho) e h1 h2
    rcases h3 with rfl | ⟨h3, h4⟩
    · exact hs
    · exact ih _ h3 j hs h4
theorem bef_wait {ops : Array Oper} {befs : List Nat} (hb : BefOk ops.toList befs) {S : Nat → Prop} (hd : ∀ i o, S i → ops[i]? = some o → Wait S o) {i j : Nat} {o : Oper} (ho : ops[i]? = some o) (hw : Wait S o)
    (h : (befs.getD i 0).testBit j = true) : S j := by
  obtain ⟨o', ho', e, h1, h2, h3⟩ := hb i j h
  have : o' = o := by
    have : ops.toList[i]? = some o := by simpa using ho
    rw [this] at ho'
    injection ho' with ho'
    exact ho'.symm
  subst this
  have hs := hw e h1 h2
  rcases h3 with rfl | ⟨_, h4⟩
  · exact hs
  · exact bef_in hb hd _ _ hs h4

theorem hasN_spec {l : List Nat} {n : Nat} : hasN l n = true ↔ n ∈ l := by
  simp only [hasN, List.any_eq_true]
  constructor
  · rintro ⟨m, h1, h2⟩; rw [← Nat.eq_of_beq_eq_true h2]; exact h1
  · exact fun h => ⟨n, h, by simp⟩
theorem tempsGo_ok {ops : List Oper} {j : Nat} {oj : Oper} {bef : Nat} : ∀ {l : List Oper} {k : Nat}, tempsGo ops j oj bef l k = true → ∀ m o, l[m]? = some o → k + m < j → clash ops o oj = true → bef.testBit (k + m) = true
  | [], _, _, _, _, hm => by simp at hm
  | x :: l, k, h, m, o, hm => by
    simp only [tempsGo, Bool.and_eq_true, Bool.or_eq_true, Bool.not_eq_true'] at h
    intro hlt hc
    cases m with
    | zero =>
      simp at hm
      subst hm
      rcases h.1 with h1 | h1
      · have h3 : Nat.blt k j = true := Nat.ble_eq_true_of_le (by omega)
        simp [h3, hc] at h1
      · simpa using h1
    | succ m =>
      have := tempsGo_ok h.2 m o (by simpa using hm) (by omega) hc
      rwa [show k + 1 + m = k + (m + 1) by omega] at this
theorem tempsOk_ok {ops : List Oper} {befs : List Nat} : ∀ {l : List Oper} {k : Nat}, tempsOk ops befs l k = true → ∀ m o, l[m]? = some o → tempsGo ops (k + m) o (befs.getD (k + m) 0) ops 0 = true
  | [], _, _, _, _, hm => by simp at hm
  | x :: l, k, h, m, o, hm => by
    simp only [tempsOk, Bool.and_eq_true] at h
    cases m with
    | zero => simp at hm; subst hm; exact h.1
    | succ m =>
      have := tempsOk_ok h.2 m o (by simpa using hm)
      rwa [show k + 1 + m = k + (m + 1) by omega] at this

/-- Whoever writes a temporary waits, or is waited for, by whoever names it. -/
def TempsOk (ops : Array Oper) (befs : List Nat) : Prop := ∀ i j oi oj, ops[i]? = some oi → ops[j]? = some oj → i ≠ j → ∀ t, oi.dst = some t → (t ∈ namesOf ops.toList oj ∨ oj.dst = some t) →
  (befs.getD j 0).testBit i = true ∨ (befs.getD i 0).testBit j = true
theorem temps_ok {ops : Array Oper} {befs : List Nat} (h : tempsOk ops.toList befs ops.toList 0 = true) : TempsOk ops befs := by
  intro i j oi oj hi hj hne t ht hn
  have key : ∀ i j oi oj, ops[i]? = some oi → ops[j]? = some oj → i < j → clash ops.toList oi oj = true → (befs.getD j 0).testBit i = true := by
    intro i j oi oj hi hj hlt hc
    have := tempsGo_ok (tempsOk_ok h j oj (by simpa using hj)) i oi (by simpa using hi) (by omega) hc
    simpa using this
  have c1 : clash ops.toList oi oj = true := by
    simp only [clash, ht, Bool.or_eq_true]
    refine .inl ?_
    rcases hn with hn | hn
    · exact .inl (hasN_spec.2 hn)
    · exact .inr (by rw [hn]; simp)
  have c2 : clash ops.toList oj oi = true := by
    simp only [clash, ht, Bool.or_eq_true]
    rcases hn with hn | hn
    · exact .inr (hasN_spec.2 hn)
    · refine .inl ?_
      rw [hn]
      simp
  rcases Nat.lt_or_gt_of_ne hne with hlt | hlt
  · exact .inl (key i j oi oj hi hj hlt c1)
  · exact .inr (key j i oj oi hj hi hlt c2)
end

/-! ### What hangs on temporaries -/
section
theorem opnd_congr {ts ts' : List AV} {x : Operand} (h : ∀ t, x = .tmp t → ts.getD t AV.undef = ts'.getD t AV.undef) : opnd ts x = opnd ts' x := by
  cases x with
  | tmp t => simp only [opnd, h t rfl]
  | _ => rfl
theorem opnds_congr {ts ts' : List AV} : ∀ {xs : List Operand}, (∀ x ∈ xs, opnd ts x = opnd ts' x) → opnds ts xs = opnds ts' xs
  | [], _ => rfl
  | x :: xs, h => by simp only [opnds, h x (by simp), opnds_congr (xs := xs) fun y hy => h y (List.mem_cons_of_mem _ hy)]
theorem parts_congr {ts ts' : List AV} : ∀ {ps : List (Nat × Operand)}, (∀ x ∈ ps.map (·.2), opnd ts x = opnd ts' x) → parts? ts ps = parts? ts' ps
  | [], _ => rfl
  | (i, x) :: ps, h => by simp only [parts?, h x (by simp), parts_congr fun y hy => h y (by simp at hy ⊢; exact .inr hy)]
theorem optV_congr {ts ts' : List AV} {x : Option Operand} (h : ∀ y, x = some y → opnd ts y = opnd ts' y) : optV ts x = optV ts' x := by
  cases x with
  | none => rfl
  | some y => simp only [optV, h y rfl]

theorem pureOp_congr {P : Program} {ts ts' : List AV} {op : Op} (h : ∀ x ∈ op.operands.toList, opnd ts x = opnd ts' x) : pureOp P ts op = pureOp P ts' op := by
  cases op <;> simp only [Op.operands] at h <;> simp only [pureOp] <;> first | rfl | skip
  case build t ps => rw [parts_congr fun x hx => h x (by simpa using hx)]
  case makeFunc fn first cap => rw [opnds_congr (xs := first.toList) fun x hx => h x (by simp at hx ⊢; exact .inl hx), opnds_congr (xs := cap.toList) fun x hx => h x (by simp at hx ⊢; exact .inr hx)]
  case slice t x lo hi mx =>
    rw [h x (by simp), optV_congr (x := lo) fun y hy => h y (by subst hy; simp), optV_congr (x := hi) fun y hy => h y (by subst hy; simp), optV_congr (x := mx) fun y hy => h y (by subst hy; simp)]
  case call c =>
    obtain ⟨cal, args, ats⟩ := c
    simp only [Call.operands] at h
    have := opnds_congr (ts := ts) (ts' := ts') (xs := args.toList) fun x hx => h x (by simp at hx ⊢; exact .inr hx)
    cases cal with
    | builtin b => cases b <;> simp only [pureOp, this]
    | value f => simp only [pureOp, this]
    | invoke r m => simp only [pureOp, this]
  all_goals simp_all
theorem mkOp_congr {P : Program} {b : Bool} {ts ts' : List AV} {op : Op} (h : ∀ x ∈ op.operands.toList, opnd ts x = opnd ts' x) : mkOp P b ts op = mkOp P b ts' op := by
  cases op <;> simp only [Op.operands] at h <;> simp only [mkOp] <;> first | rfl | skip
  case buildSlice t n ps => rw [parts_congr fun x hx => h x (by simpa using hx)]
  case makeMap t r =>
    cases r with
    | none => rfl
    | some x => simp only [h x (by simp)]
  all_goals simp_all
theorem effOp_congr {P : Program} {b : Bool} {ts ts' : List AV} {st : St} {op : Op} (h : ∀ x ∈ op.operands.toList, opnd ts x = opnd ts' x) : effOp P b ts st op = effOp P b ts' st op := by
  cases op <;> simp only [Op.operands] at h <;> simp only [effOp] <;> first | rfl | skip
  case call c =>
    obtain ⟨cal, args, ats⟩ := c
    simp only [Call.operands] at h
    have := opnds_congr (ts := ts) (ts' := ts') (xs := args.toList) fun x hx => h x (by simp at hx ⊢; exact .inr hx)
    cases cal with
    | builtin b => cases b <;> simp only [effOp, this]
    | value f => rfl
    | invoke r m => rfl
  all_goals simp_all
theorem aop_congr {C : Cfg} {f : FuncId} {ts ts' : List AV} {st : St} {o : Oper} (h : ∀ x ∈ o.op.operands.toList, opnd ts x = opnd ts' x) : aop C f ts st o = aop C f ts' st o := by
  unfold aop
  rw [pureOp_congr h, mkOp_congr h, effOp_congr h]
  rw [opnds_congr h]
theorem doOpK_congr {C : Cfg} {ck : CK} {f : FuncId} {ro : Option Nat} {ts ts' : List AV} {st : St} {o : Oper} {k : AV → List ADefer → St → Bool} (h : ∀ x ∈ o.op.operands.toList, opnd ts x = opnd ts' x) : doOpK C ck f ro ts st o k = doOpK C ck f ro ts' st o k := by
  unfold doOpK
  rw [aop_congr h]
  split
  · rename_i x args ats hop
    rw [hop] at h
    simp only [Op.operands, Call.operands] at h
    rw [h x (by simp), opnds_congr (xs := args.toList) fun y hy => h y (by simp at hy ⊢; exact .inr hy)]
  · rename_i x name args ats hop
    rw [hop] at h
    simp only [Op.operands, Call.operands] at h
    rw [h x (by simp), opnds_congr (xs := args.toList) fun y hy => h y (by simp at hy ⊢; exact .inr hy)]
  · rename_i x args ats hop
    rw [hop] at h
    simp only [Op.operands, Call.operands] at h
    rw [h x (by simp), opnds_congr (xs := args.toList) fun y hy => h y (by simp at hy ⊢; exact .inr hy)]
  · rename_i x s hop
    rw [hop] at h
    simp only [Op.operands] at h
    rw [h x (by simp)]
  · rfl
theorem wanted_congr {ops : Array Oper} {ts ts' : List AV} {o : Oper} (h : ∀ t ∈ namesOf ops.toList o, ts.getD t AV.undef = ts'.getD t AV.undef) : wantedA ops ts o = wantedA ops ts' o := by
  unfold wantedA
  cases hg : o.guard with
  | none => rfl
  | some gw =>
    obtain ⟨g, b⟩ := gw
    simp only
    cases hd : (ops[g]?).bind (·.dst) with
    | none => rfl
    | some d =>
      simp only
      rw [h d (List.mem_append_right _ (by
        have : (ops.toList[g]?).bind (·.dst) = some d := by rw [← hd]; congr 1; exact Array.getElem?_toList
        rw [hg]
        simp only [this]
        exact List.mem_singleton_self d))]
theorem operand_congr {ops : List Oper} {ts ts' : List AV} {o : Oper} (h : ∀ t ∈ namesOf ops o, ts.getD t AV.undef = ts'.getD t AV.undef) : ∀ x ∈ o.op.operands.toList, opnd ts x = opnd ts' x := fun x hx =>
  opnd_congr fun t ht => h t (by
    subst ht
    exact List.mem_append_left _ (List.mem_filterMap.2 ⟨.tmp t, hx, rfl⟩))
end
end Go.Ev
