/- Symbolic walks are what the evaluator does. -/
import Derived.Test.YthodfojhbbendaaGreatDoorEvHc
set_option linter.all false
namespace Go.Ev
section
variable {C : Cfg} {ck : CK} {f : FuncId} {rounds N : Nat} {ro : Option Nat} {ops : Array Oper} {ts : List AV} {ov ov' : Tr AV} {s s' : OS} {v : AV} {P : Program}

theorem getO_ok (h : HasT N ov ts) {x : Operand} (hx : getO ov x = some v) : opnd ts x = some v := by
  cases x with
  | tmp t => simp only [opnd, h.2 t v hx]
  | const c => exact hx
  | global g => exact hx
  | func g => exact hx
theorem getOs_ok (h : HasT N ov ts) : ∀ {xs : List Operand} {vs : List AV}, getOs ov xs = some vs → opnds ts xs = some vs
  | [], _, hx => hx
  | x :: xs, vs, hx => by
    simp only [getOs, Option.bind_eq_some_iff, Option.some.injEq] at hx
    obtain ⟨a, h1, as, h2, rfl⟩ := hx
    simp only [opnds, getO_ok h h1, getOs_ok h h2, Option.bind_some]
theorem getD_setL (l : List AV) (i j : Nat) (v : AV) (h : i < l.length) : (l.set i v).getD j AV.undef = if j = i then v else l.getD j AV.undef := by
  simp only [List.getD_eq_getElem?_getD, List.getElem?_set]
  by_cases e : i = j
  · subst e; simp [h]
  · rw [if_neg e, if_neg (Ne.symm e)]
theorem HasT.set (h : HasT N ov ts) {d : Nat} (hd : d < N) (v : AV) : HasT N (ov.set v d) (ts.set d v) := by
  refine ⟨by simp [h.1], fun t u hu => ?_⟩
  rw [getD_setL _ _ _ _ (by rw [h.1]; exact hd)]
  rw [Tr.get_set] at hu
  split at hu
  · rw [if_pos ‹_›]; exact Option.some.inj hu
  · rw [if_neg ‹_›]; exact h.2 t u hu
theorem putO_ok (h : HasT N ov ts) {dst : Option Tmp} (hp : putO N ov dst v = some ov') : HasT N ov' (putT ts dst v) ∧ ∀ t, dst ≠ some t → (putT ts dst v).getD t AV.undef = ts.getD t AV.undef := by
  cases dst with
  | none =>
    simp only [putO, Option.some.injEq] at hp
    subst hp
    exact ⟨h, fun _ _ => rfl⟩
  | some d =>
    simp only [putO] at hp
    obtain ⟨h1, h2⟩ := cond_some hp
    have hd : d < N := by
      have h1' : d + 1 ≤ N := Nat.le_of_ble_eq_true h1
      exact h1'
    obtain rfl := Option.some.inj h2
    refine ⟨h.set hd v, fun t ht => ?_⟩
    show (ts.set d v).getD t AV.undef = _
    rw [getD_setL _ _ _ _ (by rw [h.1]; exact hd), if_neg (fun e => ht (by rw [e]))]
theorem wantedO_ok (h : HasT N ov ts) {o : Oper} {b : Bool} (hw : wantedO ops ov o = some b) : wantedA ops ts o = some b := by
  unfold wantedO at hw
  unfold wantedA
  cases hg : o.guard with
  | none => rw [hg] at hw; exact hw
  | some p =>
    obtain ⟨j, c⟩ := p
    rw [hg] at hw
    simp only at hw ⊢
    cases hd : (ops[j]?).bind (·.dst) with
    | none => rw [hd] at hw; cases hw
    | some d =>
      rw [hd] at hw
      simp only at hw ⊢
      cases hv : ov.get d with
      | none => rw [hv] at hw; cases hw
      | some v =>
        rw [h.2 _ _ hv]
        rw [hv] at hw
        cases v <;> first | exact hw | cases hw

def zipV : List (Nat × Operand) → List AV → List (Nat × AV)
  | (i, _) :: r, a :: as => (i, a) :: zipV r as
  | _, _ => []
theorem parts_zip : ∀ {ps : List (Nat × Operand)} {vs : List AV}, opnds ts (ps.map (·.2)) = some vs → parts? ts ps = some (zipV ps vs)
  | [], _, h => by rw [opnds_nil h]; rfl
  | (i, x) :: ps, _, h => by
    obtain ⟨v, vs', rfl, h1, h2⟩ := opnds_cons h
    simp only [parts?, h1, parts_zip h2, Option.bind_some, zipV]
theorem fill_cells (place : Nat → Option (Nat × Nat)) : ∀ (ps : List (Nat × Operand)) (vs : List AV) (cells : List AV), fillAV place cells (zipV ps vs) = fillC place cells (zipC ps (vs.map AV.cells))
  | [], _, _ => by simp [zipV, zipC, fillAV, fillC]
  | (i, x) :: ps, [], _ => by simp [zipV, zipC, fillAV, fillC]
  | (i, x) :: ps, v :: vs, cells => by
    simp only [zipV, zipC, List.map_cons, fillAV, fillC, fill_cells place ps vs]
theorem buildOp_cells {t : TypeId} (ps : List (Nat × Operand)) (vs : List AV) : buildOp P t (zipV ps vs) = buildC P t (zipC ps (vs.map AV.cells)) := by
  unfold buildOp buildC
  simp only [fill_cells]
  cases zero? P t with
  | none => rfl
  | some z =>
    cases P.underlying t with
    | none => rfl
    | some d => cases d <;> rfl

theorem plainO_ok {o : Oper} (hp : plainO C f o s = some (v, s')) (hc : AllP s'.cs) : AllP s.cs ∧ s'.ov = s.ov ∧ s'.ds = s.ds ∧ rnOk o.op = true ∧ ∀ ts, HasT N s.ov ts → aop C f ts s.st o = some (v, s'.st) := by
  unfold plainO at hp
  obtain ⟨hk, hp⟩ := cond_none hp
  simp only [Bool.not_eq_false'] at hk
  simp only [Option.bind_eq_some_iff] at hp
  obtain ⟨vs, hvs, hp⟩ := hp
  have key : ∀ ts, HasT N s.ov ts → aop C f vs s.st { o with op := rnOp o.op } = aop C f ts s.st o := fun ts ht => aop_rn hk (getOs_ok ht hvs)
  split at hp
  · simp only [Option.bind_eq_some_iff, Option.some.injEq, Prod.mk.injEq] at hp
    obtain ⟨r, h1, rfl, rfl⟩ := hp
    exact ⟨hc, rfl, rfl, hk, fun ts ht => by rw [← key ts ht, h1]⟩
  · simp only [Option.bind_eq_some_iff] at hp
    obtain ⟨r, h1, hp⟩ := hp
    split at hp
    · rename_i b hb
      simp only [Option.some.injEq, Prod.mk.injEq] at hp
      obtain ⟨rfl, rfl⟩ := hp
      have := hc.head
      subst this
      exact ⟨hc.tail, rfl, rfl, hk, fun ts ht => by rw [← key ts ht, h1, ← hb]⟩
    · cases hp
  · split at hp
    · rename_i ho
      simp only [Option.some.injEq, Prod.mk.injEq] at hp
      obtain ⟨rfl, rfl⟩ := hp
      have := hc.head
      refine ⟨hc.tail, rfl, rfl, hk, fun ts ht => ?_⟩
      rw [← key ts ht]
      unfold aop
      simp only [opKind_rn hk, ho, this, Option.bind_some]
    · rename_i ho
      simp only [Option.some.injEq, Prod.mk.injEq] at hp
      obtain ⟨rfl, rfl⟩ := hp
      have := hc.head
      refine ⟨hc.tail, rfl, rfl, hk, fun ts ht => ?_⟩
      rw [← key ts ht]
      unfold aop
      simp only [opKind_rn hk, ho, operands_rn hk (getOs_ok ht hvs), this, Option.bind_some]
    · cases hp
  · split at hp
    · rename_i t ps ho
      simp only [Option.bind_eq_some_iff, Option.some.injEq, Prod.mk.injEq] at hp
      obtain ⟨v1, h1, rfl, rfl⟩ := hp
      have := hc.head
      refine ⟨hc.tail, rfl, rfl, hk, fun ts ht => ?_⟩
      have h2 := getOs_ok ht hvs
      rw [ho] at h2
      unfold aop
      rw [ho]
      simp only [opKind, pureOp]
      rw [parts_zip (by simpa [Op.operands] using h2)]
      simp only [Option.bind_some]
      rw [buildOp_cells, this, h1]
      rfl
    · cases hp
  · split at hp
    · rename_i ho
      simp only [Option.some.injEq, Prod.mk.injEq] at hp
      obtain ⟨rfl, rfl⟩ := hp
      have := hc.head
      refine ⟨hc.tail, rfl, rfl, hk, fun ts ht => ?_⟩
      rw [← key ts ht]
      unfold aop
      simp only [opKind_rn hk, ho, this]
    · rename_i ho
      simp only [Option.some.injEq, Prod.mk.injEq] at hp
      obtain ⟨rfl, rfl⟩ := hp
      have := hc.head
      refine ⟨hc.tail, rfl, rfl, hk, fun ts ht => ?_⟩
      rw [← key ts ht]
      unfold aop
      simp only [opKind_rn hk, ho]
      rw [Option.bind_eq_some_iff]
      obtain ⟨a, h1, h2, h3⟩ := this
      exact ⟨a, h1, by rw [h2, h3]⟩
    · cases hp
  · cases hp

/-- A plain operation is done as it is. -/
theorem doOpK_plain {o : Oper} {st st' : St} (hk : rnOk o.op = true) (h : aop C f ts st o = some (v, st')) (k : AV → List ADefer → St → Bool) : doOpK C ck f ro ts st o k = k v [] st' := by
  unfold doOpK
  split
  · rename_i e; rw [e] at hk; cases hk
  · rename_i e; rw [e] at hk; cases hk
  · rename_i e; rw [e] at hk; cases hk
  · rename_i e; rw [e] at hk; cases hk
  · rw [h]

theorem doO_ok {o : Oper} (hp : doO C ck f ro o s = some (v, s')) (hc : AllP s'.cs) :
    AllP s.cs ∧ s'.ov = s.ov ∧ ∃ nd, s'.ds = nd ++ s.ds ∧ ∀ ts, HasT N s.ov ts → ∀ k, doOpK C ck f ro ts s.st o k = k v nd s'.st := by
  unfold doO at hp
  split at hp
  · rename_i x args tys e
    split at hp
    · rename_i v0 st0 hs0 e0
      simp only [Option.bind_eq_some_iff] at hp
      obtain ⟨fv, h1, as, h2, hp⟩ := hp
      split at hp
      · simp only [Option.some.injEq, Prod.mk.injEq] at hp
        obtain ⟨rfl, rfl⟩ := hp
        obtain ⟨p, hd⟩ := hc.head
        refine ⟨hc.tail, rfl, [], rfl, fun ts ht k => ?_⟩
        unfold doOpK
        rw [e]
        simp only [getO_ok ht h1, getOs_ok ht h2, hd]
      · simp only [Option.some.injEq, Prod.mk.injEq] at hp
        obtain ⟨rfl, rfl⟩ := hp
        obtain ⟨p, hd⟩ := hc.head
        refine ⟨hc.tail, rfl, [], rfl, fun ts ht k => ?_⟩
        unfold doOpK
        rw [e]
        simp only [getO_ok ht h1, getOs_ok ht h2, hd]
      · cases hp
    · cases hp
  · rename_i x name args tys e
    split at hp
    · rename_i v0 st0 hs0 e0
      simp only [Option.bind_eq_some_iff] at hp
      obtain ⟨fv, h1, as, h2, hp⟩ := hp
      split at hp
      · simp only [Option.bind_eq_some_iff] at hp
        obtain ⟨⟨g, r⟩, h3, hp⟩ := hp
        simp only [Option.some.injEq, Prod.mk.injEq] at hp
        obtain ⟨rfl, rfl⟩ := hp
        obtain ⟨p, hd⟩ := hc.head
        refine ⟨hc.tail, rfl, [], rfl, fun ts ht k => ?_⟩
        unfold doOpK
        rw [e]
        simp only [getO_ok ht h1, getOs_ok ht h2, h3, hd]
      · cases hp
    · cases hp
  · rename_i x args tys e
    obtain ⟨hro, hp⟩ := cond_none hp
    simp only [Option.bind_eq_some_iff] at hp
    obtain ⟨fv, h1, ks, h2, hp⟩ := hp
    split at hp
    · simp only [Option.some.injEq, Prod.mk.injEq] at hp
      obtain ⟨rfl, rfl⟩ := hp
      refine ⟨hc, rfl, [_], rfl, fun ts ht k => ?_⟩
      unfold doOpK
      rw [e]
      simp only [hro, cond_false, getO_ok ht h1, getOs_ok ht h2]
    · cases hp
  · cases hp
  · cases hp
  · obtain ⟨h1, h2, h5, h3, h4⟩ := plainO_ok hp hc
    exact ⟨h1, h2, [], h5, fun ts ht k => doOpK_plain h3 (h4 ts ht) k⟩

theorem stepO_ok {o : Oper} (hp : stepO C ck f ro N ops o s = some s') (hc : AllP s'.cs) :
    AllP s.cs ∧ ∀ ts ds, HasT N s.ov ts → ∃ ts', HasT N s'.ov ts' ∧ (∀ t, o.dst ≠ some t → ts'.getD t AV.undef = ts.getD t AV.undef) ∧ ∀ k, opStepK C ck f ro ops o ⟨ts, s.ds ++ ds, s.st⟩ k = k ⟨ts', s'.ds ++ ds, s'.st⟩ := by
  unfold stepO at hp
  simp only [Option.bind_eq_some_iff] at hp
  obtain ⟨w, hw, hp⟩ := hp
  cases w with
  | true =>
    simp only [Option.bind_eq_some_iff, Option.some.injEq] at hp
    obtain ⟨⟨v, s1⟩, h1, ov, h2, rfl⟩ := hp
    obtain ⟨k1, k2, nd, k4, k3⟩ := doO_ok (ro := ro) (N := N) h1 hc
    refine ⟨k1, fun ts ds ht => ?_⟩
    simp only [k2] at h2
    obtain ⟨p1, p2⟩ := putO_ok ht h2
    refine ⟨_, p1, p2, fun k => ?_⟩
    unfold opStepK
    simp only [wantedO_ok ht hw, k3 ts ht]
    have e4 : s1.ds = nd ++ s.ds := k4
    simp only [e4, List.append_assoc]
  | false =>
    simp only [Option.bind_eq_some_iff, Option.some.injEq] at hp
    obtain ⟨ov, h2, rfl⟩ := hp
    refine ⟨hc, fun ts ds ht => ?_⟩
    obtain ⟨p1, p2⟩ := putO_ok ht h2
    refine ⟨_, p1, p2, fun k => ?_⟩
    unfold opStepK
    simp only [wantedO_ok ht hw]

theorem hasN_false {l : List Nat} {n : Nat} (h : hasN l n = false) : n ∉ l := by
  intro hm
  have : hasN l n = true := List.any_eq_true.2 ⟨n, hm, by simp⟩
  rw [this] at h; cases h
theorem hasN_of_not {l : List Nat} {n : Nat} (h : n ∉ l) : hasN l n = false := by
  cases e : hasN l n with
  | false => rfl
  | true =>
    obtain ⟨m, h1, h2⟩ := List.any_eq_true.1 e
    have : n = m := by have : m = n := by simpa using h2
                       exact this.symm
    subst this
    exact absurd h1 h
theorem modsOps_mem {o : Oper} {t : Nat} : ∀ {l : List Oper}, o ∈ l → o.dst = some t → t ∈ modsOps l
  | a :: l, hm, ht => by
    unfold modsOps
    rcases List.mem_cons.1 hm with rfl | hm
    · rw [ht]; exact List.mem_cons_self
    · split
      · exact List.mem_cons_of_mem _ (modsOps_mem hm ht)
      · exact modsOps_mem hm ht

theorem opsO_ok : ∀ {l : List Oper} {s s' : OS}, opsO C ck f ro N ops l s = some s' → AllP s'.cs →
    AllP s.cs ∧ ∀ ts ds, HasT N s.ov ts → ∃ ts', HasT N s'.ov ts' ∧ (∀ t, t ∉ modsOps l → ts'.getD t AV.undef = ts.getD t AV.undef) ∧ ∀ k, opsSeqK C ck f ro ops l ⟨ts, s.ds ++ ds, s.st⟩ k = k ⟨ts', s'.ds ++ ds, s'.st⟩
  | [], s, s', hp, hc => by
    simp only [opsO, Option.some.injEq] at hp
    subst hp
    exact ⟨hc, fun ts ds ht => ⟨ts, ht, fun _ _ => rfl, fun k => rfl⟩⟩
  | o :: l, s, s', hp, hc => by
    simp only [opsO, Option.bind_eq_some_iff] at hp
    obtain ⟨s1, h1, h2⟩ := hp
    obtain ⟨c1, k2⟩ := opsO_ok h2 hc
    obtain ⟨c0, k1⟩ := stepO_ok (ro := ro) h1 c1
    refine ⟨c0, fun ts ds ht => ?_⟩
    obtain ⟨ts1, t1, p1, e1⟩ := k1 ts ds ht
    obtain ⟨ts2, t2, p2, e2⟩ := k2 ts1 ds t1
    refine ⟨ts2, t2, fun t hm => ?_, fun k => ?_⟩
    · rw [p2 t (fun h => hm (by unfold modsOps; split <;> simp [h])), p1 t (fun h => hm (modsOps_mem List.mem_cons_self h))]
    · simp only [opsSeqK, e1, e2]

theorem askRds_ok {st : St} : ∀ {rd : List Rd} {cs : List Prop}, AllP (askRds P st rd cs) → AllP cs ∧ rd.all (sameRd P st) = true
  | [], _, h => ⟨h, rfl⟩
  | r :: rd, cs, h => by
    obtain ⟨h1, h2⟩ := askRds_ok h.tail
    obtain ⟨h3, h4⟩ := h.head
    refine ⟨h1, ?_⟩
    simp only [List.all_cons, h2, Bool.and_true, sameRd, h3, h4]

theorem rdO_ok (h : HasT N ov ts) {vs : List AV} {o : Oper} (hv : getOs ov o.op.operands.toList = some vs) (i : Nat) (v : AV) : rdO P ov i o v = rdOf P ts i o v := by
  unfold rdO rdOf
  rw [hv, getOs_ok h hv]
  cases opKind P o.op <;> rfl
theorem plainO_getOs {o : Oper} (hp : plainO C f o s = some (v, s')) : ∃ vs, getOs s.ov o.op.operands.toList = some vs := by
  unfold plainO at hp
  obtain ⟨hk, hp⟩ := cond_none hp
  simp only [Option.bind_eq_some_iff] at hp
  obtain ⟨vs, hvs, _⟩ := hp
  exact ⟨vs, hvs⟩

theorem planO_ok : ∀ {l : List PStep} {rd : List Rd} {s s' : OS}, planO C ck f ro N ops l rd s = some s' → AllP s'.cs →
    AllP s.cs ∧ ∀ ts ds, HasT N s.ov ts → ∃ ts', HasT N s'.ov ts' ∧ (∀ t, (∀ p ∈ l, p.o.dst ≠ some t) → ts'.getD t AV.undef = ts.getD t AV.undef) ∧ ∀ k, runPlanK C ck f ro ops l rd ⟨ts, s.ds ++ ds, s.st⟩ k = k ⟨ts', s'.ds ++ ds, s'.st⟩
  | [], rd, s, s', hp, hc => by
    simp only [planO, Option.some.injEq] at hp
    subst hp
    exact ⟨hc, fun ts ds ht => ⟨ts, ht, fun _ _ => rfl, fun k => rfl⟩⟩
  | p :: l, rd, s, s', hp, hc => by
    simp only [planO, Option.bind_eq_some_iff] at hp
    obtain ⟨w, hw, hp⟩ := hp
    cases w with
    | false =>
      simp only [Option.bind_eq_some_iff] at hp
      obtain ⟨ov, h1, h2⟩ := hp
      obtain ⟨c1, k2⟩ := planO_ok h2 hc
      refine ⟨c1, fun ts ds ht => ?_⟩
      obtain ⟨p1, p2⟩ := putO_ok ht h1
      obtain ⟨ts2, t2, q2, e2⟩ := k2 _ ds p1
      refine ⟨ts2, t2, fun t hm => ?_, fun k => ?_⟩
      · rw [q2 t (fun x hx => hm x (List.mem_cons_of_mem _ hx)), p2 t (hm p List.mem_cons_self)]
      · unfold runPlanK
        simp only [wantedO_ok ht hw, e2]
    | true =>
      simp only at hp
      split at hp
      · rename_i he
        simp only [Option.bind_eq_some_iff] at hp
        obtain ⟨⟨v, s1⟩, h1, ov, h2, h3⟩ := hp
        obtain ⟨c1, k2⟩ := planO_ok h3 hc
        obtain ⟨c0, e0, e5, _, k1⟩ := plainO_ok (N := N) h1 c1
        refine ⟨c0, fun ts ds ht => ?_⟩
        simp only [e0] at h2
        obtain ⟨p1, p2⟩ := putO_ok ht h2
        obtain ⟨ts2, t2, q2, e2⟩ := k2 _ ds p1
        refine ⟨ts2, t2, fun t hm => ?_, fun k => ?_⟩
        · rw [q2 t (fun x hx => hm x (List.mem_cons_of_mem _ hx)), p2 t (hm p List.mem_cons_self)]
        · obtain ⟨vs, hvs⟩ := plainO_getOs h1
          rw [rdO_ok ht hvs] at e2
          have e5 : s1.ds = s.ds := e5
          simp only [e5] at e2
          unfold runPlanK
          simp only [wantedO_ok ht hw, he, k1 ts ht, e2]
      · rename_i he
        simp only [Option.bind_eq_some_iff] at hp
        obtain ⟨⟨v, s1⟩, h1, ov, h2, h3⟩ := hp
        obtain ⟨c1, k2⟩ := planO_ok h3 hc
        obtain ⟨c1, hr⟩ := askRds_ok c1
        obtain ⟨c0, e0, nd, e5, k1⟩ := doO_ok (ro := ro) (N := N) h1 c1
        refine ⟨c0, fun ts ds ht => ?_⟩
        simp only [e0] at h2
        obtain ⟨p1, p2⟩ := putO_ok ht h2
        obtain ⟨ts2, t2, q2, e2⟩ := k2 _ ds p1
        refine ⟨ts2, t2, fun t hm => ?_, fun k => ?_⟩
        · rw [q2 t (fun x hx => hm x (List.mem_cons_of_mem _ hx)), p2 t (hm p List.mem_cons_self)]
        · unfold runPlanK
          have e5 : s1.ds = nd ++ s.ds := e5
          simp only [e5, List.append_assoc] at e2
          simp only [wantedO_ok ht hw, he, k1 ts ht, hr, cond_true]
          exact e2 k

theorem pickO_ok (h : HasT N ov ts) : ∀ {l : List Nat} {outs : List (Nat × AV)}, pickO ov l = some outs → Has N outs ts
  | [], _, hp => by
    simp only [pickO, Option.some.injEq] at hp
    subst hp
    exact ⟨h.1, fun _ hm => by cases hm⟩
  | t :: l, outs, hp => by
    simp only [pickO, Option.bind_eq_some_iff, Option.some.injEq] at hp
    obtain ⟨v, h1, l', h2, rfl⟩ := hp
    have h3 := pickO_ok h h2
    refine ⟨h.1, fun p hm => ?_⟩
    rcases List.mem_cons.1 hm with rfl | hm
    · exact h.2 t v h1
    · exact h3.2 p hm
theorem delT_get : ∀ (o : Tr AV) (n m : Nat), (delT o n).get m = if m = n then none else o.get m
  | .leaf, n, m => by simp [delT, Tr.get]
  | .node l v r, n, m => by
    simp only [delT, cond_beq]
    by_cases h0 : n = 0
    · subst h0
      simp only [if_true, Tr.get, cond_beq]
      by_cases hm : m = 0 <;> simp [hm]
    · rw [if_neg h0]
      by_cases h1 : n % 2 = 1
      · rw [if_pos h1]
        simp only [Tr.get, cond_beq, delT_get l]
        by_cases hm : m = 0
        · subst hm; rw [if_pos rfl, if_pos rfl, if_neg (by omega)]
        · rw [if_neg hm, if_neg hm]
          by_cases hm1 : m % 2 = 1
          · rw [if_pos hm1, if_pos hm1]
            by_cases e : m = n
            · subst e; simp
            · rw [if_neg e, if_neg (by omega)]
          · rw [if_neg hm1, if_neg hm1, if_neg (by omega)]
      · rw [if_neg h1]
        simp only [Tr.get, cond_beq, delT_get r]
        by_cases hm : m = 0
        · subst hm; rw [if_pos rfl, if_pos rfl, if_neg (by omega)]
        · rw [if_neg hm, if_neg hm]
          by_cases hm1 : m % 2 = 1
          · rw [if_pos hm1, if_pos hm1, if_neg (by omega)]
          · rw [if_neg hm1, if_neg hm1]
            by_cases e : m = n
            · subst e; simp
            · rw [if_neg e, if_neg (by omega)]
theorem delTs_get : ∀ (l : List Nat) (o : Tr AV) (m : Nat), (delTs o l).get m = if m ∈ l then none else o.get m
  | [], o, m => by simp [delTs]
  | t :: l, o, m => by
    simp only [delTs, delTs_get l, delT_get, List.mem_cons]
    by_cases h1 : m ∈ l <;> by_cases h2 : m = t <;> simp [h1, h2]
theorem setTs_ok : ∀ {l : List (Nat × AV)} {o o' : Tr AV}, setTs N o l = some o' → ∀ t v, o'.get t = some v → (∃ p ∈ l, p = (t, v)) ∨ o.get t = some v
  | [], o, o', h, t, v, hv => by
    simp only [setTs, Option.some.injEq] at h
    subst h
    exact .inr hv
  | (a, u) :: l, o, o', h, t, v, hv => by
    simp only [setTs] at h
    obtain ⟨_, h⟩ := cond_some h
    rcases setTs_ok h t v hv with ⟨p, h1, h2⟩ | h3
    · exact .inl ⟨p, List.mem_cons_of_mem _ h1, h2⟩
    · rw [Tr.get_set] at h3
      split at h3
      · rename_i e
        subst e
        exact .inl ⟨_, List.mem_cons_self, by rw [Option.some.inj h3]⟩
      · exact .inr h3
theorem Has.toT {l : List (Nat × AV)} (h : Has N l ts) (hs : setTs N .leaf l = some ov) : HasT N ov ts :=
  ⟨h.1, fun t v hv => by
    rcases setTs_ok hs t v hv with ⟨p, h1, rfl⟩ | h2
    · exact h.2 _ h1
    · cases h2⟩

theorem absO_ok {run : Fr → (AExit → Fr → Bool) → Bool} {mods ins : List Nat} {e e' : AExit} {outs : List (Nat × AV)} {st' : St} {hs : List Hint}
    (hp : absO N run mods ins e outs st' hs s = some (e', s')) (hc : AllP s'.cs) :
    AllP s.cs ∧ ∀ ts ds, HasT N s.ov ts → ∃ ts', HasT N s'.ov ts' ∧ (∀ t, t ∉ mods → ts'.getD t AV.undef = ts.getD t AV.undef) ∧ ∀ k, run ⟨ts, s.ds ++ ds, s.st⟩ k = k e' ⟨ts', s'.ds ++ ds, s'.st⟩ := by
  simp only [absO, Option.bind_eq_some_iff, Option.some.injEq, Prod.mk.injEq] at hp
  obtain ⟨l, h1, ov, h2, rfl, rfl⟩ := hp
  refine ⟨hc.tail, fun ts ds ht => ?_⟩
  obtain ⟨ts', k1, k2, k3⟩ := hc.head ts (s.ds ++ ds) (pickO_ok ht h1)
  refine ⟨ts', ⟨k1.1, fun t v hv => ?_⟩, fun t ht' => k2 t (hasN_of_not ht'), k3⟩
  rcases setTs_ok h2 t v hv with ⟨p, h3, rfl⟩ | h3
  · exact k1.2 _ h3
  · rw [delTs_get] at h3
    split at h3
    · cases h3
    · rename_i hm
      rw [k2 t (hasN_of_not hm)]
      exact ht.2 t v h3

theorem planGo_mem {P : Program} {ol : List Oper} {befs : List Nat} : ∀ {n mask : Nat} {l : List PStep}, planGo P ol befs n mask = some l → ∀ p ∈ l, p.o ∈ ol := by
  have rd_mem : ∀ {os : List Oper} {i mask : Nat} {x : Nat × Oper}, x ∈ readies ol mask os i → x.2 ∈ os := by
    intro os
    induction os with
    | nil => intro i mask x h; cases h
    | cons a os ih =>
      intro i mask x h
      simp only [readies] at h
      cases hc : readyA ol mask i a with
      | true =>
        rw [hc] at h
        simp only [cond_true] at h
        rcases List.mem_cons.1 h with rfl | h
        · exact List.mem_cons_self
        · exact List.mem_cons_of_mem _ (ih h)
      | false =>
        rw [hc] at h
        exact List.mem_cons_of_mem _ (ih h)
  intro n
  induction n with
  | zero =>
    intro mask l h p hp
    simp only [planGo] at h
    split at h
    · obtain rfl := Option.some.inj h; cases hp
    · cases h
  | succ n ih =>
    intro mask l h p hp
    simp only [planGo] at h
    split at h
    · rename_i i o e
      simp only [Option.bind_eq_some_iff, Option.some.injEq] at h
      obtain ⟨l', h1, rfl⟩ := h
      rcases List.mem_cons.1 hp with rfl | hp
      · exact rd_mem (List.mem_of_find?_eq_some e)
      · exact ih h1 p hp
    · obtain rfl := Option.some.inj h; cases hp
    · rename_i i o e1 e2
      simp only [Option.bind_eq_some_iff, Option.some.injEq] at h
      obtain ⟨l', h1, rfl⟩ := h
      rcases List.mem_cons.1 hp with rfl | hp
      · have : (i, o) ∈ readies ol mask ol 0 := by rw [e2]; exact List.mem_cons_self
        exact rd_mem this
      · exact ih h1 p hp
    · cases h
theorem plan_mem {P : Program} {l : List PStep} (h : plan P ops = some l) : ∀ p ∈ l, p.o ∈ ops.toList := by
  unfold plan at h
  simp only at h
  exact planGo_mem (cond_some h).2

theorem execO_ok : ∀ {c : Code} {s : OS} {e : AExit} {s' : OS}, execO C ck f rounds ro N c s = some (e, s') → AllP s'.cs →
    AllP s.cs ∧ ∀ ts ds, HasT N s.ov ts → ∃ ts', HasT N s'.ov ts' ∧ (∀ t, t ∉ modsOf c → ts'.getD t AV.undef = ts.getD t AV.undef) ∧ ∀ k, execK C ck f rounds ro c ⟨ts, s.ds ++ ds, s.st⟩ k = k e ⟨ts', s'.ds ++ ds, s'.st⟩ := by
  intro c
  induction c with
  | skip =>
    intro s e s' h hc
    simp only [execO, Option.some.injEq, Prod.mk.injEq] at h
    obtain ⟨rfl, rfl⟩ := h
    exact ⟨hc, fun ts ds ht => ⟨ts, ht, fun _ _ => rfl, fun k => rfl⟩⟩
  | region id ops draw =>
    intro s e s' h hc
    have plain : ∀ {s0 : OS}, s0 = s → regO C ck f ro N ops draw s0 = some (e, s') →
        AllP s.cs ∧ ∀ ts ds, HasT N s.ov ts → ∃ ts', HasT N s'.ov ts' ∧ (∀ t, t ∉ modsOf (.region id ops draw) → ts'.getD t AV.undef = ts.getD t AV.undef) ∧ ∀ k, execK C ck f rounds ro (.region id ops draw) ⟨ts, s.ds ++ ds, s.st⟩ k = k e ⟨ts', s'.ds ++ ds, s'.st⟩ := by
      intro s0 e0 hh
      subst e0
      cases draw with
      | false =>
        simp only [regO, Option.bind_eq_some_iff, Option.some.injEq, Prod.mk.injEq] at hh
        obtain ⟨s1, h1, rfl, rfl⟩ := hh
        obtain ⟨c0, k1⟩ := opsO_ok (ro := ro) h1 hc
        refine ⟨c0, fun ts ds ht => ?_⟩
        obtain ⟨ts1, t1, p1, e1⟩ := k1 ts ds ht
        exact ⟨ts1, t1, p1, fun k => by simp only [execK, e1]⟩
      | true =>
        simp only [regO, Option.bind_eq_some_iff, Option.some.injEq, Prod.mk.injEq] at hh
        obtain ⟨l, h0, s1, h1, rfl, rfl⟩ := hh
        obtain ⟨c0, k1⟩ := planO_ok (ro := ro) h1 hc
        refine ⟨c0, fun ts ds ht => ?_⟩
        obtain ⟨ts1, t1, p1, e1⟩ := k1 ts ds ht
        exact ⟨ts1, t1, fun t hm => p1 t fun p hp hd => hm (modsOps_mem (plan_mem h0 p hp) hd), fun k => by simp only [execK, h0, e1]⟩
    simp only [execO] at h
    split at h
    · exact absO_ok h hc
    · exact plain rfl h
  | seq a b iha ihb =>
    intro s e s' h hc
    simp only [execO, Option.bind_eq_some_iff] at h
    obtain ⟨⟨e1, s1⟩, h1, h⟩ := h
    cases e1 with
    | normal =>
      simp only at h
      obtain ⟨c1, k2⟩ := ihb h hc
      obtain ⟨c0, k1⟩ := iha h1 c1
      refine ⟨c0, fun ts ds ht => ?_⟩
      obtain ⟨ts1, t1, p1, e1⟩ := k1 ts ds ht
      obtain ⟨ts2, t2, p2, e2⟩ := k2 ts1 ds t1
      refine ⟨ts2, t2, fun t hm => ?_, fun k => by simp only [execK, e1, e2]⟩
      simp only [modsOf, List.mem_append, not_or] at hm
      rw [p2 t hm.2, p1 t hm.1]
    | exit i =>
      simp only [Option.some.injEq, Prod.mk.injEq] at h
      obtain ⟨rfl, rfl⟩ := h
      obtain ⟨c0, k1⟩ := iha h1 hc
      refine ⟨c0, fun ts ds ht => ?_⟩
      obtain ⟨ts1, t1, p1, e1⟩ := k1 ts ds ht
      refine ⟨ts1, t1, fun t hm => ?_, fun k => by simp only [execK, e1]⟩
      simp only [modsOf, List.mem_append, not_or] at hm
      exact p1 t hm.1
    | ret =>
      simp only [Option.some.injEq, Prod.mk.injEq] at h
      obtain ⟨rfl, rfl⟩ := h
      obtain ⟨c0, k1⟩ := iha h1 hc
      refine ⟨c0, fun ts ds ht => ?_⟩
      obtain ⟨ts1, t1, p1, e1⟩ := k1 ts ds ht
      refine ⟨ts1, t1, fun t hm => ?_, fun k => by simp only [execK, e1]⟩
      simp only [modsOf, List.mem_append, not_or] at hm
      exact p1 t hm.1
  | cond c a b iha ihb =>
    intro s e s' h hc
    have yes : ∀ {s0 : OS}, execO C ck f rounds ro N a s0 = some (e, s') → s0.ov = s.ov → s0.st = s.st → s0.ds = s.ds → AllP s0.cs = AllP s.cs → getO s.ov c = some (.bool true) →
        AllP s.cs ∧ ∀ ts ds, HasT N s.ov ts → ∃ ts', HasT N s'.ov ts' ∧ (∀ t, t ∉ modsOf (.cond c a b) → ts'.getD t AV.undef = ts.getD t AV.undef) ∧ ∀ k, execK C ck f rounds ro (.cond c a b) ⟨ts, s.ds ++ ds, s.st⟩ k = k e ⟨ts', s'.ds ++ ds, s'.st⟩ := by
      intro s0 h g1 g2 g4 g3 hg
      obtain ⟨c0, k1⟩ := iha h hc
      rw [g3] at c0
      rw [g1, g2, g4] at k1
      refine ⟨c0, fun ts ds ht => ?_⟩
      obtain ⟨ts1, t1, p1, e1⟩ := k1 ts ds ht
      refine ⟨ts1, t1, fun t hm => ?_, fun k => by simp only [execK, getO_ok ht hg, e1]⟩
      simp only [modsOf, List.mem_append, not_or] at hm
      exact p1 t hm.1
    have no : ∀ {s0 : OS}, execO C ck f rounds ro N b s0 = some (e, s') → s0.ov = s.ov → s0.st = s.st → s0.ds = s.ds → AllP s0.cs = AllP s.cs → getO s.ov c = some (.bool false) →
        AllP s.cs ∧ ∀ ts ds, HasT N s.ov ts → ∃ ts', HasT N s'.ov ts' ∧ (∀ t, t ∉ modsOf (.cond c a b) → ts'.getD t AV.undef = ts.getD t AV.undef) ∧ ∀ k, execK C ck f rounds ro (.cond c a b) ⟨ts, s.ds ++ ds, s.st⟩ k = k e ⟨ts', s'.ds ++ ds, s'.st⟩ := by
      intro s0 h g1 g2 g4 g3 hg
      obtain ⟨c0, k1⟩ := ihb h hc
      rw [g3] at c0
      rw [g1, g2, g4] at k1
      refine ⟨c0, fun ts ds ht => ?_⟩
      obtain ⟨ts1, t1, p1, e1⟩ := k1 ts ds ht
      refine ⟨ts1, t1, fun t hm => ?_, fun k => by simp only [execK, getO_ok ht hg, e1]⟩
      simp only [modsOf, List.mem_append, not_or] at hm
      exact p1 t hm.2
    simp only [execO] at h
    split at h
    · exact absO_ok h hc
    · split at h
      · exact yes h rfl rfl rfl rfl ‹_›
      · exact no h rfl rfl rfl rfl ‹_›
      · cases h
    · split at h
      · exact yes h rfl rfl rfl rfl ‹_›
      · exact no h rfl rfl rfl rfl ‹_›
      · cases h
  | block id b ih =>
    intro s e s' h hc
    have core : ∀ {s0 : OS}, ((execO C ck f rounds ro N b s0).bind fun r => match r.1 with
        | .exit i => some (cond (Nat.beq i id) .normal (.exit i), r.2)
        | e => some (e, r.2)) = some (e, s') → s0.ov = s.ov → s0.st = s.st → s0.ds = s.ds → s0.cs = s.cs →
        AllP s.cs ∧ ∀ ts ds, HasT N s.ov ts → ∃ ts', HasT N s'.ov ts' ∧ (∀ t, t ∉ modsOf (.block id b) → ts'.getD t AV.undef = ts.getD t AV.undef) ∧ ∀ k, execK C ck f rounds ro (.block id b) ⟨ts, s.ds ++ ds, s.st⟩ k = k e ⟨ts', s'.ds ++ ds, s'.st⟩ := by
      intro s0 h g1 g2 g3 g4
      simp only [Option.bind_eq_some_iff] at h
      obtain ⟨⟨e1, s1⟩, h1, h⟩ := h
      cases e1 with
      | normal =>
        simp only [Option.some.injEq, Prod.mk.injEq] at h
        obtain ⟨rfl, rfl⟩ := h
        obtain ⟨c0, k1⟩ := ih h1 hc
        rw [g4] at c0
        rw [g1, g2, g3] at k1
        refine ⟨c0, fun ts ds ht => ?_⟩
        obtain ⟨ts1, t1, p1, e1⟩ := k1 ts ds ht
        exact ⟨ts1, t1, p1, fun k => by simp only [execK, e1]⟩
      | exit i =>
        simp only [Option.some.injEq, Prod.mk.injEq] at h
        obtain ⟨rfl, rfl⟩ := h
        obtain ⟨c0, k1⟩ := ih h1 hc
        rw [g4] at c0
        rw [g1, g2, g3] at k1
        refine ⟨c0, fun ts ds ht => ?_⟩
        obtain ⟨ts1, t1, p1, e1⟩ := k1 ts ds ht
        refine ⟨ts1, t1, p1, fun k => ?_⟩
        simp only [execK, e1]
        cases Nat.beq i id <;> rfl
      | ret =>
        simp only [Option.some.injEq, Prod.mk.injEq] at h
        obtain ⟨rfl, rfl⟩ := h
        obtain ⟨c0, k1⟩ := ih h1 hc
        rw [g4] at c0
        rw [g1, g2, g3] at k1
        refine ⟨c0, fun ts ds ht => ?_⟩
        obtain ⟨ts1, t1, p1, e1⟩ := k1 ts ds ht
        exact ⟨ts1, t1, p1, fun k => by simp only [execK, e1]⟩
    simp only [execO] at h
    split at h
    · exact absO_ok h hc
    · exact core h rfl rfl rfl rfl
    · exact core h rfl rfl rfl rfl
  | loop b ih =>
    intro s e s' h hc
    simp only [execO] at h
    split at h
    · exact absO_ok h hc
    · cases h
  | exit id =>
    intro s e s' h hc
    simp only [execO, Option.some.injEq, Prod.mk.injEq] at h
    obtain ⟨rfl, rfl⟩ := h
    exact ⟨hc, fun ts ds ht => ⟨ts, ht, fun _ _ => rfl, fun k => rfl⟩⟩
  | label l =>
    intro s e s' h hc
    simp only [execO, Option.some.injEq, Prod.mk.injEq] at h
    obtain ⟨rfl, rfl⟩ := h
    exact ⟨hc, fun ts ds ht => ⟨ts, ht, fun _ _ => rfl, fun k => rfl⟩⟩
  | scope b ih =>
    intro s e s' h hc
    simp only [execO] at h
    obtain ⟨c0, k1⟩ := ih h hc
    refine ⟨c0, fun ts ds ht => ?_⟩
    obtain ⟨ts1, t1, p1, e1⟩ := k1 ts ds ht
    exact ⟨ts1, t1, p1, fun k => by simp only [execK, e1]⟩
  | ret =>
    intro s e s' h hc
    simp only [execO, Option.some.injEq, Prod.mk.injEq] at h
    obtain ⟨rfl, rfl⟩ := h
    exact ⟨hc, fun ts ds ht => ⟨ts, ht, fun _ _ => rfl, fun k => rfl⟩⟩
  | _ => intro s e s' h hc; simp only [execO] at h; cases h

/-- A walk from what is known to what is wanted. -/
theorem runO_ok {c : Code} {hs : List Hint} {ins : List (Nat × AV)} {st st' : St} {want : List Nat} {cs : List Prop} {e : AExit} {outs : List (Nat × AV)}
    (h : runO C ck f rounds ro N c hs ins st want = some (cs, e, outs, st')) (hc : AllP cs) : Leads N (execK C ck f rounds ro c) (modsOf c) ins st e outs st' := by
  simp only [runO, Option.bind_eq_some_iff, Option.some.injEq, Prod.mk.injEq] at h
  obtain ⟨ov, h1, ⟨e1, s1⟩, h2, h⟩ := h
  obtain ⟨hde, h⟩ := cond_none h
  have hde : s1.ds = [] := by simpa using hde
  simp only [Option.bind_eq_some_iff, Option.some.injEq, Prod.mk.injEq] at h
  obtain ⟨outs1, h3, rfl, rfl, rfl, rfl⟩ := h
  obtain ⟨_, k1⟩ := execO_ok h2 hc
  intro ts ds ht
  obtain ⟨ts1, t1, p1, e1⟩ := k1 ts ds (ht.toT h1)
  simp only [hde, List.nil_append] at e1
  exact ⟨ts1, pickO_ok t1 h3, fun t hm => p1 t (hasN_false hm), e1⟩

theorem resO_ok {r : ResultVar} (hp : resO P s r = some (v, s')) (hc : AllP s'.cs) : AllP s.cs ∧ s'.ov = s.ov ∧ s'.st = s.st ∧ ∀ ts, HasT N s.ov ts → resultOf P ts s.st r = some v := by
  cases r with
  | tmp t =>
    simp only [resO, Option.bind_eq_some_iff, Option.some.injEq, Prod.mk.injEq] at hp
    obtain ⟨u, h1, rfl, rfl⟩ := hp
    exact ⟨hc, rfl, rfl, fun ts ht => by simp only [resultOf, ht.2 t _ h1]⟩
  | cell a t =>
    simp only [resO, Option.bind_eq_some_iff] at hp
    obtain ⟨p, h1, hp⟩ := hp
    split at hp
    · simp only [Option.some.injEq, Prod.mk.injEq] at hp
      obtain ⟨rfl, rfl⟩ := hp
      have := hc.head
      exact ⟨hc.tail, rfl, rfl, fun ts ht => by simp only [resultOf, ht.2 a _ h1, this]⟩
    · simp only [Option.bind_eq_some_iff, Option.some.injEq, Prod.mk.injEq] at hp
      obtain ⟨u, h2, rfl, rfl⟩ := hp
      exact ⟨hc, rfl, rfl, fun ts ht => by simp only [resultOf, ht.2 a _ h1, h2]⟩
theorem ressO_ok : ∀ {rs : List ResultVar} {vs : List AV} {s s' : OS}, ressO P s rs = some (vs, s') → AllP s'.cs → AllP s.cs ∧ s'.ov = s.ov ∧ s'.st = s.st ∧ ∀ ts, HasT N s.ov ts → resultsOf P ts s.st rs = some vs
  | [], vs, s, s', hp, hc => by
    simp only [ressO, Option.some.injEq, Prod.mk.injEq] at hp
    obtain ⟨rfl, rfl⟩ := hp
    exact ⟨hc, rfl, rfl, fun _ _ => rfl⟩
  | r :: rs, vs, s, s', hp, hc => by
    simp only [ressO, Option.bind_eq_some_iff, Option.some.injEq, Prod.mk.injEq] at hp
    obtain ⟨⟨v, s1⟩, h1, ⟨ws, s2⟩, h2, rfl, rfl⟩ := hp
    obtain ⟨c1, e1, e2, k2⟩ := ressO_ok h2 hc
    obtain ⟨c0, e3, e4, k1⟩ := resO_ok (N := N) h1 c1
    simp only at e1 e2 e3 e4 k1 k2
    refine ⟨c0, e1.trans e3, e2.trans e4, fun ts ht => ?_⟩
    have h3 := k2 ts (by rw [e3]; exact ht)
    rw [e4] at h3
    simp only [resultsOf, k1 ts ht, h3, Option.bind_some]
theorem args_has : ∀ (args pre post : List AV), Has (pre ++ args ++ post).length (argsO pre.length args) (pre ++ args ++ post)
  | [], pre, post => ⟨rfl, fun _ h => by cases h⟩
  | a :: args, pre, post => by
    have h := args_has args (pre ++ [a]) post
    simp only [List.append_assoc, List.singleton_append, List.length_append, List.length_cons, List.length_nil, Nat.zero_add, List.cons_append] at h ⊢
    refine ⟨by simp, fun p hm => ?_⟩
    rcases List.mem_cons.1 hm with rfl | hm
    · simp [List.getD]
    · exact h.2 p hm

theorem defO_ok : ∀ {ds : List ADefer} {s s' : OS}, defO ck ds s = some s' → AllP s'.cs → AllP s.cs ∧ s'.ov = s.ov ∧ ∀ k, runDefersK ck ds s.st k = k s'.st
  | [], s, s', h, hc => by
    simp only [defO, Option.some.injEq] at h
    subst h
    exact ⟨hc, rfl, fun k => rfl⟩
  | .mark _ :: ds, s, s', h, hc => by simp only [defO] at h; cases h
  | .call g ks :: ds, s, s', h, hc => by
    simp only [defO] at h
    split at h
    · obtain ⟨c1, e1, k1⟩ := defO_ok h hc
      refine ⟨c1.tail, e1, fun k => ?_⟩
      have := c1.head
      simp only [CallsP] at this
      simp only [runDefersK, this, cond_true]
      exact k1 k
    · cases h
theorem pad_has {c : Code} {fn : Func} {ov : Tr AV} {st : St} {hs : List Hint} {args : List AV} {e : AExit} {s1 : OS} (hl : args.length ≤ fn.ntmps) (h4 : setTs fn.ntmps .leaf (argsO 0 args) = some ov) : HasT fn.ntmps ov (padTo fn.ntmps args) := by
  have h6 := args_has args [] (List.replicate (fn.ntmps - args.length) AV.undef)
  simp only [List.nil_append, List.length_nil, List.length_append, List.length_replicate] at h6
  rw [show args.length + (fn.ntmps - args.length) = fn.ntmps by omega] at h6
  exact h6.toT h4
/-- A whole call. -/
theorem callO_ok {ext : Ext} {n : Nat} {hs : List Hint} {args : List AV} {st st' : St} {cs : List Prop}
    (h : callO C (callK C ext rounds n) f rounds hs args st = some (cs, v, st')) (hc : AllP cs) (he : ext f args = none) (hm : C.mext f args st = none) :
    CallsTo (callK C ext rounds (n + 1)) false f args st v st' := by
  simp only [callO, Option.bind_eq_some_iff] at h
  obtain ⟨fn, h1, h⟩ := h
  obtain ⟨h2, h⟩ := cond_none h
  simp only [Bool.or_eq_false_iff] at h2
  simp only [Option.bind_eq_some_iff] at h
  obtain ⟨c, h3, ov, h4, ⟨e, s1⟩, h5, h⟩ := h
  have hl : args.length ≤ fn.ntmps := by
    have := h2.2
    simp only [Nat.blt, Nat.ble_eq, Bool.eq_false_iff, ne_eq] at this
    omega
  have ht := pad_has (c := c) (st := st) (hs := hs) (e := e) (s1 := s1) hl h4
  have fin : (∀ i, e ≠ .exit i) → ((defO (callK C ext rounds n) s1.ds s1).bind fun s => (ressO C.P s fn.results.toList).bind fun vs => some (vs.2.cs, single vs.1, vs.2.st)) = some (cs, v, st') → CallsTo (callK C ext rounds (n + 1)) false f args st v st' := by
    intro hne h
    simp only [Option.bind_eq_some_iff, Option.some.injEq, Prod.mk.injEq] at h
    obtain ⟨s3, h0, ⟨vs, s2⟩, h6, rfl, rfl, rfl⟩ := h
    obtain ⟨c1, _, e3, h7⟩ := ressO_ok (N := fn.ntmps) h6 hc
    have e3 : s2.st = s3.st := e3
    obtain ⟨c2, e4, k2⟩ := defO_ok h0 c1
    obtain ⟨_, k1⟩ := execO_ok h5 c2
    obtain ⟨ts1, t1, _, e1⟩ := k1 _ [] ht
    simp only [List.append_nil] at e1
    have h8 := h7 ts1 (by rw [e4]; exact t1)
    refine ⟨s1.ds.isEmpty, fun k => ?_⟩
    simp only [callK, he, hm, h1, h3, h2.1, cond_false, e1, e3]
    have fin2 : finishK C.P (callK C ext rounds n) fn ⟨ts1, s1.ds, s1.st⟩ k = k s1.ds.isEmpty (single vs) s3.st := by
      simp only [finishK, k2, h8]
    cases e with
    | normal => exact fin2
    | exit i => exact absurd rfl (hne i)
    | ret => exact fin2
  cases e with
  | normal => exact fin (fun i hh => by cases hh) h
  | exit i => simp only at h; cases h
  | ret => exact fin (fun i hh => by cases hh) h
/-- The same of a call that defers nothing. -/
theorem callOP_ok {ext : Ext} {n : Nat} {hs : List Hint} {args : List AV} {st st' : St} {cs : List Prop}
    (h : callOP C (callK C ext rounds n) f rounds hs args st = some (cs, v, st')) (hc : AllP cs) (he : ext f args = none) (hm : C.mext f args st = none) :
    CallsP (callK C ext rounds (n + 1)) f args st v st' := by
  simp only [callOP, Option.bind_eq_some_iff] at h
  obtain ⟨fn, h1, h⟩ := h
  obtain ⟨h2, h⟩ := cond_none h
  simp only [Bool.or_eq_false_iff] at h2
  simp only [Option.bind_eq_some_iff] at h
  obtain ⟨c, h3, ov, h4, ⟨e, s1⟩, h5, h⟩ := h
  have hl : args.length ≤ fn.ntmps := by
    have := h2.2
    simp only [Nat.blt, Nat.ble_eq, Bool.eq_false_iff, ne_eq] at this
    omega
  have ht := pad_has (c := c) (st := st) (hs := hs) (e := e) (s1 := s1) hl h4
  have fin : (∀ i, e ≠ .exit i) → (cond (!s1.ds.isEmpty) none <| (ressO C.P s1 fn.results.toList).bind fun vs => some (vs.2.cs, single vs.1, vs.2.st)) = some (cs, v, st') → CallsP (callK C ext rounds (n + 1)) f args st v st' := by
    intro hne h
    obtain ⟨hde, h⟩ := cond_none h
    have hde : s1.ds = [] := by simpa using hde
    simp only [Option.bind_eq_some_iff, Option.some.injEq, Prod.mk.injEq] at h
    obtain ⟨⟨vs, s2⟩, h6, rfl, rfl, rfl⟩ := h
    obtain ⟨c1, _, e3, h7⟩ := ressO_ok (N := fn.ntmps) h6 hc
    have e3 : s2.st = s1.st := e3
    obtain ⟨_, k1⟩ := execO_ok h5 c1
    obtain ⟨ts1, t1, _, e1⟩ := k1 _ [] ht
    simp only [List.append_nil, hde] at e1
    have h8 := h7 ts1 t1
    intro k
    simp only [callK, he, hm, h1, h3, h2.1, cond_false, e1, e3]
    have fin2 : finishK C.P (callK C ext rounds n) fn ⟨ts1, [], s1.st⟩ k = k true (single vs) s1.st := by
      simp only [finishK, runDefersK, h8, List.isEmpty_nil]
    cases e with
    | normal => exact fin2
    | exit i => exact absurd rfl (hne i)
    | ret => exact fin2
  cases e with
  | normal => exact fin (fun i hh => by cases hh) h
  | exit i => simp only at h; cases h
  | ret => exact fin (fun i hh => by cases hh) h

/-! ### Loops -/
def AExit.isN : AExit → Bool
  | .normal => true
  | _ => false
section
variable {body : Fr → (AExit → Fr → Bool) → Bool} {mods : List Nat} {ins mid outs : List (Nat × AV)} {st st1 st' : St} {e : AExit} {r : Nat}
theorem loop_more (hb : Leads N body mods ins st .normal mid st1) (h : Leads N (loopK body r) mods mid st1 e outs st') : Leads N (loopK body (r + 1)) mods ins st e outs st' := by
  intro ts ds ht
  obtain ⟨ts1, t1, p1, e1⟩ := hb ts ds ht
  obtain ⟨ts2, t2, p2, e2⟩ := h ts1 ds t1
  exact ⟨ts2, t2, fun t hm => by rw [p2 t hm, p1 t hm], fun k => by simp only [loopK, e1, e2]⟩
theorem loop_done (hb : Leads N body mods ins st e outs st') (hne : e.isN = false) : Leads N (loopK body (r + 1)) mods ins st e outs st' := by
  intro ts ds ht
  obtain ⟨ts1, t1, p1, e1⟩ := hb ts ds ht
  refine ⟨ts1, t1, p1, fun k => ?_⟩
  simp only [loopK, e1]
  cases e with
  | normal => cases hne
  | exit i => rfl
  | ret => rfl
end
theorem loop_leads {b : Code} {ins outs : List (Nat × AV)} {st st' : St} {e : AExit} (h : Leads N (loopK (fun fr k => execK C ck f rounds ro b fr k) rounds) (modsOf b) ins st e outs st') :
    Leads N (execK C ck f rounds ro (.loop b)) (modsOf (.loop b)) ins st e outs st' := fun ts ds ht => by
  obtain ⟨ts1, t1, p1, e1⟩ := h ts ds ht
  exact ⟨ts1, t1, p1, fun k => by simp only [execK]; exact e1 k⟩
end

/-! ### What a walk asks -/
theorem ext_comes {C : Cfg} {ext : Ext} {rounds n : Nat} {f : FuncId} {args : List AV} {v : AV} (h : ext f args = some v) (st : St) : CallsTo (callK C ext rounds (n + 1)) false f args st v st :=
  ⟨false, fun k => by simp only [callK, h]⟩
theorem iteElim {p : Prop} [Decidable p] {α : Type} {a b x : α} {G : Prop} (h : (if p then a else b) = x) (t : p → a = x → G) (f : ¬p → b = x → G) : G := by
  by_cases hp : p
  · rw [if_pos hp] at h; exact t hp h
  · rw [if_neg hp] at h; exact f hp h
theorem bindElim {α β : Type} {o : Option α} {g : α → Option β} {x : β} {G : Prop} (h : o.bind g = some x) (t : ∀ a, o = some a → g a = some x → G) : G := by
  obtain ⟨a, h1, h2⟩ := Option.bind_eq_some_iff.1 h
  exact t a h1 h2
end Go.Ev
