/- The ready code answers as the evaluator: regions, code. -/
import Derived.Test.YtgmhnpfpmcccnaaGreatDoorEvZ
set_option linter.all false
namespace Go.Ev

section
variable {C : Cfg} {ck ck' : CK} {f : FuncId} {inr : Bool} {ro : Option Nat} {n : Nat} {ops : Array Oper}

theorem guardG_none {o : Oper} {ts : List AV} (h : guardG ops o = some none) : wantedA ops ts o = some true := by
  unfold guardG at h
  split at h
  · rename_i hg
    simp only [wantedA, hg]
  · simp only [Option.bind_eq_some_iff] at h
    obtain ⟨_, _, _, _, h⟩ := h
    cases h
theorem guardG_some {o : Oper} {e : E2} {ts : List AV} {g : Get} {b yes no : Bool} (h : guardG ops o = some (some (g, b))) (R : RelE e ts) (hk : (g e fun v => wantK v b yes no) = true) :
    (wantedA ops ts o = some true ∧ yes = true) ∨ (wantedA ops ts o = some false ∧ no = true) := by
  unfold guardG at h
  split at h
  · cases h
  · rename_i j b' hg
    simp only [Option.bind_eq_some_iff] at h
    obtain ⟨d, hd, g', hg', h⟩ := h
    injection h with h; injection h with h; injection h with e1 e2; subst e1; subst e2
    rw [getT_ok hg', ← R d] at hk
    have hd' : (ops[j]?).bind (·.dst) = some d := by
      cases ho : ops[j]? with
      | none => simp [ho] at hd
      | some x => simpa [ho] using hd
    unfold wantedA
    simp only [hg, hd']
    rcases wantK_ok hk with ⟨c, h1, h2⟩ | ⟨⟨l, h1⟩, h2⟩
    · rw [h1]
      cases hc : c == b' with
      | true => rw [hc] at h2; exact .inl ⟨by simp only [hc], h2⟩
      | false => rw [hc] at h2; exact .inr ⟨by simp only [hc], h2⟩
    · rw [h1]
      exact .inr ⟨rfl, h2⟩

/-- What the continuations have to do with each other. -/
def KRel (n : Nat) (k : Ends) (k' : Fr → Bool) : Prop := ∀ e fr, RelE e fr.ts → fr.ts.length = n → k e fr.ds fr.st = true → k' fr = true

/-- A step, wanted or not. -/
theorem stepG_ok (hck : CKRel ck ck') (hro : ro.isSome = inr) {o : Oper} {s : Sem} {e : E2} {fr : Fr} {k : Ends} {kk : AV → List ADefer → St → Bool} (h : stepG C f inr n ops o = some s) (R : RelE e fr.ts) (hn : fr.ts.length = n) (hk : s ck e fr.ds fr.st k = true)
    (hkk : ∀ v ds st e', RelE e' (putT fr.ts o.dst v) → k e' (ds ++ fr.ds) st = true → kk v ds st = true) :
    (wantedA ops fr.ts o = some true ∧ doOpK C ck' f ro fr.ts fr.st o kk = true) ∨ (wantedA ops fr.ts o = some false ∧ ∃ e', RelE e' (putT fr.ts o.dst AV.undef) ∧ k e' fr.ds fr.st = true) := by
  simp only [stepG, Option.bind_eq_some_iff] at h
  obtain ⟨s0, hs, g, hg, h⟩ := h
  have yes : wantedA ops fr.ts o = some true → s0 ck e fr.ds fr.st k = true → wantedA ops fr.ts o = some true ∧ doOpK C ck' f ro fr.ts fr.st o kk = true := fun hw hk => ⟨hw, opG_ok hck hro hs R hn hk fun v ds st e' => hkk v ds st e'⟩
  split at h
  · injection h with h; subst h
    exact .inl (yes (guardG_none hg) hk)
  · rename_i g b
    simp only [Option.bind_eq_some_iff] at h
    obtain ⟨put, hput, h⟩ := h
    injection h with h; subst h
    rcases guardG_some hg R hk with ⟨h1, h2⟩ | ⟨h1, h2⟩
    · exact .inl (yes h1 h2)
    · obtain ⟨e', h3, h4⟩ := putX_ok (k := fun e' => k e' fr.ds fr.st) hput R (by omega) h2
      exact .inr ⟨h1, e', h3, h4⟩

theorem seqG_ok (hck : CKRel ck ck') (hro : ro.isSome = inr) : ∀ {l : List Oper} {s : Sem} {e : E2} {fr : Fr} {k : Ends} {k' : Fr → Bool}, seqG C f inr n ops l = some s → RelE e fr.ts → fr.ts.length = n → s ck e fr.ds fr.st k = true → KRel n k k' → opsSeqK C ck' f ro ops l fr k' = true
  | [], s, e, fr, k, k', h, R, hn, hk, K => by
    injection h with h; subst h
    exact K e fr R hn hk
  | o :: l, s, e, fr, k, k', h, R, hn, hk, K => by
    simp only [seqG, Option.bind_eq_some_iff] at h
    obtain ⟨s1, h1, s2, h2, h⟩ := h
    injection h with h; subst h
    simp only [opsSeqK, opStepK]
    rcases stepG_ok (k := fun e ds st => s2 ck e ds st k) (kk := fun v ds st' => opsSeqK C ck' f ro ops l ⟨putT fr.ts o.dst v, ds ++ fr.ds, st'⟩ k') hck hro h1 R hn hk (fun v ds st' e' R' hk' =>
        seqG_ok hck hro (fr := ⟨putT fr.ts o.dst v, ds ++ fr.ds, st'⟩) h2 R' (by simpa [putT_length] using hn) hk' K) with ⟨hw, hd⟩ | ⟨hw, e', R', hk'⟩
    · rw [hw]
      exact hd
    · rw [hw]
      exact seqG_ok hck hro (fr := ⟨putT fr.ts o.dst AV.undef, fr.ds, fr.st⟩) h2 R' (by simpa [putT_length] using hn) hk' K

/-- What turns nothing comes to one thing. -/
theorem doOpK_calm {ts : List AV} {st : St} {o : Oper} {k : AV → List ADefer → St → Bool} (he : effect C.P o = false) (h : doOpK C ck' f ro ts st o k = true) : ∃ v st', aop C f ts st o = some (v, st') ∧ k v [] st' = true := by
  unfold doOpK at h
  split at h
  · rename_i hop
    simp [effect, hop, opKind] at he
  · rename_i hop
    simp [effect, hop, opKind] at he
  · rename_i hop
    simp [effect, hop, opKind] at he
  · rename_i hop
    simp [effect, hop, opKind] at he
  · split at h
    · rename_i v st' ha
      exact ⟨v, st', ha, h⟩
    · cases h

/-- Where no look is left that an effect may turn, the plan is a row of steps. -/
theorem calmG_ok (hck : CKRel ck ck') (hro : ro.isSome = inr) : ∀ {l : List PStep} {is : List Nat} {rd : List Rd} {s : Sem} {e : E2} {fr : Fr} {k : Ends} {k' : Fr → Bool}, calm C.P l is = true → (∀ s ∈ l, s.eff = effect C.P s.o) → (∀ r ∈ rd, r.i ∈ is) →
    seqG C f inr n ops (l.map (·.o)) = some s → RelE e fr.ts → fr.ts.length = n → s ck e fr.ds fr.st k = true → KRel n k k' → runPlanK C ck' f ro ops l rd fr k' = true
  | [], is, rd, s, e, fr, k, k', _, _, _, h, R, hn, hk, K => by
    injection h with h; subst h
    exact K e fr R hn hk
  | p :: l, is, rd, s, e, fr, k, k', hc, hef, hr, h, R, hn, hk, K => by
    simp only [List.map_cons, seqG, Option.bind_eq_some_iff] at h
    obtain ⟨s1, h1, s2, h2, h⟩ := h
    injection h with h; subst h
    have hef' := fun s hs => hef s (List.mem_cons_of_mem _ hs)
    have hp := hef p (by simp)
    have len : ∀ {v : AV}, (putT fr.ts p.o.dst v).length = n := fun {v} => by simpa [putT_length] using hn
    simp only [calm] at hc
    simp only [runPlanK]
    cases he : p.eff with
    | true =>
      rw [he] at hc
      simp only at hc
      split at hc
      · rename_i hf
        have hnil : rd.filter (fun r => !p.bef.testBit r.i) = [] := by
          refine List.filter_eq_nil_iff.2 fun r hr' hb => ?_
          have : r.i ∈ is.filter fun i => !p.bef.testBit i := List.mem_filter.2 ⟨hr r hr', hb⟩
          rw [hf] at this
          cases this
        have hc1 : ∃ is', calm C.P l is' = true ∧ (p.o.guard ≠ none → is' = is) := by
          split at hc
          · rename_i hg
            exact ⟨[], hc, fun h => absurd hg h⟩
          · exact ⟨is, hc, fun _ => rfl⟩
        obtain ⟨is', hc2, hg⟩ := hc1
        rcases stepG_ok (k := fun e ds st => s2 ck e ds st k) (kk := fun v ds st' => cond (([] : List Rd).all (sameRd C.P st')) (runPlanK C ck' f ro ops l [] ⟨putT fr.ts p.o.dst v, ds ++ fr.ds, st'⟩ k') false) hck hro h1 R hn hk (fun v ds st' e' R' hk' => by
            simp only [List.all_nil, cond_true]
            exact calmG_ok hck hro (fr := ⟨putT fr.ts p.o.dst v, ds ++ fr.ds, st'⟩) hc2 hef' (fun r hr => by cases hr) h2 R' len hk' K) with ⟨hw, hd⟩ | ⟨hw, e', R', hk'⟩
        · rw [hw]
          simp only [hnil]
          exact hd
        · rw [hw]
          have hg' : p.o.guard ≠ none := by
            intro hg'
            simp [wantedA, hg'] at hw
          exact calmG_ok hck hro (fr := ⟨putT fr.ts p.o.dst AV.undef, fr.ds, fr.st⟩) hc2 hef' (by rw [hg hg']; exact hr) h2 R' len hk' K
      · cases hc
    | false =>
      rw [he] at hc
      simp only at hc
      have hc1 : ∃ is', calm C.P l is' = true ∧ (∀ i ∈ is, i ∈ is') ∧ (opKind C.P p.o.op = .load → p.i ∈ is') := by
        split at hc
        · exact ⟨_, hc, fun i hi => List.mem_cons_of_mem _ hi, fun _ => List.mem_cons_self⟩
        · rename_i hk
          exact ⟨is, hc, fun i hi => hi, fun h => absurd h hk⟩
      obtain ⟨is', hc2, hi1, hi2⟩ := hc1
      rcases stepG_ok (k := fun e ds st => s2 ck e ds st k) (kk := fun v ds st' => runPlanK C ck' f ro ops l (rdOf C.P fr.ts p.i p.o v ++ rd) ⟨putT fr.ts p.o.dst v, ds ++ fr.ds, st'⟩ k') hck hro h1 R hn hk (fun v ds st' e' R' hk' => by
          refine calmG_ok hck hro (fr := ⟨putT fr.ts p.o.dst v, ds ++ fr.ds, st'⟩) hc2 hef' (fun r hr' => ?_) h2 R' len hk' K
          rcases List.mem_append.1 hr' with hr' | hr'
          · unfold rdOf at hr'
            split at hr'
            · rename_i hkd
              split at hr'
              · simp only [List.mem_singleton] at hr'
                subst hr'
                exact hi2 hkd
              · cases hr'
            · cases hr'
          · exact hi1 _ (hr r hr')) with ⟨hw, hd⟩ | ⟨hw, e', R', hk'⟩
      · rw [hw]
        obtain ⟨v, st', ha, hd⟩ := doOpK_calm (hp ▸ he) hd
        simp only [ha]
        exact hd
      · rw [hw]
        exact calmG_ok hck hro (fr := ⟨putT fr.ts p.o.dst AV.undef, fr.ds, fr.st⟩) hc2 hef' (fun r hr' => hi1 _ (hr r hr')) h2 R' len hk' K

/-! ### A plan with looks that an effect may turn -/
theorem wildStep_ok (hck : CKRel ck ck') (hro : ro.isSome = inr) {s : PStep} {l : List PStep} {r : RSem} {rd : List Rd} {e : E2} {fr : Fr} {k : List Rd → Ends} {k' : Fr → Bool} (hef : s.eff = effect C.P s.o) (h : wildStep C f inr n ops s = some r) (R : RelE e fr.ts) (hn : fr.ts.length = n) (hk : r ck rd e fr.ds fr.st k = true)
    (K : ∀ rd', KRel n (k rd') (fun fr' => runPlanK C ck' f ro ops l rd' fr' k')) : runPlanK C ck' f ro ops (s :: l) rd fr k' = true := by
  have len : ∀ {v : AV}, (putT fr.ts s.o.dst v).length = n := fun {v} => by simpa [putT_length] using hn
  simp only [runPlanK]
  unfold wildStep at h
  split at h
  · rename_i he
    simp only [Option.bind_eq_some_iff] at h
    obtain ⟨g, hg, r0, hr0, put, hput, h⟩ := h
    have yes : wantedA ops fr.ts s.o = some true → (r0 ck e fr.ds fr.st fun e' ds' st' => (fun rd' => cond (rd'.all (sameRd C.P st')) (k rd' e' ds' st') false) (rd.filter fun r => !s.bef.testBit r.i)) = true →
        doOpK C ck' f ro fr.ts fr.st s.o (fun v ds st' => cond ((rd.filter fun r => !s.bef.testBit r.i).all (sameRd C.P st')) (runPlanK C ck' f ro ops l (rd.filter fun r => !s.bef.testBit r.i) ⟨putT fr.ts s.o.dst v, ds ++ fr.ds, st'⟩ k') false) = true := by
      intro hw hk
      refine opG_ok hck hro hr0 R hn hk fun v ds st' e' R' hk' => ?_
      simp only at hk' ⊢
      cases ha : (rd.filter fun r => !s.bef.testBit r.i).all (sameRd C.P st') with
      | false => rw [ha] at hk'; cases hk'
      | true =>
        rw [ha] at hk'
        exact K _ e' ⟨putT fr.ts s.o.dst v, ds ++ fr.ds, st'⟩ R' len hk'
    split at h
    · injection h with h; subst h
      rw [guardG_none hg, he]
      exact yes (guardG_none hg) hk
    · rename_i g b
      injection h with h; subst h
      rcases guardG_some hg R hk with ⟨h1, h2⟩ | ⟨h1, h2⟩
      · rw [h1, he]
        exact yes h1 h2
      · obtain ⟨e', h3, h4⟩ := putX_ok (k := fun e' => k rd e' fr.ds fr.st) hput R (by omega) h2
        rw [h1]
        exact K rd e' ⟨putT fr.ts s.o.dst AV.undef, fr.ds, fr.st⟩ h3 len h4
  · rename_i he
    simp only [Option.bind_eq_some_iff] at h
    obtain ⟨g, hg, put, hput, r0, hr0, h⟩ := h
    have yes : wantedA ops fr.ts s.o = some true → r0 ck rd e fr.ds fr.st k = true → ∃ v st', aop C f fr.ts fr.st s.o = some (v, st') ∧ runPlanK C ck' f ro ops l (rdOf C.P fr.ts s.i s.o v ++ rd) ⟨putT fr.ts s.o.dst v, fr.ds, st'⟩ k' = true := by
      intro hw hk
      split at hr0
      · rename_i hkd
        simp only [Option.bind_eq_some_iff] at hr0
        obtain ⟨gs, hgs, hr0⟩ := hr0
        injection hr0 with hr0; subst hr0
        obtain ⟨vs, h1, hk⟩ := gather_ok (k := fun vs => optK (readV C.P fr.st s.o.op vs) fun v => put e v fun e' => k (⟨s.i, s.o.op, vs, v⟩ :: rd) e' fr.ds fr.st) R hgs hk
        obtain ⟨v, h2, hk⟩ := optK_ok hk
        obtain ⟨e', h3, h4⟩ := putX_ok (k := fun e' => k (⟨s.i, s.o.op, vs, v⟩ :: rd) e' fr.ds fr.st) hput R (by omega) hk
        refine ⟨v, fr.st, by simp only [aop, hkd, h1, h2, Option.bind_some], ?_⟩
        simp only [rdOf, hkd, h1, List.singleton_append]
        exact K _ e' ⟨putT fr.ts s.o.dst v, fr.ds, fr.st⟩ h3 len h4
      · rename_i hnl
        simp only [Option.bind_eq_some_iff] at hr0
        obtain ⟨r1, hr1, hr0⟩ := hr0
        injection hr0 with hr0; subst hr0
        have hd := opG_ok (k := fun e' ds' st' => k rd e' ds' st') (k' := fun v ds st' => runPlanK C ck' f ro ops l rd ⟨putT fr.ts s.o.dst v, ds ++ fr.ds, st'⟩ k') hck hro hr1 R hn hk fun v ds st' e' R' hk' => K rd e' ⟨putT fr.ts s.o.dst v, ds ++ fr.ds, st'⟩ R' len hk'
        obtain ⟨v, st', ha, hd⟩ := doOpK_calm (hef ▸ he) hd
        refine ⟨v, st', ha, ?_⟩
        have hro' : rdOf C.P fr.ts s.i s.o v = [] := by
          unfold rdOf
          split
          · rename_i hop
            exact absurd hop hnl
          · rfl
        rw [hro']
        exact hd
    have yes' : wantedA ops fr.ts s.o = some true → r0 ck rd e fr.ds fr.st k = true → (match wantedA ops fr.ts s.o with
        | none => false
        | some false => runPlanK C ck' f ro ops l rd ⟨putT fr.ts s.o.dst AV.undef, fr.ds, fr.st⟩ k'
        | some true => match s.eff with
          | false => match aop C f fr.ts fr.st s.o with
            | some (v, st') => runPlanK C ck' f ro ops l (rdOf C.P fr.ts s.i s.o v ++ rd) ⟨putT fr.ts s.o.dst v, fr.ds, st'⟩ k'
            | none => false
          | true => doOpK C ck' f ro fr.ts fr.st s.o fun v ds st' =>
            let rd' := rd.filter fun r => !s.bef.testBit r.i
            cond (rd'.all (sameRd C.P st')) (runPlanK C ck' f ro ops l rd' ⟨putT fr.ts s.o.dst v, ds ++ fr.ds, st'⟩ k') false) = true := by
      intro hw hk
      obtain ⟨v, st', h1, h2⟩ := yes hw hk
      rw [hw, he]
      simp only [h1]
      exact h2
    split at h
    · injection h with h; subst h
      exact yes' (guardG_none hg) hk
    · rename_i g b
      injection h with h; subst h
      rcases guardG_some hg R hk with ⟨h1, h2⟩ | ⟨h1, h2⟩
      · exact yes' h1 h2
      · obtain ⟨e', h3, h4⟩ := putX_ok (k := fun e' => k rd e' fr.ds fr.st) hput R (by omega) h2
        rw [h1]
        exact K rd e' ⟨putT fr.ts s.o.dst AV.undef, fr.ds, fr.st⟩ h3 len h4
theorem wildG_ok (hck : CKRel ck ck') (hro : ro.isSome = inr) : ∀ {l : List PStep} {r : RSem} {rd : List Rd} {e : E2} {fr : Fr} {k : List Rd → Ends} {k' : Fr → Bool}, (∀ s ∈ l, s.eff = effect C.P s.o) → wildG C f inr n ops l = some r → RelE e fr.ts → fr.ts.length = n → r ck rd e fr.ds fr.st k = true →
    (∀ rd', KRel n (k rd') k') → runPlanK C ck' f ro ops l rd fr k' = true
  | [], r, rd, e, fr, k, k', _, h, R, hn, hk, K => by
    injection h with h; subst h
    exact K rd e fr R hn hk
  | s :: l, r, rd, e, fr, k, k', hef, h, R, hn, hk, K => by
    simp only [wildG, Option.bind_eq_some_iff] at h
    obtain ⟨r1, h1, r2, h2, h⟩ := h
    injection h with h; subst h
    exact wildStep_ok (k := fun rd e ds st => r2 ck rd e ds st k) hck hro (hef s (by simp)) h1 R hn hk fun rd' e' fr' R' hn' hk' => wildG_ok hck hro (fun s hs => hef s (List.mem_cons_of_mem _ hs)) h2 R' hn' hk' K

theorem PlanOk.eff {P : Program} {befs : List Nat} {S : Nat → Prop} {l : List PStep} (h : PlanOk P ops befs S l) : ∀ s ∈ l, s.eff = effect P s.o := by
  induction h with
  | nil _ => intro s hs; cases hs
  | cons _ _ _ he _ _ _ ih =>
    intro s hs
    rcases List.mem_cons.1 hs with rfl | hs
    · exact he
    · exact ih s hs
theorem plan_eff {P : Program} {l : List PStep} (h : plan P ops = some l) : ∀ s ∈ l, s.eff = effect P s.o := by
  unfold plan at h
  simp only at h
  obtain ⟨_, h⟩ := cond_some h
  exact (planGo_ok _ _ _ h).eff

/-! ### Code -/
theorem exitK_ok {x : AExit} {a : Bool} {ex : Nat → Bool} {r : Bool} (h : exitK x a ex r = true) : (x = .normal ∧ a = true) ∨ (∃ i, x = .exit i ∧ ex i = true) ∨ (x = .ret ∧ r = true) := by
  cases x with
  | normal => exact .inl ⟨rfl, h⟩
  | exit i => exact .inr (.inl ⟨i, rfl, h⟩)
  | ret => exact .inr (.inr ⟨rfl, h⟩)

def CRel (n : Nat) (k : CEnds) (k' : AExit → Fr → Bool) : Prop := ∀ x e fr, RelE e fr.ts → fr.ts.length = n → k x e fr.ds fr.st = true → k' x fr = true
def CodeOk (n : Nat) (ck : CK) (ro : Option Nat) (s : CSem) (run : Fr → (AExit → Fr → Bool) → Bool) : Prop := ∀ (e : E2) (fr : Fr) (k : CEnds) (k' : AExit → Fr → Bool), RelE e fr.ts → fr.ts.length = n → s ck ro e fr.ds fr.st k = true → CRel n k k' → run fr k' = true

theorem loopK_ok {s : CSem} {body : Fr → (AExit → Fr → Bool) → Bool} (hb : CodeOk n ck ro s body) : ∀ rounds, CodeOk n ck ro (fun ck ro => loopG s ck ro rounds) (loopK body rounds)
  | 0 => fun _ _ _ _ _ _ h => by cases h
  | m + 1 => fun e fr k k' R hn h K => by
    change s ck ro e fr.ds fr.st (fun x e ds st => exitK x (loopG s ck ro m e ds st k) (fun i => k (.exit i) e ds st) (k .ret e ds st)) = true at h
    simp only [loopK]
    refine hb _ _ _ _ R hn h fun x e1 fr1 R1 hn1 h1 => ?_
    rcases exitK_ok h1 with ⟨rfl, h5⟩ | ⟨i, rfl, h5⟩ | ⟨rfl, h5⟩
    · exact loopK_ok hb m _ _ _ _ R1 hn1 h5 K
    · exact K _ _ _ R1 hn1 h5
    · exact K _ _ _ R1 hn1 h5

theorem tmps_eq {ts : List AV} : opnds ts (tmpsUpTo 0 ts.length) = some ts := opnds_all ts

theorem codeG_ok (hck : CKRel ck ck') (hro : ro.isSome = inr) {rounds : Nat} : ∀ {c : Code} {s : CSem}, codeG C f inr n rounds c = some s → CodeOk n ck ro s (execK C ck' f rounds ro c) := by
  intro c
  induction c with
  | skip =>
    intro s h e fr k k' R hn hk K
    injection h with h; subst h
    simp only [execK]
    exact K _ _ _ R hn hk
  | region id ops draw =>
    intro s h e fr k k' R hn hk K
    cases draw with
    | false =>
      simp only [codeG, Option.bind_eq_some_iff] at h
      obtain ⟨s1, h1, h⟩ := h
      injection h with h; subst h
      simp only [execK]
      exact seqG_ok (k := fun e ds st => k .normal e ds st) hck hro h1 R hn hk fun e fr R hn hk => K _ _ _ R hn hk
    | true =>
      simp only [codeG, Option.bind_eq_some_iff] at h
      obtain ⟨l, hl, h⟩ := h
      simp only [execK, hl]
      cases hc : calm C.P l [] with
      | true =>
        rw [hc] at h
        simp only [cond_true, Option.bind_eq_some_iff] at h
        obtain ⟨s1, h1, h⟩ := h
        injection h with h; subst h
        exact calmG_ok (k := fun e ds st => k .normal e ds st) hck hro hc (plan_eff hl) (fun r hr => by cases hr) h1 R hn hk fun e fr R hn hk => K _ _ _ R hn hk
      | false =>
        rw [hc] at h
        simp only [cond_false, Option.bind_eq_some_iff] at h
        obtain ⟨s1, h1, h⟩ := h
        injection h with h; subst h
        exact wildG_ok (k := fun _ e ds st => k .normal e ds st) hck hro (plan_eff hl) h1 R hn hk fun rd e fr R hn hk => K _ _ _ R hn hk
  | seq a b iha ihb =>
    intro s h e fr k k' R hn hk K
    simp only [codeG, Option.bind_eq_some_iff] at h
    obtain ⟨sa, ha, sb, hb, h⟩ := h
    injection h with h; subst h
    simp only [execK]
    refine iha ha _ _ _ _ R hn hk fun x e1 fr1 R1 hn1 h1 => ?_
    rcases exitK_ok h1 with ⟨rfl, h5⟩ | ⟨i, rfl, h5⟩ | ⟨rfl, h5⟩
    · exact ihb hb _ _ _ _ R1 hn1 h5 K
    · exact K _ _ _ R1 hn1 h5
    · exact K _ _ _ R1 hn1 h5
  | cond c a b iha ihb =>
    intro s h e fr k k' R hn hk K
    simp only [codeG, Option.bind_eq_some_iff] at h
    obtain ⟨gc, hc, sa, ha, sb, hb, h⟩ := h
    injection h with h; subst h
    obtain ⟨v, h1, hk⟩ := getX_ok (k := fun v => boolK v fun c => cond c (sa ck ro e fr.ds fr.st k) (sb ck ro e fr.ds fr.st k)) hc R hk
    obtain ⟨b', rfl, hk⟩ := boolK_ok hk
    simp only [execK, h1]
    cases b' with
    | true => exact iha ha _ _ _ _ R hn hk K
    | false => exact ihb hb _ _ _ _ R hn hk K
  | block id b ih =>
    intro s h e fr k k' R hn hk K
    simp only [codeG, Option.bind_eq_some_iff] at h
    obtain ⟨sb, hb, h⟩ := h
    injection h with h; subst h
    simp only [execK]
    refine ih hb _ _ _ _ R hn hk fun x e1 fr1 R1 hn1 h1 => ?_
    rcases exitK_ok h1 with ⟨rfl, h5⟩ | ⟨i, rfl, h5⟩ | ⟨rfl, h5⟩
    · exact K _ _ _ R1 hn1 h5
    · cases hi : Nat.beq i id with
      | true =>
        rw [hi] at h5
        simp only [hi, cond_true]
        exact K _ _ _ R1 hn1 h5
      | false =>
        rw [hi] at h5
        simp only [hi, cond_false]
        exact K _ _ _ R1 hn1 h5
    · exact K _ _ _ R1 hn1 h5
  | loop b ih =>
    intro s h e fr k k' R hn hk K
    simp only [codeG, Option.bind_eq_some_iff] at h
    obtain ⟨sb, hb, h⟩ := h
    injection h with h; subst h
    simp only [execK]
    exact loopK_ok (ih hb) rounds _ _ _ _ R hn hk K
  | exit id =>
    intro s h e fr k k' R hn hk K
    injection h with h; subst h
    simp only [execK]
    exact K _ _ _ R hn hk
  | label l =>
    intro s h e fr k k' R hn hk K
    injection h with h; subst h
    simp only [execK]
    exact K _ _ _ R hn hk
  | scope b ih =>
    intro s h e fr k k' R hn hk K
    simp only [codeG] at h
    simp only [execK]
    exact ih h _ _ _ _ R hn hk K
  | ret =>
    intro s h e fr k k' R hn hk K
    injection h with h; subst h
    simp only [execK]
    exact K _ _ _ R hn hk
  | rangeFunc g ps asg body _ _ =>
    intro s h e fr k k' R hn hk K
    simp only [codeG, Option.bind_eq_some_iff] at h
    obtain ⟨gg, hg, gs, hgs, h⟩ := h
    injection h with h; subst h
    obtain ⟨fv, h0, hk⟩ := getX_ok (k := fun fv => callK2 fv (fun fn first cap => match fn with
      | .func h => cond (!hasBody C.P h) false (gather gs e fun ts => optK (enterL f ro ps asg body ⟨ts, [], fr.st⟩) fun r => ck false h (first ++ [.yield r.1] ++ cap) r.2.2 fun _ _ st2 => optK (leaveL st2 r.1) fun z => k z.1 e (r.2.1 ++ fr.ds) z.2)
      | _ => false) fun _ => false) hg R hk
    rcases callK2_ok hk with ⟨fn, first, cap, rfl, hk2⟩ | ⟨l, rfl, hk2⟩
    rotate_left
    · cases hk2
    clear hk
    have hk := hk2
    clear hk2
    split at hk
    rotate_left
    · cases hk
    rename_i h
    cases hb : hasBody C.P h with
    | false => rw [hb] at hk; cases hk
    | true =>
      rw [hb] at hk
      simp only [Bool.not_true, cond_false] at hk
      obtain ⟨vs, h1, hk⟩ := gather_ok (k := fun ts => optK (enterL f ro ps asg body ⟨ts, [], fr.st⟩) fun r => ck false h (first ++ [.yield r.1] ++ cap) r.2.2 fun _ _ st2 => optK (leaveL st2 r.1) fun z => k z.1 e (r.2.1 ++ fr.ds) z.2) R hgs hk
      have e1 : vs = fr.ts := by
        rw [← hn, tmps_eq] at h1
        injection h1 with h1
        exact h1.symm
      subst e1
      obtain ⟨⟨l, mark, st1⟩, h2, hk⟩ := optK_ok hk
      have h2' : enterL f ro ps asg body fr = some (l, mark, st1) := by rw [← h2]; rfl
      simp only [execK, h0, h2', hb, Bool.not_true, cond_false]
      refine hck _ _ _ _ _ _ (fun p v st2 hp => ?_) hk
      obtain ⟨⟨x, st3⟩, h3, hp⟩ := optK_ok hp
      simp only [h3]
      exact K x e ⟨fr.ts, mark ++ fr.ds, st3⟩ R hn hp
  | goto l =>
    intro s h e fr k k' R hn hk K
    injection h with h; subst h
    cases hk
  | refuse x =>
    intro s h e fr k k' R hn hk K
    injection h with h; subst h
    cases hk
end
end Go.Ev
