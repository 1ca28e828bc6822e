/- The ready code answers as the evaluator: regions, code, calls. -/
import Derived.Test.YthodfojhbbendaaDoorEvZ
set_option linter.all false
namespace Go.Ev

section
variable {C : Cfg} {ck : CK} {callf : CallF} {f : FuncId} {n : Nat} {ops : Array Oper}

theorem wantK_ok {v : AV} {b yes no : Bool} (h : wantK v b yes no = true) : (∃ c, v = .bool c ∧ cond (c == b) yes no = true) ∨ ((∃ l, v = .tuple l) ∧ no = true) := by
  cases v <;> first | exact .inl ⟨_, rfl, h⟩ | exact .inr ⟨⟨_, rfl⟩, h⟩ | exact absurd h (by intro h; cases h)
theorem guardG_none {o : Oper} {ts : List AV} (h : guardG ops o = some none) : wantedA ops ts o = some true := by
  unfold guardG at h
  split at h
  · rename_i hg
    simp only [wantedA, hg]
  · simp only [Option.bind_eq_some_iff] at h
    obtain ⟨_, _, _, _, h⟩ := h
    cases h
theorem guardG_some {o : Oper} {e : E2} {ts : List AV} {g : Get} {b yes no : Bool} (h : guardG ops o = some (some (g, b))) (R : RelE e ts) (hk : (g e fun v => wantK v b yes no) = true) :
    (wantedA ops ts o = some true ∧ yes = true) ∨ (wantedA ops ts o = some false ∧ no = true) := by
  unfold guardG at h
  split at h
  · cases h
  · rename_i j b' hg
    simp only [Option.bind_eq_some_iff] at h
    obtain ⟨d, hd, g', hg', h⟩ := h
    injection h with h; injection h with h; injection h with e1 e2; subst e1; subst e2
    rw [getT_ok hg', ← R d] at hk
    have hd' : (ops[j]?).bind (·.dst) = some d := by
      cases ho : ops[j]? with
      | none => simp [ho] at hd
      | some x => simpa [ho] using hd
    unfold wantedA
    simp only [hg, hd']
    rcases wantK_ok hk with ⟨c, h1, h2⟩ | ⟨⟨l, h1⟩, h2⟩
    · rw [h1]
      cases hc : c == b' with
      | true => rw [hc] at h2; exact .inl ⟨by simp only [hc], h2⟩
      | false => rw [hc] at h2; exact .inr ⟨by simp only [hc], h2⟩
    · rw [h1]
      exact .inr ⟨rfl, h2⟩

theorem stepG_ok (hck : CKOk ck callf) {o : Oper} {s : Sem} {e : E2} {fr : Fr} {k : Ends} (h : stepG C f n ops o = some s) (R : RelE e fr.ts) (hn : n ≤ fr.ts.length) (hk : s ck e fr.ds fr.st k = true) :
    ∃ fr' e', opStep C callf f ops o fr = some fr' ∧ RelE e' fr'.ts ∧ n ≤ fr'.ts.length ∧ k e' fr'.ds fr'.st = true := by
  simp only [stepG, Option.bind_eq_some_iff] at h
  obtain ⟨s0, hs, g, hg, h⟩ := h
  have yes : wantedA ops fr.ts o = some true → s0 ck e fr.ds fr.st k = true → ∃ fr' e', opStep C callf f ops o fr = some fr' ∧ RelE e' fr'.ts ∧ n ≤ fr'.ts.length ∧ k e' fr'.ds fr'.st = true := by
    intro hw hk
    obtain ⟨v, ds', st', e', h1, h2, h3⟩ := opG_ok hck hs R hn hk
    exact ⟨⟨putT fr.ts o.dst v, ds' ++ fr.ds, st'⟩, e', by simp only [opStep, hw, Option.bind_some, h1], h2, by simpa [putT_length] using hn, h3⟩
  split at h
  · injection h with h; subst h
    exact yes (guardG_none hg) hk
  · rename_i g b
    simp only [Option.bind_eq_some_iff] at h
    obtain ⟨put, hput, h⟩ := h
    injection h with h; subst h
    rcases guardG_some hg R hk with ⟨h1, h2⟩ | ⟨h1, h2⟩
    · exact yes h1 h2
    · obtain ⟨e', h3, h4⟩ := putX_ok (k := fun e' => k e' fr.ds fr.st) hput R hn h2
      exact ⟨⟨putT fr.ts o.dst AV.undef, fr.ds, fr.st⟩, e', by simp only [opStep, h1, Option.bind_some], h3, by simpa [putT_length] using hn, h4⟩

theorem seqG_ok (hck : CKOk ck callf) : ∀ {l : List Oper} {s : Sem} {e : E2} {fr : Fr} {k : Ends}, seqG C f n ops l = some s → RelE e fr.ts → n ≤ fr.ts.length → s ck e fr.ds fr.st k = true →
    ∃ fr' e', opsSeq C callf f ops l fr = some fr' ∧ RelE e' fr'.ts ∧ n ≤ fr'.ts.length ∧ k e' fr'.ds fr'.st = true
  | [], s, e, fr, k, h, R, hn, hk => by
    injection h with h; subst h
    exact ⟨fr, e, rfl, R, hn, hk⟩
  | o :: l, s, e, fr, k, h, R, hn, hk => by
    simp only [seqG, Option.bind_eq_some_iff] at h
    obtain ⟨s1, h1, s2, h2, h⟩ := h
    injection h with h; subst h
    obtain ⟨fr1, e1, a1, a2, a3, hk⟩ := stepG_ok (k := fun e ds st => s2 ck e ds st k) hck h1 R hn hk
    obtain ⟨fr2, e2, b1, b2, b3, hk⟩ := seqG_ok hck h2 a2 a3 hk
    exact ⟨fr2, e2, by simp only [opsSeq, a1, Option.bind_some, b1], b2, b3, hk⟩

/-- Where no load is left that an effect may turn, the plan is a row of steps. -/
theorem calm_ok : ∀ {l : List PStep} {is : List Nat} {rd : List Rd} {fr fr' : Fr}, calm l is = true → (∀ r ∈ rd, r.i ∈ is) → opsSeq C callf f ops (l.map (·.o)) fr = some fr' → runPlan C callf f ops l rd fr = some fr'
  | [], _, _, _, _, _, _, h => h
  | s :: l, is, rd, fr, fr', hc, hr, h => by
    simp only [List.map_cons, opsSeq, opStep, Option.bind_eq_some_iff] at h
    obtain ⟨fr1, ⟨w, hw, h1⟩, h⟩ := h
    simp only [runPlan, hw, Option.bind_some]
    simp only [calm] at hc
    cases he : s.eff with
    | true =>
      rw [he] at hc
      simp only at hc
      split at hc
      · rename_i hf
        cases w with
        | false =>
          injection h1 with h1
          subst h1
          split at hc
          · rename_i hg
            simp only [wantedA, hg] at hw
            injection hw with hw
            cases hw
          · exact calm_ok hc hr h
        | true =>
          simp only [Option.bind_eq_some_iff] at h1
          obtain ⟨⟨v, ds, st'⟩, h2, h3⟩ := h1
          injection h3 with h3
          subst h3
          simp only [h2, Option.bind_some]
          have hnil : rd.filter (fun r => !s.bef.testBit r.i) = [] := by
            refine List.filter_eq_nil_iff.2 fun r hr' hb => ?_
            have : r.i ∈ is.filter fun i => !s.bef.testBit i := List.mem_filter.2 ⟨hr r hr', hb⟩
            rw [hf] at this
            cases this
          rw [hnil]
          simp only [List.all_nil, cond_true]
          split at hc
          · exact calm_ok hc (fun r hr => by cases hr) h
          · exact calm_ok hc (fun r hr => by cases hr) h
      · cases hc
    | false =>
      rw [he] at hc
      simp only at hc
      cases w with
      | false =>
        injection h1 with h1
        subst h1
        split at hc
        · exact calm_ok hc (fun r hr' => List.mem_cons_of_mem _ (hr r hr')) h
        · exact calm_ok hc hr h
      | true =>
        simp only [Option.bind_eq_some_iff] at h1
        obtain ⟨⟨v, ds, st'⟩, h2, h3⟩ := h1
        injection h3 with h3
        subst h3
        simp only [h2, Option.bind_some]
        split at hc
        · refine calm_ok hc (fun r hr' => ?_) h
          simp only [List.mem_append] at hr'
          rcases hr' with hr' | hr'
          · unfold rdOf at hr'
            split at hr'
            · split at hr'
              · simp only [List.mem_singleton] at hr'
                subst hr'
                exact List.mem_cons_self
              · cases hr'
            · cases hr'
          · exact List.mem_cons_of_mem _ (hr r hr')
        · rename_i hnl
          refine calm_ok hc (fun r hr' => ?_) h
          simp only [List.mem_append] at hr'
          rcases hr' with hr' | hr'
          · unfold rdOf at hr'
            split at hr'
            · rename_i hop
              exact absurd hop (hnl _ _)
            · cases hr'
          · exact hr r hr'

/-! ### A plan with loads that an effect may turn -/
theorem wildStep_ok (hck : CKOk ck callf) {s : PStep} {l : List PStep} {r : RSem} {rd : List Rd} {e : E2} {fr : Fr} {k : List Rd → Ends} (h : wildStep C f n ops s = some r) (R : RelE e fr.ts) (hn : n ≤ fr.ts.length) (hk : r ck rd e fr.ds fr.st k = true) :
    ∃ rd' fr' e', runPlan C callf f ops (s :: l) rd fr = runPlan C callf f ops l rd' fr' ∧ RelE e' fr'.ts ∧ n ≤ fr'.ts.length ∧ k rd' e' fr'.ds fr'.st = true := by
  unfold wildStep at h
  split at h
  · rename_i he
    simp only [Option.bind_eq_some_iff] at h
    obtain ⟨g, hg, r0, hr0, put, hput, h⟩ := h
    have yes : wantedA ops fr.ts s.o = some true → (r0 ck e fr.ds fr.st fun e' ds' st' => (fun rd' => cond (rd'.all (sameRd C.P st')) (k rd' e' ds' st') false) (rd.filter fun r => !s.bef.testBit r.i)) = true →
        ∃ rd' fr' e', runPlan C callf f ops (s :: l) rd fr = runPlan C callf f ops l rd' fr' ∧ RelE e' fr'.ts ∧ n ≤ fr'.ts.length ∧ k rd' e' fr'.ds fr'.st = true := by
      intro hw hk
      obtain ⟨v, ds', st', e', h1, h2, h3⟩ := opG_ok hck hr0 R hn hk
      simp only at h3
      cases ha : (rd.filter fun r => !s.bef.testBit r.i).all (sameRd C.P st') with
      | false => rw [ha] at h3; cases h3
      | true =>
        rw [ha] at h3
        refine ⟨_, ⟨putT fr.ts s.o.dst v, ds' ++ fr.ds, st'⟩, e', ?_, h2, by simpa [putT_length] using hn, h3⟩
        simp only [runPlan, hw, Option.bind_some, h1, he, ha, cond_true]
    split at h
    · injection h with h; subst h
      exact yes (guardG_none hg) hk
    · rename_i g b
      injection h with h; subst h
      rcases guardG_some hg R hk with ⟨h1, h2⟩ | ⟨h1, h2⟩
      · exact yes h1 h2
      · obtain ⟨e', h3, h4⟩ := putX_ok (k := fun e' => k rd e' fr.ds fr.st) hput R hn h2
        exact ⟨rd, ⟨putT fr.ts s.o.dst AV.undef, fr.ds, fr.st⟩, e', by simp only [runPlan, h1, Option.bind_some], h3, by simpa [putT_length] using hn, h4⟩
  · rename_i he
    simp only [Option.bind_eq_some_iff] at h
    obtain ⟨g, hg, put, hput, r0, hr0, h⟩ := h
    have yes : wantedA ops fr.ts s.o = some true → r0 ck rd e fr.ds fr.st k = true →
        ∃ rd' fr' e', runPlan C callf f ops (s :: l) rd fr = runPlan C callf f ops l rd' fr' ∧ RelE e' fr'.ts ∧ n ≤ fr'.ts.length ∧ k rd' e' fr'.ds fr'.st = true := by
      intro hw hk
      split at hr0
      · rename_i t a hop
        simp only [Option.bind_eq_some_iff] at hr0
        obtain ⟨ga, hga, hr0⟩ := hr0
        injection hr0 with hr0; subst hr0
        obtain ⟨p, h1, hk⟩ := getX_ok (k := fun p => optK (loadAt C.P fr.st t p) fun v => put e v fun e' => k (⟨s.i, t, p, v⟩ :: rd) e' fr.ds fr.st) hga R hk
        obtain ⟨v, h2, hk⟩ := optK_ok hk
        obtain ⟨e', h3, h4⟩ := putX_ok (k := fun e' => k (⟨s.i, t, p, v⟩ :: rd) e' fr.ds fr.st) hput R hn hk
        refine ⟨_, ⟨putT fr.ts s.o.dst v, fr.ds, fr.st⟩, e', ?_, h3, by simpa [putT_length] using hn, h4⟩
        simp only [runPlan, hw, Option.bind_some, doOp, hop, aop, opKind, h1, h2, he, rdOf, List.nil_append, List.singleton_append]
      · rename_i hnl
        simp only [Option.bind_eq_some_iff] at hr0
        obtain ⟨r1, hr1, hr0⟩ := hr0
        injection hr0 with hr0; subst hr0
        obtain ⟨v, ds', st', e', h1, h2, h3⟩ := opG_ok (k := fun e' ds' st' => k rd e' ds' st') hck hr1 R hn hk
        refine ⟨rd, ⟨putT fr.ts s.o.dst v, ds' ++ fr.ds, st'⟩, e', ?_, h2, by simpa [putT_length] using hn, h3⟩
        have hro : rdOf fr.ts s.i s.o v = [] := by
          unfold rdOf
          split
          · rename_i hop
            exact absurd hop (hnl _ _)
          · rfl
        simp only [runPlan, hw, Option.bind_some, h1, he, hro, List.nil_append]
    split at h
    · injection h with h; subst h
      exact yes (guardG_none hg) hk
    · rename_i g b
      injection h with h; subst h
      rcases guardG_some hg R hk with ⟨h1, h2⟩ | ⟨h1, h2⟩
      · exact yes h1 h2
      · obtain ⟨e', h3, h4⟩ := putX_ok (k := fun e' => k rd e' fr.ds fr.st) hput R hn h2
        exact ⟨rd, ⟨putT fr.ts s.o.dst AV.undef, fr.ds, fr.st⟩, e', by simp only [runPlan, h1, Option.bind_some], h3, by simpa [putT_length] using hn, h4⟩
theorem wildG_ok (hck : CKOk ck callf) : ∀ {l : List PStep} {r : RSem} {rd : List Rd} {e : E2} {fr : Fr} {k : List Rd → Ends}, wildG C f n ops l = some r → RelE e fr.ts → n ≤ fr.ts.length → r ck rd e fr.ds fr.st k = true →
    ∃ rd' fr' e', runPlan C callf f ops l rd fr = some fr' ∧ RelE e' fr'.ts ∧ n ≤ fr'.ts.length ∧ k rd' e' fr'.ds fr'.st = true
  | [], r, rd, e, fr, k, h, R, hn, hk => by
    injection h with h; subst h
    exact ⟨rd, fr, e, rfl, R, hn, hk⟩
  | s :: l, r, rd, e, fr, k, h, R, hn, hk => by
    simp only [wildG, Option.bind_eq_some_iff] at h
    obtain ⟨r1, h1, r2, h2, h⟩ := h
    injection h with h; subst h
    obtain ⟨rd1, fr1, e1, a1, a2, a3, hk⟩ := wildStep_ok (l := l) (k := fun rd e ds st => r2 ck rd e ds st k) hck h1 R hn hk
    obtain ⟨rd2, fr2, e2, b1, b2, b3, hk⟩ := wildG_ok hck h2 a2 a3 hk
    exact ⟨rd2, fr2, e2, a1.trans b1, b2, b3, hk⟩

/-! ### Code -/
theorem exitK_ok {x : AExit} {a : Bool} {ex : Nat → Bool} {r : Bool} (h : exitK x a ex r = true) : (x = .normal ∧ a = true) ∨ (∃ i, x = .exit i ∧ ex i = true) ∨ (x = .ret ∧ r = true) := by
  cases x with
  | normal => exact .inl ⟨rfl, h⟩
  | exit i => exact .inr (.inl ⟨i, rfl, h⟩)
  | ret => exact .inr (.inr ⟨rfl, h⟩)

def CodeOk (n : Nat) (ck : CK) (s : CSem) (run : Fr → Option (AExit × Fr)) : Prop := ∀ (e : E2) (fr : Fr) (k : CEnds), RelE e fr.ts → n ≤ fr.ts.length → s ck e fr.ds fr.st k = true →
  ∃ x fr' e', run fr = some (x, fr') ∧ RelE e' fr'.ts ∧ n ≤ fr'.ts.length ∧ k x e' fr'.ds fr'.st = true

theorem loopK_ok {s : CSem} {body : Fr → Option (AExit × Fr)} (hb : CodeOk n ck s body) : ∀ rounds, CodeOk n ck (fun ck => loopK s ck rounds) (loopN body rounds)
  | 0 => fun _ _ _ _ _ h => by cases h
  | m + 1 => fun e fr k R hn h => by
    change s ck e fr.ds fr.st (fun x e ds st => exitK x (loopK s ck m e ds st k) (fun i => k (.exit i) e ds st) (k .ret e ds st)) = true at h
    obtain ⟨x, fr1, e1, h1, h2, h3, h4⟩ := hb _ _ _ R hn h
    rcases exitK_ok h4 with ⟨rfl, h5⟩ | ⟨i, rfl, h5⟩ | ⟨rfl, h5⟩
    · obtain ⟨x, fr2, e2, k1, k2, k3, k4⟩ := loopK_ok hb m _ _ _ h2 h3 h5
      exact ⟨x, fr2, e2, by simp only [loopN, h1, Option.bind_some, k1], k2, k3, k4⟩
    · exact ⟨_, fr1, e1, by simp only [loopN, h1, Option.bind_some], h2, h3, h5⟩
    · exact ⟨_, fr1, e1, by simp only [loopN, h1, Option.bind_some], h2, h3, h5⟩

theorem codeG_ok (hck : CKOk ck callf) {rounds : Nat} : ∀ {c : Code} {s : CSem}, codeG C f n rounds c = some s → CodeOk n ck s (exec C callf f rounds c) := by
  intro c
  induction c with
  | skip =>
    intro s h e fr k R hn hk
    injection h with h; subst h
    exact ⟨_, fr, e, rfl, R, hn, hk⟩
  | region id ops draw =>
    intro s h e fr k R hn hk
    cases draw with
    | false =>
      simp only [codeG, Option.bind_eq_some_iff] at h
      obtain ⟨s1, h1, h⟩ := h
      injection h with h; subst h
      obtain ⟨fr1, e1, a1, a2, a3, a4⟩ := seqG_ok (k := fun e ds st => k .normal e ds st) hck h1 R hn hk
      exact ⟨_, fr1, e1, by simp only [exec, a1, Option.bind_some], a2, a3, a4⟩
    | true =>
      simp only [codeG, Option.bind_eq_some_iff] at h
      obtain ⟨l, hl, h⟩ := h
      cases hc : calm l [] with
      | true =>
        rw [hc] at h
        simp only [cond_true, Option.bind_eq_some_iff] at h
        obtain ⟨s1, h1, h⟩ := h
        injection h with h; subst h
        obtain ⟨fr1, e1, a1, a2, a3, a4⟩ := seqG_ok (k := fun e ds st => k .normal e ds st) hck h1 R hn hk
        exact ⟨_, fr1, e1, by simp only [exec, hl, Option.bind_some, calm_ok hc (rd := []) (fun r hr => by cases hr) a1], a2, a3, a4⟩
      | false =>
        rw [hc] at h
        simp only [cond_false, Option.bind_eq_some_iff] at h
        obtain ⟨s1, h1, h⟩ := h
        injection h with h; subst h
        obtain ⟨rd1, fr1, e1, a1, a2, a3, a4⟩ := wildG_ok (k := fun _ e ds st => k .normal e ds st) hck h1 R hn hk
        exact ⟨_, fr1, e1, by simp only [exec, hl, Option.bind_some, a1], a2, a3, a4⟩
  | seq a b iha ihb =>
    intro s h e fr k R hn hk
    simp only [codeG, Option.bind_eq_some_iff] at h
    obtain ⟨sa, ha, sb, hb, h⟩ := h
    injection h with h; subst h
    obtain ⟨x, fr1, e1, h1, h2, h3, h4⟩ := iha ha _ _ _ R hn hk
    rcases exitK_ok h4 with ⟨rfl, h5⟩ | ⟨i, rfl, h5⟩ | ⟨rfl, h5⟩
    · obtain ⟨x, fr2, e2, k1, k2, k3, k4⟩ := ihb hb _ _ _ h2 h3 h5
      exact ⟨x, fr2, e2, by simp only [exec, h1, Option.bind_some, k1], k2, k3, k4⟩
    · exact ⟨_, fr1, e1, by simp only [exec, h1, Option.bind_some], h2, h3, h5⟩
    · exact ⟨_, fr1, e1, by simp only [exec, h1, Option.bind_some], h2, h3, h5⟩
  | cond c a b iha ihb =>
    intro s h e fr k R hn hk
    simp only [codeG, Option.bind_eq_some_iff] at h
    obtain ⟨gc, hc, sa, ha, sb, hb, h⟩ := h
    injection h with h; subst h
    obtain ⟨v, h1, hk⟩ := getX_ok (k := fun v => boolK v fun c => cond c (sa ck e fr.ds fr.st k) (sb ck e fr.ds fr.st k)) hc R hk
    obtain ⟨b', rfl, hk⟩ := boolK_ok hk
    cases b' with
    | true =>
      obtain ⟨x, fr1, e1, k1, k2, k3, k4⟩ := iha ha _ _ _ R hn hk
      exact ⟨x, fr1, e1, by simp only [exec, h1, Option.bind_some, k1], k2, k3, k4⟩
    | false =>
      obtain ⟨x, fr1, e1, k1, k2, k3, k4⟩ := ihb hb _ _ _ R hn hk
      exact ⟨x, fr1, e1, by simp only [exec, h1, Option.bind_some, k1], k2, k3, k4⟩
  | block id b ih =>
    intro s h e fr k R hn hk
    simp only [codeG, Option.bind_eq_some_iff] at h
    obtain ⟨sb, hb, h⟩ := h
    injection h with h; subst h
    obtain ⟨x, fr1, e1, h1, h2, h3, h4⟩ := ih hb _ _ _ R hn hk
    rcases exitK_ok h4 with ⟨rfl, h5⟩ | ⟨i, rfl, h5⟩ | ⟨rfl, h5⟩
    · exact ⟨_, fr1, e1, by simp only [exec, h1, Option.bind_some], h2, h3, h5⟩
    · cases hi : Nat.beq i id with
      | true =>
        rw [hi] at h5
        exact ⟨_, fr1, e1, by simp only [exec, h1, Option.bind_some, hi, cond_true], h2, h3, h5⟩
      | false =>
        rw [hi] at h5
        exact ⟨_, fr1, e1, by simp only [exec, h1, Option.bind_some, hi, cond_false], h2, h3, h5⟩
    · exact ⟨_, fr1, e1, by simp only [exec, h1, Option.bind_some], h2, h3, h5⟩
  | loop b ih =>
    intro s h e fr k R hn hk
    simp only [codeG, Option.bind_eq_some_iff] at h
    obtain ⟨sb, hb, h⟩ := h
    injection h with h; subst h
    obtain ⟨x, fr1, e1, k1, k2, k3, k4⟩ := loopK_ok (ih hb) rounds _ _ _ R hn hk
    exact ⟨x, fr1, e1, by simp only [exec]; exact k1, k2, k3, k4⟩
  | exit id =>
    intro s h e fr k R hn hk
    injection h with h; subst h
    exact ⟨_, fr, e, rfl, R, hn, hk⟩
  | label l =>
    intro s h e fr k R hn hk
    injection h with h; subst h
    exact ⟨_, fr, e, rfl, R, hn, hk⟩
  | scope b ih =>
    intro s h e fr k R hn hk
    simp only [codeG] at h
    obtain ⟨x, fr1, e1, k1, k2, k3, k4⟩ := ih h _ _ _ R hn hk
    exact ⟨x, fr1, e1, by simp only [exec]; exact k1, k2, k3, k4⟩
  | ret =>
    intro s h e fr k R hn hk
    injection h with h; subst h
    exact ⟨_, fr, e, rfl, R, hn, hk⟩
  | _ => intro s h; cases h
end
end Go.Ev
