/- Code and calls: what the evaluator answers the model comes to. -/
import Derived.Test.YthodfojhbbendaaDoorEvS
import Derived.LoopN
import Derived.Scope
set_option linter.all false
namespace Go.Ev
open Go.RowKit (Below)

section
variable {W0 : World} {G : Gh} {st : St} {w : World} {P : Program} {C : Cfg} {callf : CallF} {f : FuncId}

theorem Post.trans {G' : Gh} {w' : World} {fr fr' fr'' : Fr} {x : AExit} {e : Exit} {a : Act} {w'' : World} (h : Goes W0 G fr.st w G' fr'.st w') (k : Post W0 G' w' fr' x fr'' e a w'') : Post W0 G w fr x fr'' e a w'' := by
  obtain ⟨k1, G'', k2, k3⟩ := k
  exact ⟨k1, G'', h.trans k2, k3⟩

theorem rounds_mono {c : Code} {Q Q' : Exit → Act → World → Prop} (h : ∀ e a w, Q e a w → Q' e a w) : ∀ n a w, Code.rounds P c Q n a w → Code.rounds P c Q' n a w
  | 0, _, _, k => k
  | n + 1, a, w, k => by
    rw [rounds_succ] at k ⊢
    refine wp_mono k fun e a w q => ?_
    cases e with
    | normal => exact rounds_mono h n a w q
    | exit i => exact h _ _ _ q
    | goto l => exact h _ _ _ q
    | ret => exact h _ _ _ q
    | panic c => exact h _ _ _ q
    | outgrown => exact h _ _ _ q

theorem loop_sound {c : Code} {body : Fr → Option (AExit × Fr)}
    (hb : ∀ {G : Gh} {w : World} {fr fr' : Fr} {a : Act} {x : AExit}, Inv W0 G fr.st w → FrRep G w fr a → body fr = some (x, fr') → c.wp P (Post W0 G w fr x fr') a w) :
    ∀ (n : Nat) {G : Gh} {w : World} {fr fr' : Fr} {a : Act} {x : AExit}, Inv W0 G fr.st w → FrRep G w fr a → loopN body n fr = some (x, fr') → Code.rounds P c (Post W0 G w fr x fr') n a w
  | 0, G, w, fr, fr', a, x, _, _, h => by simp only [loopN] at h; cases h
  | n + 1, G, w, fr, fr', a, x, I, hf, h => by
    simp only [loopN, Option.bind_eq_some_iff] at h
    obtain ⟨⟨x1, fr1⟩, h1, h⟩ := h
    rw [rounds_succ]
    refine wp_mono (hb I hf h1) fun e a1 w1 hp => ?_
    obtain ⟨p1, G1, p2, p3⟩ := hp
    cases x1 with
    | normal =>
      simp only [AExit.is] at p1
      subst p1
      exact rounds_mono (fun e a w => Post.trans p2) n _ _ (loop_sound hb n p2.inv p3 h)
    | exit i =>
      injection h with h; injection h with e1 e2; subst e1; subst e2
      have p1' := p1
      simp only [AExit.is] at p1
      subst p1
      exact ⟨p1', G1, p2, p3⟩
    | ret =>
      injection h with h; injection h with e1 e2; subst e1; subst e2
      have p1' := p1
      simp only [AExit.is] at p1
      subst p1
      exact ⟨p1', G1, p2, p3⟩

theorem exec_sound (hm : C.P.follows .mixedOrders = true) (hC : CallOk C.P W0 callf) {rounds : Nat} : ∀ (c : Code) {G : Gh} {w : World} {fr fr' : Fr} {a : Act} {x : AExit}, Inv W0 G fr.st w → FrRep G w fr a →
    exec C callf f rounds c fr = some (x, fr') → c.wp C.P (Post W0 G w fr x fr') a w := by
  intro c
  induction c with
  | skip =>
    intro G w fr fr' a x I hf h
    simp only [exec] at h
    injection h with h; injection h with e1 e2; subst e1; subst e2
    exact wp_skip ⟨rfl, G, Goes.refl I, hf⟩
  | region id ops draw =>
    intro G w fr fr' a x I hf h
    simp only [exec] at h
    cases draw with
    | false =>
      simp only [Option.bind_eq_some_iff] at h
      obtain ⟨fr1, h1, h⟩ := h
      injection h with h; injection h with e1 e2; subst e1; subst e2
      exact wp_region_list (seq_sound hC _ I hf h1 fun G' a' w' hg hf' => ⟨rfl, G', hg, hf'⟩)
    | true =>
      simp only [Option.bind_eq_some_iff] at h
      obtain ⟨l, hl, fr1, h1, h⟩ := h
      injection h with h; injection h with e1 e2; subst e1; subst e2
      exact draw_sound hm hC I hf hl h1 fun G' a' w' hg hf' => ⟨rfl, G', hg, hf'⟩
  | seq p q ihp ihq =>
    intro G w fr fr' a x I hf h
    simp only [exec, Option.bind_eq_some_iff] at h
    obtain ⟨⟨x1, fr1⟩, h1, h⟩ := h
    refine wp_seq (wp_mono (ihp I hf h1) fun e a1 w1 hp => ?_)
    obtain ⟨p1, G1, p2, p3⟩ := hp
    cases x1 with
    | normal =>
      simp only [AExit.is] at p1
      subst p1
      exact wp_mono (ihq p2.inv p3 h) fun e a w => Post.trans p2
    | exit i =>
      injection h with h; injection h with e1 e2; subst e1; subst e2
      have p1' := p1
      simp only [AExit.is] at p1
      subst p1
      exact ⟨p1', G1, p2, p3⟩
    | ret =>
      injection h with h; injection h with e1 e2; subst e1; subst e2
      have p1' := p1
      simp only [AExit.is] at p1
      subst p1
      exact ⟨p1', G1, p2, p3⟩
  | cond o p q ihp ihq =>
    intro G w fr fr' a x I hf h
    simp only [exec, Option.bind_eq_some_iff] at h
    obtain ⟨v, hv, h⟩ := h
    have hr := Rep.opnd hf.ts hv
    split at h
    · simp only [Rep] at hr
      exact wp_cond_true hr (ihp I hf h)
    · simp only [Rep] at hr
      exact wp_cond_false hr (ihq I hf h)
    · cases h
  | block id b ih =>
    intro G w fr fr' a x I hf h
    simp only [exec, Option.bind_eq_some_iff] at h
    obtain ⟨⟨x1, fr1⟩, h1, h⟩ := h
    refine wp_block (wp_mono (ih I hf h1) fun e a1 w1 hp => ?_)
    obtain ⟨p1, G1, p2, p3⟩ := hp
    cases x1 with
    | normal =>
      injection h with h; injection h with e1 e2; subst e1; subst e2
      have p1' := p1
      simp only [AExit.is] at p1
      subst p1
      exact ⟨p1', G1, p2, p3⟩
    | exit i =>
      simp only [AExit.is] at p1
      subst p1
      simp only [cond_beq] at h
      simp only [Exit.inBlock]
      split at h
      · injection h with h; injection h with e1 e2; subst e1; subst e2
        rw [if_pos (by assumption)]
        exact ⟨rfl, G1, p2, p3⟩
      · injection h with h; injection h with e1 e2; subst e1; subst e2
        rw [if_neg (by assumption)]
        exact ⟨rfl, G1, p2, p3⟩
    | ret =>
      injection h with h; injection h with e1 e2; subst e1; subst e2
      have p1' := p1
      simp only [AExit.is] at p1
      subst p1
      exact ⟨p1', G1, p2, p3⟩
  | loop b ih =>
    intro G w fr fr' a x I hf h
    simp only [exec] at h
    exact wp_loop_rounds rounds (loop_sound (fun I hf h => ih I hf h) rounds I hf h)
  | exit id =>
    intro G w fr fr' a x I hf h
    simp only [exec] at h
    injection h with h; injection h with e1 e2; subst e1; subst e2
    exact wp_exit ⟨rfl, G, Goes.refl I, hf⟩
  | label l =>
    intro G w fr fr' a x I hf h
    simp only [exec] at h
    injection h with h; injection h with e1 e2; subst e1; subst e2
    exact wp_label ⟨rfl, G, Goes.refl I, hf⟩
  | ret =>
    intro G w fr fr' a x I hf h
    simp only [exec] at h
    injection h with h; injection h with e1 e2; subst e1; subst e2
    exact wp_ret ⟨rfl, G, Goes.refl I, hf⟩
  | scope b ih =>
    intro G w fr fr' a x I hf h
    simp only [exec] at h
    refine wp_scope_straight (wp_mono (ih I hf h) fun e a1 w1 hp => ?_)
    have hp' := hp
    obtain ⟨p1, _⟩ := hp
    cases x <;> simp only [AExit.is] at p1 <;> subst p1 <;> exact hp'
  | goto l => intro G w fr fr' a x I hf h; simp only [exec] at h; cases h
  | rangeFunc _ _ _ _ _ _ => intro G w fr fr' a x I hf h; simp only [exec] at h; cases h
  | refuse s => intro G w fr fr' a x I hf h; simp only [exec] at h; cases h

/-! ### Results, deferred calls -/
def resSem (tmps : Array Value) : ResultVar → Sem Value
  | .tmp t => pure (tmps.getD t Go.undef)
  | .cell a t => do loadVar t (← asAddr (tmps.getD a Go.undef))
theorem results_eq (fn : Func) (tmps : Array Value) : results fn tmps = (do
    let vs ← fn.results.mapM (resSem tmps)
    pure (if h : vs.size = 1 then vs[0] else .tuple vs)) := by
  unfold results
  congr 1
theorem result_rep (I : Inv W0 G st w) {ts : List AV} {tmps : Array Value} (hts : RepL G st w ts tmps.toList) : ∀ {rs : List ResultVar} {vs : List AV}, resultsOf P ts st rs = some vs →
    ∃ us, (rs.mapM (resSem tmps)).run P w = .ok us w ∧ RepL G st w vs us
  | [], vs, h => by
    simp only [resultsOf] at h
    injection h with h
    subst h
    exact ⟨[], by simp, RepL.nil⟩
  | r :: rs, vs, h => by
    simp only [resultsOf, Option.bind_eq_some_iff] at h
    obtain ⟨v, h1, vs', h2, h3⟩ := h
    injection h3 with h3
    subst h3
    obtain ⟨us, u1, u2⟩ := result_rep I hts h2
    have key : ∃ r', (resSem tmps r).run P w = .ok r' w ∧ Rep G st w v r' := by
      cases r with
      | tmp t =>
        simp only [resultOf, Option.some.injEq] at h1
        subst h1
        exact ⟨_, rfl, hts.tmp t⟩
      | cell t ty =>
        simp only [resultOf] at h1
        have hp := hts.tmp t
        obtain ⟨r, r1, r2⟩ := run_loadAt (P := P) I hp h1
        refine ⟨r, ?_, r2⟩
        simp only [loadAt, Option.bind_eq_some_iff] at h1
        obtain ⟨_, _, n, _, l, hl, _⟩ := h1
        obtain ⟨b, off, e, _⟩ := readAt_rep I hp hl
        show (do loadVar ty (← asAddr (tmps.getD t Go.undef)) : Sem Value).run P w = _
        rw [e] at r1 ⊢
        simpa [Instr.loadAt, Instr.sureAddr, asAddr] using r1
    obtain ⟨r', k1, k2⟩ := key
    exact ⟨r' :: us, by simp only [List.mapM_cons, Sem.run_bind, k1, u1, Result.andThen_ok, Sem.run_pure], RepL.cons k2 u2⟩

theorem finish_sound (hC : CallOk P W0 callf) {fn : Func} {ts : List AV} {tmps : Array Value} {R : Ending → World → Prop} : ∀ {ads : List ADefer} {ds : List Deferred} {G : Gh} {st st' : St} {w : World} {vs : List AV},
    Inv W0 G st w → RepL G st w ts tmps.toList → RepDs G st w ads ds → runDefers callf ads st = some st' → resultsOf P ts st' fn.results.toList = some vs →
    (∀ G' w' us, Goes W0 G st w G' st' w' → RepL G' st' w' vs us → R (.returned (if h : us.length = 1 then us[0] else .tuple us.toArray)) w') → Leaves P fn tmps R ds .returning w
  | [], ds, G, st, st', w, vs, I, hts, hd, h, hr, hR => by
    simp only [runDefers] at h
    injection h with h
    subst h
    simp only [RepDs] at hd
    subst hd
    obtain ⟨us, u1, u2⟩ := result_rep I hts hr
    refine ⟨if h : us.length = 1 then us[0] else .tuple us.toArray, ?_, hR G w us (Goes.refl I) u2⟩
    rw [results_eq]
    simp only [Sem.run_bind, Array.mapM_eq_mapM_toList, Sem.run_map, u1, Result.andThen_ok, Sem.run_pure]
    congr 1
  | ad :: ads, ds, G, st, st', w, vs, I, hts, hd, h, hr, hR => by
    obtain ⟨d, ds', rfl, ⟨cap, args, rfl, hargs⟩, hd⟩ := hd
    simp only [runDefers, Option.bind_eq_some_iff] at h
    obtain ⟨⟨plain, v, st1⟩, h1, h⟩ := h
    cases plain with
    | false => cases h
    | true =>
      rcases hC _ _ _ _ _ _ h1 G w (args ++ cap) I hargs with ⟨_, _, _, _, hp⟩ | ⟨c1, _, c3⟩
      · cases hp
      · refine leaves_cons (by simp) (f := ad.fn) (args := args ++ cap) ?_ ?_
        · simpa [invoke] using c1
        · refine CallsD.mono (c3 rfl .returning) fun e u' w' he => ?_
          obtain ⟨rfl, u, G', rfl, hg, hrep⟩ := he
          simp only [settle]
          exact finish_sound hC hg.inv (RepL.mono hg.le _ _ hts) (RepDs.mono hg.le hd) h hr fun G'' w'' us hg' hu => hR G'' w'' us (hg.trans hg') hu

theorem RepL.pad {args : List AV} {vs : Array Value} {n : Nat} (h : RepL G st w args vs.toList) : RepL G st w (padTo n args) (vs ++ Array.replicate (n - vs.size) Go.undef).toList := by
  have hl := h.length
  simp only [Array.length_toList] at hl
  simp only [padTo, Array.toList_append, Array.toList_replicate, hl]
  exact RepL.append h (RepL.replicate Rep.undef _)

/-- What the evaluator may take as told: the library's own functions; calls whose answer is known, and that turn nothing older. -/
def ExtOk (P : Program) (ext : Ext) : Prop := ∀ f args v, ext f args = some v → ∀ G st w (vs : Array Value), RepL G st w args vs.toList →
  (∃ u, (callFunc f vs).run P w = .ok (.value u) w ∧ Rep G st w v u) ∨
  ((callFunc f vs).run P w = .ok (.enter f vs) w ∧ Calls P f vs w fun e w' => ∃ u, e = .returned u ∧ Rep G st w v u ∧ Below w.heap.size w w')
theorem goes_below {w' : World} (I : Inv W0 G st w) (B : Below w.heap.size w w') : Goes W0 G st w G st w' := by
  have L : Le G st w G st w' := ⟨fun _ _ h => h, fun _ _ m _ h => ⟨m, Nat.le_refl _, h⟩, fun b id m n off h _ => B.cell (p := ⟨b, off, none⟩) (I.elt b id m n h).2.1, fun _ h hh _ => ⟨h, Nat.le_refl _, hh, fun _ _ _ _ k => k⟩, Nat.le_refl _⟩
  refine ⟨L, Unb.refl _ _, ?_⟩
  exact {
    below := I.below.trans (B.mono I.below.size)
    blt := fun id b h => by obtain ⟨h1, h2, h3⟩ := I.blt id b h; exact ⟨h1, Nat.lt_of_lt_of_le h2 B.size, h3⟩
    binj := I.binj
    bext := I.bext
    elt := fun b id m n h => by obtain ⟨h1, h2, h3⟩ := I.elt b id m n h; exact ⟨h1, Nat.lt_of_lt_of_le h2 B.size, h3⟩
    ecell := fun b id m n i h hi => by
      have hb := (I.elt b id m n h).2.1
      rw [B.cell (p := ⟨b, i, none⟩) hb, B.frozen (p := ⟨b, i, none⟩) hb]
      exact I.ecell b id m n i h hi
    bcell := fun id b cs h1 h2 => by
      have hb := (I.blt id b h1).2.1
      obtain ⟨k1, k2⟩ := I.bcell id b cs h1 h2
      refine ⟨?_, fun i hi => by rw [B.frozen (p := ⟨b, i, none⟩) hb]; exact k2 i hi⟩
      obtain ⟨vs, j1, _, j3⟩ := k1.values
      exact RepAt.of_values (RepL.mono L _ _ j1) fun j v hv => by rw [B.cell (p := ⟨b, 0 + j, none⟩) hb]; exact j3 j v hv
    fresh := I.fresh }

theorem single_rep {vs : List AV} {us : List Value} (h : RepL G st w vs us) (b : Bool) (st' : St) :
    (single b st' vs).1 = b ∧ (single b st' vs).2.2 = st' ∧ Rep G st w (single b st' vs).2.1 (if h : us.length = 1 then us[0] else .tuple us.toArray) := by
  have many : ∀ {vs : List AV} {us : List Value}, RepL G st w vs us → vs.length ≠ 1 → Rep G st w (.tuple vs) (if h : us.length = 1 then us[0] else .tuple us.toArray) := by
    intro vs us h hne
    have hlen := h.length
    rw [dif_neg (by omega)]
    simp only [Rep]
    exact ⟨_, rfl, by simpa using h⟩
  cases vs with
  | nil => exact ⟨rfl, rfl, many h (by simp)⟩
  | cons v t =>
    cases t with
    | nil =>
      obtain ⟨u, l, rfl, hu, hl⟩ := h.cons_inv
      have := hl.nil_inv
      subst this
      exact ⟨rfl, rfl, by simpa [single] using hu⟩
    | cons _ _ => exact ⟨rfl, rfl, many h (by simp)⟩

/-- **The evaluator's calls are the model's.** -/
theorem call_sound (hm : C.P.follows .mixedOrders = true) {ext : Ext} (hE : ExtOk C.P ext) (rounds : Nat) : ∀ n, CallOk C.P W0 (call C ext rounds n)
  | 0 => fun _ _ _ _ _ _ h => by simp only [call] at h; cases h
  | n + 1 => fun f args st plain v st' h G w vs I hargs => by
    have ih := call_sound hm hE rounds n
    simp only [call] at h
    split at h
    · rename_i v' hv
      injection h with h; injection h with e1 e2; injection e2 with e2 e3; subst e1; subst e2; subst e3
      rcases hE f args v' hv G st w vs hargs with ⟨u, u1, u2⟩ | ⟨u1, u2⟩
      · exact .inl ⟨u, u1, rfl, u2, rfl⟩
      · refine .inr ⟨u1, Calls.mono u2 fun e w' he => ?_, fun h => by cases h⟩
        obtain ⟨u, rfl, hr, B⟩ := he
        have hg := goes_below I B
        exact ⟨u, G, rfl, hg, Rep.mono hg.le _ _ hr⟩
    · simp only [Option.bind_eq_some_iff] at h
      obtain ⟨fn, hfn, c, hc, h⟩ := h
      obtain ⟨hname, h⟩ := cond_none h
      simp only [Option.bind_eq_some_iff] at h
      obtain ⟨⟨x, fr⟩, hx, h⟩ := h
      have hfin : finish C.P (call C ext rounds n) fn fr = some (plain, v, st') ∧ (x = .normal ∨ x = .ret) := by
        cases x with
        | normal => exact ⟨h, .inl rfl⟩
        | exit i => cases h
        | ret => exact ⟨h, .inr rfl⟩
      clear h
      obtain ⟨hfin, hx'⟩ := hfin
      simp only [finish, Option.bind_eq_some_iff] at hfin
      obtain ⟨st1, hd, rs, hrs, hfin⟩ := hfin
      have hbody : ¬ fn.body = none := by rw [hc]; simp
      have hname' : ¬ fn.name = "runtime.NumGoroutine" := by simpa using hname
      have henter : (callFunc f vs).run C.P w = .ok (.enter f vs) w := by
        simp [callFunc, hfn, hname', hbody]
      have hwp := exec_sound (W0 := W0) hm ih c (G := G) (w := w) (fr := ⟨padTo fn.ntmps args, [], st⟩) (a := { tmps := vs ++ Array.replicate (fn.ntmps - vs.size) Go.undef, defers := [] }) I ⟨RepL.pad hargs, rfl⟩ hx
      have post : ∀ {G' : Gh} {w' : World} {us : List Value}, Goes W0 G st w G' st1 w' → RepL G' st1 w' rs us → CallPost W0 G st w v st' (.returned (if h : us.length = 1 then us[0] else .tuple us.toArray)) w' := by
        intro G' w' us hg hu
        obtain ⟨_, s2, s3⟩ := single_rep hu fr.ds.isEmpty st1
        injection hfin with hfin
        rw [hfin] at s2 s3
        simp only at s2 s3
        subst s2
        exact ⟨_, G', rfl, hg, s3⟩
      refine .inr ⟨henter, ?_, ?_⟩
      · refine calls_of_wp_defers hfn hc (wp_mono hwp fun e a1 w1 hp => ?_)
        obtain ⟨p1, G1, p2, p3⟩ := hp
        have key : Leaves C.P fn a1.tmps (CallPost W0 G st w v st') a1.defers .returning w1 :=
          finish_sound ih p2.inv p3.ts p3.ds hd hrs fun G' w' us hg hu => post (p2.trans hg) hu
        rcases hx' with rfl | rfl
        · simp only [AExit.is] at p1; subst p1; exact key
        · simp only [AExit.is] at p1; subst p1; exact key
      · intro hpl u
        subst hpl
        have hds : fr.ds = [] := by
          have : fr.ds.isEmpty = true := by
            injection hfin with hfin
            have := congrArg (·.1) hfin
            cases rs with
            | nil => exact this
            | cons v t => cases t <;> exact this
          simpa using this
        refine callsD_of_wp hfn hc (wp_mono hwp fun e a1 w1 hp => ?_)
        obtain ⟨p1, G1, p2, p3⟩ := hp
        have hd1 := p3.ds
        rw [hds] at hd hd1
        simp only [RepDs] at hd1
        simp only [runDefers] at hd
        injection hd with hd
        subst hd
        obtain ⟨us, u1, u2⟩ := result_rep (P := C.P) p2.inv p3.ts hrs
        have key : bodyPost C.P fn (CallPost W0 G st w v st') .ret a1 w1 := by
          refine ⟨hd1, _, ?_, post p2 u2⟩
          rw [results_eq]
          simp only [Sem.run_bind, Array.mapM_eq_mapM_toList, Sem.run_map, u1, Result.andThen_ok, Sem.run_pure]
          congr 1
        rcases hx' with rfl | rfl
        · simp only [AExit.is] at p1; subst p1; exact key
        · simp only [AExit.is] at p1; subst p1; exact key
end
end Go.Ev
