/- Results, deferred calls, rounds, calls. -/
import Derived.Test.YtgmhnpfpmcccnaaGreatDoorEvN
set_option linter.all false
namespace Go.Ev
open Go.RowKit (Below)

section
variable {W0 : World} {G : Gh} {st : St} {w : World} {P : Program} {C : Cfg} {ck : CK} {f : FuncId}

def resSem (tmps : Array Value) : ResultVar → Sem Value
  | .tmp t => pure (tmps.getD t Go.undef)
  | .cell a t => do loadVar t (← asAddr (tmps.getD a Go.undef))
theorem results_eq (fn : Func) (tmps : Array Value) : results fn tmps = (do
    let vs ← fn.results.mapM (resSem tmps)
    pure (if h : vs.size = 1 then vs[0] else .tuple vs)) := by
  unfold results
  congr 1
theorem result_rep (I : Inv W0 G st w) {ts : List AV} {tmps : Array Value} (hts : RepL G st w ts tmps.toList) : ∀ {rs : List ResultVar} {vs : List AV}, resultsOf P ts st rs = some vs →
    ∃ us, (rs.mapM (resSem tmps)).run P w = .ok us w ∧ RepL G st w vs us
  | [], vs, h => by
    simp only [resultsOf] at h
    injection h with h
    subst h
    exact ⟨[], by simp, RepL.nil⟩
  | r :: rs, vs, h => by
    simp only [resultsOf, Option.bind_eq_some_iff] at h
    obtain ⟨v, h1, vs', h2, h3⟩ := h
    injection h3 with h3
    subst h3
    obtain ⟨us, u1, u2⟩ := result_rep I hts h2
    have key : ∃ r', (resSem tmps r).run P w = .ok r' w ∧ Rep G st w v r' := by
      cases r with
      | tmp t =>
        simp only [resultOf, Option.some.injEq] at h1
        subst h1
        exact ⟨_, rfl, hts.tmp t⟩
      | cell t ty =>
        simp only [resultOf] at h1
        have hp := hts.tmp t
        obtain ⟨r, r1, r2⟩ := run_loadAt (P := P) I hp h1
        refine ⟨r, ?_, r2⟩
        simp only [loadAt, Option.bind_eq_some_iff] at h1
        obtain ⟨_, _, n, _, l, hl, _⟩ := h1
        obtain ⟨b, off, e, _⟩ := readAt_rep I hp hl
        show (do loadVar ty (← asAddr (tmps.getD t Go.undef)) : Sem Value).run P w = _
        rw [e] at r1 ⊢
        simpa [Instr.loadAt, Instr.sureAddr, asAddr] using r1
    obtain ⟨r', k1, k2⟩ := key
    exact ⟨r' :: us, by simp only [List.mapM_cons, Sem.run_bind, k1, u1, Result.andThen_ok, Sem.run_pure], RepL.cons k2 u2⟩

/-- The results as one value. -/
def one (us : List Value) : Value := if h : us.length = 1 then us[0] else .tuple us.toArray
theorem single_rep {vs : List AV} {us : List Value} (h : RepL G st w vs us) : Rep G st w (single vs) (one us) := by
  have many : ∀ {vs : List AV} {us : List Value}, RepL G st w vs us → vs.length ≠ 1 → Rep G st w (.tuple vs) (one us) := by
    intro vs us h hne
    have hlen := h.length
    unfold one
    rw [dif_neg (by omega)]
    simp only [Rep]
    exact ⟨_, rfl, by simpa using h⟩
  cases vs with
  | nil => exact many h (by simp)
  | cons v t =>
    cases t with
    | nil =>
      obtain ⟨u, l, rfl, hu, hl⟩ := h.cons_inv
      have := hl.nil_inv
      subst this
      simpa [single, one] using hu
    | cons _ _ => exact many h (by simp)
theorem results_run (I : Inv W0 G st w) {fn : Func} {ts : List AV} {tmps : Array Value} (hts : RepL G st w ts tmps.toList) {vs : List AV} (h : resultsOf P ts st fn.results.toList = some vs) :
    ∃ us, (results fn tmps).run P w = .ok (one us) w ∧ RepL G st w vs us := by
  obtain ⟨us, u1, u2⟩ := result_rep I hts h
  refine ⟨us, ?_, u2⟩
  rw [results_eq]
  simp only [Sem.run_bind, Array.mapM_eq_mapM_toList, Sem.run_map, u1, Result.andThen_ok, Sem.run_pure]
  unfold one
  congr 1

theorem finish_sound (hC : FnOk P W0 ck) {fn : Func} {ts : List AV} {tmps : Array Value} {R : Ending → World → Prop} {k : List AV → St → Bool} : ∀ {ads : List ADefer} {ds : List Deferred} {G : Gh} {st : St} {w : World},
    Inv W0 G st w → RepL G st w ts tmps.toList → RepDs G st w ads ds → runDefersK ck ads st (fun st' => match resultsOf P ts st' fn.results.toList with | some vs => k vs st' | none => false) = true →
    (∀ vs st' G' w' us, k vs st' = true → Goes W0 G st w G' st' w' → RepL G' st' w' vs us → R (.returned (one us)) w') → LeavesInM Fence.wide 0 P fn tmps R ds .returning w
  | [], ds, G, st, w, I, hts, hd, h, hR => by
    simp only [runDefersK] at h
    simp only [RepDs] at hd
    subst hd
    split at h
    · rename_i vs hr
      obtain ⟨us, u1, u2⟩ := results_run I hts hr
      exact ⟨_, u1, hR vs st G w us h (Goes.refl I) u2⟩
    · cases h
  | .mark id :: ads, ds, G, st, w, I, hts, hd, h, hR => by
    obtain ⟨d, ds', rfl, ⟨b, k0, n0, hb, rfl⟩, hd⟩ := hd
    simp only [runDefersK] at h
    split at h
    · rename_i ho
      obtain ⟨o, ho', hO⟩ := I.bobj id b k0 n0 _ hb ho rfl
      simp only [OObj] at hO
      subst hO
      have L := Le.obj I hb .dead (.deferred none)
      have g : Goes W0 G st w G (st.put id .dead) (w.putObj b (.deferred none)) := ⟨L, Unb.put (by intro hu; rw [hu.1] at hb; cases hb), I.objKill (.deferred none) hb ho rfl⟩
      refine ⟨by simp, .inl ⟨b, _, rfl, run_takeDeferred ho', ?_⟩⟩
      exact finish_sound hC g.inv (RepL.mono L _ _ hts) (RepDs.mono L hd) h fun vs st' G' w' us hk hg hu => hR vs st' G' w' us hk (g.trans hg) hu
    · cases h
  | .call f args :: ads, ds, G, st, w, I, hts, hd, h, hR => by
    obtain ⟨d, ds', rfl, ⟨cap, as, rfl, hargs⟩, hd⟩ := hd
    simp only [runDefersK] at h
    rcases hC _ _ _ _ h G w (as ++ cap) I hargs with ⟨_, _, _, _, _, _, hp, _⟩ | ⟨c1, _, c3⟩
    · cases hp
    · refine ⟨by simp, .inr ⟨fun h => (by cases h), .func f, cap, f, as ++ cap, rfl, by simpa [invoke] using c1, fun _ _ => trivial, ?_⟩⟩
      obtain ⟨z1, z2⟩ := c3 (fun _ _ => rfl) .returning
      refine ⟨z1, fun c cs hc hr => ?_⟩
      obtain ⟨e, u', w', fr, ⟨he1, he2⟩, hs, hk1, hk2, hk3⟩ := z2 c cs hc hr
      obtain ⟨u, v, st', G', rfl, hk, hg, hrep⟩ := he2
      subst he1
      refine ⟨.returned u, .returning, w', fr, ?_, hs, hk1, hk2, hk3⟩
      simp only [settle]
      exact finish_sound hC hg.inv (RepL.mono hg.le _ _ hts) (RepDs.mono hg.le hd) hk fun vs st'' G'' w'' us hk' hg' hu => hR vs st'' G'' w'' us hk' (hg.trans hg') hu

theorem leaves_false {fn : Func} {tmps : Array Value} : ∀ (ds : List Deferred) (u : FrameMode) (w : World), LeavesInM Fence.wide 0 P fn tmps (fun _ _ => False) ds u w → False
  | [], u, w, h => by
    cases u with
    | run => exact h
    | returning => obtain ⟨_, _, h⟩ := h; exact h
    | panicking c => exact h
  | d :: ds, u, w, h => by
    obtain ⟨_, ⟨r, w', _, _, h⟩ | ⟨_, _, _, _, _, _, _, _, _, h⟩⟩ := h
    · exact leaves_false ds u w' h
    · obtain ⟨e, u', w', fr, h, _⟩ := h { (default : Frame) with mode := u } [] rfl (room_wide _)
      cases e with
      | returned v => exact leaves_false ds _ _ h
      | panicked c => exact leaves_false ds _ _ h
      | outgrown => exact h

theorem RepL.pad {args : List AV} {vs : Array Value} {n : Nat} (h : RepL G st w args vs.toList) : RepL G st w (padTo n args) (vs ++ Array.replicate (n - vs.size) Go.undef).toList := by
  have hl := h.length
  simp only [Array.length_toList] at hl
  simp only [padTo, Array.toList_append, Array.toList_replicate, hl]
  exact RepL.append h (RepL.replicate Rep.undef _)

/-- What the evaluator may take as told: the library's own functions; calls whose answer is known, and that turn nothing older. -/
def ExtOk (P : Program) (ext : Ext) : Prop := ∀ f args v, ext f args = some v → ∀ G st w (vs : Array Value), RepL G st w args vs.toList →
  (∃ u, (callFunc f vs).run P w = .ok (.value u) w ∧ Rep G st w v u) ∨
  ((callFunc f vs).run P w = .ok (.enter f vs) w ∧ Calls P f vs w fun e w' => ∃ u, e = .returned u ∧ Rep G st w v u ∧ Below w.heap.size w w')
/-- The same of calls that turn the store. -/
def MextOk (P : Program) (mext : FuncId → List AV → St → Option (AV × St)) : Prop := ∀ f args st v st', mext f args st = some (v, st') → ∀ W0 G w (vs : Array Value), Inv W0 G st w → RepL G st w args vs.toList →
  (∃ u w' G', (callFunc f vs).run P w = .ok (.value u) w' ∧ Goes W0 G st w G' st' w' ∧ Rep G' st' w' v u) ∨
  ((callFunc f vs).run P w = .ok (.enter f vs) w ∧ Calls P f vs w fun e w' => ∃ u G', e = .returned u ∧ Goes W0 G st w G' st' w' ∧ Rep G' st' w' v u)
theorem goes_below {w' : World} (I : Inv W0 G st w) (B : Below w.heap.size w w') : Goes W0 G st w G st w' := by
  have L : Le G st w G st w' := ⟨fun _ _ h => h, fun _ _ m _ h => ⟨m, Nat.le_refl _, h⟩, fun b id m n off h _ => B.cell (p := ⟨b, off, none⟩) (I.elt b id m n h).2.1, fun _ h hh _ => ⟨h, Nat.le_refl _, hh, fun _ _ _ _ k => k⟩, Nat.le_refl _⟩
  refine ⟨L, Unb.refl _ _, ?_⟩
  exact {
    below := I.below.trans (B.mono I.below.size)
    blt := fun id b k n h => by obtain ⟨h1, h2, h3⟩ := I.blt id b k n h; exact ⟨h1, Nat.lt_of_lt_of_le h2 B.size, h3⟩
    binj := I.binj
    bext := I.bext
    elt := fun b id m n h => by obtain ⟨h1, h2, h3⟩ := I.elt b id m n h; exact ⟨h1, Nat.lt_of_lt_of_le h2 B.size, h3⟩
    ecell := fun b id m n i h hi => by
      have hb := (I.elt b id m n h).2.1
      rw [B.cell (p := ⟨b, i, none⟩) hb, B.frozen (p := ⟨b, i, none⟩) hb]
      exact I.ecell b id m n i h hi
    bcell := fun id b k n t u cs h1 h2 => by
      have hb := (I.blt id b k n h1).2.1
      obtain ⟨k1, k2, k3, k4, k5, k6⟩ := I.bcell id b k n t u cs h1 h2
      refine ⟨?_, k2, k3, fun hu => ⟨(k4 hu).1, by rw [B.frozen (p := ⟨b, n, none⟩) hb]; exact (k4 hu).2⟩, by rw [shape_block (B.block b hb)]; exact k5, fun i hi => by rw [B.frozen (p := ⟨b, i, none⟩) hb]; exact k6 i hi⟩
      obtain ⟨vs, j1, _, j3⟩ := k1.values
      exact RepAt.of_values (RepL.mono L _ _ j1) fun j v hv => by rw [B.cell (p := ⟨b, 0 + j, none⟩) hb]; exact j3 j v hv
    bobj := fun id b k n a h1 h2 h3 => by
      obtain ⟨o, o1, o2⟩ := I.bobj id b k n a h1 h2 h3
      exact ⟨o, by rw [B.block b (I.blt id b k n h1).2.1]; exact o1, o2.mono L⟩
    fresh := I.fresh }

theorem setAll_rep : ∀ {ps : List Tmp} {as ts : List AV} {vs us : List Value}, RepL G st w as vs → RepL G st w ts us →
    RepL G st w (setAll ts ps as) ((ps.zip vs).foldl (fun tmps (t, a) => tmps.set t a) us)
  | [], as, ts, vs, us, h, k => by cases as <;> simpa [setAll] using k
  | p :: ps, [], ts, vs, us, h, k => by
    rw [h.nil_inv]
    simpa [setAll] using k
  | p :: ps, a :: as, ts, vs, us, h, k => by
    obtain ⟨v, l, rfl, hv, h⟩ := h.cons_inv
    simp only [setAll, List.zip_cons_cons, List.foldl_cons]
    exact setAll_rep h (k.set p hv)
theorem foldl_toList : ∀ (l : List (Tmp × Value)) (t : Array Value), (l.foldl (fun tmps (t, a) => tmps.setIfInBounds t a) t).toList = l.foldl (fun tmps (t, a) => tmps.set t a) t.toList
  | [], _ => rfl
  | (p, v) :: l, t => by
    simp only [List.foldl_cons]
    rw [foldl_toList l]
    simp

/-- **A round.** -/
theorem round_sound (hm : C.P.follows .mixedOrders = true) (hC : FnOk C.P W0 ck) (hY : YieldOk C.P W0 ck) {rounds l : Nat} {args : List AV} {k : Bool → AV → St → Bool} (h : roundK C ck rounds l args st k = true)
    (I : Inv W0 G st w) {vs : Array Value} {b kk n : Nat} (hargs : RepL G st w args vs.toList) (hb : G.β l = some (b, kk, n)) :
    ∃ g tmps asg body, (Instr.yield b vs).run C.P w = .ok (.round b g tmps asg body) w ∧ RoundIn Fence.wide 0 C.P b g tmps asg body w (CallPost W0 G st w (k false)) := by
  unfold roundK at h
  split at h
  · cases h
  rename_i r hr
  have hr := loopAt_some hr
  obtain ⟨o, ho, tmps, d, k0, n0, g, rfl, hts, hd⟩ := I.bobj l b kk n _ hb hr rfl
  have hlen : args.length = r.params.size := by
    cases hl : Nat.beq args.length r.params.size with
    | false => rw [hl] at h; cases h
    | true => exact Nat.eq_of_beq_eq_true hl
  rw [hlen, Nat.beq_refl] at h
  simp only [Bool.not_true, cond_false] at h
  have hsz : vs.size = r.params.size := by
    have := hargs.length
    simp only [Array.length_toList] at this
    omega
  refine ⟨_, _, _, _, run_yield ho hsz, roundIn_of_wpIn trivial ?_⟩
  have htm : RepL G st w (setAll r.tmps r.params.toList args) ((r.params.zip vs).foldl (fun tmps (t, a) => tmps.setIfInBounds t a) tmps).toList := by
    have e : (r.params.zip vs).foldl (fun tmps (t, a) => tmps.setIfInBounds t a) tmps = ((r.params.toList.zip vs.toList).foldl (fun tmps (t, a) => tmps.setIfInBounds t a) tmps) := by
      rw [← Array.foldl_toList, Array.toList_zip]
    rw [e, foldl_toList]
    exact setAll_rep hargs hts
  refine Go.wpIn_mono (exec_sound hm hC hY (ro := some l) (rob := some b) r.assign (fr := ⟨setAll r.tmps r.params.toList args, [], st⟩) (.inr ⟨l, b, kk, n, rfl, rfl, hb⟩) I ⟨htm, rfl⟩ h) fun e a1 w1 hp => ?_
  obtain ⟨x, fr1, G1, p1, pk, p2, p3⟩ := hp
  cases x with
  | exit i => cases pk
  | ret => cases pk
  | normal =>
  simp only [AExit.is] at p1
  subst p1
  simp only at pk
  split at pk
  · cases pk
  rename_i r1 hr1
  have hr1 := loopAt_some hr1
  obtain ⟨o1, ho1, tmps1, d1, k1, n1, g1, rfl, hts1, hd1⟩ := p2.inv.bobj l b kk n _ (p2.le.β _ _ hb) hr1 rfl
  have hb1 := p2.le.β _ _ hb
  obtain ⟨hst, pk⟩ : (r1.state == .ready) = true ∧ _ := by
    cases hs : r1.state == .ready with
    | false => rw [hs] at pk; cases pk
    | true => rw [hs] at pk; exact ⟨rfl, pk⟩
  have hst' : r1.state = .ready := by
    cases hs : r1.state <;> rw [hs] at hst <;> first | rfl | cases hst
  obtain ⟨hde, pk⟩ : fr1.ds.isEmpty = true ∧ _ := by
    cases hs : fr1.ds.isEmpty with
    | false => rw [hs] at pk; cases pk
    | true => rw [hs] at pk; exact ⟨rfl, pk⟩
  have hde' : fr1.ds = [] := by simpa using hde
  simp only [Bool.not_true, Bool.or_self, cond_false] at pk
  have hO2 : OObj G1 fr1.st w1 (.loop { r1 with state := .busy }) (.loop ⟨.busy, r1.pending, g1, tmps1, r1.params, r1.assign, r1.body, d1⟩) := ⟨tmps1, d1, k1, n1, g1, rfl, hts1, hd1⟩
  obtain ⟨z1, z2, z3⟩ := obj_does (o0 := .loop ⟨r1.state, r1.pending, g1, tmps1, r1.params, r1.assign, r1.body, d1⟩) p2.inv hb1 hr1 rfl hO2
  have gz : Goes W0 G st w G1 (fr1.st.put l (.loop { r1 with state := .busy })) _ := p2.trans ⟨z1, z2, z3⟩
  refine ⟨_, run_beginRound ho1 hst', ?_⟩
  have hds1 : a1.defers = [] := by
    have := p3.ds
    rw [hde'] at this
    exact this
  refine Go.wpIn_mono (exec_sound hm hC hY (ro := some l) (rob := some b) r.body (fr := ⟨fr1.ts, [], fr1.st.put l (.loop { r1 with state := .busy })⟩) (.inr ⟨l, b, kk, n, rfl, rfl, hb1⟩) gz.inv ⟨RepL.mono z1 _ _ p3.ts, by rw [hds1]; rfl⟩ pk) fun e a2 w2 hp => ?_
  obtain ⟨x, fr2, G2, q1, qk, q2, q3⟩ := hp
  simp only at qk
  obtain ⟨hde2, qk⟩ : fr2.ds.isEmpty = true ∧ _ := by
    cases hs : fr2.ds.isEmpty with
    | false => rw [hs] at qk; cases qk
    | true => rw [hs] at qk; exact ⟨rfl, qk⟩
  simp only [Bool.not_true, cond_false] at qk
  split at qk
  · cases qk
  rename_i r2 hr2
  have hr2 := loopAt_some hr2
  have hb2 := q2.le.β _ _ hb1
  obtain ⟨o2, ho2, tmps2, d2, k2, n2, g2, rfl, hts2, hd2⟩ := q2.inv.bobj l b kk n _ hb2 hr2 rfl
  have fin : ∀ (s : LoopState) (jump : Option Code) (u : Bool), k false (.bool u) (fr2.st.put l (.loop { r2 with state := s, pending := jump })) = true →
      CallPost W0 G st w (k false) (.returned (.bool u)) (w2.putObj b (.loop ⟨s, jump, g2, tmps2, r2.params, r2.assign, r2.body, d2⟩)) := by
    intro s jump u hk
    have hO3 : OObj G2 fr2.st w2 (.loop { r2 with state := s, pending := jump }) (.loop ⟨s, jump, g2, tmps2, r2.params, r2.assign, r2.body, d2⟩) := ⟨tmps2, d2, k2, n2, g2, rfl, hts2, hd2⟩
    obtain ⟨y1, y2, y3⟩ := obj_does (o0 := .loop ⟨r2.state, r2.pending, g2, tmps2, r2.params, r2.assign, r2.body, d2⟩) q2.inv hb2 hr2 rfl hO3
    exact ⟨.bool u, .bool u, _, G2, rfl, hk, (gz.trans q2).trans ⟨y1, y2, y3⟩, by simp only [Rep]⟩
  cases x with
  | normal =>
    simp only [AExit.is] at q1
    subst q1
    exact ⟨_, _, run_endRound none ho2, fin _ _ _ qk⟩
  | exit i =>
    simp only [AExit.is] at q1
    subst q1
    exact ⟨_, _, run_endRound (some (.exit i)) ho2, fin _ _ _ qk⟩
  | ret =>
    simp only [AExit.is] at q1
    subst q1
    exact ⟨_, _, run_endRound (some .ret) ho2, fin _ _ _ qk⟩

/-- **The evaluator's calls are the model's.** -/
theorem call_sound (hm : C.P.follows .mixedOrders = true) {ext : Ext} (hE : ExtOk C.P ext) (hM : MextOk C.P C.mext) (rounds : Nat) : ∀ n, FnOk C.P W0 (callK C ext rounds n) ∧ YieldOk C.P W0 (callK C ext rounds n)
  | 0 => ⟨fun _ _ _ _ h => (by simp only [callK] at h; cases h), fun _ _ _ _ h => (by simp only [callK] at h; cases h)⟩
  | n + 1 => by
    obtain ⟨ihC, ihY⟩ := call_sound hm hE hM rounds n
    refine ⟨fun f args st k h G w vs I hargs => ?_, fun l args st k h G w vs b kk nn I hargs hb => ?_⟩
    · simp only [callK] at h
      split at h
      · rename_i v hv
        rcases hE f args v hv G st w vs hargs with ⟨u, u1, u2⟩ | ⟨u1, u2⟩
        · exact .inl ⟨u, w, v, st, G, u1, h, Goes.refl I, u2⟩
        · refine .inr ⟨u1, callsIn_wide.2 (Calls.mono u2 fun e w' he => ?_), fun hk => ?_⟩
          · obtain ⟨u, rfl, hr, B⟩ := he
            have hg := goes_below I B
            exact ⟨u, v, st, G, rfl, by simp only [h, Bool.or_true], hg, Rep.mono hg.le _ _ hr⟩
          · rw [hk] at h; cases h
      · split at h
        · rename_i v st' hv
          rcases hM f args st v st' hv W0 G w vs I hargs with ⟨u, w', G', u1, u2, u3⟩ | ⟨u1, u2⟩
          · exact .inl ⟨u, w', v, st', G', u1, h, u2, u3⟩
          · refine .inr ⟨u1, callsIn_wide.2 (Calls.mono u2 fun e w' he => ?_), fun hk => ?_⟩
            · obtain ⟨u, G', rfl, hg, hr⟩ := he
              exact ⟨u, v, st', G', rfl, by simp only [h, Bool.or_true], hg, hr⟩
            · rw [hk] at h; cases h
        · split at h
          · cases h
          rename_i fn hfn
          split at h
          · cases h
          rename_i c hc
          have hname : ¬ fn.name = "runtime.NumGoroutine" := by
            intro e
            simp [e] at h
          have hname' : (fn.name == "runtime.NumGoroutine") = false := by simpa using hname
          rw [hname'] at h
          simp only [cond_false] at h
          have hbody : ¬ fn.body = none := by rw [hc]; simp
          have henter : (callFunc f vs).run C.P w = .ok (.enter f vs) w := by
            simp [callFunc, hfn, hname, hbody]
          have hwp := exec_sound (W0 := W0) hm ihC ihY (ro := none) (rob := none) c (G := G) (w := w) (fr := ⟨padTo fn.ntmps args, [], st⟩) (a := { tmps := vs ++ Array.replicate (fn.ntmps - vs.size) Go.undef, defers := [] }) (.inl ⟨rfl, rfl⟩) I ⟨RepL.pad hargs, rfl⟩ h
          refine .inr ⟨henter, ?_, fun hk u => ?_⟩
          · refine callsIn_of_wp_marks hfn hc trivial (Go.wpIn_mono hwp fun e a1 w1 hp => ?_)
            obtain ⟨x, fr, G1, p1, pk, p2, p3⟩ := hp
            have key : ∀ {x}, (x = AExit.normal ∨ x = AExit.ret) → (match x with | AExit.exit _ => false | _ => finishK C.P (callK C ext rounds n) fn fr k) = true → LeavesInM Fence.wide 0 C.P fn a1.tmps (CallPost W0 G st w fun v st' => k true v st' || k false v st') a1.defers .returning w1 := by
              intro x hx pk
              have pk' : finishK C.P (callK C ext rounds n) fn fr k = true := by rcases hx with rfl | rfl <;> exact pk
              unfold finishK at pk'
              refine finish_sound (k := fun vs st' => k fr.ds.isEmpty (single vs) st') ihC p2.inv p3.ts p3.ds pk' fun vs st' G' w' us hk hg hu => ?_
              refine ⟨_, single vs, st', G', rfl, ?_, p2.trans hg, single_rep hu⟩
              cases hb : fr.ds.isEmpty with
              | true => simp only [hb] at hk; simp only [hk, Bool.true_or]
              | false => simp only [hb] at hk; simp only [hk, Bool.or_true]
            cases x with
            | exit i => cases pk
            | normal => simp only [AExit.is] at p1; subst p1; exact key (.inl rfl) pk
            | ret => simp only [AExit.is] at p1; subst p1; exact key (.inr rfl) pk
          · refine callsDIn_of_wp hfn hc trivial (Go.wpIn_mono hwp fun e a1 w1 hp => ?_)
            obtain ⟨x, fr, G1, p1, pk, p2, p3⟩ := hp
            have key : ∀ {x}, (x = AExit.normal ∨ x = AExit.ret) → (match x with | AExit.exit _ => false | _ => finishK C.P (callK C ext rounds n) fn fr k) = true → bodyPost C.P fn (CallPost W0 G st w (k true)) .ret a1 w1 := by
              intro x hx pk
              have pk' : finishK C.P (callK C ext rounds n) fn fr k = true := by rcases hx with rfl | rfl <;> exact pk
              unfold finishK at pk'
              have hds : fr.ds = [] := by
                cases hd : fr.ds with
                | nil => rfl
                | cons d ds =>
                  refine (leaves_false _ _ _ (finish_sound (R := fun _ _ => False) (k := fun vs st' => k fr.ds.isEmpty (single vs) st') ihC p2.inv p3.ts p3.ds pk' fun vs st' G' w' us hk' hg hu => ?_)).elim
                  rw [hd] at hk'
                  simp only [List.isEmpty_cons, hk] at hk'
                  cases hk'
              rw [hds] at pk'
              simp only [runDefersK] at pk'
              split at pk'
              · rename_i vs hr
                obtain ⟨us, u1, u2⟩ := results_run p2.inv p3.ts hr
                have hd1 := p3.ds
                rw [hds] at hd1
                exact ⟨hd1, _, u1, ⟨_, single vs, fr.st, G1, rfl, pk', p2, single_rep u2⟩⟩
              · cases pk'
            cases x with
            | exit i => cases pk
            | normal => simp only [AExit.is] at p1; subst p1; exact key (.inl rfl) pk
            | ret => simp only [AExit.is] at p1; subst p1; exact key (.inr rfl) pk
    · simp only [callK] at h
      exact round_sound hm ihC ihY h I hargs hb
end
end Go.Ev
