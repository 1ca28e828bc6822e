/- A region that draws its order: the whole. -/
import Derived.Test.YtgmhnpfpmcccnaaGreatDoorEvR
import Derived.OrdersIn
set_option linter.all false
namespace Go.Ev
open Go.RowKit (Below)

section
variable {W0 : World} {C : Cfg} {ck : CK} {f : FuncId} {ro rob : Option Nat} {k : Fr → Bool} {ops : Array Oper} {befs : List Nat}
variable {G0 : Gh} {st0 : St} {w0 : World} {ts0 : List AV} {H : List HItem} {lst : Array Bool} {rd : List Rd} {fr : Fr} {G : Gh} {a : Act} {w : World}

/-- What has been taken, and is done now. -/
theorem DInv.done (D : DInv W0 C f ops G0 st0 w0 ts0 H lst rd fr G a w) (hb : BefOk ops.toList befs) (ht : TempsOk ops befs) {H1 H2 : List HItem} {x : HItem} (e : H = H1 ++ x :: H2) (hn : ¬ Li lst x.s.i) (hi : x.s.i < lst.size)
    (hw : Wait (Li lst) x.s.o) {G' : Gh} {w' : World} {u : Value} (L : Le G fr.st w G' fr.st w') (I' : Inv W0 G' fr.st w') (hu : ∀ id, (x.made = true → id ≠ x.id) → G.unborn id → G'.unborn id) (hr : Rep G' fr.st w' x.v u) :
    DInv W0 C f ops G0 st0 w0 ts0 H (lst.setIfInBounds x.s.i true) rd fr G' (a.put x.s.o.dst u) w' where
  hok := D.hok.list hi (D.hok.op x (by rw [e]; simp)) ⟨x, by rw [e]; simp, rfl⟩ hw
  goes := by
    refine ⟨D.goes.le.trans L, fun id h1 h2 => ?_, I'⟩
    obtain ⟨h3, h4⟩ := D.goes.unb id h1 h2
    refine ⟨h3, hu id (fun hm he => ?_) h4⟩
    have := (D.idlt x (by rw [e]; simp) hm).1
    omega
  ts := D.ts
  rep := by
    have hlx : lq lst x = false := by simpa [lq, Li] using hn
    obtain ⟨a1, a2, _⟩ := D.hok.apart e
    have e1 : puts (lq (lst.setIfInBounds x.s.i true)) H ts0 = putT (puts (lq lst) H ts0) x.s.o.dst x.v := by
      rw [e, puts_append, puts_append]
      simp only [puts, hlx, cond_false, lq_self hi rfl, cond_true]
      rw [puts_congr (H := H1) fun y hy => lq_set (a1 y hy), puts_congr (H := H2) fun y hy => lq_set (a2 y hy)]
      exact puts_putT fun y hy hl t hd => D.hok.writes hb ht e hn y hy hl t hd
    rw [e1]
    exact put_tmps (RepL.mono L _ _ D.rep) hr
  ds := by
    rw [put_defers]
    exact RepDs.mono L D.ds
  lag J1 y J2 e' hy := by
    have hne : y.s.i ≠ x.s.i := fun h => hy ((li_set hi).2 (.inr h))
    have hy' : ¬ Li lst y.s.i := fun h => hy ((li_set hi).2 (.inl h))
    refine (D.lag J1 y J2 e' hy').mono (fun _ h1 h2 => ⟨h1, h2⟩) fun hm h1 h2 => ⟨h1, hu _ (fun hx => ?_) h2, rfl⟩
    exact D.ids y (by rw [e']; simp) x (by rw [e]; simp) hm hx hne
  ids := D.ids
  idlt := D.idlt
  size := by simpa using D.size

theorem cond_true_false {c x : Bool} (h : cond c x false = true) : c = true ∧ x = true := by
  cases c
  · cases h
  · exact ⟨rfl, h⟩
theorem calm_defer {P : Program} {o : Oper} (h : opKind P o.op ≠ .eff) : ∀ c, o.op ≠ .defer c := fun c hc => h (by rw [hc]; rfl)

/-- What lags, and waits for nothing, can be done. -/
theorem DInv.late (D : DInv W0 C f ops G0 st0 w0 ts0 H lst rd fr G a w) (hb : BefOk ops.toList befs) (ht : TempsOk ops befs) {Q : Exit → Act → World → Prop} {K : Act → World → Prop} {H1 H2 : List HItem} {x : HItem} (e : H = H1 ++ x :: H2)
    (hn : ¬ Li lst x.s.i) (hi : x.s.i < lst.size) (hw : Wait (Li lst) x.s.o)
    (hK : ∀ G' a' w', DInv W0 C f ops G0 st0 w0 ts0 H (lst.setIfInBounds x.s.i true) rd fr G' a' w' → K a' w') : wpOpIn (FR rob) 0 C.P ops Q x.s.i K a w := by
  have hx := D.hok.op x (by rw [e]; simp)
  have same := D.hok.names hb ht e hn hw ts0
  have I := D.goes.inv
  have wc := wanted_congr (ops := ops) (o := x.s.o) same
  have oc := operand_congr (ops := ops.toList) (o := x.s.o) same
  unfold wpOpIn
  rw [hx]
  simp only
  cases D.lag H1 x H2 e hn with
  | skip hwt hv =>
    rw [if_neg (by rw [wanted_rep D.rep (wc.trans hwt)]; simp)]
    refine ⟨fun _ _ => trivial, ?_⟩
    refine hK G _ w (D.done hb ht e hn hi hw (Le.refl _ _ _) I (fun _ _ h => h) ?_)
    rw [hv]
    exact Rep.undef
  | pure hwt hk h =>
    rw [if_pos (wanted_rep D.rep (wc.trans hwt))]
    obtain ⟨r, r1, r2⟩ := pureOp_sound (w := w) D.rep hk ((pureOp_congr oc).trans h)
    refine ⟨fun _ _ => trivial, ?_⟩
    show x.s.o.uponIn (FR rob) 0 C.P a K Q ((x.s.o.semAt rob a.eval).run C.P w)
    rw [semAt_is rob _ _ (.inr (calm_defer (by rw [hk]; simp))), r1, Oper.uponIn_value]
    exact hK G _ w (D.done hb ht e hn hi hw (Le.refl _ _ _) I (fun _ _ h => h) r2)
  | load hwt hk vs hp hl hr =>
    rw [if_pos (wanted_rep D.rep (wc.trans hwt))]
    have hp' : opnds (puts (lq lst) H ts0) x.s.o.op.operands.toList = some vs := (opnds_congr oc).trans hp
    obtain ⟨r, r1, r2⟩ := readV_sound I (RepL.opnds D.rep hp') hl
    refine ⟨fun _ _ => trivial, ?_⟩
    show x.s.o.uponIn (FR rob) 0 C.P a K Q ((x.s.o.semAt rob a.eval).run C.P w)
    rw [semAt_is rob _ _ (.inr (calm_defer (by rw [hk]; simp))), r1, Oper.uponIn_value]
    exact hK G _ w (D.done hb ht e hn hi hw (Le.refl _ _ _) I (fun _ _ h => h) r2)
  | mk hwt hk hm g y h hv hid hu ho =>
    rw [if_pos (wanted_rep D.rep (wc.trans hwt))]
    obtain ⟨r, w', G', r1, r2, r3, r4, r5⟩ := mkOp_sound I D.rep hk ((mkOp_congr oc).trans h) hid hu ho
    refine ⟨fun _ _ => trivial, ?_⟩
    show x.s.o.uponIn (FR rob) 0 C.P a K Q ((x.s.o.semAt rob a.eval).run C.P w)
    rw [semAt_is rob _ _ (.inr (calm_defer (by rw [hk]; simp))), r1, Oper.uponIn_value]
    refine hK G' _ w' (D.done hb ht e hn hi hw r2 r4 (fun id h1 h2 => r3 id (h1 hm) h2) ?_)
    rw [hv]
    exact r5

/-- What turns something is done when the plan takes it. -/
theorem DInv.turn (hC : FnOk C.P W0 ck) (hY : YieldOk C.P W0 ck) (hro : ro = none → rob = none) (D : DInv W0 C f ops G0 st0 w0 ts0 H lst rd fr G a w) (hb : BefOk ops.toList befs) (ht : TempsOk ops befs) {Q : Exit → Act → World → Prop} {K : Act → World → Prop} {s : PStep} {l : List PStep}
    (he : s.eff = true) (hbf : s.bef = befs.getD s.i 0) (hs : ops[s.i]? = some s.o) (hn : ¬ Is H s.i) (hi : s.i < lst.size) (hw : Wait (Li lst) s.o)
    (h : runPlanK C ck f ro ops (s :: l) rd fr k = true)
    (hK : ∀ x rd' fr1 G' a' w', x.s = s → runPlanK C ck f ro ops l rd' fr1 k = true → DInv W0 C f ops G0 st0 w0 ts0 (H ++ [x]) (lst.setIfInBounds s.i true) rd' fr1 G' a' w' → K a' w') : wpOpIn (FR rob) 0 C.P ops Q s.i K a w := by
  have same := D.hok.names_new hb ht hs hn hw ts0
  rw [← D.ts] at same
  have I := D.goes.inv
  have wc := wanted_congr (ops := ops) (o := s.o) same
  have oc := operand_congr (ops := ops.toList) (o := s.o) same
  have hnl : ¬ Li lst s.i := fun hl => hn (D.hok.sub _ hl)
  have hwi : Wait (Is H) s.o := hw.mono fun i hi => D.hok.sub i hi
  simp only [runPlanK] at h
  have hne : ∀ y ∈ H, y.s.i ≠ s.i := fun y hy e => hn ⟨y, hy, e⟩
  have tput : ∀ (x : HItem), x.s = s → putT fr.ts s.o.dst x.v = puts (fun _ => true) (H ++ [x]) ts0 := fun x hx => by
    rw [puts_append, ← D.ts]
    simp only [puts, cond_true, hx]
  have rput : ∀ (x : HItem), x.s = s → puts (lq (lst.setIfInBounds s.i true)) (H ++ [x]) ts0 = putT (puts (lq lst) H ts0) s.o.dst x.v := fun x hx => by
    rw [puts_append, puts_congr (H := H) fun y hy => lq_set (hne y hy)]
    simp only [puts, lq_self hi (show x.s.i = s.i by rw [hx]), cond_true, hx]
  have hok' : ∀ (x : HItem), x.s = s → HOk ops (lst.setIfInBounds s.i true) (H ++ [x]) := fun x hx => by
    subst hx
    exact (D.hok.virt hs hn hwi).list hi hs ⟨x, by simp, rfl⟩ hw
  have ids' : ∀ (x : HItem), x.made = false → ∀ y ∈ H ++ [x], ∀ z ∈ H ++ [x], y.made = true → z.made = true → y.s.i ≠ z.s.i → y.id ≠ z.id := fun x hx y hy z hz my mz => by
    simp only [List.mem_append, List.mem_singleton] at hy hz
    rcases hy with hy | rfl
    · rcases hz with hz | rfl
      · exact D.ids y hy z hz my mz
      · rw [hx] at mz; cases mz
    · rw [hx] at my; cases my
  have idlt' : ∀ (x : HItem), x.made = false → ∀ y ∈ H ++ [x], y.made = true → st0.next ≤ y.id ∧ y.id < fr.st.next := fun x hx y hy my => by
    simp only [List.mem_append, List.mem_singleton] at hy
    rcases hy with hy | rfl
    · exact D.idlt y hy my
    · rw [hx] at my; cases my
  have old : ∀ (x : HItem), x.s = s → ∀ {H1 y H2}, H ++ [x] = H1 ++ y :: H2 → ¬ Li (lst.setIfInBounds s.i true) y.s.i → ∃ H3, H = H1 ++ y :: H3 ∧ ¬ Li lst y.s.i := fun x hx H1 y H2 e hy => by
    rcases split_last e with ⟨rfl, rfl, rfl⟩ | ⟨H3, e1, _⟩
    · exact absurd ((li_set hi).2 (.inr (by rw [hx]))) hy
    · exact ⟨H3, e1, fun h => hy ((li_set hi).2 (.inl h))⟩
  unfold wpOpIn
  rw [hs]
  simp only
  split at h
  · cases h
  · rename_i hbw
    rw [if_neg (by rw [wanted_rep D.rep (wc.trans hbw)]; simp)]
    refine ⟨fun _ _ => trivial, ?_⟩
    refine hK ⟨s, AV.undef, false, 0⟩ rd _ G _ w rfl h ?_
    exact {
      hok := hok' _ rfl
      goes := D.goes
      ts := tput ⟨s, AV.undef, false, 0⟩ rfl
      rep := by rw [rput _ rfl]; exact put_tmps D.rep Rep.undef
      ds := by rw [put_defers]; exact D.ds
      lag := fun H1 y H2 e hy => by
        obtain ⟨H3, e1, h1⟩ := old _ rfl e hy
        exact D.lag H1 y H3 e1 h1
      ids := ids' _ rfl
      idlt := idlt' _ rfl
      size := by simpa using D.size }
  · rename_i hbw
    rw [he] at h
    simp only at h
    rw [if_pos (wanted_rep D.rep (wc.trans hbw))]
    refine doOpK_wp hC hY I hro D.rep ((doOpK_congr oc).trans h) fun v ds st' u w' G' dfs h1 hg hr hdf => ?_
    obtain ⟨hall, h⟩ := cond_true_false h1
    refine hK ⟨s, v, false, 0⟩ _ _ G' _ w' rfl h ?_
    exact {
      hok := hok' _ rfl
      goes := D.goes.trans hg
      ts := tput ⟨s, v, false, 0⟩ rfl
      rep := by
        rw [rput _ rfl]
        exact put_tmps (a := { a with defers := dfs ++ a.defers }) (RepL.mono hg.le _ _ D.rep) hr
      ds := by
        rw [put_defers]
        exact RepDs.append hdf (RepDs.mono hg.le D.ds)
      lag := fun H1 y H2 e hy => by
        obtain ⟨H3, e1, h1⟩ := old _ rfl e hy
        refine (D.lag H1 y H3 e1 h1).mono (fun vs hl ⟨r, hr, r1, r2, r3, r4⟩ => ?_) fun _ i1 i2 => ⟨Nat.lt_of_lt_of_le i1 hg.le.next, (hg.unb _ i1 i2).2, (hg.unb _ i1 i2).1⟩
        have hnb : s.bef.testBit r.i = false := by
          cases hbb : s.bef.testBit r.i with
          | false => rfl
          | true =>
            rw [hbf, r1] at hbb
            exact absurd (D.hok.bef_ready hb hs hw hbb) h1
        have hm : r ∈ rd.filter fun r => !s.bef.testBit r.i := List.mem_filter.2 ⟨hr, by simp [hnb]⟩
        have hsr := List.all_eq_true.1 hall r hm
        simp only [sameRd] at hsr
        rw [r2, r3, r4] at hsr
        refine ⟨?_, r, hm, r1, r2, r3, r4⟩
        split at hsr
        · rename_i v' hv'
          rw [hv', AV.beq_sound _ _ hsr]
        · cases hsr
      ids := ids' _ rfl
      idlt := fun y hy my => ⟨(idlt' _ rfl y hy my).1, Nat.lt_of_lt_of_le (idlt' _ rfl y hy my).2 hg.le.next⟩
      size := by simpa using D.size }

/-- If nothing can be done, nothing lags. -/
theorem DInv.none_lags (D : DInv W0 C f ops G0 st0 w0 ts0 H lst rd fr G a w) (h : Region.ready .any ops lst = []) : ∀ x ∈ H, Li lst x.s.i := by
  have key : ∀ (n : Nat) (H1 H2 : List HItem), H1.length = n → H = H1 ++ H2 → ∀ x ∈ H1, Li lst x.s.i := by
    intro n
    induction n with
    | zero => intro H1 H2 hl _ x hx; rw [List.length_eq_zero_iff.1 hl] at hx; cases hx
    | succ n ih =>
      intro H1 H2 hl e x hx
      rcases List.eq_nil_or_concat H1 with rfl | ⟨H3, z, rfl⟩
      · cases hx
      · rw [List.concat_eq_append] at hl e hx
        simp at hl
        have ih' := ih H3 (z :: H2) hl (by rw [e]; simp)
        simp only [List.mem_append, List.mem_singleton] at hx
        rcases hx with hx | rfl
        · exact ih' x hx
        · apply Classical.byContradiction
          intro hn
          have hx := D.hok.op x (by rw [e]; simp)
          have hlt : x.s.i < lst.size := by rw [D.size]; exact (Array.getElem?_eq_some_iff.1 hx).1
          have hw : Wait (Li lst) x.s.o := (D.hok.ord H3 x H2 (by rw [e]; simp)).mono fun i ⟨y, hy, e⟩ => e ▸ ih' y hy
          have : x.s.i ∈ Region.ready .any ops lst := mem_ready.2 ⟨by
            simp only [Li] at hn
            simp [hlt] at hn ⊢
            exact hn, x.s.o, hx, hw⟩
          rw [h] at this
          cases this
  exact fun x hx => key H.length H [] rfl (by simp) x hx

theorem plan_wp (hC : FnOk C.P W0 ck) (hY : YieldOk C.P W0 ck) (hro : ro = none → rob = none) (hb : BefOk ops.toList befs) (ht : TempsOk ops befs) {Q : Exit → Act → World → Prop} {ds0 : List ADefer}
    (hQ : ∀ fr' G' a' w', k fr' = true → Goes W0 G0 st0 w0 G' fr'.st w' → FrRep G' w' fr' a' → Q .normal a' w') :
    ∀ (fuel : Nat) (l : List PStep) (H : List HItem) (lst : Array Bool) (rd : List Rd) (fr : Fr) (G : Gh) (a : Act) (w : World), lst.toList.count false ≤ fuel → DInv W0 C f ops G0 st0 w0 ts0 H lst rd fr G a w →
      PlanOk C.P ops befs (Is H) l → runPlanK C ck f ro ops l rd fr k = true → wpAnyIn (FR rob) 0 C.P .any ops Q fuel lst a w := by
  have IsP : ∀ (H : List HItem) (x : HItem) (s : PStep), x.s = s → (fun j => Is H j ∨ j = s.i) = Is (H ++ [x]) := fun H x s hx => by
    funext j
    simp only [Is, eq_iff_iff, List.mem_append, List.mem_singleton]
    constructor
    · rintro (⟨y, h1, h2⟩ | rfl)
      · exact ⟨y, .inl h1, h2⟩
      · exact ⟨x, .inr rfl, by rw [hx]⟩
    · rintro ⟨y, h1 | rfl, h2⟩
      · exact .inl ⟨y, h1, h2⟩
      · exact .inr (by rw [← h2, hx])
  have fin : ∀ (l : List PStep) (H : List HItem) (lst : Array Bool) (rd : List Rd) (fr : Fr) (G : Gh) (a : Act) (w : World), DInv W0 C f ops G0 st0 w0 ts0 H lst rd fr G a w →
      PlanOk C.P ops befs (Is H) l → (∀ s l', l = s :: l' → s.eff = true) → runPlanK C ck f ro ops l rd fr k = true → Region.ready .any ops lst = [] → Q .normal a w := by
    intro l H lst rd fr G a w D hp hh h hr
    have hall := D.none_lags hr
    cases hp with
    | nil _ =>
      simp only [runPlanK] at h
      refine hQ fr G a w h D.goes ⟨?_, D.ds⟩
      rw [D.ts, puts_congr (q := lq lst) fun x hx => ?_]
      · exact D.rep
      · exact (hall x hx).symm
    | @cons _ s l ho hn hw _ _ _ _ =>
      exfalso
      have hlt : s.i < lst.size := by rw [D.size]; exact (Array.getElem?_eq_some_iff.1 ho).1
      have : s.i ∈ Region.ready .any ops lst := mem_ready.2 ⟨by
        have hn' : ¬ Li lst s.i := fun hl => hn (D.hok.sub _ hl)
        simp only [Li] at hn'
        simp [hlt] at hn' ⊢
        exact hn', s.o, ho, (show Wait (Li lst) s.o from hw.mono fun i ⟨y, hy, e⟩ => e ▸ hall y hy)⟩
      rw [hr] at this
      cases this
  intro fuel
  induction fuel with
  | zero =>
    intro l
    induction l with
    | nil =>
      intro H lst rd fr G a w hc D hp h
      have hr : Region.ready .any ops lst = [] := by
        refine List.eq_nil_iff_forall_not_mem.2 fun i hi => ?_
        obtain ⟨h1, _⟩ := mem_ready.1 hi
        obtain ⟨h2, _⟩ := li_not h1
        have : false ∈ lst.toList := by
          rw [← h1]
          simp [h2]
        have := List.count_pos_iff.2 this
        omega
      exact ⟨hr, fin [] H lst rd fr G a w D hp (fun _ _ e => by cases e) h hr⟩
    | cons s l ihl =>
      intro H lst rd fr G a w hc D hp h
      cases he : s.eff with
      | false =>
        cases hp with
        | cons ho hn hw hef hbf hone hp =>
          obtain ⟨x, rd', fr1, hx, h1, D1⟩ := D.virt he hef ho hn hw h
          rw [IsP H x s hx] at hp
          exact ihl _ _ _ _ _ _ _ hc D1 hp h1
      | true =>
        have hr : Region.ready .any ops lst = [] := by
          refine List.eq_nil_iff_forall_not_mem.2 fun i hi => ?_
          obtain ⟨h1, _⟩ := mem_ready.1 hi
          obtain ⟨h2, _⟩ := li_not h1
          have : false ∈ lst.toList := by
            rw [← h1]
            simp [h2]
          have := List.count_pos_iff.2 this
          omega
        exact ⟨hr, fin _ H lst rd fr G a w D hp (fun _ _ e => by injection e with e1 e2; subst e1; exact he) h hr⟩
  | succ fuel ih =>
    intro l
    induction l with
    | nil =>
      intro H lst rd fr G a w hc D hp h
      refine ⟨fin [] H lst rd fr G a w D hp (fun _ _ e => by cases e) h, fun i hi => ?_⟩
      obtain ⟨h1, o, ho, hw⟩ := mem_ready.1 hi
      obtain ⟨h2, h3⟩ := li_not h1
      have cnt : (lst.setIfInBounds i true).toList.count false ≤ fuel := by
        have : lst.toList[i]? = some false := by
          rw [← h1]
          simp [h2]
        have := count_set _ _ this
        simp only [Array.toList_setIfInBounds]
        omega
      by_cases hH : Is H i
      · obtain ⟨x, hx, rfl⟩ := hH
        obtain ⟨H1, H2, e⟩ := List.append_of_mem hx
        have : o = x.s.o := by
          rw [D.hok.op x hx] at ho
          injection ho with ho
          exact ho.symm
        subst this
        exact D.late hb ht e h3 h2 hw fun G' a' w' D' => ih _ _ _ _ _ _ _ _ cnt D' hp h
      · cases hp with
        | nil hp => exact absurd (Wait.mono (show Wait (Li lst) o from hw) fun i hi => D.hok.sub i hi) (hp i o ho hH)
    | cons s l ihl =>
      intro H lst rd fr G a w hc D hp h
      cases he : s.eff with
      | false =>
        cases hp with
        | cons ho hn hw hef hbf hone hp =>
          obtain ⟨x, rd', fr1, hx, h1, D1⟩ := D.virt he hef ho hn hw h
          rw [IsP H x s hx] at hp
          exact ihl _ _ _ _ _ _ _ hc D1 hp h1
      | true =>
        refine ⟨fin _ H lst rd fr G a w D hp (fun _ _ e => by injection e with e1 e2; subst e1; exact he) h, fun i hi => ?_⟩
        obtain ⟨h1, o, ho, hw⟩ := mem_ready.1 hi
        obtain ⟨h2, h3⟩ := li_not h1
        have cnt : (lst.setIfInBounds i true).toList.count false ≤ fuel := by
          have : lst.toList[i]? = some false := by
            rw [← h1]
            simp [h2]
          have := count_set _ _ this
          simp only [Array.toList_setIfInBounds]
          omega
        by_cases hH : Is H i
        · obtain ⟨x, hx, rfl⟩ := hH
          obtain ⟨H1, H2, e⟩ := List.append_of_mem hx
          have : o = x.s.o := by
            rw [D.hok.op x hx] at ho
            injection ho with ho
            exact ho.symm
          subst this
          exact D.late hb ht e h3 h2 hw fun G' a' w' D' => ih _ _ _ _ _ _ _ _ cnt D' hp h
        · cases hp with
          | cons ho' hn hw' hef hbf hone hp =>
            have hi' : i = s.i := hone he i o ho hH (Wait.mono (show Wait (Li lst) o from hw) fun i hi => D.hok.sub i hi)
            subst hi'
            have : o = s.o := by
              rw [ho'] at ho
              injection ho with ho
              exact ho.symm
            subst this
            refine D.turn hC hY hro hb ht he hbf ho' hn h2 hw h fun x rd' fr1 G' a' w' hx h1 D1 => ?_
            rw [IsP H x s hx] at hp
            exact ih _ _ _ _ _ _ _ _ cnt D1 hp h1

theorem draw_sound (hm : C.P.follows .mixedOrders = true) (hC : FnOk C.P W0 ck) (hY : YieldOk C.P W0 ck) (hro : ro = none → rob = none) {id : Nat} {Q : Exit → Act → World → Prop} {l : List PStep} (I : Inv W0 G fr.st w) (hf : FrRep G w fr a)
    (hl : plan C.P ops = some l) (h : runPlanK C ck f ro ops l [] fr k = true) (hQ : ∀ fr' G' a' w', k fr' = true → Goes W0 G fr.st w G' fr'.st w' → FrRep G' w' fr' a' → Q .normal a' w') : (Code.region id ops true).wpIn (FR rob) 0 C.P Q a w := by
  unfold plan at hl
  simp only at hl
  obtain ⟨ht, hl⟩ := cond_some hl
  have hp := planGo_ok _ _ _ hl
  have hbef : BefOk ops.toList (befAll ops.toList []) := by
    refine befAll_ok ops.toList [] [] rfl ?_
    intro i j hj
    simp at hj
  have hdr : Goes W0 G fr.st w G fr.st w.drew := ⟨Le.drew, Unb.refl _ _, I.drew⟩
  refine wpIn_region_any hm (plan_wp (G0 := G) (st0 := fr.st) (w0 := w) (ts0 := fr.ts) hC hY hro hbef (temps_ok ht) (ds0 := []) hQ ops.size l [] (Array.replicate ops.size false) [] fr G a w.drew ?_ ?_ ?_ h)
  · simp
  · have hno : ∀ i, ¬ Li (Array.replicate ops.size false) i := fun i hi => by
      simp only [Li, Array.getD_eq_getD_getElem?, Array.getElem?_replicate] at hi
      split at hi <;> simp at hi
    exact {
      hok := ⟨fun x hx => (by cases hx), (by simp), fun i hi => absurd hi (hno i), fun i o hi => absurd hi (hno i), fun H1 x H2 e => (by simp at e)⟩
      goes := hdr
      ts := rfl
      rep := RepL.mono hdr.le _ _ hf.ts
      ds := RepDs.mono hdr.le hf.ds
      lag := fun H1 x H2 e => by simp at e
      ids := fun x hx => by cases hx
      idlt := fun x hx => by cases hx
      size := by simp }
  · have : Is [] = fun j => (0 : Nat).testBit j = true := by
      funext j
      simp [Is]
    rw [this]
    exact hp
end
end Go.Ev
