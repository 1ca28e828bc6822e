/- A region that draws its order: the walk. -/
import Derived.Test.YtgmhnpfpmcccnaaGreatDoorEvQ
set_option linter.all false
namespace Go.Ev
open Go.RowKit (Below)

/-! ### What is listed -/
section
variable {ops : Array Oper} {lst : Array Bool} {H : List HItem}
theorem li_lt {i : Nat} (h : ¬ lst.getD i true = true) : i < lst.size := by
  rcases Nat.lt_or_ge i lst.size with h' | h'
  · exact h'
  · simp [Array.getElem?_eq_none h'] at h
theorem li_not {i : Nat} (h : lst.getD i true = false) : i < lst.size ∧ ¬ Li lst i := by
  have h1 := li_lt (lst := lst) (i := i) (by simp [h])
  refine ⟨h1, ?_⟩
  simp only [Li]
  simp [h1] at h ⊢
  exact h
theorem li_set {i j : Nat} (h : i < lst.size) : Li (lst.setIfInBounds i true) j ↔ Li lst j ∨ j = i := by
  simp only [Li]
  by_cases hij : i = j
  · subst hij
    simp [h]
  · rw [getD_set_ne false hij]
    constructor
    · exact .inl
    · rintro (h | h)
      · exact h
      · exact absurd h.symm hij
theorem lq_set {i : Nat} {x : HItem} (h : x.s.i ≠ i) : lq (lst.setIfInBounds i true) x = lq lst x := getD_set_ne false (Ne.symm h)
theorem lq_self {i : Nat} {x : HItem} (hi : i < lst.size) (h : x.s.i = i) : lq (lst.setIfInBounds i true) x = true := by
  subst h
  exact (li_set hi).2 (.inr rfl)

theorem HOk.virt (h : HOk ops lst H) {x : HItem} (hx : ops[x.s.i]? = some x.s.o) (hn : ¬ Is H x.s.i) (hw : Wait (Is H) x.s.o) : HOk ops lst (H ++ [x]) where
  op y hy := by
    simp only [List.mem_append, List.mem_singleton] at hy
    rcases hy with hy | rfl
    · exact h.op y hy
    · exact hx
  nd := by
    simp only [List.map_append, List.map_cons, List.map_nil, List.nodup_append]
    refine ⟨h.nd, by simp, fun a ha b hb => ?_⟩
    simp only [List.mem_map, List.mem_singleton] at ha hb
    obtain ⟨y, hy, rfl⟩ := ha
    subst hb
    exact fun e => hn ⟨y, hy, e⟩
  sub i hi := by
    obtain ⟨y, hy, e⟩ := h.sub i hi
    exact ⟨y, by simp [hy], e⟩
  down := h.down
  ord H1 y H2 e := by
    rcases List.eq_nil_or_concat H2 with rfl | ⟨H3, z, rfl⟩
    · have := List.append_inj' e rfl
      obtain ⟨rfl, e2⟩ := this
      injection e2 with e2
      subst e2
      exact hw
    · rw [List.concat_eq_append] at e
      have : H ++ [x] = (H1 ++ y :: H3) ++ [z] := by rw [e]; simp
      obtain ⟨e1, _⟩ := List.append_inj' this rfl
      exact h.ord H1 y H3 e1
theorem HOk.list (h : HOk ops lst H) {i : Nat} {o : Oper} (hi : i < lst.size) (hx : ops[i]? = some o) (hn : Is H i) (hw : Wait (Li lst) o) : HOk ops (lst.setIfInBounds i true) H where
  op := h.op
  nd := h.nd
  sub j hj := by
    rcases (li_set hi).1 hj with h1 | rfl
    · exact h.sub j h1
    · exact hn
  down j o' hj ho := by
    have up : ∀ k, Li lst k → Li (lst.setIfInBounds i true) k := fun k hk => (li_set hi).2 (.inl hk)
    rcases (li_set hi).1 hj with h1 | rfl
    · exact (h.down j o' h1 ho).mono up
    · rw [hx] at ho
      injection ho with ho
      subst ho
      exact hw.mono up
  ord := h.ord
theorem split_last {x y : HItem} {H1 H2 : List HItem} (e : H ++ [x] = H1 ++ y :: H2) : (H1 = H ∧ y = x ∧ H2 = []) ∨ ∃ H3, H = H1 ++ y :: H3 ∧ H2 = H3 ++ [x] := by
  rcases List.eq_nil_or_concat H2 with rfl | ⟨H3, z, rfl⟩
  · obtain ⟨rfl, e2⟩ := List.append_inj' e rfl
    injection e2 with e2
    exact .inl ⟨rfl, e2.symm, rfl⟩
  · rw [List.concat_eq_append] at e ⊢
    have : H ++ [x] = (H1 ++ y :: H3) ++ [z] := by rw [e]; simp
    obtain ⟨e1, e2⟩ := List.append_inj' this rfl
    injection e2 with e2
    exact .inr ⟨H3, e1, by rw [e2]⟩

theorem count_set : ∀ (l : List Bool) (i : Nat), l[i]? = some false → (l.set i true).count false + 1 = l.count false
  | [], _, h => by simp at h
  | b :: l, 0, h => by
    simp at h
    subst h
    simp
  | b :: l, i + 1, h => by
    simp at h
    have := count_set l i (by simpa using h)
    simp only [List.set_cons_succ, List.count_cons]
    omega
end

/-! ### What lags -/
section
variable {W0 : World} {C : Cfg} {ck : CK} {f : FuncId} {ro : Option Nat} {k : Fr → Bool} {ops : Array Oper}

inductive LagOk (C : Cfg) (f : FuncId) (ops : Array Oper) (G : Gh) (st : St) (rd : List Rd) (ts : List AV) (x : HItem) : Prop
  | skip (hw : wantedA ops ts x.s.o = some false) (hv : x.v = AV.undef)
  | pure (hw : wantedA ops ts x.s.o = some true) (hk : opKind C.P x.s.o.op = .pure) (h : pureOp C.P ts x.s.o.op = some x.v)
  | load (hw : wantedA ops ts x.s.o = some true) (hk : opKind C.P x.s.o.op = .load) (vs : List AV) (hp : opnds ts x.s.o.op.operands.toList = some vs) (hl : readV C.P st x.s.o.op vs = some x.v)
      (hr : ∃ r ∈ rd, r.i = x.s.i ∧ r.op = x.s.o.op ∧ r.vs = vs ∧ r.v = x.v)
  | mk (hw : wantedA ops ts x.s.o = some true) (hk : opKind C.P x.s.o.op = .mk) (hm : x.made = true) (g : Nat → AV) (y : AObj) (h : mkOp C.P (C.byref f) ts x.s.o.op = some (g, y)) (hv : x.v = g x.id)
      (hid : x.id < st.next) (hu : G.unborn x.id) (ho : st.objs.get x.id = some y)

theorem LagOk.mono {G G' : Gh} {st st' : St} {rd rd' : List Rd} {ts : List AV} {x : HItem} (h : LagOk C f ops G st rd ts x)
    (hl : ∀ vs, readV C.P st x.s.o.op vs = some x.v → (∃ r ∈ rd, r.i = x.s.i ∧ r.op = x.s.o.op ∧ r.vs = vs ∧ r.v = x.v) → readV C.P st' x.s.o.op vs = some x.v ∧ ∃ r ∈ rd', r.i = x.s.i ∧ r.op = x.s.o.op ∧ r.vs = vs ∧ r.v = x.v)
    (hm : x.made = true → x.id < st.next → G.unborn x.id → x.id < st'.next ∧ G'.unborn x.id ∧ st'.objs.get x.id = st.objs.get x.id) : LagOk C f ops G' st' rd' ts x := by
  cases h with
  | skip hw hv => exact .skip hw hv
  | pure hw hk h => exact .pure hw hk h
  | load hw hk vs hp hld hr =>
    obtain ⟨h1, h2⟩ := hl vs hld hr
    exact .load hw hk vs hp h1 h2
  | mk hw hk hmd g y h hv hid hu ho =>
    obtain ⟨h1, h2, h3⟩ := hm hmd hid hu
    exact .mk hw hk hmd g y h hv h1 h2 (by rw [h3]; exact ho)

theorem push_old {G : Gh} {st : St} {w : World} (I : Inv W0 G st w) (o : AObj) (id : Nat) (x : AObj) (h : st.objs.get id = some x) : (st.push o).objs.get id = some x := by
  have : id < st.next := by
    rcases Nat.lt_or_ge id st.next with h' | h'
    · exact h'
    · rw [I.fresh id h'] at h
      cases h
  simp only [St.push, Tr.get_set]
  rw [if_neg (by omega), h]

section
variable {P : Program} {st st' : St} (hs : ∀ id x, st.objs.get id = some x → st'.objs.get id = some x)
include hs
theorem readAt_old {p : AV} {n : Nat} {l : List AV} (h : readAt st p n = some l) : readAt st' p n = some l := by
  unfold readAt at h ⊢
  split at h
  · split at h
    · rename_i hcs
      rw [hs _ _ hcs]
      exact h
    · cases h
  · exact h
  · cases h
theorem loadAt_old {t : TypeId} {p v : AV} (h : loadAt P st t p = some v) : loadAt P st' t p = some v := by
  simp only [loadAt, Option.bind_eq_some_iff] at h ⊢
  obtain ⟨g, hg, n, hn, l, hl, h⟩ := h
  exact ⟨g, hg, n, hn, l, readAt_old hs hl, h⟩
theorem sliceCells_old {n : Nat} {v : AV} {m : Nat} {l : List AV} (h : sliceCells st n v m = some l) : sliceCells st' n v m = some l := by
  unfold sliceCells at h ⊢
  split at h
  all_goals first
    | exact h
    | (cases h; done)
    | skip
  all_goals
    split at h
    · rename_i hcs
      rw [hs _ _ hcs]
      exact h
    · cases h
theorem lookupOp_old {t : TypeId} {m k v : AV} {ok : Bool} (h : lookupOp P st t m k ok = some v) : lookupOp P st' t m k ok = some v := by
  simp only [lookupOp, Option.bind_eq_some_iff] at h ⊢
  obtain ⟨q, h1, es, h2, h3⟩ := h
  refine ⟨q, h1, es, ?_, h3⟩
  split at h2
  · exact h2
  · split at h2
    · rename_i hcs
      rw [hs _ _ hcs]
      exact h2
    · cases h2
  · cases h2
theorem readV_old {op : Op} {vs : List AV} {v : AV} (h : readV P st op vs = some v) : readV P st' op vs = some v := by
  unfold readV at h ⊢
  split at h
  · exact loadAt_old hs h
  · exact lookupOp_old hs h
  · simp only [Option.bind_eq_some_iff] at h ⊢
    obtain ⟨A, hA, B, hB, D, hD, h⟩ := h
    refine ⟨A, hA, B, hB, D, hD, ?_⟩
    unfold sliceSt at h ⊢
    split at h
    · split at h
      · rename_i hcs
        simp only [hs _ _ hcs]
        exact h
      · rename_i o hno ho
        simp only [hs _ _ ho]
        exact h
      · cases h
    · exact h
  · simp only [Option.bind_eq_some_iff] at h ⊢
    obtain ⟨t, h1, d, h2, h⟩ := h
    refine ⟨t, h1, d, h2, ?_⟩
    split at h
    · exact h
    · split at h
      · rename_i hcs
        rw [hs _ _ hcs]
        exact h
      · cases h
    · cases h
  · simp only [Option.bind_eq_some_iff] at h ⊢
    obtain ⟨t, h1, d, h2, h⟩ := h
    refine ⟨t, h1, d, h2, ?_⟩
    split at h
    · split at h
      · exact h
      · split at h
        · rename_i hcs
          rw [hs _ _ hcs]
          exact h
        · cases h
      · cases h
    · split at h
      · exact h
      · split at h
        · rename_i hcs
          rw [hs _ _ hcs]
          exact h
        · cases h
      · cases h
    · simp only [Option.bind_eq_some_iff] at h ⊢
      obtain ⟨ed, h3, h⟩ := h
      refine ⟨ed, h3, ?_⟩
      split at h
      · simp only [Option.bind_eq_some_iff] at h ⊢
        obtain ⟨n, h4, cs, h5, h⟩ := h
        exact ⟨n, h4, cs, sliceCells_old hs h5, h⟩
      · cases h
    · cases h
  · cases h
end

/-- What an operation that turns nothing comes to. -/
theorem aop_calm {ts : List AV} {st st' : St} {o : Oper} {v : AV} (he : effect C.P o = false) (h : aop C f ts st o = some (v, st')) :
    (opKind C.P o.op = .pure ∧ pureOp C.P ts o.op = some v ∧ st' = st) ∨
      (opKind C.P o.op = .load ∧ ∃ vs, opnds ts o.op.operands.toList = some vs ∧ readV C.P st o.op vs = some v ∧ st' = st) ∨
      (opKind C.P o.op = .mk ∧ ∃ g y, mkOp C.P (C.byref f) ts o.op = some (g, y) ∧ v = g st.next ∧ st' = st.push y) := by
  unfold aop at h
  split at h
  · rename_i hk
    simp only [Option.bind_eq_some_iff] at h
    obtain ⟨u, hu, h⟩ := h
    injection h with h; injection h with e1 e2; subst e1; subst e2
    exact .inl ⟨hk, hu, rfl⟩
  · rename_i hk
    simp only [Option.bind_eq_some_iff] at h
    obtain ⟨p, hp, u, hu, h⟩ := h
    injection h with h; injection h with e1 e2; subst e1; subst e2
    exact .inr (.inl ⟨hk, p, hp, hu, rfl⟩)
  · rename_i hk
    simp only [Option.bind_eq_some_iff] at h
    obtain ⟨⟨g, y⟩, hu, h⟩ := h
    injection h with h; injection h with e1 e2; subst e1; subst e2
    exact .inr (.inr ⟨hk, g, y, hu, rfl, rfl⟩)
  · rename_i hk
    simp [effect, hk] at he

/-! ### The walk -/
structure DInv (W0 : World) (C : Cfg) (f : FuncId) (ops : Array Oper) (G0 : Gh) (st0 : St) (w0 : World) (ts0 : List AV) (H : List HItem) (lst : Array Bool) (rd : List Rd) (fr : Fr) (G : Gh) (a : Act) (w : World) : Prop where
  hok : HOk ops lst H
  goes : Goes W0 G0 st0 w0 G fr.st w
  ts : fr.ts = puts (fun _ => true) H ts0
  rep : RepL G fr.st w (puts (lq lst) H ts0) a.tmps.toList
  ds : RepDs G fr.st w fr.ds a.defers
  lag : ∀ H1 x H2, H = H1 ++ x :: H2 → ¬ Li lst x.s.i → LagOk C f ops G fr.st rd (puts (fun _ => true) H1 ts0) x
  ids : ∀ x ∈ H, ∀ y ∈ H, x.made = true → y.made = true → x.s.i ≠ y.s.i → x.id ≠ y.id
  idlt : ∀ x ∈ H, x.made = true → st0.next ≤ x.id ∧ x.id < fr.st.next
  size : lst.size = ops.size

variable {G0 : Gh} {st0 : St} {w0 : World} {ts0 : List AV} {H : List HItem} {lst : Array Bool} {rd : List Rd} {fr : Fr} {G : Gh} {a : Act} {w : World}

theorem goes_push (hg : Goes W0 G0 st0 w0 G fr.st w) (y : AObj) : Goes W0 G fr.st w G (fr.st.push y) w := ⟨Le.push hg.inv y, Unb.push y, hg.inv.push y⟩

/-- The plan takes what turns nothing. -/
theorem DInv.virt (D : DInv W0 C f ops G0 st0 w0 ts0 H lst rd fr G a w) {s : PStep} {l : List PStep} (he : s.eff = false) (hef : s.eff = effect C.P s.o) (hs : ops[s.i]? = some s.o) (hn : ¬ Is H s.i) (hw : Wait (Is H) s.o)
    (h : runPlanK C ck f ro ops (s :: l) rd fr k = true) :
    ∃ x rd' fr1, x.s = s ∧ runPlanK C ck f ro ops l rd' fr1 k = true ∧ DInv W0 C f ops G0 st0 w0 ts0 (H ++ [x]) lst rd' fr1 G a w := by
  simp only [runPlanK] at h
  have hnl : ¬ Li lst s.i := fun hl => hn (D.hok.sub _ hl)
  have reput : ∀ (x : HItem), x.s = s → puts (lq lst) (H ++ [x]) ts0 = puts (lq lst) H ts0 := fun x hx => by
    rw [puts_append]
    have : lq lst x = false := by simpa [lq, Li, hx] using hnl
    simp only [puts, this, cond_false]
  have tput : ∀ (x : HItem), x.s = s → putT fr.ts s.o.dst x.v = puts (fun _ => true) (H ++ [x]) ts0 := fun x hx => by
    rw [puts_append, ← D.ts]
    simp only [puts, cond_true, hx]
  split at h
  · cases h
  · rename_i hb
    refine ⟨⟨s, AV.undef, false, 0⟩, rd, _, rfl, h, ?_⟩
    exact {
      hok := D.hok.virt (x := ⟨s, AV.undef, false, 0⟩) hs hn hw
      goes := D.goes
      ts := tput ⟨s, AV.undef, false, 0⟩ rfl
      rep := by rw [reput _ rfl]; exact D.rep
      ds := D.ds
      lag := fun H1 y H2 e hy => by
        rcases split_last e with ⟨rfl, rfl, rfl⟩ | ⟨H3, e1, _⟩
        · rw [← D.ts]; exact .skip hb rfl
        · exact D.lag H1 y H3 e1 hy
      ids := fun y hy z hz my mz => by
        simp only [List.mem_append, List.mem_singleton] at hy hz
        rcases hy with hy | rfl
        · rcases hz with hz | rfl
          · exact D.ids y hy z hz my mz
          · cases mz
        · cases my
      idlt := fun y hy my => by
        simp only [List.mem_append, List.mem_singleton] at hy
        rcases hy with hy | rfl
        · exact D.idlt y hy my
        · cases my
      size := D.size }
  · rename_i hb
    rw [he] at h
    simp only at h
    split at h
    rotate_left
    · cases h
    rename_i v st' hd
    rcases aop_calm (hef ▸ he) hd with ⟨k1, k2, rfl⟩ | ⟨k1, vs, k2, k3, rfl⟩ | ⟨k1, g, y0, k2, rfl, rfl⟩
    · refine ⟨⟨s, v, false, 0⟩, _, _, rfl, h, ?_⟩
      exact {
        hok := D.hok.virt (x := ⟨s, v, false, 0⟩) hs hn hw
        goes := D.goes
        ts := tput ⟨s, v, false, 0⟩ rfl
        rep := by rw [reput _ rfl]; exact D.rep
        ds := D.ds
        lag := fun H1 y H2 e hy => by
          rcases split_last e with ⟨rfl, rfl, rfl⟩ | ⟨H3, e1, _⟩
          · rw [← D.ts]; exact .pure hb k1 k2
          · exact (D.lag H1 y H3 e1 hy).mono (fun _ h1 ⟨r, hr, h2⟩ => ⟨h1, r, List.mem_append_right _ hr, h2⟩) fun _ h1 h2 => ⟨h1, h2, rfl⟩
        ids := fun y hy z hz my mz => by
          simp only [List.mem_append, List.mem_singleton] at hy hz
          rcases hy with hy | rfl
          · rcases hz with hz | rfl
            · exact D.ids y hy z hz my mz
            · cases mz
          · cases my
        idlt := fun y hy my => by
          simp only [List.mem_append, List.mem_singleton] at hy
          rcases hy with hy | rfl
          · exact D.idlt y hy my
          · cases my
        size := D.size }
    · refine ⟨⟨s, v, false, 0⟩, _, _, rfl, h, ?_⟩
      exact {
        hok := D.hok.virt (x := ⟨s, v, false, 0⟩) hs hn hw
        goes := D.goes
        ts := tput ⟨s, v, false, 0⟩ rfl
        rep := by rw [reput _ rfl]; exact D.rep
        ds := D.ds
        lag := fun H1 y H2 e hy => by
          rcases split_last e with ⟨rfl, rfl, rfl⟩ | ⟨H3, e1, _⟩
          · rw [← D.ts]
            exact .load hb k1 vs k2 k3 ⟨⟨s.i, s.o.op, vs, v⟩, List.mem_append_left _ (by simp [rdOf, k1, k2]), rfl, rfl, rfl, rfl⟩
          · exact (D.lag H1 y H3 e1 hy).mono (fun _ h1 ⟨r, hr, h2⟩ => ⟨h1, r, List.mem_append_right _ hr, h2⟩) fun _ h1 h2 => ⟨h1, h2, rfl⟩
        ids := fun y hy z hz my mz => by
          simp only [List.mem_append, List.mem_singleton] at hy hz
          rcases hy with hy | rfl
          · rcases hz with hz | rfl
            · exact D.ids y hy z hz my mz
            · cases mz
          · cases my
        idlt := fun y hy my => by
          simp only [List.mem_append, List.mem_singleton] at hy
          rcases hy with hy | rfl
          · exact D.idlt y hy my
          · cases my
        size := D.size }
    · refine ⟨⟨s, g fr.st.next, true, fr.st.next⟩, _, _, rfl, h, ?_⟩
      have gp := goes_push D.goes y0
      exact {
        hok := D.hok.virt (x := ⟨s, g fr.st.next, true, fr.st.next⟩) hs hn hw
        goes := D.goes.trans gp
        ts := tput ⟨s, g fr.st.next, true, fr.st.next⟩ rfl
        rep := by rw [reput _ rfl]; exact RepL.mono gp.le _ _ D.rep
        ds := RepDs.mono gp.le D.ds
        lag := fun H1 y H2 e hy => by
          rcases split_last e with ⟨rfl, rfl, rfl⟩ | ⟨H3, e1, _⟩
          · rw [← D.ts]
            exact .mk hb k1 rfl g y0 k2 rfl (by simp [St.push]) (push_unborn D.goes.inv) (push_get _)
          · exact (D.lag H1 y H3 e1 hy).mono (fun _ h1 ⟨r, hr, h2⟩ => ⟨readV_old (push_old D.goes.inv _) h1, r, List.mem_append_right _ hr, h2⟩) fun _ h1 h2 => ⟨Nat.lt_of_lt_of_le h1 gp.le.next, h2, (gp.unb _ h1 h2).1⟩
        ids := fun y hy z hz my mz => by
          simp only [List.mem_append, List.mem_singleton] at hy hz
          rcases hy with hy | rfl
          · rcases hz with hz | rfl
            · exact D.ids y hy z hz my mz
            · intro _
              have := (D.idlt y hy my).2
              simp only
              omega
          · rcases hz with hz | rfl
            · intro _
              have := (D.idlt z hz mz).2
              simp only
              omega
            · exact fun h => absurd rfl h
        idlt := fun y hy my => by
          simp only [List.mem_append, List.mem_singleton] at hy
          rcases hy with hy | rfl
          · have := D.idlt y hy my
            exact ⟨this.1, Nat.lt_of_lt_of_le this.2 gp.le.next⟩
          · exact ⟨D.goes.le.next, by simp [St.push]⟩
        size := D.size }
end
end Go.Ev
