/- Calls, operations, regions in their order. -/
import Derived.Test.YthodfojhbbendaaDoorEvK
set_option linter.all false
namespace Go.Ev
open Go.RowKit (Below)

section
variable {W0 : World} {G : Gh} {st : St} {w : World}

def RepD (G : Gh) (st : St) (w : World) (ad : ADefer) (d : Deferred) : Prop := ∃ cap args : Array Value, d = { target := .fn (.func ad.fn) cap, args } ∧ RepL G st w ad.args (args ++ cap).toList
def RepDs (G : Gh) (st : St) (w : World) : List ADefer → List Deferred → Prop
  | [], l => l = []
  | ad :: as, l => ∃ d ds, l = d :: ds ∧ RepD G st w ad d ∧ RepDs G st w as ds
theorem RepDs.mono {G' : Gh} {st' : St} {w' : World} (L : Le G st w G' st' w') : ∀ {as : List ADefer} {ds : List Deferred}, RepDs G st w as ds → RepDs G' st' w' as ds
  | [], _, h => h
  | ad :: as, _, h => by
    obtain ⟨d, ds, rfl, ⟨cap, args, rfl, h1⟩, h2⟩ := h
    exact ⟨_, ds, rfl, ⟨cap, args, rfl, RepL.mono L _ _ h1⟩, RepDs.mono L h2⟩
theorem RepDs.append : ∀ {as bs : List ADefer} {ds es : List Deferred}, RepDs G st w as ds → RepDs G st w bs es → RepDs G st w (as ++ bs) (ds ++ es)
  | [], _, _, _, h, k => by
    simp only [RepDs] at h
    subst h
    exact k
  | ad :: as, _, _, _, h, k => by
    obtain ⟨d, ds, rfl, h1, h2⟩ := h
    exact ⟨d, _, rfl, h1, RepDs.append h2 k⟩

/-- A frame of the evaluator's, and the model's. -/
structure FrRep (G : Gh) (w : World) (fr : Fr) (a : Act) : Prop where
  ts : RepL G fr.st w fr.ts a.tmps.toList
  ds : RepDs G fr.st w fr.ds a.defers

/-- How the world stands behind a call, or a piece of code. -/
structure Goes (W0 : World) (G : Gh) (st : St) (w : World) (G' : Gh) (st' : St) (w' : World) : Prop where
  le : Le G st w G' st' w'
  unb : Unb G st G' st'
  inv : Inv W0 G' st' w'
theorem Goes.refl (I : Inv W0 G st w) : Goes W0 G st w G st w := ⟨Le.refl _ _ _, Unb.refl _ _, I⟩
theorem Goes.trans {G' G'' : Gh} {st' st'' : St} {w' w'' : World} (h : Goes W0 G st w G' st' w') (k : Goes W0 G' st' w' G'' st'' w'') : Goes W0 G st w G'' st'' w'' :=
  ⟨h.le.trans k.le, h.unb.trans h.le.next k.unb, k.inv⟩

def CallPost (W0 : World) (G : Gh) (st : St) (w : World) (v : AV) (st' : St) : Ending → World → Prop := fun e w' => ∃ u G', e = .returned u ∧ Goes W0 G st w G' st' w' ∧ Rep G' st' w' v u

/-- What is asked of the calls. -/
def CallOk (P : Program) (W0 : World) (callf : CallF) : Prop :=
  ∀ f args st plain v st', callf f args st = some (plain, v, st') → ∀ G w (vs : Array Value), Inv W0 G st w → RepL G st w args vs.toList →
    (∃ u, (callFunc f vs).run P w = .ok (.value u) w ∧ st' = st ∧ Rep G st w v u ∧ plain = false) ∨
    ((callFunc f vs).run P w = .ok (.enter f vs) w ∧ Calls P f vs w (CallPost W0 G st w v st') ∧
      (plain = true → ∀ u, CallsD P f vs u w fun e u' w' => u' = u ∧ CallPost W0 G st w v st' e w'))

variable {P : Program} {C : Cfg} {callf : CallF} {f : FuncId}

theorem put_tmps {ts : List AV} {a : Act} {dst : Option Tmp} {v : AV} {u : Value} (h : RepL G st w ts a.tmps.toList) (hv : Rep G st w v u) : RepL G st w (putT ts dst v) (a.put dst u).tmps.toList := by
  cases dst with
  | none => exact h
  | some d =>
    simp only [putT, Act.put, Array.toList_setIfInBounds]
    exact h.set d hv
theorem put_defers (a : Act) (dst : Option Tmp) (u : Value) : (a.put dst u).defers = a.defers := by cases dst <;> rfl

/-- One operation. -/
theorem doOp_wp (hC : CallOk C.P W0 callf) (I : Inv W0 G st w) {ts : List AV} {a : Act} {o : Oper} {v : AV} {ds : List ADefer} {st' : St} {K : Act → World → Prop} {Q : Exit → Act → World → Prop}
    (hts : RepL G st w ts a.tmps.toList) (h : doOp C callf f ts st o = some (v, ds, st'))
    (hK : ∀ u w' G' dfs, Goes W0 G st w G' st' w' → Rep G' st' w' v u → RepDs G' st' w' ds dfs → K (({ a with defers := dfs ++ a.defers } : Act).put o.dst u) w') : o.wp C.P a w K Q := by
  unfold doOp at h
  split at h
  case h_1 x args ats hop =>
    simp only [Option.bind_eq_some_iff] at h
    obtain ⟨fv, hf, as, has, h⟩ := h
    have hfr := Rep.opnd hts hf
    have har := RepL.opnds hts has
    split at h
    · rename_i g first cap
      simp only [Option.bind_eq_some_iff] at h
      obtain ⟨⟨plain, v', st1⟩, hcall, h⟩ := h
      injection h with h; injection h with e1 e2; injection e2 with e2 e3; subst e1; subst e2; subst e3
      simp only [Rep] at hfr
      obtain ⟨fs, cs, e, r1, r2⟩ := hfr
      have hrun : (execOp a.eval o).run C.P w = (callFunc g (fs ++ args.map a.eval ++ cs)).run C.P w := by
        simp [execOp, hop, resolve, e, Deferred.ofValue, invoke]
      have hargs : RepL G st w (first ++ as ++ cap) (fs ++ args.map a.eval ++ cs).toList := by
        simp only [Array.toList_append, Array.toList_map]
        exact RepL.append (RepL.append r1 har) r2
      unfold Oper.wp
      rw [hrun]
      rcases hC g _ st plain v' st1 hcall G w _ I hargs with ⟨u, c1, rfl, c3, _⟩ | ⟨c1, c2, _⟩
      · rw [c1, Oper.upon_value]
        simpa using hK u w G [] (Goes.refl I) c3 rfl
      · rw [c1, Oper.upon_enter]
        refine Calls.mono c2 fun e' w' he => ?_
        obtain ⟨u, G', rfl, hg, hr⟩ := he
        simpa using hK u w' G' [] hg hr rfl
    · cases h
  case h_2 x args ats hop =>
    simp only [Option.bind_eq_some_iff] at h
    obtain ⟨fv, hf, as, has, h⟩ := h
    have hfr := Rep.opnd hts hf
    have har := RepL.opnds hts has
    split at h
    · rename_i g first cap
      injection h with h; injection h with e1 e2; injection e2 with e2 e3; subst e1; subst e2; subst e3
      simp only [Rep] at hfr
      obtain ⟨fs, cs, e, r1, r2⟩ := hfr
      have hrun : (execOp a.eval o).run C.P w = .ok (.defer { target := .fn (.func g) cs, args := fs ++ args.map a.eval }) w := by
        simp [execOp, hop, resolve, e, Deferred.ofValue]
      unfold Oper.wp
      rw [hrun, Oper.upon_defer]
      refine hK Go.undef w G [_] (Goes.refl I) Rep.undef ⟨_, [], rfl, ⟨cs, fs ++ args.map a.eval, rfl, ?_⟩, rfl⟩
      simp only [Array.toList_append, Array.toList_map]
      exact RepL.append (RepL.append r1 har) r2
    · cases h
  case h_3 =>
    simp only [Option.bind_eq_some_iff] at h
    obtain ⟨⟨v', st1⟩, h1, h⟩ := h
    injection h with h; injection h with e1 e2; injection e2 with e2 e3; subst e1; subst e2; subst e3
    obtain ⟨n, u, w', G', k1, k2, k3, k4, k5, k6⟩ := aop_sound I hts h1
    unfold Oper.wp
    rw [k1]
    have := hK u w' G' [] ⟨k3, k4, k5⟩ k6 rfl
    simp only [List.nil_append] at this
    rcases k2 with rfl | ⟨rfl, rfl⟩
    · exact this
    · exact this

theorem wanted_rep {ops : Array Oper} {ts : List AV} {a : Act} {o : Oper} {b : Bool} (hts : RepL G st w ts a.tmps.toList) (h : wantedA ops ts o = some b) : Region.wanted o (yielded ops a.tmps) = b := by
  unfold wantedA at h
  unfold Region.wanted
  split at h
  · rename_i hg
    rw [hg]
    injection h
  · rename_i j want hg
    rw [hg]
    split at h
    · cases h
    · rename_i d hd
      have ht := hts.tmp d
      have hy : yielded ops a.tmps j = match a.tmps[d]? with | some (.bool b) => some b | _ => none := by
        unfold yielded
        rw [hd]
        rfl
      rw [Array.getD_eq_getD_getElem?] at ht
      split at h
      · rename_i c hc
        rw [hc] at ht
        simp only [Rep] at ht
        injection h with h
        subst h
        cases hx : a.tmps[d]? with
        | none => rw [hx] at ht; simp [Go.undef] at ht
        | some x =>
          rw [hx] at ht
          simp only [Option.getD_some] at ht
          subst ht
          show (yielded ops a.tmps j == some want) = (c == want)
          rw [hy, hx]
          rfl
      · rename_i l hc
        rw [hc] at ht
        simp only [Rep] at ht
        obtain ⟨vs, e, _⟩ := ht
        injection h with h
        subst h
        show (yielded ops a.tmps j == some want) = false
        rw [hy]
        cases hx : a.tmps[d]? with
        | none => rfl
        | some x =>
          rw [hx] at e
          simp only [Option.getD_some] at e
          subst e
          rfl
      · cases h

/-- How a piece of code ends. -/
def AExit.is : AExit → Exit → Prop
  | .normal, e => e = .normal
  | .exit i, e => e = .exit i
  | .ret, e => e = .ret
def Post (W0 : World) (G : Gh) (w : World) (fr : Fr) (x : AExit) (fr' : Fr) : Exit → Act → World → Prop := fun e a' w' =>
  x.is e ∧ ∃ G', Goes W0 G fr.st w G' fr'.st w' ∧ FrRep G' w' fr' a'

theorem seq_sound (hC : CallOk C.P W0 callf) {ops : Array Oper} {Q : Exit → Act → World → Prop} : ∀ (l : List Oper) {G : Gh} {w : World} {fr fr' : Fr} {a : Act}, Inv W0 G fr.st w → FrRep G w fr a →
    opsSeq C callf f ops l fr = some fr' → (∀ G' a' w', Goes W0 G fr.st w G' fr'.st w' → FrRep G' w' fr' a' → Q .normal a' w') → wpList C.P ops Q l a w
  | [], G, w, fr, fr', a, I, hf, h, hQ => by
    simp only [opsSeq] at h
    injection h with h
    subst h
    exact hQ G a w (Goes.refl I) hf
  | o :: l, G, w, fr, fr', a, I, hf, h, hQ => by
    simp only [opsSeq, opStep, Option.bind_eq_some_iff] at h
    obtain ⟨fr1, ⟨b, hb, h1⟩, h⟩ := h
    have hw := wanted_rep hf.ts hb
    simp only [wpList]
    cases b with
    | true =>
      simp only [Option.bind_eq_some_iff] at h1
      obtain ⟨⟨v, ds, st'⟩, h2, h3⟩ := h1
      injection h3 with h3
      subst h3
      rw [if_pos hw]
      refine .inl (doOp_wp hC I hf.ts h2 fun u w' G' dfs hg hr hd => ?_)
      refine seq_sound hC l hg.inv ⟨?_, ?_⟩ h fun G'' a'' w'' hg' hf' => hQ G'' a'' w'' (hg.trans hg') hf'
      · exact put_tmps (a := { a with defers := dfs ++ a.defers }) (RepL.mono hg.le _ _ hf.ts) hr
      · rw [put_defers]
        exact RepDs.append hd (RepDs.mono hg.le hf.ds)
    | false =>
      injection h1 with h1
      subst h1
      rw [if_neg (by rw [hw]; simp)]
      refine seq_sound hC l (fr := ⟨putT fr.ts o.dst AV.undef, fr.ds, fr.st⟩) I ⟨?_, ?_⟩ h hQ
      · exact put_tmps hf.ts Rep.undef
      · rw [put_defers]
        exact hf.ds
end
end Go.Ev
