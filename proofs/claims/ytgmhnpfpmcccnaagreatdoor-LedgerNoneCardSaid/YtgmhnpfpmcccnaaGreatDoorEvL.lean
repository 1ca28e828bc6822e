/- Calls, operations, regions in their order. -/
import Derived.Test.YtgmhnpfpmcccnaaGreatDoorEvT
import Derived.Test.YtgmhnpfpmcccnaaGreatDoorEvP
import Derived.TacticsIn
import Derived.RangeFuncIn
set_option linter.all false
namespace Go.Ev
open Go.RowKit (Below)

section
variable {W0 : World} {G : Gh} {st : St} {w : World}

def RepD (G : Gh) (st : St) (w : World) : ADefer → Deferred → Prop
  | .call f as, d => ∃ cap args : Array Value, d = { target := .fn (.func f) cap, args } ∧ RepL G st w as (args ++ cap).toList
  | .mark id, d => ∃ b k n, G.β id = some (b, k, n) ∧ d = { target := .collected b, args := #[] }
def RepDs (G : Gh) (st : St) (w : World) : List ADefer → List Deferred → Prop
  | [], l => l = []
  | ad :: as, l => ∃ d ds, l = d :: ds ∧ RepD G st w ad d ∧ RepDs G st w as ds
theorem RepD.mono {G' : Gh} {st' : St} {w' : World} (L : Le G st w G' st' w') : ∀ {ad : ADefer} {d : Deferred}, RepD G st w ad d → RepD G' st' w' ad d
  | .call _ _, _, h => by
    obtain ⟨cap, args, rfl, h1⟩ := h
    exact ⟨cap, args, rfl, RepL.mono L _ _ h1⟩
  | .mark _, _, h => by
    obtain ⟨b, k, n, h1, rfl⟩ := h
    exact ⟨b, k, n, L.β _ _ h1, rfl⟩
theorem RepDs.mono {G' : Gh} {st' : St} {w' : World} (L : Le G st w G' st' w') : ∀ {as : List ADefer} {ds : List Deferred}, RepDs G st w as ds → RepDs G' st' w' as ds
  | [], _, h => h
  | ad :: as, _, h => by
    obtain ⟨d, ds, rfl, h1, h2⟩ := h
    exact ⟨_, ds, rfl, RepD.mono L h1, RepDs.mono L h2⟩
theorem RepDs.append : ∀ {as bs : List ADefer} {ds es : List Deferred}, RepDs G st w as ds → RepDs G st w bs es → RepDs G st w (as ++ bs) (ds ++ es)
  | [], _, _, _, h, k => by
    simp only [RepDs] at h
    subst h
    exact k
  | ad :: as, _, _, _, h, k => by
    obtain ⟨d, ds, rfl, h1, h2⟩ := h
    exact ⟨d, _, rfl, h1, RepDs.append h2 k⟩

/-- A frame of the evaluator's, and the model's. -/
structure FrRep (G : Gh) (w : World) (fr : Fr) (a : Act) : Prop where
  ts : RepL G fr.st w fr.ts a.tmps.toList
  ds : RepDs G fr.st w fr.ds a.defers

/-- How the world stands behind a call, or a piece of code. -/
structure Goes (W0 : World) (G : Gh) (st : St) (w : World) (G' : Gh) (st' : St) (w' : World) : Prop where
  le : Le G st w G' st' w'
  unb : Unb G st G' st'
  inv : Inv W0 G' st' w'
theorem Goes.refl (I : Inv W0 G st w) : Goes W0 G st w G st w := ⟨Le.refl _ _ _, Unb.refl _ _, I⟩
theorem Goes.trans {G' G'' : Gh} {st' st'' : St} {w' w'' : World} (h : Goes W0 G st w G' st' w') (k : Goes W0 G' st' w' G'' st'' w'') : Goes W0 G st w G'' st'' w'' :=
  ⟨h.le.trans k.le, h.unb.trans h.le.next k.unb, k.inv⟩

def CallPost (W0 : World) (G : Gh) (st : St) (w : World) (k : AV → St → Bool) : Ending → World → Prop := fun e w' => ∃ u v st' G', e = .returned u ∧ k v st' = true ∧ Goes W0 G st w G' st' w' ∧ Rep G' st' w' v u

/-- What is asked of the calls of functions. -/
def FnOk (P : Program) (W0 : World) (ck : CK) : Prop :=
  ∀ f args st k, ck false f args st k = true → ∀ G w (vs : Array Value), Inv W0 G st w → RepL G st w args vs.toList →
    (∃ u w' v st' G', (callFunc f vs).run P w = .ok (.value u) w' ∧ k false v st' = true ∧ Goes W0 G st w G' st' w' ∧ Rep G' st' w' v u) ∨
    ((callFunc f vs).run P w = .ok (.enter f vs) w ∧ CallsIn Fence.wide 0 P f vs w (CallPost W0 G st w fun v st' => k true v st' || k false v st') ∧
      ((∀ v s, k false v s = false) → ∀ u, CallsDIn Fence.wide 0 P f vs u w fun e u' w' => u' = u ∧ CallPost W0 G st w (k true) e w'))
/-- What is asked of the calls of a loop's yield. -/
def YieldOk (P : Program) (W0 : World) (ck : CK) : Prop :=
  ∀ l args st k, ck true l args st k = true → ∀ G w (vs : Array Value) b kk n, Inv W0 G st w → RepL G st w args vs.toList → G.β l = some (b, kk, n) →
    ∃ g tmps asg body, (Instr.yield b vs).run P w = .ok (.round b g tmps asg body) w ∧ RoundIn Fence.wide 0 P b g tmps asg body w (CallPost W0 G st w (k false))

variable {P : Program} {C : Cfg} {ck : CK} {f : FuncId}

/-- The fence of a frame; of a round's frame. -/
abbrev FR (ro : Option Nat) : Fence := { Fence.wide with round := ro }

theorem put_tmps {ts : List AV} {a : Act} {dst : Option Tmp} {v : AV} {u : Value} (h : RepL G st w ts a.tmps.toList) (hv : Rep G st w v u) : RepL G st w (putT ts dst v) (a.put dst u).tmps.toList := by
  cases dst with
  | none => exact h
  | some d =>
    simp only [putT, Act.put, Array.toList_setIfInBounds]
    exact h.set d hv
theorem put_defers (a : Act) (dst : Option Tmp) (u : Value) : (a.put dst u).defers = a.defers := by cases dst <;> rfl

/-- The method that a name means. -/
theorem method_run (I : Inv W0 G st w) {t : TypeId} {v r : AV} {u : Value} {name : String} {g : FuncId} {n : Nat} (hv : Rep G st w v u) (h : methodOf P st t v name = some (g, r)) :
    ∃ u', (method (n + 1) t u name).run P w = .ok (g, u') w ∧ Rep G st w r u' := by
  simp only [methodOf, Option.bind_eq_some_iff] at h
  obtain ⟨i, hi, m, hm, h⟩ := h
  replace h := cond_some h
  obtain ⟨hp, h⟩ := h
  simp only [Option.bind_eq_some_iff] at h
  obtain ⟨⟨g', ptr⟩, hf, d, hd, h⟩ := h
  have hpath : m.path = #[] := by simpa using hp
  simp only [method, typeInfo, Sem.run_bind, run_program, Result.andThen_ok, hi, Sem.run_pure, hm, hpath, follow, hf, receiverAt, run_underlying hd, Array.isEmpty_empty, if_true, Place.get]
  cases d <;> cases ptr <;> simp only at h ⊢
  all_goals first
    | (cases h; done)
    | skip
  all_goals first
    | (injection h with h; injection h with e1 e2; subst e1; subst e2
       exact ⟨u, rfl, hv⟩)
    | skip
  all_goals split at h
  · rename_i id off
    simp only [Option.bind_eq_some_iff] at h
    obtain ⟨r', h1, h2⟩ := h
    injection h2 with h2; injection h2 with e1 e2; subst e1; subst e2
    obtain ⟨r, r1, r2⟩ := run_loadAt (P := P) I hv h1
    simp only [Rep] at hv
    obtain ⟨b, k, n, hb, rfl⟩ := hv
    refine ⟨r, ?_, r2⟩
    have e3 : ∀ (s1 s2 : String) (e t : TypeId), (Builtin.ssaWrapNilChk_ #[t] e #[.pointer (some ⟨b, off, none⟩), strVal s1, strVal s2]).run P w = .ok (.pointer (some ⟨b, off, none⟩)) w := fun _ _ _ _ => rfl
    simp only [Sem.run_bind, Sem.run_pure, Result.andThen_ok, e3]
    simp [Instr.loadAt, Instr.sureAddr, asAddr] at r1
    simp [asAddr, r1]
  · cases h

theorem semAt_is (ro : Option Nat) (ρ : Operand → Value) (o : Oper) (h : ro = none ∨ ∀ c, o.op ≠ .defer c) : o.semAt ro ρ = execOp ρ o := by
  rcases h with rfl | h
  · rfl
  · exact Oper.semAt_eq ro ρ o h

/-- A function's call, as an operation. -/
theorem call_wp (hC : FnOk C.P W0 ck) (I : Inv W0 G st w) {ro : Option Nat} {a : Act} {o : Oper} {g : FuncId} {args : List AV} {vs : Array Value} {k : AV → St → Bool} {K : Act → World → Prop} {Q : Exit → Act → World → Prop}
    (hargs : RepL G st w args vs.toList) (h : (ck false g args st fun _ v st' => k v st') = true)
    (hK : ∀ v st' u w' G', k v st' = true → Goes W0 G st w G' st' w' → Rep G' st' w' v u → K (a.put o.dst u) w') : o.uponIn (FR ro) 0 C.P a K Q ((callFunc g vs).run C.P w) := by
  rcases hC _ _ _ _ h G w vs I hargs with ⟨u, w', v, st', G', c1, c2, c3, c4⟩ | ⟨c1, c2, _⟩
  · rw [c1]
    exact hK v st' u w' G' c2 c3 c4
  · rw [c1]
    refine ⟨fun h => (by cases h), ?_⟩
    refine CallsIn.mono (F := FR ro) (n := 0) c2 fun e w' he => ?_
    obtain ⟨u, v, st', G', rfl, h2, h3, h4⟩ := he
    simp only [Bool.or_self] at h2
    exact hK v st' u w' G' h2 h3 h4

/-- One operation. -/
theorem doOpK_wp (hC : FnOk C.P W0 ck) (hY : YieldOk C.P W0 ck) (I : Inv W0 G st w) {ro rob : Option Nat} (hro : ro = none → rob = none) {ts : List AV} {a : Act} {o : Oper} {k : AV → List ADefer → St → Bool} {K : Act → World → Prop} {Q : Exit → Act → World → Prop}
    (hts : RepL G st w ts a.tmps.toList) (h : doOpK C ck f ro ts st o k = true)
    (hK : ∀ v ds st' u w' G' dfs, k v ds st' = true → Goes W0 G st w G' st' w' → Rep G' st' w' v u → RepDs G' st' w' ds dfs → K (({ a with defers := dfs ++ a.defers } : Act).put o.dst u) w') : o.wpIn (FR rob) 0 C.P a w K Q := by
  refine ⟨fun _ _ => trivial, ?_⟩
  show o.uponIn (FR rob) 0 C.P a K Q ((o.semAt rob a.eval).run C.P w)
  unfold doOpK at h
  split at h
  case h_1 x args ats hop =>
    rw [semAt_is rob _ o (.inr (by rw [hop]; simp))]
    split at h
    · rename_i g first cap as hf has
      have hfr := Rep.opnd hts hf
      have har := RepL.opnds hts has
      simp only [Rep] at hfr
      obtain ⟨fs, cs, e, r1, r2⟩ := hfr
      have hrun : (execOp a.eval o).run C.P w = (callFunc g (fs ++ args.map a.eval ++ cs)).run C.P w := by
        simp [execOp, hop, resolve, e, Deferred.ofValue, invoke]
      have hargs : RepL G st w (first ++ as ++ cap) (fs ++ args.map a.eval ++ cs).toList := by
        simp only [Array.toList_append, Array.toList_map]
        exact RepL.append (RepL.append r1 har) r2
      rw [hrun]
      exact call_wp hC I (k := fun v st' => k v [] st') hargs h fun v st' u w' G' h1 h2 h3 => by simpa using hK v [] st' u w' G' [] h1 h2 h3 rfl
    · rename_i l as hf has
      have hfr := Rep.opnd hts hf
      have har := RepL.opnds hts has
      simp only [Rep] at hfr
      obtain ⟨b, kk, n, hb, e⟩ := hfr
      have hrun : (execOp a.eval o).run C.P w = (Instr.yield b (args.map a.eval)).run C.P w := by
        simp [execOp, hop, resolve, e, Deferred.ofValue, invoke]
      rw [hrun]
      obtain ⟨g, tmps, asg, body, c1, c2⟩ := hY l as st _ h G w (args.map a.eval) b kk n I (by simpa using har) hb
      rw [c1]
      refine ⟨fun h => (by cases h), ?_⟩
      refine RoundIn.mono (F := FR rob) (n := 0) c2 fun e w' he => ?_
      obtain ⟨u, v, st', G', rfl, h2, h3, h4⟩ := he
      simpa using hK v [] st' u w' G' [] h2 h3 h4 rfl
    · cases h
  case h_2 x name args ats hop =>
    rw [semAt_is rob _ o (.inr (by rw [hop]; simp))]
    split at h
    · rename_i t v as hf has
      have hfr := Rep.opnd hts hf
      have har := RepL.opnds hts has
      simp only [Rep] at hfr
      obtain ⟨u, e, r1⟩ := hfr
      split at h
      · rename_i g r hm
        obtain ⟨u', m1, m2⟩ := method_run (n := C.P.types.size + Made.depth - 1) I r1 hm
        have hrun : (execOp a.eval o).run C.P w = (callFunc g (#[u'] ++ args.map a.eval)).run C.P w := by
          have e2 : C.P.types.size + Made.depth - 1 + 1 = C.P.types.size + Made.depth := by simp [Made.depth]
          rw [e2] at m1
          have e3 : (#[a.eval x] ++ args.map a.eval).extract 1 (#[a.eval x] ++ args.map a.eval).size = args.map a.eval := by
            apply Array.ext'
            rw [Array.toList_extract]
            simp [List.extract_eq_take_drop, List.drop_append, List.take_append]
            exact List.take_of_length_le (by simp)
          simp only [execOp, hop, resolve, Sem.run_bind, Sem.run_pure, Result.andThen_ok, invoke]
          have e4 : (#[a.eval x] ++ args.map a.eval)[0]? = some (a.eval x) := by
            rw [Array.getElem?_append_left (by simp)]
            rfl
          rw [e4]
          simp only [e3]
          rw [e]
          unfold callMethod
          simp only [Sem.run_bind, run_program, Result.andThen_ok, m1]
        have hargs : RepL G st w (r :: as) (#[u'] ++ args.map a.eval).toList := by
          simp only [Array.toList_append, Array.toList_map]
          exact RepL.cons m2 har
        rw [hrun]
        exact call_wp hC I (k := fun v st' => k v [] st') hargs h fun v st' u w' G' h1 h2 h3 => by simpa using hK v [] st' u w' G' [] h1 h2 h3 rfl
      · cases h
    · cases h
  case h_3 x args ats hop =>
    cases ro with
    | some l => cases h
    | none =>
    have hrob := hro rfl
    subst hrob
    simp only [Option.isSome_none, cond_false] at h
    split at h
    · rename_i g first cap as hf has
      have hfr := Rep.opnd hts hf
      have har := RepL.opnds hts has
      simp only [Rep] at hfr
      obtain ⟨fs, cs, e, r1, r2⟩ := hfr
      have hrun : (execOp a.eval o).run C.P w = .ok (.defer { target := .fn (.func g) cs, args := fs ++ args.map a.eval }) w := by
        simp [execOp, hop, resolve, e, Deferred.ofValue]
      rw [Oper.semAt_none, hrun, Oper.uponIn_defer]
      refine hK AV.undef _ st Go.undef w G [_] h (Goes.refl I) Rep.undef ⟨_, [], rfl, ⟨cs, fs ++ args.map a.eval, rfl, ?_⟩, rfl⟩
      simp only [Array.toList_append, Array.toList_map]
      exact RepL.append (RepL.append r1 har) r2
    · cases h
  case h_4 x s hop =>
    rw [semAt_is rob _ o (.inr (by rw [hop]; simp))]
    split at h
    · rename_i l hl
      simp only [Option.bind_eq_some_iff] at hl
      obtain ⟨v, hv, hl⟩ := hl
      have hr := Rep.opnd hts hv
      obtain ⟨x', hx, r, w', G', k1, k2, k3, k4, k5⟩ := next_sound (P := C.P) (ty := o.type) I hr hl
      have hrun : (execOp a.eval o).run C.P w = .ok (.value r) w' := by simp [execOp, hop, k1]
      rw [hrun, Oper.uponIn_value]
      simpa using hK x'.1 [] x'.2 r w' G' [] (List.all_eq_true.1 h _ hx) ⟨k2, k3, k4⟩ k5 rfl
    · cases h
  case h_5 hn1 hn2 hn3 hn4 =>
    split at h
    · rename_i v st' h1
      have hd : ∀ c, o.op ≠ .defer c := fun c hc => by
        revert h1
        unfold aop
        rw [hc]
        intro h1
        simp [opKind, effOp] at h1
      rw [semAt_is rob _ o (.inr hd)]
      obtain ⟨n, u, w', G', k1, k2, k3, k4, k5, k6⟩ := aop_sound I hts h1
      rw [k1]
      have := hK v [] st' u w' G' [] h ⟨k3, k4, k5⟩ k6 rfl
      simp only [List.nil_append] at this
      rcases k2 with rfl | ⟨rfl, rfl⟩
      · exact this
      · exact this
    · cases h

theorem wanted_rep {ops : Array Oper} {ts : List AV} {a : Act} {o : Oper} {b : Bool} (hts : RepL G st w ts a.tmps.toList) (h : wantedA ops ts o = some b) : Region.wanted o (yielded ops a.tmps) = b := by
  unfold wantedA at h
  unfold Region.wanted
  split at h
  · rename_i hg
    rw [hg]
    injection h
  · rename_i j want hg
    rw [hg]
    split at h
    · cases h
    · rename_i d hd
      have ht := hts.tmp d
      have hy : yielded ops a.tmps j = match a.tmps[d]? with | some (.bool b) => some b | _ => none := by
        unfold yielded
        rw [hd]
        rfl
      rw [Array.getD_eq_getD_getElem?] at ht
      split at h
      · rename_i c hc
        rw [hc] at ht
        simp only [Rep] at ht
        injection h with h
        subst h
        cases hx : a.tmps[d]? with
        | none => rw [hx] at ht; simp [Go.undef] at ht
        | some x =>
          rw [hx] at ht
          simp only [Option.getD_some] at ht
          subst ht
          show (yielded ops a.tmps j == some want) = (c == want)
          rw [hy, hx]
          rfl
      · rename_i l hc
        rw [hc] at ht
        simp only [Rep] at ht
        obtain ⟨vs, e, _⟩ := ht
        injection h with h
        subst h
        show (yielded ops a.tmps j == some want) = false
        rw [hy]
        cases hx : a.tmps[d]? with
        | none => rfl
        | some x =>
          rw [hx] at e
          simp only [Option.getD_some] at e
          subst e
          rfl
      · cases h

/-- How a piece of code ends. -/
def AExit.is : AExit → Exit → Prop
  | .normal, e => e = .normal
  | .exit i, e => e = .exit i
  | .ret, e => e = .ret
def Post (W0 : World) (G : Gh) (st : St) (w : World) (k : AExit → Fr → Bool) : Exit → Act → World → Prop := fun e a' w' =>
  ∃ x fr' G', x.is e ∧ k x fr' = true ∧ Goes W0 G st w G' fr'.st w' ∧ FrRep G' w' fr' a'

theorem seq_sound (hC : FnOk C.P W0 ck) (hY : YieldOk C.P W0 ck) {ro rob : Option Nat} (hro : ro = none → rob = none) {ops : Array Oper} {Q : Exit → Act → World → Prop} : ∀ (l : List Oper) {k : Fr → Bool} {G : Gh} {w : World} {fr : Fr} {a : Act}, Inv W0 G fr.st w → FrRep G w fr a →
    opsSeqK C ck f ro ops l fr k = true → (∀ fr' G' a' w', k fr' = true → Goes W0 G fr.st w G' fr'.st w' → FrRep G' w' fr' a' → Q .normal a' w') → wpListIn (FR rob) 0 C.P ops Q l a w
  | [], k, G, w, fr, a, I, hf, h, hQ => by
    simp only [opsSeqK] at h
    exact hQ fr G a w h (Goes.refl I) hf
  | o :: l, k, G, w, fr, a, I, hf, h, hQ => by
    simp only [opsSeqK, opStepK] at h
    simp only [wpListIn]
    split at h
    · rename_i hb
      rw [if_pos (wanted_rep hf.ts hb)]
      refine doOpK_wp hC hY I hro hf.ts h fun v ds st' u w' G' dfs h1 hg hr hd => ?_
      refine seq_sound hC hY hro l hg.inv ⟨?_, ?_⟩ h1 fun fr'' G'' a'' w'' h2 hg' hf' => hQ fr'' G'' a'' w'' h2 (hg.trans hg') hf'
      · exact put_tmps (a := { a with defers := dfs ++ a.defers }) (RepL.mono hg.le _ _ hf.ts) hr
      · rw [put_defers]
        exact RepDs.append hd (RepDs.mono hg.le hf.ds)
    · rename_i hb
      rw [if_neg (by rw [wanted_rep hf.ts hb]; simp)]
      refine ⟨fun _ _ => trivial, ?_⟩
      refine seq_sound hC hY hro l (fr := ⟨putT fr.ts o.dst AV.undef, fr.ds, fr.st⟩) I ⟨?_, ?_⟩ h hQ
      · exact put_tmps hf.ts Rep.undef
      · rw [put_defers]
        exact hf.ds
    · cases h
end
end Go.Ev
