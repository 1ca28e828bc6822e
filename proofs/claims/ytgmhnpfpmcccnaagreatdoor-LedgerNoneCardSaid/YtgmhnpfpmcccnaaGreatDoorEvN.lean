/- Code and calls: what the evaluator answers the model comes to. -/
import Derived.Test.YtgmhnpfpmcccnaaGreatDoorEvS
import Derived.LoopNIn
import Derived.Scope
import Derived.RangeFuncLeaves
import Derived.RangeFuncRecord
import Derived.DefersIn
set_option linter.all false
namespace Go.Ev
open Go.RowKit (Below)

section
variable {b : Frame} {a : Act} {k : List Item} {cs : List Frame} {w : World} {P : Program} {F : Fence} {n : Nat} {Q : Exit → Act → World → Prop}
theorem stepR_scope {c : Code} : step P (lone (b.atR a (.code (.scope c) :: k)) cs w) = .next (lone (b.atR a (.code c :: .inScope c :: k)) cs w) :=
  step_lone_go (by simp [stepG, stepG.exec, Frame.atR])
theorem stepR_inScope {c : Code} : step P (lone (b.atR a (.inScope c :: k)) cs w) = .next (lone (b.atR a k) cs w) :=
  step_lone_go (by simp [stepG, stepG.exec, Frame.atR])
theorem wpIn_scope_straight {c : Code} (h : c.wpIn F n P (Exit.noGoto Q) a w) : (Code.scope c).wpIn F n P Q a w := by
  intro b k cs hro hb hr
  have h0 : (lone (b.atR a (.code (.scope c) :: k)) cs w).fenced P F := fenced_calm hb hr rfl
  obtain ⟨e, a₁, w₁, hq, harr⟩ := h b (.inScope c :: k) cs hro hb hr
  cases e with
  | normal => exact ⟨.normal, a₁, w₁, hq, .head h0 stepR_scope (StepsIn.trans harr (.one (fenced_calm hb hr rfl) stepR_inScope))⟩
  | exit id =>
    have hx : exitTo id (.inScope c :: k) = exitTo id k := by simp [exitTo]
    exact ⟨.exit id, a₁, w₁, hq, fun k' hk => .head h0 stepR_scope (harr.1 k' (by rw [hx]; exact hk)),
      fun hr' hk => let ⟨k₁, h1, h2⟩ := harr.2 hr' (by rw [hx]; exact hk); ⟨k₁, h1, .head h0 stepR_scope h2⟩⟩
  | goto l => exact hq.elim
  | ret => exact ⟨_, a₁, w₁, hq, .of_steps (.one h0 stepR_scope) harr⟩
  | panic ch => exact ⟨_, a₁, w₁, hq, .of_steps (.one h0 stepR_scope) harr⟩
  | outgrown => exact ⟨_, a₁, w₁, hq, .of_steps (.one h0 stepR_scope) harr⟩
end

section
variable {W0 : World} {G : Gh} {st : St} {w : World} {P : Program} {C : Cfg} {ck : CK} {f : FuncId}

theorem Post.trans {G' : Gh} {st' : St} {w' : World} {k : AExit → Fr → Bool} {e : Exit} {a : Act} {w'' : World} (h : Goes W0 G st w G' st' w') (hk : Post W0 G' st' w' k e a w'') : Post W0 G st w k e a w'' := by
  obtain ⟨x, fr, G'', k1, k2, k3, k4⟩ := hk
  exact ⟨x, fr, G'', k1, k2, h.trans k3, k4⟩

/-- In a round: whose. -/
def RoRep (G : Gh) (ro rob : Option Nat) : Prop := (ro = none ∧ rob = none) ∨ ∃ l b k n, ro = some l ∧ rob = some b ∧ G.β l = some (b, k, n)
theorem RoRep.mono {ro rob : Option Nat} {G' : Gh} {st' : St} {w' : World} (L : Le G st w G' st' w') (h : RoRep G ro rob) : RoRep G' ro rob := by
  rcases h with h | ⟨l, b, k, n, h1, h2, h3⟩
  · exact .inl h
  · exact .inr ⟨l, b, k, n, h1, h2, L.β _ _ h3⟩
theorem RoRep.none {ro rob : Option Nat} (h : RoRep G ro rob) : ro = .none → rob = .none := by
  rintro rfl
  rcases h with ⟨_, h⟩ | ⟨l, b, k, n, h1, _⟩
  · exact h
  · cases h1

theorem roundsIn_mono {F : Fence} {c : Code} {Q Q' : Exit → Act → World → Prop} (h : ∀ e a w, Q e a w → Q' e a w) : ∀ n a w, Code.roundsIn F 0 P c Q n a w → Code.roundsIn F 0 P c Q' n a w
  | 0, _, _, k => k
  | n + 1, a, w, k => by
    rw [roundsIn_succ] at k ⊢
    refine Go.wpIn_mono k fun e a w q => ?_
    cases e with
    | normal => exact roundsIn_mono h n a w q
    | exit i => exact h _ _ _ q
    | goto l => exact h _ _ _ q
    | ret => exact h _ _ _ q
    | panic c => exact h _ _ _ q
    | outgrown => exact h _ _ _ q

theorem loop_sound {ro rob : Option Nat} {F : Fence} {c : Code} {body : Fr → (AExit → Fr → Bool) → Bool}
    (hb : ∀ {G : Gh} {w : World} {fr : Fr} {a : Act} {k : AExit → Fr → Bool}, RoRep G ro rob → Inv W0 G fr.st w → FrRep G w fr a → body fr k = true → c.wpIn F 0 P (Post W0 G fr.st w k) a w) :
    ∀ (n : Nat) {G : Gh} {w : World} {fr : Fr} {a : Act} {k : AExit → Fr → Bool}, RoRep G ro rob → Inv W0 G fr.st w → FrRep G w fr a → loopK body n fr k = true → Code.roundsIn F 0 P c (Post W0 G fr.st w k) n a w
  | 0, G, w, fr, a, k, _, _, _, h => by simp only [loopK] at h; cases h
  | n + 1, G, w, fr, a, k, R, I, hf, h => by
    simp only [loopK] at h
    rw [roundsIn_succ]
    refine Go.wpIn_mono (hb R I hf h) fun e a1 w1 hp => ?_
    obtain ⟨x, fr1, G1, p1, pk, p2, p3⟩ := hp
    cases x with
    | normal =>
      simp only [AExit.is] at p1
      subst p1
      exact roundsIn_mono (fun e a w => Post.trans p2) n _ _ (loop_sound hb n (R.mono p2.le) p2.inv p3 pk)
    | exit i =>
      have p1' := p1
      simp only [AExit.is] at p1
      subst p1
      exact ⟨_, fr1, G1, p1', pk, p2, p3⟩
    | ret =>
      have p1' := p1
      simp only [AExit.is] at p1
      subst p1
      exact ⟨_, fr1, G1, p1', pk, p2, p3⟩

/-- A loop's record is laid. -/
theorem enter_sound (I : Inv W0 G st w) {fr : Fr} {a : Act} (e : fr.st = st) (hf : FrRep G w fr a) {ro rob : Option Nat} (R : RoRep G ro rob) {ps : Array Tmp} {asg body : Code} {l : Nat} {mark : List ADefer} {st1 : St}
    (h : enterL f ro ps asg body fr = some (l, mark, st1)) (fn : FuncId) :
    ∃ b dm w1 G1, (Instr.enterLoop fn a.tmps ps asg body rob).run P w = .ok (b, dm) w1 ∧ Goes W0 G st w G1 st1 w1 ∧ RepDs G1 st1 w1 mark dm ∧ ∃ k n, G1.β l = some (b, k, n) := by
  subst e
  unfold enterL at h
  rcases R with ⟨rfl, rfl⟩ | ⟨l0, b0, k0, n0, rfl, rfl, hb0⟩
  · simp only at h
    injection h with h; injection h with e1 e2; injection e2 with e2 e3; subst e1; subst e2; subst e3
    have hO1 : OObj G fr.st w .dfd (.deferred (some [])) := rfl
    obtain ⟨a1, a2, a3⟩ := newObj_does I hO1
    have g1 : Goes W0 G fr.st w _ (fr.st.push .dfd) (w.alloc (.deferred (some []))) := ⟨a1, a2, a3⟩
    have hd : (G.born fr.st.next (w.heap.size, 0, 0)).β fr.st.next = some (w.heap.size, 0, 0) := by simp [Gh.born]
    have hO2 : OObj (G.born fr.st.next (w.heap.size, 0, 0)) (fr.st.push .dfd) (w.alloc (.deferred (some []))) (.loop ⟨.ready, none, f, fr.ts, ps, asg, body, fr.st.next⟩) (.loop ⟨.ready, none, fn, a.tmps, ps, asg, body, w.heap.size⟩) :=
      ⟨a.tmps, w.heap.size, 0, 0, fn, rfl, RepL.mono a1 _ _ hf.ts, hd⟩
    obtain ⟨b1, b2, b3⟩ := newObj_does a3 hO2
    have g2 : Goes W0 _ _ _ _ ((fr.st.push .dfd).push _) _ := ⟨b1, b2, b3⟩
    have e1 : (w.alloc (.deferred (some []))).heap.size = w.heap.size + 1 := World.size_alloc ..
    refine ⟨w.heap.size + 1, _, _, _, run_enterLoop_outer fn a.tmps ps asg body, g1.trans g2, ?_, 0, 0, ?_⟩
    · exact ⟨_, [], rfl, ⟨w.heap.size, 0, 0, b1.β _ _ hd, rfl⟩, rfl⟩
    · simp [Gh.born, St.push, e1]
  · simp only at h
    split at h
    · rename_i r hr
      injection h with h; injection h with e1 e2; injection e2 with e2 e3; subst e1; subst e2; subst e3
      obtain ⟨o, ho, hO⟩ := I.bobj l0 b0 k0 n0 _ hb0 hr rfl
      obtain ⟨tmps, d, k, n, g, rfl, _, hd⟩ := hO
      have hO2 : OObj G fr.st w (.loop ⟨.ready, none, f, fr.ts, ps, asg, body, r.defers⟩) (.loop ⟨.ready, none, fn, a.tmps, ps, asg, body, d⟩) :=
        ⟨a.tmps, d, k, n, fn, rfl, hf.ts, hd⟩
      obtain ⟨b1, b2, b3⟩ := newObj_does I hO2
      refine ⟨w.heap.size, [], _, _, ?_, ⟨b1, b2, b3⟩, rfl, 0, 0, ?_⟩
      · unfold Instr.enterLoop
        simp only [Sem.run_bind, run_newObj_alloc, Result.andThen, Sem.run_pure, run_getLoop ho]
      · simp [Gh.born]
    · cases h

theorem hasBody_enter {g : FuncId} {vs : Array Value} (h : hasBody P g = true) {u : Value} {w' : World} (hr : (callFunc g vs).run P w = .ok (.value u) w') : False := by
  unfold hasBody at h
  split at h
  · rename_i fn hfn
    unfold callFunc at hr
    simp only [Sem.run_bind, run_program, Result.andThen_ok, hfn] at hr
    have hb : fn.body.isNone = false := by
      cases hb : fn.body with
      | none => rw [hb] at h; cases h
      | some _ => rfl
    simp only [hb] at hr
    split at hr
    · simp at hr
    · simp at hr
  · cases h

theorem loopAt_some {st : St} {l : Nat} {r : ALoop} (h : loopAt st l = some r) : st.objs.get l = some (.loop r) := by
  unfold loopAt at h
  split at h
  · rename_i hr
    injection h with h
    subst h
    exact hr
  · cases h

theorem exec_sound (hm : C.P.follows .mixedOrders = true) (hC : FnOk C.P W0 ck) (hY : YieldOk C.P W0 ck) {rounds : Nat} {ro rob : Option Nat} : ∀ (c : Code) {G : Gh} {w : World} {fr : Fr} {a : Act} {k : AExit → Fr → Bool}, RoRep G ro rob → Inv W0 G fr.st w → FrRep G w fr a →
    execK C ck f rounds ro c fr k = true → c.wpIn (FR rob) 0 C.P (Post W0 G fr.st w k) a w := by
  intro c
  induction c with
  | skip =>
    intro G w fr a k R I hf h
    simp only [execK] at h
    exact wpIn_skip ⟨.normal, fr, G, rfl, h, Goes.refl I, hf⟩
  | region id ops draw =>
    intro G w fr a k R I hf h
    simp only [execK] at h
    cases draw with
    | false => exact wpIn_region_list (seq_sound hC hY R.none _ I hf h fun fr' G' a' w' hk hg hf' => ⟨.normal, fr', G', rfl, hk, hg, hf'⟩)
    | true =>
      simp only at h
      split at h
      · rename_i l hl
        exact draw_sound hm hC hY R.none I hf hl h fun fr' G' a' w' hk hg hf' => ⟨.normal, fr', G', rfl, hk, hg, hf'⟩
      · cases h
  | seq p q ihp ihq =>
    intro G w fr a k R I hf h
    simp only [execK] at h
    refine wpIn_seq (Go.wpIn_mono (ihp R I hf h) fun e a1 w1 hp => ?_)
    obtain ⟨x, fr1, G1, p1, pk, p2, p3⟩ := hp
    cases x with
    | normal =>
      simp only [AExit.is] at p1
      subst p1
      exact Go.wpIn_mono (ihq (R.mono p2.le) p2.inv p3 pk) fun e a w => Post.trans p2
    | exit i =>
      have p1' := p1
      simp only [AExit.is] at p1
      subst p1
      exact ⟨_, fr1, G1, p1', pk, p2, p3⟩
    | ret =>
      have p1' := p1
      simp only [AExit.is] at p1
      subst p1
      exact ⟨_, fr1, G1, p1', pk, p2, p3⟩
  | cond o p q ihp ihq =>
    intro G w fr a k R I hf h
    simp only [execK] at h
    split at h
    · rename_i hv
      have hr := Rep.opnd hf.ts hv
      simp only [Rep] at hr
      exact wpIn_cond_true hr (ihp R I hf h)
    · rename_i hv
      have hr := Rep.opnd hf.ts hv
      simp only [Rep] at hr
      exact wpIn_cond_false hr (ihq R I hf h)
    · cases h
  | block id b ih =>
    intro G w fr a k R I hf h
    simp only [execK] at h
    refine wpIn_block (Go.wpIn_mono (ih R I hf h) fun e a1 w1 hp => ?_)
    obtain ⟨x, fr1, G1, p1, pk, p2, p3⟩ := hp
    cases x with
    | normal =>
      have p1' := p1
      simp only [AExit.is] at p1
      subst p1
      exact ⟨_, fr1, G1, p1', pk, p2, p3⟩
    | exit i =>
      simp only [AExit.is] at p1
      subst p1
      simp only [cond_beq] at pk
      simp only [Exit.inBlock]
      split at pk
      · rw [if_pos (by assumption)]
        exact ⟨.normal, fr1, G1, rfl, pk, p2, p3⟩
      · rw [if_neg (by assumption)]
        exact ⟨.exit i, fr1, G1, rfl, pk, p2, p3⟩
    | ret =>
      have p1' := p1
      simp only [AExit.is] at p1
      subst p1
      exact ⟨_, fr1, G1, p1', pk, p2, p3⟩
  | loop b ih =>
    intro G w fr a k R I hf h
    simp only [execK] at h
    exact wpIn_loop_rounds rounds (loop_sound (fun R I hf h => ih R I hf h) rounds R I hf h)
  | exit id =>
    intro G w fr a k R I hf h
    simp only [execK] at h
    exact wpIn_exit ⟨.exit id, fr, G, rfl, h, Goes.refl I, hf⟩
  | label l =>
    intro G w fr a k R I hf h
    simp only [execK] at h
    exact wpIn_label ⟨.normal, fr, G, rfl, h, Goes.refl I, hf⟩
  | ret =>
    intro G w fr a k R I hf h
    simp only [execK] at h
    exact wpIn_ret ⟨.ret, fr, G, rfl, h, Goes.refl I, hf⟩
  | scope b ih =>
    intro G w fr a k R I hf h
    simp only [execK] at h
    refine wpIn_scope_straight (Go.wpIn_mono (ih R I hf h) fun e a1 w1 hp => ?_)
    have hp' := hp
    obtain ⟨x, fr1, G1, p1, _⟩ := hp
    cases x <;> simp only [AExit.is] at p1 <;> subst p1 <;> exact hp'
  | goto l => intro G w fr a k R I hf h; simp only [execK] at h; cases h
  | rangeFunc g ps asg body _ _ =>
    intro G w fr a k R I hf h
    simp only [execK] at h
    split at h
    rotate_left
    · cases h
    rename_i g' first cap l mark st1 hg he
    obtain ⟨hbody, h⟩ : hasBody C.P g' = true ∧ _ := by
      cases hb : hasBody C.P g' with
      | false => rw [hb] at h; cases h
      | true => rw [hb] at h; exact ⟨rfl, h⟩
    refine wpIn_rangeFunc fun fn _ => ?_
    obtain ⟨b, dm, w1, G1, e1, e2, e3, kb, nb, e4⟩ := enter_sound (P := C.P) I rfl hf R he fn
    have hfr := Rep.opnd hf.ts hg
    simp only [Rep] at hfr
    obtain ⟨fs, cs, e, r1, r2⟩ := hfr
    have hargs : RepL G1 st1 w1 (first ++ [.yield l] ++ cap) (fs ++ #[Value.func (.yield b) #[] #[]] ++ cs).toList := by
      simp only [Array.toList_append]
      exact RepL.append (RepL.append (RepL.mono e2.le _ _ r1) (RepL.cons (by simp only [Rep]; exact ⟨b, kb, nb, e4, rfl⟩) RepL.nil)) (RepL.mono e2.le _ _ r2)
    have hres : (resolve a.eval (rangeCall g b) 0).run C.P w1 = .ok { target := .fn (.func g') cs, args := fs ++ #[Value.func (.yield b) #[] #[]] } w1 := by
      have e0 : (rangeCall g b).args.map a.eval = #[Value.func (.yield b) #[] #[]] := by simp [rangeCall, Act.eval]
      show (Deferred.ofValue (a.eval g) ((rangeCall g b).args.map a.eval)).run C.P w1 = _
      rw [e0, e]
      rfl
    rcases hC _ _ _ _ h G1 w1 _ e2.inv hargs with ⟨u, w', v, st', G', c1, _⟩ | ⟨c1, c2, _⟩
    · exact (hasBody_enter hbody c1).elim
    refine ⟨b, dm, w1, _, w1, g', _, w1, e1, hres, fun _ _ => trivial, by simpa [invoke] using c1, fun h => (by cases h), ?_⟩
    refine CallsIn.mono (F := FR rob) (n := 0) c2 fun e w3 hp => ?_
    obtain ⟨u, v, st2, G2, rfl, hk, q1, q2⟩ := hp
    simp only [Bool.or_self] at hk
    have hl2 := q1.le.β _ _ e4
    split at hk
    rotate_left
    · cases hk
    rename_i x st3 hlv
    simp only [leaveL, Option.bind_eq_some_iff] at hlv
    obtain ⟨r, hr, hlv⟩ := hlv
    have hr := loopAt_some hr
    obtain ⟨o, ho, hO⟩ := q1.inv.bobj l b kb nb _ hl2 hr rfl
    obtain ⟨tmps, d, k0, n0, g0, rfl, o1, o2⟩ := hO
    split at hlv
    · cases hlv
    · rename_i x' hx hnb
      injection hlv with hlv; injection hlv with e5 e6; subst e5; subst e6
      have hO2 : OObj G2 st2 w3 (.loop { r with state := .exhausted }) (.loop ⟨.exhausted, r.pending, g0, tmps, r.params, r.assign, r.body, d⟩) := ⟨tmps, d, k0, n0, g0, rfl, o1, o2⟩
      obtain ⟨z1, z2, z3⟩ := obj_does (o0 := .loop ⟨r.state, r.pending, g0, tmps, r.params, r.assign, r.body, d⟩) q1.inv hl2 hr rfl hO2
      have gz : Goes W0 G fr.st w G2 (st2.put l (.loop { r with state := .exhausted })) _ := (e2.trans q1).trans ⟨z1, z2, z3⟩
      refine ⟨r.pending, _, run_endLoop ho hnb, ?_⟩
      have hfr' : FrRep G2 _ ⟨fr.ts, mark ++ fr.ds, st2.put l (.loop { r with state := .exhausted })⟩ { a with defers := dm ++ a.defers } :=
        ⟨RepL.mono gz.le _ _ hf.ts, RepDs.append (RepDs.mono (q1.trans ⟨z1, z2, z3⟩).le e3) (RepDs.mono gz.le hf.ds)⟩
      unfold unjump at hx
      split at hx
      · injection hx with hx
        subst hx
        rename_i hp
        rw [hp]
        rw [hp] at gz hfr' hk
        exact ⟨.normal, _, G2, rfl, hk, gz, hfr'⟩
      · injection hx with hx
        subst hx
        rename_i i hp
        rw [hp]
        rw [hp] at gz hfr' hk
        exact wpIn_exit ⟨.exit i, _, G2, rfl, hk, gz, hfr'⟩
      · injection hx with hx
        subst hx
        rename_i hp
        rw [hp]
        rw [hp] at gz hfr' hk
        exact wpIn_ret ⟨.ret, _, G2, rfl, hk, gz, hfr'⟩
      · cases hx
    · cases hlv
  | refuse s => intro G w fr a k R I hf h; simp only [execK] at h; cases h
end
end Go.Ev
