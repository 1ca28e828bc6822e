/- Maps, walks over them, copies, and all else that turns the store: as in the model. -/
import Derived.Test.YtgmhnpfpmcccnaaGreatDoorEvK
import Derived.MapKept
set_option linter.all false
namespace Go.Ev
open Go.RowKit (Below)

section
variable {P : Program} {W0 : World} {G : Gh} {st : St} {w : World}

theorem getObj_run {r : Nat} {o : Obj} (h : w.heap[r]? = some o) (hl : Obj.light o) : (getObj r).run P w = .ok o w := by
  cases o <;> first | (cases hl; done) | simp [getObj, Sem.run, h]
theorem setObj_run {r : Nat} {o : Obj} (h : w.heap[r]? = some o) (hl : Obj.light o) (o' : Obj) : (setObj r o').run P w = .ok () (w.putObj r o') := by
  cases o <;> first | (cases hl; done) | simp [setObj, Sem.run, h, World.putObj]

/-! ### Entries -/
theorem RepEs.get : ∀ {es : List (AV × AV × Nat)} {l : List MapEntry} {i : Nat} {e : AV × AV × Nat}, RepEs G st w es l → es[i]? = some e → ∃ m, l[i]? = some m ∧ Rep G st w e.1 m.key ∧ Rep G st w e.2.1 m.val ∧ m.born = e.2.2
  | [], l, i, e, _, hi => by simp at hi
  | (k, v, b) :: es, l, i, e, h, hi => by
    obtain ⟨k', v', r, rfl, h1, h2, h3⟩ := h
    cases i with
    | zero => simp at hi; subst hi; exact ⟨⟨k', v', b⟩, by simp, h1, h2, rfl⟩
    | succ i => simp at hi; obtain ⟨m, m1, m2⟩ := RepEs.get h3 hi; exact ⟨m, by simpa using m1, m2⟩
theorem RepEs.length : ∀ {es : List (AV × AV × Nat)} {l : List MapEntry}, RepEs G st w es l → l.length = es.length
  | [], l, h => by rw [h]; rfl
  | (k, v, b) :: es, l, h => by
    obtain ⟨k', v', r, rfl, _, _, h3⟩ := h
    simp [RepEs.length h3]
theorem RepEs.append : ∀ {es fs : List (AV × AV × Nat)} {l m : List MapEntry}, RepEs G st w es l → RepEs G st w fs m → RepEs G st w (es ++ fs) (l ++ m)
  | [], _, l, _, h, k => by rw [h]; exact k
  | (k, v, b) :: es, _, l, _, h, hk => by
    obtain ⟨k', v', r, rfl, h1, h2, h3⟩ := h
    exact ⟨k', v', _, rfl, h1, h2, RepEs.append h3 hk⟩
theorem RepEs.erase : ∀ {es : List (AV × AV × Nat)} {l : List MapEntry} (i : Nat), RepEs G st w es l → RepEs G st w (es.eraseIdx i) (l.eraseIdx i)
  | [], l, i, h => by rw [h]; simp [RepEs]
  | (k, v, b) :: es, l, 0, h => by
    obtain ⟨k', v', r, rfl, h1, h2, h3⟩ := h
    simpa using h3
  | (k, v, b) :: es, l, i + 1, h => by
    obtain ⟨k', v', r, rfl, h1, h2, h3⟩ := h
    exact ⟨k', v', _, rfl, h1, h2, RepEs.erase i h3⟩
theorem RepEs.setAt {k v : AV} {k' v' : Value} (hk : Rep G st w k k') (hv : Rep G st w v v') : ∀ {es : List (AV × AV × Nat)} {l : List MapEntry} (i : Nat), RepEs G st w es l → RepEs G st w (setAt es i k v) (l.modify i fun e => { e with key := k', val := v' })
  | [], l, i, h => by rw [h]; simp [Ev.setAt, RepEs]
  | (a, c, b) :: es, l, 0, h => by
    obtain ⟨a', c', r, rfl, h1, h2, h3⟩ := h
    exact ⟨k', v', _, rfl, hk, hv, h3⟩
  | (a, c, b) :: es, l, i + 1, h => by
    obtain ⟨a', c', r, rfl, h1, h2, h3⟩ := h
    exact ⟨a', c', _, rfl, h1, h2, RepEs.setAt hk hv i h3⟩
theorem RepEs.borns : ∀ {es : List (AV × AV × Nat)} {l : List MapEntry}, RepEs G st w es l → l.map (·.born) = es.map (·.2.2)
  | [], l, h => by rw [h]; rfl
  | (k, v, b) :: es, l, h => by
    obtain ⟨k', v', r, rfl, _, _, h3⟩ := h
    simp [RepEs.borns h3]
theorem RepEs.filter {p : Nat → Bool} : ∀ {es : List (AV × AV × Nat)} {l : List MapEntry}, RepEs G st w es l → RepEs G st w (es.filter fun e => p e.2.2) (l.filter fun e => p e.born)
  | [], l, h => by rw [h]; simp [RepEs]
  | (k, v, b) :: es, l, h => by
    obtain ⟨k', v', r, rfl, h1, h2, h3⟩ := h
    have ih := RepEs.filter (p := p) h3
    simp only [List.filter_cons]
    split
    · exact ⟨k', v', _, rfl, h1, h2, ih⟩
    · exact ih

/-! ### Keys -/
theorem equal_of_sameNow {kt : TypeId} {d : TypeDesc} {a b : Value} {r : Bool} (hd : P.underlying kt = some d) (h : Instr.sameNow d a b = some r) : (Op.equal kt a b).run P w = .ok r w := by
  unfold Op.equal Op.maxDepth
  cases d <;> cases a <;> cases b <;> simp only [Instr.sameNow] at h <;> first | (cases h; done) | skip
  · injection h with h; subst h; exact run_equalIn_bool w 9999 kt _ _ hd
  · split at h
    · rename_i hk
      injection h with h; subst h; subst hk
      exact run_equalIn_int w 9999 kt _ _ _ _ hd
    · cases h
  · injection h with h; subst h
    rw [run_equalIn_string w 9999 kt _ _ hd, beq_toListBytes]
theorem findNow_asking {kt : TypeId} {d : TypeDesc} {k : Value} (hd : P.underlying kt = some d) : ∀ {l : List MapEntry} {i : Nat} {r : Option (Nat × Value)}, Instr.findNow d k l i = some r → (Instr.findAsking kt k l i).run P w = .ok r w
  | [], i, r, h => by simp only [Instr.findNow] at h; injection h with h; subst h; rfl
  | e :: l, i, r, h => by
    simp only [Instr.findNow] at h
    simp only [Instr.findAsking, Sem.run_bind]
    split at h
    · rename_i hs
      injection h with h; subst h
      rw [equal_of_sameNow hd hs, Result.andThen_ok]
      simp
    · rename_i hs
      rw [equal_of_sameNow hd hs, Result.andThen_ok]
      simpa using findNow_asking hd h
    · cases h
theorem findKey_of_asking {kt : TypeId} {d : TypeDesc} {k : Value} {l : List MapEntry} {r : Option (Nat × Value)} (hd : P.underlying kt = some d) (h : (Instr.findAsking kt k l 0).run P w = .ok r w) : (Instr.findKey kt k l).run P w = .ok r w := by
  unfold Instr.findKey
  simp only [Sem.run_bind, run_underlying hd, Result.andThen_ok]
  split
  · rename_i r' hr
    have := findNow_asking (P := P) (w := w) hd hr
    rw [h] at this
    injection this with this
    subst this
    rfl
  · exact h
theorem mfind_asking {kt : TypeId} {k : AV} {k' : Value} (hk : Rep G st w k k') : ∀ {es : List (AV × AV × Nat)} {l : List MapEntry} {i : Nat} {r : Option (Nat × AV)}, RepEs G st w es l → mfind P kt k es i = some r →
    ∃ r', (Instr.findAsking kt k' l i).run P w = .ok r' w ∧ (r = none → r' = none) ∧ ∀ j v, r = some (j, v) → ∃ v' n, j = i + n ∧ r' = some (j, v') ∧ Rep G st w v v' ∧ n < es.length
  | [], l, i, r, h, hr => by
    rw [h]
    simp only [mfind] at hr
    injection hr with hr
    subst hr
    exact ⟨none, rfl, fun _ => rfl, fun j v e => by cases e⟩
  | (a, c, b) :: es, l, i, r, h, hr => by
    obtain ⟨a', c', m, rfl, h1, h2, h3⟩ := h
    simp only [mfind, Option.bind_eq_some_iff] at hr
    obtain ⟨t, ht, hr⟩ := hr
    have he : (Op.equal kt k' a').run P w = .ok t w := run_eqV (P := P) 9980 20 hk h1 ht
    simp only [Instr.findAsking, Sem.run_bind, he, Result.andThen_ok]
    cases t with
    | true =>
      injection hr with hr
      subst hr
      exact ⟨some (i, c'), by simp, (fun e => by cases e), (fun j v e => by injection e with e; injection e with e1 e2; subst e1; subst e2; exact ⟨c', 0, rfl, rfl, h2, by simp⟩)⟩
    | false =>
      obtain ⟨r', r1, r2, r3⟩ := mfind_asking hk h3 hr
      refine ⟨r', by simpa using r1, r2, fun j v e => ?_⟩
      obtain ⟨v', n, e1, e2, e3, e4⟩ := r3 j v e
      exact ⟨v', n + 1, by omega, e2, e3, by simp; omega⟩
theorem mfind_sound {kt : TypeId} {d : TypeDesc} {k : AV} {k' : Value} {es : List (AV × AV × Nat)} {l : List MapEntry} {r : Option (Nat × AV)} (hd : P.underlying kt = some d) (hk : Rep G st w k k') (h : RepEs G st w es l) (hr : mfind P kt k es 0 = some r) :
    ∃ r', (Instr.findKey kt k' l).run P w = .ok r' w ∧ (r = none → r' = none) ∧ ∀ j v, r = some (j, v) → ∃ v', r' = some (j, v') ∧ Rep G st w v v' ∧ j < es.length := by
  obtain ⟨r', r1, r2, r3⟩ := mfind_asking hk h hr
  refine ⟨r', findKey_of_asking hd r1, r2, fun j v e => ?_⟩
  obtain ⟨v', n, e1, e2, e3, e4⟩ := r3 j v e
  exact ⟨v', e2, e3, by omega⟩

theorem run_checkFields {e : Bool} {D : Nat} {us : Array Value} {xs : List AV} {okf : TypeId → AV → Bool} (hok : ∀ t x u, okf t x = true → Rep G st w x u → (Instr.checkKey e D t u).run P w = .ok () w) (hx : RepL G st w xs us.toList) : ∀ {fs : List Field},
    fs.all (fun f => f.name == "_" || (match partOf P f.type xs f.offset with | some y => okf f.type y | none => false)) = true →
    (forIn (m := Sem) fs PUnit.unit fun f _ => do
      if f.name ≠ "_" then
        Instr.checkKey e D f.type (← part f.type us f.offset)
        pure (ForInStep.yield PUnit.unit)
      else pure (ForInStep.yield PUnit.unit)).run P w = .ok PUnit.unit w
  | [], _ => rfl
  | f :: fs, h => by
    simp only [List.all_cons, Bool.and_eq_true] at h
    simp only [List.forIn_cons, Sem.run_bind, Sem.run_ite]
    by_cases hn : f.name = "_"
    · rw [if_neg (by simpa using hn)]
      simp only [Sem.run_pure, Result.andThen_ok]
      exact run_checkFields hok hx h.2
    · rw [if_pos hn]
      have h1 := h.1
      rw [Bool.or_eq_true] at h1
      rcases h1 with h1 | h1
      · exact absurd (by simpa using h1) hn
      · split at h1
        · rename_i y hy
          obtain ⟨u, u1, u2⟩ := run_partOf hx hy
          simp only [Sem.run_bind, u1, Result.andThen_ok, hok _ _ _ h1 u2, Sem.run_pure]
          exact run_checkFields hok hx h.2
        · cases h1
theorem run_keyOk (e : Bool) (D : Nat) : ∀ (n : Nat) {t : TypeId} {x : AV} {u : Value}, keyOk P n t x = true → Rep G st w x u → (Instr.checkKey e (D + n) t u).run P w = .ok () w
  | 0, t, x, u, h, _ => by simp [keyOk] at h
  | n + 1, t, x, u, h, hx => by
    simp only [keyOk] at h
    rw [show D + (n + 1) = (D + n) + 1 by omega]
    split at h
    · rename_i k hd
      unfold Instr.checkKey
      simp only [Sem.run_bind, run_underlying hd, Result.andThen_ok]
      cases u <;> rfl
    · rename_i hd
      unfold Instr.checkKey
      simp only [Sem.run_bind, run_underlying hd, Result.andThen_ok]
      cases u <;> rfl
    · rename_i hd
      unfold Instr.checkKey
      simp only [Sem.run_bind, run_underlying hd, Result.andThen_ok]
      cases u <;> rfl
    · rename_i fs xs hd
      simp only [Rep] at hx
      obtain ⟨us, rfl, hx⟩ := hx
      unfold Instr.checkKey
      simp only [Sem.run_bind, run_underlying hd, Result.andThen_ok]
      rw [← Array.forIn_toList]
      have := run_checkFields (P := P) (e := e) (D := D + n) (okf := keyOk P n) (fun t x u h hx => run_keyOk e D n h hx) hx h
      simp at this ⊢
      rw [this]
      rfl
    · cases h

theorem mapOp_spec {t : TypeId} {k : AV} {kt et : TypeId} (h : mapOp P t k = some (kt, et)) : P.underlying t = some (.map kt et) ∧ keyOk P 5 kt k = true ∧ ∃ d, P.underlying kt = some d := by
  simp only [mapOp, Option.bind_eq_some_iff] at h
  obtain ⟨d, hd, h⟩ := h
  split at h
  · obtain ⟨hq, h⟩ := cond_some h
    injection h with h; injection h with h1 h2; subst h1; subst h2
    refine ⟨hd, hq, ?_⟩
    simp only [keyOk] at hq
    split at hq <;> first | (cases hq; done) | (rename_i hd' <;> exact ⟨_, hd'⟩)
  · cases h
theorem run_check {t : TypeId} {k : AV} {kt et : TypeId} {k' : Value} (h : mapOp P t k = some (kt, et)) (hk : Rep G st w k k') (e : Bool) : (Instr.checkKey e 10000 kt k').run P w = .ok () w :=
  run_keyOk e 9995 5 (mapOp_spec h).2.1 hk

theorem lookup_sound (I : Inv W0 G st w) {t : TypeId} {m k v : AV} {m' k' : Value} {ok : Bool} (hm : Rep G st w m m') (hk : Rep G st w k k') (h : lookupOp P st t m k ok = some v) : ∃ r, (Instr.lookup t m' k' ok).run P w = .ok r w ∧ Rep G st w v r := by
  simp only [lookupOp, Option.bind_eq_some_iff] at h
  obtain ⟨⟨kt, et⟩, hmo, es, hes, r, hr, h⟩ := h
  obtain ⟨ht, _, d, hd⟩ := mapOp_spec hmo
  have key : ∃ l : Array MapEntry, RepEs G st w es l.toList ∧ ((m' = .map none ∧ l = #[]) ∨ ∃ b c, m' = .map (some b) ∧ w.heap[b]? = some (.map l c)) := by
    split at hes
    · injection hes with hes; subst hes
      simp only [Rep] at hm; subst hm
      exact ⟨#[], rfl, .inl ⟨rfl, rfl⟩⟩
    · rename_i id
      split at hes
      · rename_i es' c hget
        injection hes with hes; subst hes
        simp only [Rep] at hm
        obtain ⟨b, k0, n0, hb, rfl⟩ := hm
        obtain ⟨o, ho, es'', rfl, he⟩ := I.bobj id b k0 n0 _ hb hget rfl
        exact ⟨es'', he, .inr ⟨b, c, rfl, ho⟩⟩
      · cases hes
    · cases hes
  obtain ⟨l, hl, hrun⟩ := key
  obtain ⟨r', r1, r2, r3⟩ := mfind_sound hd hk hl hr
  split at h
  · rename_i j x
    injection h with h; subst h
    obtain ⟨v', e1, e2, _⟩ := r3 _ _ rfl
    subst e1
    refine ⟨if ok then .tuple #[v', .bool true] else v', ?_, ?_⟩
    · unfold Instr.lookup
      rcases hrun with ⟨rfl, rfl⟩ | ⟨b, c, rfl, hb⟩
      · simp only [Sem.run_bind, run_underlying ht, Result.andThen_ok, Sem.run_pure, run_check hmo hk, r1]
      · simp only [Sem.run_bind, run_underlying ht, Result.andThen_ok, Sem.run_pure, getObj_run hb trivial, run_check hmo hk, r1]
    · cases ok with
      | true => simp only [cond_true, if_true, Rep]; exact ⟨_, rfl, RepL.cons e2 (RepL.cons (by simp only [Rep]) RepL.nil)⟩
      | false => simpa using e2
  · have := r2 rfl
    subst this
    simp only [Option.bind_eq_some_iff] at h
    obtain ⟨z, hz, h⟩ := h
    injection h with h; subst h
    obtain ⟨zv, z1, z2, _⟩ := run_zero (G := G) (st := st) hz w
    refine ⟨if ok then .tuple #[zv, .bool false] else zv, ?_, ?_⟩
    · unfold Instr.lookup
      rcases hrun with ⟨rfl, rfl⟩ | ⟨b, c, rfl, hb⟩
      · simp only [Sem.run_bind, run_underlying ht, Result.andThen_ok, Sem.run_pure, run_check hmo hk, r1, z1]
      · simp only [Sem.run_bind, run_underlying ht, Result.andThen_ok, Sem.run_pure, getObj_run hb trivial, run_check hmo hk, r1, z1]
    · cases ok with
      | true => simp only [cond_true, if_true, Rep]; exact ⟨_, rfl, RepL.cons z2 (RepL.cons (by simp only [Rep]) RepL.nil)⟩
      | false => simpa using z2

/-! ### Objects that turn -/
theorem obj_does (I : Inv W0 G st w) {id b k n : Nat} {a0 a : AObj} {o0 o : Obj} (hb : G.β id = some (b, k, n)) (h0 : st.objs.get id = some a0) (hv : a0.heavy = true) (h : OObj G st w a o) :
    Le G st w G (st.put id a) (w.putObj b o) ∧ Unb G st G (st.put id a) ∧ Inv W0 G (st.put id a) (w.putObj b o) :=
  ⟨Le.obj I hb a o, Unb.put (by intro hu; rw [hu.1] at hb; cases hb), I.obj hb h0 hv h⟩

theorem scalKey_bits {x y : AV} {u v : Value} {n : Nat} (h : scalKey x y = true) (hx : Rep G st w x u) (hy : Rep G st w y v) : Instr.sameBits n u v = true := by
  unfold scalKey at h
  split at h
  · simp only [Rep] at hx hy; subst hx; subst hy
    cases n <;> simpa [Instr.sameBits] using h
  · simp only [Rep] at hx hy; subst hx; subst hy
    rw [strEq_eq, beq_iff_eq] at h
    subst h
    cases n <;> simp only [Instr.sameBits, beq_toListBytes, beq_self_eq_true]
  · simp only [Rep] at hx hy; subst hx; subst hy
    cases n <;> simpa [Instr.sameBits] using h
  · cases h
theorem allKeys_bits : ∀ {xs ys : List AV} {us vs : List Value}, allKeys xs ys = true → RepL G st w xs us → RepL G st w ys vs → us.length = vs.length ∧ (us.zip vs).all (fun (x, y) => Instr.sameBits 9999 x y) = true
  | [], [], us, vs, h, hx, hy => by rw [hx.nil_inv, hy.nil_inv]; simp
  | [], y :: ys, us, vs, h, _, _ => by simp [allKeys] at h
  | x :: xs, [], us, vs, h, _, _ => by simp [allKeys] at h
  | x :: xs, y :: ys, us, vs, h, hx, hy => by
    obtain ⟨u, us, rfl, hu, hx⟩ := hx.cons_inv
    obtain ⟨v, vs, rfl, hv, hy⟩ := hy.cons_inv
    simp only [allKeys, Bool.and_eq_true] at h
    obtain ⟨e1, e2⟩ := allKeys_bits h.2 hx hy
    exact ⟨by simp [e1], by simp only [List.zip_cons_cons, List.all_cons, scalKey_bits h.1 hu hv, e2, Bool.and_self]⟩
theorem sameKey_bits {x y : AV} {u v : Value} (h : sameKey x y = true) (hx : Rep G st w x u) (hy : Rep G st w y v) : Instr.sameBits 10000 u v = true := by
  unfold sameKey at h
  split at h
  · simp only [Rep] at hx hy
    obtain ⟨us, rfl, hx⟩ := hx
    obtain ⟨vs, rfl, hy⟩ := hy
    obtain ⟨e1, e2⟩ := allKeys_bits h hx hy
    have e1' : us.size = vs.size := by simpa using e1
    simp only [Instr.sameBits, e1', beq_self_eq_true, Bool.true_and]
    exact e2
  · exact scalKey_bits h hx hy

theorem update_sound (I : Inv W0 G st w) {t : TypeId} {m k v : AV} {m' k' v' : Value} {st' : St} (hm : Rep G st w m m') (hk : Rep G st w k k') (hv : Rep G st w v v') (h : updateOp P st t m k v = some st') :
    ∃ w', (Instr.mapUpdate t m' k' v').run P w = .ok () w' ∧ Le G st w G st' w' ∧ Unb G st G st' ∧ Inv W0 G st' w' := by
  simp only [updateOp, Option.bind_eq_some_iff] at h
  obtain ⟨⟨kt, et⟩, hmo, h⟩ := h
  obtain ⟨ht, _, d, hd⟩ := mapOp_spec hmo
  split at h
  · rename_i id
    split at h
    · rename_i es c hget
      simp only [Option.bind_eq_some_iff] at h
      obtain ⟨r, hr, h⟩ := h
      simp only [Rep] at hm
      obtain ⟨b, k0, n0, hb, rfl⟩ := hm
      obtain ⟨o, ho, l, rfl, hl⟩ := I.bobj id b k0 n0 _ hb hget rfl
      obtain ⟨r', r1, r2, r3⟩ := mfind_sound hd hk hl hr
      split at h
      · rename_i i x
        have h0 := cond_some h
        clear h
        obtain ⟨hq, h⟩ := h0
        injection h with h; subst h
        obtain ⟨x', e1, e2, e3⟩ := r3 _ _ rfl
        subst e1
        have hO : OObj G st w (.map (setAt es i k v) c) (.map (l.modify i fun e => { e with key := k', val := v' }) c) := ⟨_, rfl, by
          have := RepEs.setAt (k' := k') (v' := v') hk hv i hl
          simpa using this⟩
        refine ⟨_, ?_, obj_does (o0 := .map l c) I hb hget rfl hO⟩
        have hi : ∃ e, es[i]? = some e := ⟨es[i], by simp [e3]⟩
        obtain ⟨e, he⟩ := hi
        obtain ⟨me, me1, me2, _⟩ := hl.get he
        have hsk : sameKey e.1 k = true := by rw [he] at hq; simpa using hq
        have hbits := sameKey_bits hsk me2 hk
        have hme : l[i]? = some me := by simpa using me1
        unfold Instr.mapUpdate
        simp only [Sem.run_bind, run_underlying ht, Result.andThen_ok, getObj_run ho trivial, run_check hmo hk, r1, Instr.keyThatStays, hme, Option.map_some, Option.getD_some, hbits, if_true, Sem.run_pure, setObj_run ho trivial]
      · injection h with h; subst h
        have := r2 rfl
        subst this
        have hO : OObj G st w (.map (es ++ [(k, v, c)]) (c + 1)) (.map (l.push { key := k', val := v', born := c }) (c + 1)) := ⟨_, rfl, by
          rw [Array.toList_push]
          exact RepEs.append hl ⟨k', v', [], rfl, hk, hv, rfl⟩⟩
        refine ⟨_, ?_, obj_does (o0 := .map l c) I hb hget rfl hO⟩
        unfold Instr.mapUpdate
        simp only [Sem.run_bind, run_underlying ht, Result.andThen_ok, getObj_run ho trivial, run_check hmo hk, r1, setObj_run ho trivial]
    · cases h
  · cases h

theorem delete_sound (I : Inv W0 G st w) {ats : Array TypeId} {ty t : TypeId} {m k : AV} {m' k' : Value} {st' : St} (hat : ats[0]? = some t) (hm : Rep G st w m m') (hk : Rep G st w k k') (h : deleteOp P st t m k = some st') :
    ∃ w', (Builtin.delete_ ats ty #[m', k']).run P w = .ok (.tuple #[]) w' ∧ Le G st w G st' w' ∧ Unb G st G st' ∧ Inv W0 G st' w' := by
  simp only [deleteOp, Option.bind_eq_some_iff] at h
  obtain ⟨⟨kt, et⟩, hmo, h⟩ := h
  obtain ⟨ht, _, d, hd⟩ := mapOp_spec hmo
  unfold Builtin.delete_
  simp only [hat, List.getElem?_toArray, List.getElem?_cons_zero, List.getElem?_cons_succ, Sem.run_bind, run_underlying ht, Result.andThen_ok]
  split at h
  · injection h with h; subst h
    simp only [Rep] at hm; subst hm
    exact ⟨w, by simp [run_check hmo hk], Le.refl _ _ _, Unb.refl _ _, I⟩
  · rename_i id
    split at h
    · rename_i es c hget
      simp only [Option.bind_eq_some_iff] at h
      obtain ⟨r, hr, h⟩ := h
      simp only [Rep] at hm
      obtain ⟨b, k0, n0, hb, rfl⟩ := hm
      obtain ⟨o, ho, l, rfl, hl⟩ := I.bobj id b k0 n0 _ hb hget rfl
      obtain ⟨r', r1, r2, r3⟩ := mfind_sound hd hk hl hr
      split at h
      · rename_i i x
        injection h with h; subst h
        obtain ⟨x', e1, e2, e3⟩ := r3 _ _ rfl
        subst e1
        have hli : i < l.size := by have := hl.length; simp at this; omega
        have hO : OObj G st w (.map (es.eraseIdx i) c) (.map (l.eraseIdxIfInBounds i) c) := ⟨_, rfl, by
          have := RepEs.erase i hl
          simpa [Array.eraseIdxIfInBounds, hli] using this⟩
        refine ⟨_, ?_, obj_does (o0 := .map l c) I hb hget rfl hO⟩
        simp only [Sem.run_bind, getObj_run ho trivial, Result.andThen_ok, run_check hmo hk, r1, setObj_run ho trivial, Sem.run_pure]
      · injection h with h; subst h
        have := r2 rfl
        subst this
        have hO : OObj G st w (.map es c) (.map l c) := ⟨_, rfl, hl⟩
        refine ⟨_, ?_, obj_does (o0 := .map l c) I hb hget rfl hO⟩
        simp only [Sem.run_bind, getObj_run ho trivial, Result.andThen_ok, run_check hmo hk, r1, setObj_run ho trivial, Sem.run_pure]
    · cases h
  · cases h
end
end Go.Ev
