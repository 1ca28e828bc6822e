/- The operations that yield a value alone, one by one. -/
import Derived.Test.YtgmhnpfpmcccnaaGreatDoorEvG
set_option linter.all false
namespace Go.Ev
open Go.RowKit (Below)

section
variable {P : Program} {G : Gh} {st : St} {w : World}

theorem int_flip {op op' : BinOp} (h : flipOp op = some op') (k : IntKind) (c n : Int) : intOp op k c k n = intOp op' k n k c := by
  cases op <;> simp only [flipOp] at h <;> first | (cases h; done) | skip
  all_goals (injection h with h; subst h; simp only [intOp, ne_eq, not_true_eq_false, if_false])
  · rw [Int.add_comm]
  · rw [BitVec.and_comm]
  · rw [BitVec.or_comm]
  · congr 2
    rw [Bool.eq_iff_iff, beq_iff_eq, beq_iff_eq, eq_comm]
  · congr 2
    rw [Bool.eq_iff_iff, bne_iff_ne, bne_iff_ne, ne_comm]
theorem wrap_range (k : IntKind) (n : Int) : k.min ≤ k.wrap n ∧ k.wrap n ≤ k.max := by
  cases k <;> simp [IntKind.wrap, IntKind.min, IntKind.max, IntKind.signed, IntKind.bits] <;> (try split) <;> omega
theorem wrap_mod (k : IntKind) (n : Int) (m : Nat) (hm : 2 ^ k.bits % m = 0) : k.wrap n % (m : Int) = n % m := by
  obtain ⟨q, hq⟩ := Nat.dvd_of_mod_eq_zero hm
  have hd : (m : Int) ∣ ((2 ^ k.bits : Int)) := by
    refine ⟨q, ?_⟩
    exact_mod_cast hq
  have e : (2 ^ k.bits : Int) = m * q := by exact_mod_cast hq
  have h1 := Int.emod_emod_of_dvd n hd
  unfold IntKind.wrap
  simp only
  split
  · rw [← h1]
    generalize n % (2 ^ k.bits : Int) = x
    rw [e, Int.sub_mul_emod_self_left]
  · exact h1
theorem resConv_rep {k : IntKind} {m : Nat} {r lo hi n : Int} (h1 : n % (m : Int) = r) (h2 : lo ≤ n) (h3 : n ≤ hi) : Rep G st w (resConv k m r lo hi) (.int k (k.wrap n)) := by
  have hw := wrap_range k n
  unfold resConv
  split
  · rename_i hc
    simp only [Rep]
    exact ⟨n, by rw [wrap_in k n ⟨by omega, by omega⟩], h1, h2, h3⟩
  · split
    · rename_i hm
      simp only [Rep]
      exact ⟨_, rfl, by rw [wrap_mod k n m hm, h1], hw.1, hw.2⟩
    · simp only [Rep]
      exact ⟨_, rfl, by omega, hw.1, hw.2⟩

theorem run_binOpV {op : BinOp} {t : TypeId} {xo yo : Operand} {x y : AV} {u u' : Value} {v : AV} (hx : Rep G st w x u) (hy : Rep G st w y u') (h : binOpV P op t xo yo x y = some v) :
    ∃ r, (do eqGuard op t xo yo u u'; binOp op t u u' : Sem Value).run P w = .ok r w ∧ Rep G st w v r := by
  unfold binOpV at h
  split at h
  · simp only [Rep] at hx hy
    subst hx; subst hy
    obtain ⟨r, h1, h2⟩ := run_intOp (P := P) (G := G) (st := st) (w := w) (t := t) h
    refine ⟨r, ?_, h2⟩
    have : ∀ k a k' b, (eqGuard op t xo yo (.int k a) (.int k' b)).run P w = .ok () w := fun k a k' b => by unfold eqGuard; split <;> rfl
    simp only [Sem.run_bind, this, Result.andThen_ok, h1]
  · simp only [Rep] at hx hy
    subst hx; subst hy
    obtain ⟨r, h1, h2⟩ := run_strOp (P := P) (G := G) (st := st) (w := w) h
    refine ⟨r, ?_, h2⟩
    have : ∀ a b, (eqGuard op t xo yo (.string a) (.string b)).run P w = .ok () w := fun a b => by unfold eqGuard; split <;> rfl
    have hb : ∀ a b, binOp op t (.string a) (.string b) = Op.stringOp op a b := fun a b => by cases op <;> rfl
    simp only [Sem.run_bind, this, Result.andThen_ok, hb, h1]
  · simp only [Rep] at hx hy
    subst hy
    obtain ⟨n, rfl, n1, n2, n3⟩ := hx
    obtain ⟨v', i1, i2⟩ := res_int (G := G) (st := st) (w := w) h n1 n2 n3
    obtain ⟨r, h1, h2⟩ := run_intOp (P := P) (G := G) (st := st) (w := w) (t := t) i1
    refine ⟨_, ?_, i2 _ h2⟩
    have : ∀ k a k' b, (eqGuard op t xo yo (.int k a) (.int k' b)).run P w = .ok () w := fun k a k' b => by unfold eqGuard; split <;> rfl
    simp only [Sem.run_bind, this, Result.andThen_ok, h1]
  · simp only [Option.bind_eq_some_iff] at h
    obtain ⟨op', ho, h⟩ := h
    obtain ⟨hk, h⟩ := cond_some h
    simp only [Rep] at hx hy
    subst hx
    obtain ⟨n, rfl, n1, n2, n3⟩ := hy
    have hk' := eq_of_beq hk
    subst hk'
    obtain ⟨v', i1, i2⟩ := res_int (G := G) (st := st) (w := w) h n1 n2 n3
    rw [← int_flip ho] at i1
    obtain ⟨r, h1, h2⟩ := run_intOp (P := P) (G := G) (st := st) (w := w) (t := t) i1
    refine ⟨_, ?_, i2 _ h2⟩
    have : ∀ k a k' b, (eqGuard op t xo yo (.int k a) (.int k' b)).run P w = .ok () w := fun k a k' b => by unfold eqGuard; split <;> rfl
    simp only [Sem.run_bind, this, Result.andThen_ok, h1]
  · simp only [Rep] at hx hy
    subst hy
    obtain ⟨s, rfl, s1, s2, s3⟩ := hx
    obtain ⟨r, h1, h2⟩ := run_strOp (P := P) (G := G) (st := st) (w := w) (strx_str h s1 s2 s3).1
    refine ⟨r, ?_, h2⟩
    have : ∀ a b, (eqGuard op t xo yo (.string a) (.string b)).run P w = .ok () w := fun a b => by unfold eqGuard; split <;> rfl
    have hb : ∀ a b, binOp op t (.string a) (.string b) = Op.stringOp op a b := fun a b => by cases op <;> rfl
    simp only [Sem.run_bind, this, Result.andThen_ok, hb, h1]
  · simp only [Rep] at hx hy
    subst hx
    obtain ⟨s, rfl, s1, s2, s3⟩ := hy
    obtain ⟨r, h1, h2⟩ := run_strOp (P := P) (G := G) (st := st) (w := w) (strx_str h s1 s2 s3).2
    refine ⟨r, ?_, h2⟩
    have : ∀ a b, (eqGuard op t xo yo (.string a) (.string b)).run P w = .ok () w := fun a b => by unfold eqGuard; split <;> rfl
    have hb : ∀ a b, binOp op t (.string a) (.string b) = Op.stringOp op a b := fun a b => by cases op <;> rfl
    simp only [Sem.run_bind, this, Result.andThen_ok, hb, h1]
  · rename_i xs ys
    have h0 := cond_none h
    clear h
    obtain ⟨hg, h⟩ := h0
    simp only [Option.bind_eq_some_iff] at h
    obtain ⟨b, hb, h⟩ := h
    have he := run_eqV (P := P) (G := G) (st := st) (w := w) 9980 20 hx hy hb
    simp only [Rep] at hx hy
    obtain ⟨us, rfl, _⟩ := hx
    obtain ⟨vs, rfl, _⟩ := hy
    have hgd : ∀ op, (eqGuard op t xo yo (.agg us) (.agg vs)).run P w = .ok () w := fun op => by
      cases op <;> simp [eqGuard, run_program, hg]
    rw [Sem.run_bind, hgd, Result.andThen_ok]
    split at h
    · injection h with h; subst h
      refine ⟨.bool b, ?_, by simp only [Rep]⟩
      rw [run_eql_struct]
      rw [he]; rfl
    · injection h with h; subst h
      refine ⟨.bool (!b), ?_, by simp only [Rep]⟩
      rw [run_neq_struct]
      rw [he]; rfl
    · cases h
  · rename_i i a j b
    simp only [Option.bind_eq_some_iff] at h
    obtain ⟨d, hd, h⟩ := h
    split at h
    · rename_i e
      simp only [Option.bind_eq_some_iff] at h
      obtain ⟨n, hn, h⟩ := h
      have h0 := cond_some h
      clear h
      obtain ⟨hq, h⟩ := h0
      simp only [Bool.and_eq_true] at hq
      have e1 := Nat.eq_of_beq_eq_true hq.1
      have e2 := Nat.eq_of_beq_eq_true hq.2
      subst e1; subst e2
      simp only [Rep] at hx hy
      obtain ⟨b1, k1, n1, y1, rfl⟩ := hx
      obtain ⟨b2, k2, n2, y2, rfl⟩ := hy
      rw [y1] at y2
      injection y2 with y2; injection y2 with y2 _
      subst y2
      have he : (Op.equalIn 10000 t (.pointer (some ⟨b1, a, none⟩)) (.pointer (some ⟨b1, a, none⟩))).run P w = .ok true w := by
        unfold Op.equalIn
        simp only [Sem.run_bind, run_underlying hd, Result.andThen_ok, run_size hn]
        split
        · simp [sameAddr]
        · simp
      have hgd : ∀ op, (eqGuard op t xo yo (.pointer (some ⟨b1, a, none⟩)) (.pointer (some ⟨b1, a, none⟩))).run P w = .ok () w := fun op => by
        cases op <;> rfl
      rw [Sem.run_bind, hgd, Result.andThen_ok]
      split at h
      · injection h with h; subst h
        refine ⟨.bool true, ?_, by simp only [Rep]⟩
        show (do pure (.bool (← Op.equalIn 10000 t (.pointer (some ⟨b1, a, none⟩)) (.pointer (some ⟨b1, a, none⟩)))) : Sem Value).run P w = _
        simp only [Sem.run_bind, he, Result.andThen_ok, Sem.run_pure]
      · injection h with h; subst h
        refine ⟨.bool false, ?_, by simp only [Rep]⟩
        show (do pure (.bool (!(← Op.equalIn 10000 t (.pointer (some ⟨b1, a, none⟩)) (.pointer (some ⟨b1, a, none⟩))))) : Sem Value).run P w = _
        simp only [Sem.run_bind, he, Result.andThen_ok, Sem.run_pure, Bool.not_true]
      · cases h
    · cases h
  · rename_i s u1 s' u1'
    simp only [Option.bind_eq_some_iff] at h
    obtain ⟨d, hd, h⟩ := h
    split at h
    · rename_i ms
      simp only [Option.bind_eq_some_iff] at h
      obtain ⟨b, hb, h⟩ := h
      simp only [Rep] at hx hy
      obtain ⟨v1, rfl, hv1⟩ := hx
      obtain ⟨v2, rfl, hv2⟩ := hy
      have he : (Op.equalIn 10000 t (.iface s v1) (.iface s' v2)).run P w = .ok b w := by
        unfold Op.equalIn
        simp only [Sem.run_bind, run_underlying hd, Result.andThen_ok]
        cases hss : Nat.beq s s' with
        | false =>
          rw [hss] at hb
          injection hb with hb; subst hb
          have hne : s ≠ s' := by rintro rfl; simp at hss
          simp [hne]
        | true =>
          rw [hss] at hb
          simp only [Bool.not_true, cond_false, Option.bind_eq_some_iff] at hb
          obtain ⟨i, hi, hb⟩ := hb
          obtain ⟨hc, hb⟩ := cond_none hb
          have hc : i.comparable = true := by simpa using hc
          simp only [Option.bind_eq_some_iff] at hb
          obtain ⟨ds, hds, hb⟩ := hb
          have hs : s = s' := Nat.eq_of_beq_eq_true hss
          subst hs
          have hl : (Op.equalIn (9998 + 1) s v1 v2).run P w = .ok b w := by
            split at hb
            · exact run_eqLeaf 9998 hds hv1 hv2 hb
            · exact run_eqLeaf 9998 hds hv1 hv2 hb
            · exact run_eqLeaf 9998 hds hv1 hv2 hb
            · cases hb
          simp [typeInfo, hi, hc, hl]
      have hgd : ∀ op, (eqGuard op t xo yo (.iface s v1) (.iface s' v2)).run P w = .ok () w := fun op => by
        cases op <;> rfl
      rw [Sem.run_bind, hgd, Result.andThen_ok]
      split at h
      · injection h with h; subst h
        refine ⟨.bool b, ?_, by simp only [Rep]⟩
        show (do pure (.bool (← Op.equalIn 10000 t (.iface s v1) (.iface s' v2))) : Sem Value).run P w = _
        simp only [Sem.run_bind, he, Result.andThen_ok, Sem.run_pure]
      · injection h with h; subst h
        refine ⟨.bool (!b), ?_, by simp only [Rep]⟩
        show (do pure (.bool (!(← Op.equalIn 10000 t (.iface s v1) (.iface s' v2)))) : Sem Value).run P w = _
        simp only [Sem.run_bind, he, Result.andThen_ok, Sem.run_pure]
      · cases h
    · cases h
  · simp only [Option.bind_eq_some_iff] at h
    obtain ⟨d, hd, b, hb, h⟩ := h
    have he := run_eqOne (P := P) (G := G) (st := st) (w := w) 9999 hd hx hy hb
    have hg : (eqGuard op t xo yo u u').run P w = .ok () w := by
      unfold eqOne at hb
      split at hb <;> first | (cases hb; done) | skip
      all_goals simp only [Rep] at hx hy
      all_goals first | subst hx | obtain ⟨_, _, rfl⟩ := hx | obtain ⟨_, rfl, _⟩ := hx | obtain ⟨_, _, rfl, _⟩ := hx | obtain ⟨_, _, _, rfl, _⟩ := hx | obtain ⟨_, _, _, _, _, rfl, _⟩ := hx
      all_goals first | subst hy | obtain ⟨_, _, rfl⟩ := hy | obtain ⟨_, rfl, _⟩ := hy | obtain ⟨_, _, rfl, _⟩ := hy | obtain ⟨_, _, _, rfl, _⟩ := hy | obtain ⟨_, _, _, _, _, rfl, _⟩ := hy
      all_goals first
        | (unfold eqGuard; split <;> rfl)
        | (split at hb <;> first | (cases hb; done) | (unfold eqGuard; split <;> simp))
    have key : ∀ (z : Sem Value), binOp op t u u' = z → (eqGuard op t xo yo u u' >>= fun _ => binOp op t u u').run P w = z.run P w := fun z hz => by
      rw [Sem.run_bind, hg, Result.andThen_ok, hz]
    have h1 : ∀ (z : Sem Bool), z = Op.equalIn 10000 t u u' → z.run P w = .ok b w := fun z hz => by rw [hz]; exact he
    unfold eqOne at hb
    split at h
    · injection h with h
      subst h
      refine ⟨.bool b, ?_, by simp only [Rep]⟩
      rw [key (do pure (.bool (← Op.equal t u u'))) ?_]
      · simp only [Sem.run_bind, h1 _ rfl, Result.andThen_ok, Sem.run_pure, Op.equal, Op.maxDepth]
      · split at hb <;> first | (cases hb; done) | skip
        all_goals simp only [Rep] at hx hy
        all_goals first | subst hx | obtain ⟨_, _, rfl⟩ := hx | obtain ⟨_, rfl, _⟩ := hx | obtain ⟨_, _, rfl, _⟩ := hx | obtain ⟨_, _, _, rfl, _⟩ := hx | obtain ⟨_, _, _, _, _, rfl, _⟩ := hx
        all_goals first | subst hy | obtain ⟨_, _, rfl⟩ := hy | obtain ⟨_, rfl, _⟩ := hy | obtain ⟨_, _, rfl, _⟩ := hy | obtain ⟨_, _, _, rfl, _⟩ := hy | obtain ⟨_, _, _, _, _, rfl, _⟩ := hy
        all_goals first | rfl | (exfalso; simp_all; done)
    · injection h with h
      subst h
      refine ⟨.bool (!b), ?_, by simp only [Rep]⟩
      rw [key (do pure (.bool (!(← Op.equal t u u')))) ?_]
      · simp only [Sem.run_bind, h1 _ rfl, Result.andThen_ok, Sem.run_pure, Op.equal, Op.maxDepth]
      · split at hb <;> first | (cases hb; done) | skip
        all_goals simp only [Rep] at hx hy
        all_goals first | subst hx | obtain ⟨_, _, rfl⟩ := hx | obtain ⟨_, rfl, _⟩ := hx | obtain ⟨_, _, rfl, _⟩ := hx | obtain ⟨_, _, _, rfl, _⟩ := hx | obtain ⟨_, _, _, _, _, rfl, _⟩ := hx
        all_goals first | subst hy | obtain ⟨_, _, rfl⟩ := hy | obtain ⟨_, rfl, _⟩ := hy | obtain ⟨_, _, rfl, _⟩ := hy | obtain ⟨_, _, _, rfl, _⟩ := hy | obtain ⟨_, _, _, _, _, rfl, _⟩ := hy
        all_goals first | rfl | (exfalso; simp_all; done)
    · cases h

theorem run_convPure {s d : TypeId} {x : AV} {dd : TypeDesc} {u : Value} {v : AV} {ds : TypeDesc} (hs : P.underlying s = some ds) (hd : P.underlying d = some dd) (hx : Rep G st w x u)
    (h : convPure dd x = some v) : ∃ r, (convert s d u).run P w = .ok r w ∧ Rep G st w v r := by
  unfold convPure at h
  split at h
  · injection h with h; subst h; simp only [Rep] at hx; subst hx
    exact ⟨_, by simp [convert, run_underlying hs, run_underlying hd, Conv.intToInt] <;> rfl, by simp [Rep]⟩
  · injection h with h; subst h
    simp only [Rep] at hx
    obtain ⟨n, rfl, n1, n2, n3⟩ := hx
    exact ⟨_, by simp [convert, run_underlying hs, run_underlying hd, Conv.intToInt] <;> rfl, resConv_rep n1 n2 n3⟩
  · injection h with h; subst h; simp only [Rep] at hx; subst hx
    exact ⟨_, by simp [convert, run_underlying hs, run_underlying hd] <;> rfl, by simp [Rep]⟩
  · cases h

/-! ### Building -/
theorem foldl_set (off : Nat) : ∀ (l : List Value) (k : Nat) (c : Array Value), off + k + l.length ≤ c.size →
    ((l.zipIdx k).foldl (fun cs (x : Value × Nat) => cs.setIfInBounds (off + x.2) x.1) c).toList = c.toList.take (off + k) ++ l ++ c.toList.drop (off + k + l.length)
  | [], k, c, _ => by simp
  | v :: l, k, c, h => by
    simp only [List.length_cons] at h
    rw [List.zipIdx_cons, List.foldl_cons, foldl_set off l (k + 1) _ (by simp; omega)]
    simp only [Array.toList_setIfInBounds, List.length_cons]
    have hlt : off + k < c.toList.length := by simp; omega
    rw [show off + (k + 1) = off + k + 1 by omega, List.take_succ_eq_append_getElem (by simpa using hlt), List.drop_set_of_lt (by omega),
      show off + k + 1 + l.length = off + k + (l.length + 1) by omega]
    simp [List.take_set_of_le]

theorem fill_rep (place : Nat → Option (Nat × Nat)) : ∀ {ps : List (Nat × AV)} {qs : List (Nat × Value)} {cs cs' : List AV} {c : Array Value},
    RepL G st w cs c.toList → qs.map (·.1) = ps.map (·.1) → RepL G st w (ps.map (·.2)) (qs.map (·.2)) → fillAV place cs ps = some cs' →
    ∃ c', Instr.fill place c qs = some c' ∧ RepL G st w cs' c'.toList
  | [], qs, cs, cs', c, hc, hi, hr, h => by
    simp only [List.map_nil, List.map_eq_nil_iff] at hi
    subst hi
    simp only [fillAV] at h
    injection h with h
    subst h
    exact ⟨c, rfl, hc⟩
  | (i, v) :: ps, qs, cs, cs', c, hc, hi, hr, h => by
    cases qs with
    | nil => simp at hi
    | cons q qs =>
      obtain ⟨j, u⟩ := q
      simp only [List.map_cons, List.cons.injEq] at hi hr
      obtain ⟨rfl, hi⟩ := hi
      obtain ⟨u', l, e, hu, hr⟩ := hr.cons_inv
      injection e with e1 e2
      subst e1; subst e2
      simp only [fillAV, Option.bind_eq_some_iff] at h
      obtain ⟨⟨off, sz⟩, hp, h⟩ := h
      obtain ⟨hg, h⟩ := cond_some h
      simp only [Bool.and_eq_true] at hg
      have g1 := Nat.eq_of_beq_eq_true hg.1
      have g2 := Nat.le_of_ble_eq_true hg.2
      have hcl := hc.length
      have hul := hu.cells.length
      simp only [Array.length_toList] at hcl hul
      have hfold := foldl_set off u.cells.toList 0 c (by simp; omega)
      have hc2 : RepL G st w (setRange cs off v.cells) (u.cells.zipIdx.foldl (fun cs (x : Value × Nat) => cs.setIfInBounds (off + x.2) x.1) c).toList := by
        rw [← Array.foldl_toList, Array.toList_zipIdx, hfold]
        simp only [Nat.add_zero, setRange, Array.length_toList]
        rw [← hul]
        exact RepL.append (RepL.append (hc.take _) hu.cells) (hc.drop _)
      obtain ⟨c', k1, k2⟩ := fill_rep place hc2 hi hr h
      refine ⟨c', ?_, k2⟩
      simp only [Instr.fill, hp]
      rw [if_neg (by simp; omega)]
      exact k1

theorem parts_rep {ts : List AV} {a : Act} (h : RepL G st w ts a.tmps.toList) : ∀ {ps : List (Nat × Operand)} {l : List (Nat × AV)}, parts? ts ps = some l →
    (ps.map fun (i, x) => (i, a.eval x)).map (·.1) = l.map (·.1) ∧ RepL G st w (l.map (·.2)) ((ps.map fun (i, x) => (i, a.eval x)).map (·.2))
  | [], l, hp => by simp only [parts?] at hp; injection hp with hp; subst hp; exact ⟨rfl, RepL.nil⟩
  | (i, x) :: ps, l, hp => by
    simp only [parts?, Option.bind_eq_some_iff] at hp
    obtain ⟨v, h1, l', h2, h3⟩ := hp
    injection h3 with h3
    subst h3
    obtain ⟨k1, k2⟩ := parts_rep h h2
    exact ⟨by simp only [List.map_cons, k1], by simpa only [List.map_cons] using RepL.cons (Rep.opnd h h1) k2⟩

theorem run_buildOp {t : TypeId} {ps : Array (Nat × Operand)} {l : List (Nat × AV)} {ts : List AV} {a : Act} {v : AV} (hts : RepL G st w ts a.tmps.toList) (hl : parts? ts ps.toList = some l)
    (h : buildOp P t l = some v) : ∃ r, (Instr.build t (ps.map fun (i, x) => (i, a.eval x))).run P w = .ok r w ∧ Rep G st w v r := by
  obtain ⟨q1, q2⟩ := parts_rep hts hl
  simp only [buildOp, Option.bind_eq_some_iff] at h
  obtain ⟨z, hz, d, hd, h⟩ := h
  obtain ⟨zv, _, z2, i, hi, hi0⟩ := run_zero (G := G) (st := st) hz w
  have hzc := z2.cells
  split at h
  · rename_i fs
    simp only [Option.bind_eq_some_iff] at h
    obtain ⟨places, hp, cs, hf, h⟩ := h
    injection h with h
    subst h
    obtain ⟨c', k1, k2⟩ := fill_rep _ hzc q1 q2 hf
    refine ⟨.agg c', run_build w t _ c' ?_, by simp only [Rep]; exact ⟨c', rfl, k2⟩⟩
    simp only [Program.built, hi, hd, hi0, hp]
    simpa using k1
  · rename_i n e
    simp only [Option.bind_eq_some_iff] at h
    obtain ⟨sz, hsz, cs, hf, h⟩ := h
    injection h with h
    subst h
    obtain ⟨ie, hie, hies⟩ := info_of_size hsz
    obtain ⟨c', k1, k2⟩ := fill_rep _ hzc q1 q2 hf
    refine ⟨.agg c', run_build w t _ c' ?_, by simp only [Rep]; exact ⟨c', rfl, k2⟩⟩
    simp only [Program.built, hi, hd, hi0, hie, hies]
    simpa using k1
  · cases h
end
end Go.Ev
