/- Appends, bytes as a text, and: what turns the store does so in the model. -/
import Derived.Test.YthodfojhbbendaaDoorEvJ
set_option linter.all false
namespace Go.Ev
open Go.RowKit (Below)

section
variable {P : Program} {W0 : World} {G : Gh} {st : St} {w : World}

theorem Does.value {r : Result Next} {a : AV} {v : Value} (h : r = .ok (.value v) w) (I : Inv W0 G st w) (ha : Rep G st w a v) : Does W0 G st w r a st :=
  ⟨_, v, w, G, h, .inl rfl, Le.refl _ _ _, Unb.refl _ _, I, ha⟩
theorem Does.drew {r : Result Next} {a : AV} {st' : St} (h : Does W0 G st w.drew r a st') : Does W0 G st w r a st' := by
  obtain ⟨n, v, w', G', h1, h2, h3, h4⟩ := h
  exact ⟨n, v, w', G', h1, h2, Le.drew.trans h3, h4⟩
/-- What is pushed and born at once. -/
theorem Does.of_makes (I : Inv W0 G st w) {r : Result Next} {x : AObj} {a : AV} (h : Makes W0 G (st.push x) w r st.next a) : Does W0 G st w r a (st.push x) := by
  obtain ⟨v, w', G', h1, h2, h3, h4, h5⟩ := h
  exact ⟨_, v, w', G', h1, .inl rfl, (Le.push I x).trans h2, (fun i hi hu => ⟨(Unb.push (G := G) x i hi hu).1, h3 i (by omega) hu⟩), h4, h5⟩

/-- A slice's cells. -/
theorem sliceCells_rep (I : Inv W0 G st w) {n sz : Nat} {v : AV} {u : Value} {l : List AV} (hv : Rep G st w v u) (h : sliceCells st n v sz = some l) (hn : lenOf v = some n) :
    (u = .slice none 0 0 ∧ n = 0 ∧ l = []) ∨ ∃ b off c vs, u = .slice (some ⟨b, off, none⟩) n c ∧ RepL G st w l vs ∧ l.length = n * sz ∧ ∀ (j : Nat) x, vs[j]? = some x → w.cell? ((⟨b, off, none⟩ : Addr).add j) = some x := by
  unfold sliceCells at h
  split at h
  · obtain ⟨h1, h⟩ := cond_some h
    injection h with h
    subst h
    simp only [Rep] at hv
    exact .inl ⟨hv, Nat.eq_of_beq_eq_true h1, rfl⟩
  · obtain ⟨h1, h⟩ := cond_some h
    obtain ⟨h2, rfl⟩ := range_some h
    simp only [lenOf, Option.some.injEq] at hn
    subst hn
    simp only [Rep] at hv
    obtain ⟨b, off, c, m0, n0, rfl, x2, x3, x4, x5, _⟩ := hv
    obtain ⟨vs, v1, v2, v3⟩ := RepAt.values (x4.take (_ * sz))
    refine .inr ⟨b, off, c, vs, rfl, by simpa using v1, by simp; omega, fun j x hx => by rw [add_addr]; exact v3 j x hx⟩
  · rename_i id off len cap
    split at h
    · rename_i cs hcs
      obtain ⟨h2, rfl⟩ := range_some h
      simp only [lenOf, Option.some.injEq] at hn
      subst hn
      simp only [Rep] at hv
      obtain ⟨b, c, x1, rfl, _⟩ := hv
      have := ((I.bcell id b cs x1 hcs).1.drop off (by omega)).take (len * sz)
      rw [Nat.zero_add] at this
      obtain ⟨vs, v1, v2, v3⟩ := this.values
      exact .inr ⟨b, off, c, vs, rfl, v1, by simp; omega, fun j x hx => by rw [add_addr]; exact v3 j x hx⟩
    · cases h
  · cases h

theorem run_append_zero {t ty e : TypeId} {sz : Nat} (hd : P.underlying t = some (.slice e)) (hsz : size? P e = some sz) (base : Option Addr) (n c : Nat) (hn : n ≤ c) (hb : base = none → n = 0 ∧ c = 0) (x : Value)
    (hx : x = .slice none 0 0 ∨ ∃ a c', x = .slice (some a) 0 c') : (Builtin.append_ #[t, t] ty #[.slice base n c, x]).run P w = .ok (.slice base n c) w := by
  have hl : (Builtin.lenOf x).run P w = .ok 0 w := by rcases hx with rfl | ⟨a, c', rfl⟩ <;> rfl
  have hf : (Builtin.firstCells sz 0 x).run P w = .ok #[] w := by
    rcases hx with rfl | ⟨a, c', rfl⟩
    · rfl
    · simp [Builtin.firstCells, loadCells, loadCellsFrom]
  unfold Builtin.append_
  simp only [List.getElem?_toArray, List.getElem?_cons_zero, List.getElem?_cons_succ, Sem.run_bind, run_underlying hd, Result.andThen_ok, run_size hsz, Sem.run_pure, hl]
  cases base with
  | none => simp [hl, hf, hn]
  | some a => simp [hl, hf, hn, storeCells]

theorem run_append_inplace {t ty e : TypeId} {sz : Nat} (hd : P.underlying t = some (.slice e)) (hsz : size? P e = some sz) (b off len c n c' : Nat) (a : Addr) (vs : List Value) (w' : World) (hl : vs.length = n * sz)
    (hv : ∀ (j : Nat) x, vs[j]? = some x → w.cell? (a.add j) = some x) (hroom : len + n ≤ c) (hst : (storeCells ⟨b, off + len * sz, none⟩ vs).run P w = .ok () w') :
    (Builtin.append_ #[t, t] ty #[.slice (some ⟨b, off, none⟩) len c, .slice (some a) n c']).run P w = .ok (.slice (some ⟨b, off, none⟩) (len + n) c) w' := by
  have hf : (Builtin.firstCells sz n (.slice (some a) n c')).run P w = .ok vs.toArray w := by
    have := run_loadCells_list (P := P) w a vs hv
    rw [hl] at this
    simpa [Builtin.firstCells] using this
  have hlen : (Builtin.lenOf (.slice (some a) n c')).run P w = .ok n w := rfl
  unfold Builtin.append_
  simp only [List.getElem?_toArray, List.getElem?_cons_zero, List.getElem?_cons_succ, Sem.run_bind, run_underlying hd, Result.andThen_ok, run_size hsz, Sem.run_pure, hlen]
  simp [hlen, hf, hroom, add_addr, hst]

/-- A family's end goes on. -/
theorem Le.tipUp {id h h' : Nat} (ho : st.objs.get id = some (.tip h)) (hh : h ≤ h') : Le G st w G (st.put id (.tip h')) w where
  β i b hb := hb
  ext b i m n he := ⟨m, Nat.le_refl _, he⟩
  cell b i m n j _ _ := rfl
  tip i t ht _ := by
    simp only [St.put, Tr.get_set]
    split
    · subst_vars
      rw [ho] at ht; injection ht with ht; injection ht with ht; subst ht
      exact ⟨h', hh, rfl, fun _ _ _ _ k => k⟩
    · exact ⟨t, Nat.le_refl _, ht, fun _ _ _ _ k => k⟩
  next := Nat.le_refl _
theorem Inv.tipUp (I : Inv W0 G st w) {id h h' : Nat} (ho : st.objs.get id = some (.tip h)) (hh : h ≤ h') (hid : id < st.next) : Inv W0 G (st.put id (.tip h')) w where
  below := I.below
  blt := I.blt
  binj := I.binj
  bext := I.bext
  elt b i m n he := by
    obtain ⟨h1, h2, h3, h4, h5, t, h6⟩ := I.elt b i m n he
    refine ⟨h1, h2, h3, h4, h5, ?_⟩
    simp only [St.put, Tr.get_set]
    split
    · exact ⟨_, rfl⟩
    · exact ⟨t, h6⟩
  ecell := I.ecell
  bcell i b cs hb hcs := by
    simp only [St.put, Tr.get_set] at hcs
    split at hcs
    · cases hcs
    · obtain ⟨k1, k2⟩ := I.bcell i b cs hb hcs
      exact ⟨k1.old (Le.tipUp ho hh) fun _ _ => rfl, k2⟩
  fresh i hi := by
    simp only [St.put] at hi ⊢
    rw [Tr.get_set, if_neg (by omega)]
    exact I.fresh i hi
theorem Unb.put {id : Nat} {o : AObj} (h : ¬ G.unborn id) : Unb G st G (st.put id o) := fun i _ hu => ⟨by
  simp only [St.put, Tr.get_set]
  rw [if_neg (by rintro rfl; exact h hu)], hu⟩

theorem growslice_ok {need old bytes : Nat} (h : old < need) (hn : need ≤ 2147483648) (hb : bytes ≤ 4096) : Builtin.nextslicecap need old * bytes ≤ 281474976710656 := by
  refine growslice_fits h ?_
  have : need * bytes ≤ 2147483648 * 4096 := Nat.mul_le_mul hn hb
  omega

theorem arr_get {ovs nvs : List Value} {Z : Array Value} {j : Nat} {v : Value} (h : (ovs ++ nvs)[j]? = some v) : (ovs.toArray ++ nvs.toArray ++ Z)[j]? = some v := by
  have hlt := (List.getElem?_eq_some_iff.1 h).1
  have e : ovs.toArray ++ nvs.toArray = (ovs ++ nvs).toArray := by simp
  rw [e, Array.getElem?_append_left (by simpa using hlt)]
  simpa using h
theorem zeroCells_toList (z : Array Value) (n : Nat) : (Builtin.zeroCells z n).size = n * z.size := size_zeroCells z n

theorem append_sound (I : Inv W0 G st w) {byref : Bool} {ats : Array TypeId} {ty : TypeId} {s x a : AV} {us ux : Value} {st' : St} (hs : Rep G st w s us) (hx : Rep G st w x ux)
    (h : appendOp P byref st ats s x = some (a, st')) :
    ∃ v w' G', (Builtin.append_ ats ty #[us, ux]).run P w = .ok v w' ∧ Le G st w G' st' w' ∧ Unb G st G' st' ∧ Inv W0 G' st' w' ∧ Rep G' st' w' a v := by
  unfold appendOp at h
  split at h
  rotate_left
  · cases h
  rename_i t t' hats
  have h0 := cond_none h; clear h
  obtain ⟨hq, h⟩ := h0
  have hq : t = t' := Nat.eq_of_beq_eq_true (by simpa using hq)
  subst hq
  have hats : ats = #[t, t] := by apply Array.ext'; simpa using hats
  subst hats
  simp only [Option.bind_eq_some_iff] at h
  obtain ⟨d, hd, h⟩ := h
  split at h
  rotate_left
  · cases h
  rename_i e
  simp only [Option.bind_eq_some_iff] at h
  obtain ⟨sz, hsz, bs, hbs, z, hz, n, hn, new, hnew, h⟩ := h
  have h0 := cond_none h; clear h
  obtain ⟨hq, h⟩ := h0
  simp only [Bool.not_eq_false', Bool.and_eq_true, Bool.not_eq_true'] at hq
  obtain ⟨⟨⟨⟨q1, q2⟩, q3⟩, q4⟩, q5⟩ := hq
  have q2 := Nat.le_of_ble_eq_true q2
  have q3 := Nat.le_of_ble_eq_true q3
  have q5 := Nat.eq_of_beq_eq_true q5
  have hs0 : 0 < sz := by
    rcases Nat.eq_zero_or_pos sz with rfl | h
    · simp at q4
    · exact h
  have hmost : most = 1073741824 := rfl
  obtain ⟨zv, z1, z2, i, hi, hiz⟩ := run_zero (G := G) (st := st) hz w
  have his : i.size = sz := by obtain ⟨i', h1, h2⟩ := info_of_size hsz; rw [hi] at h1; injection h1 with h1; subst h1; exact h2
  have hib : i.bytes = bs := by simpa [bytes?, hi] using hbs
  have hzs : zv.cells.size = sz := by have := z2.cells.length; simp only [Array.length_toList] at this; omega
  -- the source
  have hsrc := sliceCells_rep I hx hnew hn
  have hzero : n = 0 → ux = .slice none 0 0 ∨ ∃ a c', ux = .slice (some a) 0 c' := by
    rintro rfl
    rcases hsrc with ⟨h1, _⟩ | ⟨b, off, c, vs, h1, _⟩
    · exact .inl h1
    · exact .inr ⟨_, _, h1⟩
  -- behind a new array
  have fresh : ∀ (len : Nat) (br : Bool) (old : List AV) (ovs : List Value) (r : Result Next) (v : Value), RepL G st w old ovs → old.length = len * sz → 0 < n → len ≤ most →
      ∀ (nvs : List Value), RepL G st w new nvs → new.length = n * sz → ∀ oldc,
      ∃ v w' G', (Result.ok (.slice (some ⟨w.heap.size, 0, none⟩) (len + n) (grownCap w (len + n) oldc e)) (w.drew.alloc (.cells (ovs.toArray ++ nvs.toArray ++ Builtin.zeroCells zv.cells (grownCap w (len + n) oldc e - (len + n))) e)) : Result Value) = .ok v w' ∧
        Le G st w G' (st.mk1 (newSlice br (len + n) sz none (old ++ new))).2 w' ∧ Unb G st G' (st.mk1 (newSlice br (len + n) sz none (old ++ new))).2 ∧ Inv W0 G' (st.mk1 (newSlice br (len + n) sz none (old ++ new))).2 w' ∧
        Rep G' (st.mk1 (newSlice br (len + n) sz none (old ++ new))).2 w' (st.mk1 (newSlice br (len + n) sz none (old ++ new))).1 v := by
    intro len br old ovs r v h1 h2 h3 h4 nvs h5 h6 oldc
    have hge := grownCap_ge w (len + n) oldc e
    have ho1 := h1.length
    have hn1 := h5.length
    have hcsz : (ovs.toArray ++ nvs.toArray ++ Builtin.zeroCells zv.cells (grownCap w (len + n) oldc e - (len + n))).size = grownCap w (len + n) oldc e * sz := by
      simp only [Array.size_append, List.size_toArray, size_zeroCells, hzs]
      rw [ho1, hn1, h2, h6, ← Nat.add_mul, ← Nat.add_mul]
      congr 1
      omega
    have hI := (I.drew).push (newSlice br (len + n) sz none (old ++ new)).2
    have hrep : RepL G (st.push (newSlice br (len + n) sz none (old ++ new)).2) w.drew (old ++ new) (ovs ++ nvs) := RepL.mono (Le.drew.trans (Le.push I.drew _)) _ _ (RepL.append h1 h5)
    have hm := makes_slice (W0 := W0) (byref := br) (id := st.next) (len := len + n) (sz := sz) (c := grownCap w (len + n) oldc e) (cap := none) (cs := old ++ new) (vs := ovs ++ nvs)
      (C := ovs.toArray ++ nvs.toArray ++ Builtin.zeroCells zv.cells (grownCap w (len + n) oldc e - (len + n))) (t := e) hI (by simp [St.push]) (push_unborn I.drew) (push_get _) hrep
      (fun j v hj => arr_get hj) (by rw [List.length_append, h2, h6, Nat.add_mul]) hs0 hge (by omega) (fun k hk => by cases hk) (r := _) rfl
    have hd := Does.drew (Does.of_makes I.drew hm)
    obtain ⟨n', v', w', G', e1, e2, e3, e4, e5, e6⟩ := hd
    injection e1 with e1 e1'
    subst e1'
    refine ⟨_, _, G', rfl, e3, e4, e5, ?_⟩
    rcases e2 with rfl | ⟨rfl, _⟩
    · injection e1 with e1
      subst e1
      exact e6
    · cases e1
  split at h
  · -- nil
    simp only [Rep] at hs
    subst hs
    cases hb : Nat.beq n 0 with
    | true =>
      rw [hb] at h
      injection h with h
      injection h with h1 h2
      subst h1; subst h2
      have := Nat.eq_of_beq_eq_true hb
      exact ⟨_, w, G, run_append_zero hd hsz none 0 0 (Nat.le_refl _) (fun _ => ⟨rfl, rfl⟩) ux (hzero this), Le.refl _ _ _, Unb.refl _ _, I, by simp [Rep]⟩
    | false =>
      rw [hb] at h
      have hn0 : 0 < n := by
        rcases Nat.eq_zero_or_pos n with rfl | h
        · simp at hb
        · exact h
      simp only [cond_false] at h
      injection h with h
      rcases hsrc with ⟨_, h0, _⟩ | ⟨b, off, c, vs, rfl, k1, k2, k3⟩
      · omega
      · have hvl := k1.length
        have hrun := run_append_nil (P := P) w t ty e i zv hd hi hiz ⟨b, off, none⟩ n c vs (by rw [hvl, k2, his]) k3 hn0 (by omega) (by
          have : n * i.bytes ≤ 1073741824 * 4096 := Nat.mul_le_mul (by omega) (by omega)
          omega)
        obtain ⟨v, w', G', f1, f2, f3, f4, f5⟩ := fresh 0 byref [] [] (.halt .blocked w) undef RepL.nil (by simp) hn0 (by omega) vs k1 k2 0
        simp only [Nat.zero_add, List.nil_append, Array.empty_append] at f1 f2 f3 f4 f5
        rw [h] at f2 f3 f4 f5
        refine ⟨v, w', G', ?_, f2, f3, f4, f5⟩
        rw [hrun]
        exact f1
  · -- by value
    rename_i id e0 len sz' cap cs
    have hs' := hs
    simp only [Rep] at hs
    obtain ⟨b, off, c, m0, n0, rfl, x2, x3, x4, x5, x6, x7, x8, t0, x9, x10, x11, x12⟩ := hs
    cases hb : Nat.beq n 0 with
    | true =>
      rw [hb] at h
      simp only [cond_true] at h
      injection h with h
      injection h with h1 h2
      subst h1; subst h2
      exact ⟨_, w, G, run_append_zero hd hsz _ len c x7 (fun h => by cases h) ux (hzero (Nat.eq_of_beq_eq_true hb)), Le.refl _ _ _, Unb.refl _ _, I, hs'⟩
    | false =>
      rw [hb] at h
      have hn0 : 0 < n := by
        rcases Nat.eq_zero_or_pos n with rfl | h
        · simp at hb
        · exact h
      simp only [cond_false] at h
      have h0 := cond_none h; clear h
      obtain ⟨hq, h⟩ := h0
      simp only [Bool.not_eq_false', Bool.and_eq_true] at hq
      have hlen := Nat.le_of_ble_eq_true hq.1
      have hsz' : sz = sz' := Nat.eq_of_beq_eq_true hq.2
      subst hsz'
      rcases hsrc with ⟨_, h0, _⟩ | ⟨b1, off1, c1, vs, rfl, k1, k2, k3⟩
      · omega
      have hvl := k1.length
      obtain ⟨ovs, o1, o2, o3⟩ := x4.values
      have grow : c < len + n → (Builtin.append_ #[t, t] ty #[.slice (some ⟨b, off, none⟩) len c, .slice (some ⟨b1, off1, none⟩) n c1]).run P w =
          .ok (.slice (some ⟨w.heap.size, 0, none⟩) (len + n) (grownCap w (len + n) c e)) (w.drew.alloc (.cells (ovs.toArray ++ vs.toArray ++ Builtin.zeroCells zv.cells (grownCap w (len + n) c e - (len + n))) e)) := fun hc =>
        run_append_grow (P := P) w t ty e i zv hd hi hiz ⟨b, off, none⟩ len c ovs (by rw [o2, x5, his]) (fun j v hj => by rw [add_addr]; exact o3 j v hj) ⟨b1, off1, none⟩ n c1 vs (by rw [hvl, k2, his]) k3 hc (by omega)
          (growslice_ok hc (by omega) (by omega))
      cases hcap : cap.any fun c => Nat.blt c (len + n) with
      | true =>
        rw [hcap] at h
        simp only [cond_true] at h
        injection h with h
        have hcc : c < len + n := by
          cases cap with
          | none => simp at hcap
          | some c' => rw [x8 c' rfl]; exact blt_lt (by simpa using hcap)
        obtain ⟨v, w', G', f1, f2, f3, f4, f5⟩ := fresh len byref cs ovs (.halt .blocked w) undef o1 x5 hn0 hlen vs k1 k2 c
        rw [h] at f2 f3 f4 f5
        exact ⟨v, w', G', by rw [grow hcc]; exact f1, f2, f3, f4, f5⟩
      | false =>
        rw [hcap] at h
        simp only [cond_false] at h
        split at h
        rotate_left
        · cases h
        rename_i h1 hget
        obtain ⟨hq2, h⟩ := cond_some h
        simp only [Bool.and_eq_true, Bool.not_eq_true'] at hq2
        have hh : h1 = e0 := Nat.eq_of_beq_eq_true hq2.1
        subst hh
        injection h with h
        injection h with e1 e2
        subst e1; subst e2
        rw [x9] at hget
        injection hget with hget
        injection hget with hget
        subst hget
        have hborn : ¬ G.unborn id := fun hu => hu.2 _ _ _ x2
        have hids := I.elt b id m0 n0 x2
        have hcn : (cs ++ new).length = (len + n) * sz := by rw [List.length_append, x5, k2, Nat.add_mul]
        by_cases hroom : len + n ≤ c
        · obtain ⟨y1, y2⟩ := x12 rfl (by omega)
          have hmul : (len + n) * sz ≤ c * sz := Nat.mul_le_mul_right _ hroom
          have hmk : m0 + new.length ≤ n0 := by
            rw [Nat.add_mul] at hmul
            omega
          have e3 : off + len * sz = m0 := by omega
          have hst : (storeCells ⟨b, off + len * sz, none⟩ vs).run P w = .ok () (w.setCells b m0 vs) := by
            rw [e3]
            have := run_storeCells_cells (P := P) b m0 vs 0 w (fun j hj => by
              have := (I.ecell b id m0 n0 (m0 + j) x2 (by omega)).1
              simpa using this) (fun j hj => by
              have := (I.ecell b id m0 n0 (m0 + j) x2 (by omega)).2
              simpa using this) (k1.one q1)
            simpa using this
          have L := Le.grow (w := w) (k := new.length) (vs := vs) x2 x9
          refine ⟨_, _, _, run_append_inplace hd hsz b off len c n c1 _ vs _ (by rw [hvl, k2]) k3 hroom hst, L, ?_, I.grow x2 x9 hmk, ?_⟩
          · intro j hj hu
            exact ⟨((Unb.put (st := st) (o := .tip (t0 + new.length)) hborn) j hj hu).1, unborn_grown hu (by rintro rfl; exact hborn hu)⟩
          · simp only [Rep]
            refine ⟨b, off, c, m0 + new.length, n0, rfl, by simp [Gh.grown], by simp; omega, ?_, hcn, x6, hroom, x8, t0 + new.length, by simp [St.put, Tr.get_set], Nat.le_refl _, by simp; omega, fun _ _ => ⟨by simp; omega, y2⟩⟩
            rw [RepAt.append]
            refine ⟨RepAt.mono L b off m0 id n0 x2 cs x3 x4, ?_⟩
            rw [y1]
            refine RepAt.of_values (RepL.mono L _ _ k1) fun j v hv => ?_
            have hj := (List.getElem?_eq_some_iff.1 hv).1
            rw [World.cell?_setCells_in b vs m0 w (fun i hi => (I.ecell b id m0 n0 (m0 + i) x2 (by omega)).1) j hj]
            rw [List.getElem?_eq_getElem hj] at hv
            exact hv
        · have hc : c < len + n := by omega
          have hge := grownCap_ge w (len + n) c e
          have ho1 := o1.length
          have hcsz : (ovs.toArray ++ vs.toArray ++ Builtin.zeroCells zv.cells (grownCap w (len + n) c e - (len + n))).size = grownCap w (len + n) c e * sz := by
            simp only [Array.size_append, List.size_toArray, size_zeroCells, hzs]
            rw [o2, hvl, x5, k2, ← Nat.add_mul, ← Nat.add_mul]
            congr 1
            omega
          have hmul : (len + n) * sz ≤ grownCap w (len + n) c e * sz := Nat.mul_le_mul_right _ hge
          have I1 := I.drew.tipUp x9 (h' := t0 + new.length) (by omega) hids.2.2.1
          have L1 : Le G st w G (st.put id (.tip (t0 + new.length))) w.drew := Le.drew.trans (Le.tipUp x9 (by omega))
          have hget' : (st.put id (.tip (t0 + new.length))).objs.get id = some (.tip (t0 + new.length)) := by simp [St.put, Tr.get_set]
          have L2 := Le.bornTip I1 (id, (cs ++ new).length, (ovs.toArray ++ vs.toArray ++ Builtin.zeroCells zv.cells (grownCap w (len + n) c e - (len + n))).size)
            (.cells (ovs.toArray ++ vs.toArray ++ Builtin.zeroCells zv.cells (grownCap w (len + n) c e - (len + n))) e)
          have I2 := I1.bornTip (C := ovs.toArray ++ vs.toArray ++ Builtin.zeroCells zv.cells (grownCap w (len + n) c e - (len + n))) (t := e) (m := (cs ++ new).length) hids.2.2.1 hids.2.2.2.2.1 hget' (by omega)
          refine ⟨_, _, _, grow hc, L1.trans L2, ?_, I2, ?_⟩
          · intro j hj hu
            exact ⟨((Unb.put (st := st) (o := .tip (t0 + new.length)) hborn) j hj hu).1, unborn_grown hu (by rintro rfl; exact hborn hu)⟩
          · simp only [Rep]
            refine ⟨w.heap.size, 0, grownCap w (len + n) c e, (cs ++ new).length, _, rfl, by simp [Gh.grown]; rfl, by simp, ?_, hcn, x6, hge, fun k hk => ?_, t0 + new.length, hget', Nat.le_refl _, by simp; omega, fun _ _ => ⟨by simp, ?_⟩⟩
            · refine RepAt.of_values (RepL.mono (L1.trans L2) _ _ (RepL.append o1 k1)) fun j v hv => ?_
              rw [Nat.zero_add]
              have := cell_new (w := w.drew) (ovs.toArray ++ vs.toArray ++ Builtin.zeroCells zv.cells (grownCap w (len + n) c e - (len + n))) e (0, 0) j
              rw [show w.heap.size = w.drew.heap.size from rfl, this]
              exact arr_get hv
            · subst hk
              have := x8 k rfl
              subst this
              have : Nat.blt c (len + n) = true := Nat.ble_eq_true_of_le hc
              simp [this] at hcap
            · rw [Nat.zero_add]
              simp only [Array.size_append, List.size_toArray] at hcsz
              exact Nat.le_of_eq hcsz.symm
  · -- by reference
    rename_i id off len cap
    have hs' := hs
    simp only [Rep] at hs
    obtain ⟨b, c, x1, rfl, x3, x4⟩ := hs
    cases hb : Nat.beq n 0 with
    | true =>
      rw [hb] at h
      simp only [cond_true] at h
      injection h with h
      injection h with h1 h2
      subst h1; subst h2
      exact ⟨_, w, G, run_append_zero hd hsz _ len c x3 (fun h => by cases h) ux (hzero (Nat.eq_of_beq_eq_true hb)), Le.refl _ _ _, Unb.refl _ _, I, hs'⟩
    | false =>
      rw [hb] at h
      have hn0 : 0 < n := by
        rcases Nat.eq_zero_or_pos n with rfl | h
        · simp at hb
        · exact h
      simp only [cond_false] at h
      have h0 := cond_none h; clear h
      obtain ⟨hq, h⟩ := h0
      have hlen := Nat.le_of_ble_eq_true (by simpa using hq)
      rcases hsrc with ⟨_, h0, _⟩ | ⟨b1, off1, c1, vs, rfl, k1, k2, k3⟩
      · omega
      have hvl := k1.length
      split at h
      rotate_left
      · cases h
      rename_i c'
      obtain rfl := x4 c' rfl
      cases hroom : Nat.ble (len + n) c with
      | true =>
        rw [hroom] at h
        simp only [cond_true, Option.bind_eq_some_iff] at h
        obtain ⟨st1, hst1, h⟩ := h
        injection h with h
        injection h with e1 e2
        subst e1; subst e2
        have hroom := Nat.le_of_ble_eq_true hroom
        have hp : Rep G st w (.ref id (off + len * sz)) (.pointer (some ⟨b, off + len * sz, none⟩)) := by simp only [Rep]; exact ⟨b, x1, rfl⟩
        obtain ⟨b', off', w', e1, s1, s2, s3, s4⟩ := store_does (P := P) I hp k1 q1 hst1
        injection e1 with e1; injection e1 with e1; injection e1 with e1 e2
        subst e1; subst e2
        exact ⟨_, w', G, run_append_inplace hd hsz b off len c n c1 _ vs _ (by rw [hvl, k2]) k3 hroom s1, s2, s3, s4, by simp only [Rep]; exact ⟨b, c, x1, rfl, hroom, x4⟩⟩
      | false =>
        rw [hroom] at h
        simp only [cond_false, Option.bind_eq_some_iff] at h
        obtain ⟨old, hold, h⟩ := h
        injection h with h
        have hc : c < len + n := by
          rcases Nat.lt_or_ge c (len + n) with h | h
          · exact h
          · rw [Nat.ble_eq_true_of_le h] at hroom; cases hroom
        rcases sliceCells_rep I hs' hold rfl with ⟨hh, _⟩ | ⟨b2, off2, c2, ovs, hh, o1, o2, o3⟩
        · cases hh
        · injection hh with hh1 hh2 hh3
          injection hh1 with hh1
          rw [← hh1] at o3
          have ho1 := o1.length
          obtain ⟨v, w', G', f1, f2, f3, f4, f5⟩ := fresh len true old ovs (.halt .blocked w) undef o1 o2 hn0 hlen vs k1 k2 c
          rw [h] at f2 f3 f4 f5
          refine ⟨v, w', G', ?_, f2, f3, f4, f5⟩
          rw [run_append_grow (P := P) w t ty e i zv hd hi hiz ⟨b, off, none⟩ len c ovs (by rw [ho1, o2, his]) o3 ⟨b1, off1, none⟩ n c1 vs (by rw [hvl, k2, his]) k3 hc (by omega) (growslice_ok hc (by omega) (by omega))]
          exact f1
  · cases h

theorem bytesOf_rep : ∀ {cs : List AV} {l : List UInt8} {vs : List Value}, bytesOf cs = some l → RepL G st w cs vs → ∃ ns : List Int, vs = ns.map (Value.int .u8) ∧ ns.map (fun n => UInt8.ofNat n.toNat) = l
  | [], l, vs, h, hr => by
    simp only [bytesOf] at h
    injection h with h
    subst h
    rw [hr.nil_inv]
    exact ⟨[], rfl, rfl⟩
  | c :: cs, l, vs, h, hr => by
    obtain ⟨v, r, rfl, hv, hr2⟩ := hr.cons_inv
    clear hr
    unfold bytesOf at h
    split at h
    · rename_i e; cases e
    · rename_i n r' e
      injection e with e1 e2
      subst e1; subst e2
      simp only [Option.bind_eq_some_iff] at h
      obtain ⟨l', h1, h2⟩ := h
      injection h2 with h2
      subst h2
      simp only [Rep] at hv
      subst hv
      obtain ⟨ns, rfl, rfl⟩ := bytesOf_rep h1 hr2
      exact ⟨n :: ns, rfl, rfl⟩
    · cases h

theorem effOp_sound (I : Inv W0 G st w) {byref : Bool} {ts : List AV} {a : Act} {o : Oper} {v : AV} {st' : St} (hts : RepL G st w ts a.tmps.toList) (h : effOp P byref ts st o.op = some (v, st')) :
    Does W0 G st w ((execOp a.eval o).run P w) v st' := by
  unfold effOp at h
  split at h
  case h_1 t x y hop =>
    simp only [Option.bind_eq_some_iff] at h
    obtain ⟨p, hp, u, hu, st1, h1, h⟩ := h
    injection h with h; injection h with e1 e2; subst e1; subst e2
    obtain ⟨w', k1, k2, k3, k4⟩ := run_storeAt I (Rep.opnd hts hp) (Rep.opnd hts hu) h1
    exact ⟨.skip, Go.undef, w', G, by simp [execOp, hop, k1], .inr ⟨rfl, rfl⟩, k2, k3, k4, Rep.undef⟩
  case h_2 args ats hop =>
    simp only [Option.bind_eq_some_iff] at h
    obtain ⟨vs, hvs, h⟩ := h
    split at h
    · rename_i s x
      have hr := RepL.opnds hts hvs
      obtain ⟨us, l, e1, hs, hr⟩ := hr.cons_inv
      obtain ⟨ux, l', e2, hx, hr⟩ := hr.cons_inv
      have e3 := hr.nil_inv
      subst e3; subst e2
      have hargs : args.map a.eval = #[us, ux] := by
        apply Array.ext'
        simpa using e1
      obtain ⟨r, w', G', k1, k2, k3, k4, k5⟩ := append_sound (ty := o.type) I hs hx h
      exact ⟨_, r, w', G', by simp [execOp, hop, resolve, invoke, builtin, hargs, k1], .inl rfl, k2, k3, k4, k5⟩
    · cases h
  case h_3 s d x hop =>
    simp only [Option.bind_eq_some_iff] at h
    obtain ⟨u, hu, ss, hs, dd, hd, h⟩ := h
    have hr := Rep.opnd hts hu
    split at h
    · rename_i e
      simp only [Option.bind_eq_some_iff] at h
      obtain ⟨ed, he, h⟩ := h
      split at h
      · simp only [Option.bind_eq_some_iff] at h
        obtain ⟨n, hn, cs, hcs, l, hl, h⟩ := h
        injection h with h; injection h with e1 e2; subst e1; subst e2
        have val : ∀ {s : Sem Value} {r : Value}, s.run P w = .ok r w → ((do pure (.value (← s)) : Sem Next)).run P w = .ok (.value r) w := fun h => by simp [h]
        refine Does.value (v := .string ⟨l.toArray⟩) ?_ I (by simp [Rep])
        simp only [execOp, hop]
        refine val ?_
        rcases sliceCells_rep I hr hcs hn with ⟨hh, rfl, rfl⟩ | ⟨b, off, c, vs, hh, o1, o2, o3⟩
        · rw [hh, run_convert_bytes_string w s d e none 0 0 hs he hd]
          simp only [bytesOf] at hl
          injection hl with hl
          subst hl
          rfl
        · obtain ⟨ns, rfl, rfl⟩ := bytesOf_rep hl o1
          have hlen := o1.length
          rw [List.length_map] at hlen
          rw [hh, run_convert_bytes_string w s d e _ n c hs he hd, run_bytesToString w _ n c ns (by
            have := run_loadCells_list (P := P) w ⟨b, off, none⟩ (ns.map (Value.int .u8)) o3
            rw [List.length_map, hlen, o2, Nat.mul_one] at this
            exact this), foldl_push_bytes]
          have he0 : ByteArray.empty.data = #[] := rfl
          rw [he0]
          simp
      · cases h
    · cases h
  case h_4 => cases h

/-- An operation that makes no call does in the model what the evaluator says. -/
theorem aop_sound {C : Cfg} {f : FuncId} (I : Inv W0 G st w) {ts : List AV} {a : Act} {o : Oper} {v : AV} {st' : St} (hts : RepL G st w ts a.tmps.toList) (h : aop C f ts st o = some (v, st')) :
    Does W0 G st w ((execOp a.eval o).run C.P w) v st' := by
  unfold aop at h
  split at h
  · rename_i hk
    simp only [Option.bind_eq_some_iff] at h
    obtain ⟨u, hu, h⟩ := h
    injection h with h; injection h with e1 e2; subst e1; subst e2
    obtain ⟨r, r1, r2⟩ := pureOp_sound (w := w) hts hk hu
    exact Does.value r1 I r2
  · split at h
    · rename_i t x hop
      simp only [Option.bind_eq_some_iff] at h
      obtain ⟨p, hp, u, hu, h⟩ := h
      injection h with h; injection h with e1 e2; subst e1; subst e2
      obtain ⟨r, r1, r2⟩ := run_loadAt I (Rep.opnd hts hp) hu
      exact Does.value (v := r) (by simp [execOp, hop, r1]) I r2
    · cases h
  · rename_i hk
    simp only [Option.bind_eq_some_iff] at h
    obtain ⟨⟨g, x⟩, hx, h⟩ := h
    injection h with h; injection h with e1 e2; subst e1; subst e2
    exact Does.of_makes I (mkOp_sound (I.push x) (RepL.mono (Le.push I x) _ _ hts) hk hx (by simp [St.push]) (push_unborn I) (push_get x))
  · exact effOp_sound I hts h
end
end Go.Ev
