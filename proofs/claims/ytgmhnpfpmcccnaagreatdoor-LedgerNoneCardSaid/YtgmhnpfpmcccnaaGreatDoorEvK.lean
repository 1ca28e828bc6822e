/- Appends, bytes as a text, and: what turns the store does so in the model. -/
import Derived.Test.YtgmhnpfpmcccnaaGreatDoorEvJ
import Derived.Deep.AppendSrc
import Derived.Deep.Upon
import Derived.Lib.UnsafeStr
set_option linter.all false
namespace Go.Ev
open Go.RowKit (Below)

section
variable {P : Program} {W0 : World} {G : Gh} {st : St} {w : World}

theorem Does.value {r : Result Next} {a : AV} {v : Value} (h : r = .ok (.value v) w) (I : Inv W0 G st w) (ha : Rep G st w a v) : Does W0 G st w r a st :=
  ⟨_, v, w, G, h, .inl rfl, Le.refl _ _ _, Unb.refl _ _, I, ha⟩
theorem Does.drew {r : Result Next} {a : AV} {st' : St} (h : Does W0 G st w.drew r a st') : Does W0 G st w r a st' := by
  obtain ⟨n, v, w', G', h1, h2, h3, h4⟩ := h
  exact ⟨n, v, w', G', h1, h2, Le.drew.trans h3, h4⟩
/-- What is pushed and born at once. -/
theorem Does.of_makes (I : Inv W0 G st w) {r : Result Next} {x : AObj} {a : AV} (h : Makes W0 G (st.push x) w r st.next a) : Does W0 G st w r a (st.push x) := by
  obtain ⟨v, w', G', h1, h2, h3, h4, h5⟩ := h
  exact ⟨_, v, w', G', h1, .inl rfl, (Le.push I x).trans h2, (fun i hi hu => ⟨(Unb.push (G := G) x i hi hu).1, h3 i (by omega) hu⟩), h4, h5⟩

/-- A slice's cells. -/
theorem sliceCells_rep (I : Inv W0 G st w) {n sz : Nat} {v : AV} {u : Value} {l : List AV} (hv : Rep G st w v u) (h : sliceCells st n v sz = some l) (hn : ∃ m, lenOf v = some m ∧ n ≤ m) :
    (u = .slice none 0 0 ∧ n = 0 ∧ l = []) ∨ ∃ b off c m vs, u = .slice (some ⟨b, off, none⟩) m c ∧ lenOf v = some m ∧ n ≤ m ∧ RepL G st w l vs ∧ l.length = n * sz ∧ ∀ (j : Nat) x, vs[j]? = some x → w.cell? ((⟨b, off, none⟩ : Addr).add j) = some x := by
  unfold sliceCells at h
  split at h
  · obtain ⟨h1, h⟩ := cond_some h
    injection h with h
    subst h
    simp only [Rep] at hv
    exact .inl ⟨hv, Nat.eq_of_beq_eq_true h1, rfl⟩
  · obtain ⟨h1, h⟩ := cond_some h
    injection h with h
    subst h
    have := Nat.eq_of_beq_eq_true h1
    subst this
    simp only [Rep] at hv
    obtain ⟨b, off, c, rfl⟩ := hv
    exact .inr ⟨b, off, c, 0, [], rfl, rfl, Nat.le_refl _, RepL.nil, by simp, by simp⟩
  · have h0 := cond_some h
    clear h
    obtain ⟨h1, h⟩ := h0
    obtain ⟨h2, rfl⟩ := range_some h
    obtain ⟨m, hm, hnm⟩ := hn
    simp only [lenOf, Option.some.injEq] at hm
    subst hm
    simp only [Rep] at hv
    obtain ⟨b, off, c, m0, n0, rfl, x2, x3, x4, x5, _⟩ := hv
    obtain ⟨vs, v1, v2, v3⟩ := RepAt.values (x4.take (n * sz))
    refine .inr ⟨b, off, c, _, vs, rfl, rfl, hnm, by simpa using v1, by simp; omega, fun j x hx => by rw [add_addr]; exact v3 j x hx⟩
  · rename_i id off len sz' cap
    split at h
    · rename_i t uf cs hcs
      have h0 := cond_some h
      clear h
      obtain ⟨h1, h⟩ := h0
      obtain ⟨h2, rfl⟩ := range_some h
      obtain ⟨m, hm, hnm⟩ := hn
      simp only [lenOf, Option.some.injEq] at hm
      subst hm
      simp only [Rep] at hv
      obtain ⟨b, k0, n0, c, x1, rfl, _⟩ := hv
      have := ((I.bcell id b k0 n0 _ _ cs x1 hcs).1.drop off (by omega)).take (n * sz)
      rw [Nat.zero_add] at this
      obtain ⟨vs, v1, v2, v3⟩ := this.values
      exact .inr ⟨b, off, c, _, vs, rfl, rfl, hnm, v1, by simp; omega, fun j x hx => by rw [add_addr]; exact v3 j x hx⟩
    · cases h
  · cases h

/-- What is appended, or copied, as the model takes it. -/
theorem appended_rep (I : Inv W0 G st w) {t t' e : TypeId} {n sz : Nat} {x : AV} {ux : Value} {new : List AV} (hd : P.underlying t = some (.slice e)) (hx : Rep G st w x ux) (h : appended P st t t' n sz x = some new) (hn : ∃ m, addLen x = some m ∧ n ≤ m) (hone : new.all AV.one = true) :
    ∃ nvs m, ((∃ e', P.underlying t' = some (.slice e')) ∨ P.underlying t' = some .string) ∧ addLen x = some m ∧ (∀ w' : World, (Builtin.lenOf ux).run P w' = .ok m w') ∧ (Builtin.firstCells sz n ux).run P w = .ok nvs.toArray w ∧
      (Builtin.firstCells sz n ux).run P w.drew = .ok nvs.toArray w.drew ∧ nvs.length = n * sz ∧ (∀ u ∈ nvs, u.oneCell' = true) ∧ RepL G st w new nvs ∧ new.length = n * sz := by
  unfold appended at h
  split at h
  · rename_i s
    simp only [Option.bind_eq_some_iff] at h
    obtain ⟨d', hd', h⟩ := h
    split at h
    · have h0 := cond_some h
      clear h
      obtain ⟨hq, h⟩ := h0
      injection h with h
      subst h
      simp only [Bool.and_eq_true] at hq
      have e1 := Nat.eq_of_beq_eq_true hq.1
      have e2 := Nat.le_of_ble_eq_true hq.2
      subst e1
      simp only [Rep] at hx
      subst hx
      have hfc : ∀ w' : World, (Builtin.firstCells 1 n (.string ⟨s.toArray⟩)).run P w' = .ok ((s.take n).map fun b => Value.int .u8 b.toNat).toArray w' := fun w' => by
        simp only [Builtin.firstCells, Sem.run_pure]
        congr 1
        apply Array.ext'
        simp [ByteArray.data_extract]
      refine ⟨(s.take n).map fun b => Value.int .u8 b.toNat, s.length, .inr hd', rfl, fun w' => rfl, hfc w, hfc w.drew, by simp; omega, fun u hu => ?_, RepL.of_get (by simp) fun i a ha => ?_, by simp; omega⟩
      · obtain ⟨_, _, rfl⟩ := List.mem_map.1 hu
        rfl
      · simp only [List.getElem?_map, Option.map_eq_some_iff] at ha ⊢
        obtain ⟨b, hb, rfl⟩ := ha
        exact ⟨_, ⟨b, hb, rfl⟩, by simp only [Rep]⟩
    · cases h
  · rename_i hns
    have h0 := cond_some h
    clear h
    obtain ⟨hq, h⟩ := h0
    have := Nat.eq_of_beq_eq_true hq
    subst this
    have hal : addLen x = lenOf x := by cases x <;> first | rfl | exact absurd rfl (hns _)
    rw [hal] at hn ⊢
    rcases sliceCells_rep I hx h hn with ⟨rfl, rfl, rfl⟩ | ⟨b, off, c, m, vs, rfl, h1, h2, h3, h4, h5⟩
    · obtain ⟨m, hm, _⟩ := hn
      have hm0 : m = 0 := by
        cases x <;> simp only [lenOf, Option.some.injEq] at hm <;> first | (cases hm; done) | skip
        all_goals simp only [Rep] at hx
        all_goals first
          | exact hm.symm
          | (obtain ⟨_, _, _, hx⟩ := hx; cases hx; done)
          | (obtain ⟨_, _, _, _, _, hx, _⟩ := hx; cases hx; done)
      subst hm0
      exact ⟨[], 0, .inl ⟨e, hd⟩, hm, fun _ => rfl, run_firstCells_none w sz 0 0 0, run_firstCells_none w.drew sz 0 0 0, by simp, by simp, RepL.nil, by simp⟩
    · have hvl := h3.length
      have hfc : ∀ w' : World, (∀ (j : Nat) x, vs[j]? = some x → w'.cell? ((⟨b, off, none⟩ : Addr).add j) = some x) → (Builtin.firstCells sz n (.slice (some ⟨b, off, none⟩) m c)).run P w' = .ok vs.toArray w' := fun w' h => by
        have := run_loadCells_list (P := P) w' ⟨b, off, none⟩ vs h
        rw [hvl, h4] at this
        simpa [Builtin.firstCells] using this
      exact ⟨vs, m, .inl ⟨e, hd⟩, h1, fun _ => rfl, hfc w h5, hfc w.drew (by simpa using h5), by omega, h3.one hone, h3, h4⟩

/-- A family's end goes on. -/
theorem Le.tipUp {id h h' : Nat} (ho : st.objs.get id = some (.tip h)) (hh : h ≤ h') : Le G st w G (st.put id (.tip h')) w where
  β i b hb := hb
  ext b i m n he := ⟨m, Nat.le_refl _, he⟩
  cell b i m n j _ _ := rfl
  tip i t ht _ := by
    simp only [St.put, Tr.get_set]
    split
    · subst_vars
      rw [ho] at ht; injection ht with ht; injection ht with ht; subst ht
      exact ⟨h', hh, rfl, fun _ _ _ _ k => k⟩
    · exact ⟨t, Nat.le_refl _, ht, fun _ _ _ _ k => k⟩
  next := Nat.le_refl _
theorem Inv.tipUp (I : Inv W0 G st w) {id h h' : Nat} (ho : st.objs.get id = some (.tip h)) (hh : h ≤ h') (hid : id < st.next) : Inv W0 G (st.put id (.tip h')) w where
  below := I.below
  blt := I.blt
  binj i j b k n k' n' h1 h2 d1 d2 := by
    have live : ∀ i, (st.put id (.tip h')).objs.get i ≠ some .dead → st.objs.get i ≠ some .dead := by
      intro i hi
      simp only [St.put, Tr.get_set] at hi
      split at hi
      · subst_vars; rw [ho]; intro e; cases e
      · exact hi
    exact I.binj i j b k n k' n' h1 h2 (live i d1) (live j d2)
  bext := I.bext
  elt b i m n he := by
    obtain ⟨h1, h2, h3, h4, h5, t, h6⟩ := I.elt b i m n he
    refine ⟨h1, h2, h3, h4, h5, ?_⟩
    simp only [St.put, Tr.get_set]
    split
    · exact ⟨_, rfl⟩
    · exact ⟨t, h6⟩
  ecell := I.ecell
  bcell i b k n t u cs hb hcs := by
    simp only [St.put, Tr.get_set] at hcs
    split at hcs
    · cases hcs
    · obtain ⟨k1, k2⟩ := I.bcell i b k n t u cs hb hcs
      exact ⟨k1.old (Le.tipUp ho hh) fun _ _ => rfl, k2⟩
  bobj i b k n a hb ha hv := by
    simp only [St.put, Tr.get_set] at ha
    split at ha
    · injection ha with ha; subst ha; cases hv
    · obtain ⟨o, j1, j2⟩ := I.bobj i b k n a hb ha hv
      exact ⟨o, j1, j2.mono (Le.tipUp ho hh)⟩
  fresh i hi := by
    simp only [St.put] at hi ⊢
    rw [Tr.get_set, if_neg (by omega)]
    exact I.fresh i hi
theorem Unb.put {id : Nat} {o : AObj} (h : ¬ G.unborn id) : Unb G st G (st.put id o) := fun i _ hu => ⟨by
  simp only [St.put, Tr.get_set]
  rw [if_neg (by rintro rfl; exact h hu)], hu⟩

theorem growslice_ok {need old bytes : Nat} (h : old < need) (hn : need ≤ 2147483648) (hb : bytes ≤ 4096) : Builtin.nextslicecap need old * bytes ≤ 281474976710656 := by
  refine growslice_fits h ?_
  have : need * bytes ≤ 2147483648 * 4096 := Nat.mul_le_mul hn hb
  omega

theorem arr_get {ovs nvs : List Value} {Z : Array Value} {j : Nat} {v : Value} (h : (ovs ++ nvs)[j]? = some v) : (ovs.toArray ++ nvs.toArray ++ Z)[j]? = some v := by
  have hlt := (List.getElem?_eq_some_iff.1 h).1
  have e : ovs.toArray ++ nvs.toArray = (ovs ++ nvs).toArray := by simp
  rw [e, Array.getElem?_append_left (by simpa using hlt)]
  simpa using h
theorem zeroCells_toList (z : Array Value) (n : Nat) : (Builtin.zeroCells z n).size = n * z.size := size_zeroCells z n


theorem cap_append (old new : List Value) (Z : Array Value) : ((old ++ new).toArray ++ Z) = old.toArray ++ new.toArray ++ Z := by simp

theorem append_sound (I : Inv W0 G st w) {byref : Bool} {ats : Array TypeId} {ty : TypeId} {s x a : AV} {us ux : Value} {st' : St} (hs : Rep G st w s us) (hx : Rep G st w x ux)
    (h : appendOp P byref st ats s x = some (a, st')) :
    ∃ v w' G', (Builtin.append_ ats ty #[us, ux]).run P w = .ok v w' ∧ Le G st w G' st' w' ∧ Unb G st G' st' ∧ Inv W0 G' st' w' ∧ Rep G' st' w' a v := by
  unfold appendOp at h
  split at h
  rotate_left
  · cases h
  rename_i t t' hats
  have hats : ats = #[t, t'] := by apply Array.ext'; simpa using hats
  subst hats
  simp only [Option.bind_eq_some_iff] at h
  obtain ⟨d, hd, h⟩ := h
  split at h
  rotate_left
  · cases h
  rename_i e
  simp only [Option.bind_eq_some_iff] at h
  obtain ⟨sz, hsz, bs, hbs, z, hz, n, hn, new, hnew, h⟩ := h
  have h0 := cond_none h; clear h
  obtain ⟨hq, h⟩ := h0
  simp only [Bool.not_eq_false', Bool.and_eq_true, Bool.not_eq_true'] at hq
  obtain ⟨⟨⟨⟨q1, q2⟩, q3⟩, q4⟩, q5⟩ := hq
  have q2 := Nat.le_of_ble_eq_true q2
  have q3 := Nat.le_of_ble_eq_true q3
  have q5 := Nat.eq_of_beq_eq_true q5
  have hs0 : 0 < sz := by
    rcases Nat.eq_zero_or_pos sz with rfl | h
    · simp at q4
    · exact h
  have hmost : most = 1073741824 := rfl
  obtain ⟨zv, z1, z2, i, hi, hiz⟩ := run_zero (G := G) (st := st) hz w
  have his : i.size = sz := by obtain ⟨i', h1, h2⟩ := info_of_size hsz; rw [hi] at h1; injection h1 with h1; subst h1; exact h2
  have hib : i.bytes = bs := by simpa [bytes?, hi] using hbs
  have hzs : zv.cells.size = sz := by have := z2.cells.length; simp only [Array.length_toList] at this; omega
  -- the source
  obtain ⟨vs, m', hkind, hm', hlen', hfc, hfcD, hvl, hvone, k1, k2⟩ := appended_rep (P := P) I hd hx hnew ⟨n, hn, Nat.le_refl _⟩ q1
  have hmn : m' = n := by rw [hn] at hm'; injection hm' with hm'; exact hm'.symm
  subst hmn
  have hsrc : Src P i.size t' ux m' vs w := ⟨hkind, hlen', by rw [his]; exact hfc, by rw [his]; exact hfcD, by rw [his]; exact hvl, hvone⟩
  have zero : ∀ (base : Option Addr) (len c : Nat), len ≤ c → m' = 0 → (Builtin.append_ #[t, t'] ty #[.slice base len c, ux]).run P w = .ok (.slice base len c) w := by
    intro base len c hle h0
    subst h0
    have : vs = [] := List.eq_nil_of_length_eq_zero (by rw [hvl]; simp)
    subst this
    exact run_append_nothing w t t' ty e i hd hi base len c hle ux hsrc
  have grow : ∀ (base : Option Addr) (len c : Nat) (ovs : List Value), (Builtin.firstCells sz len (.slice base len c)).run P w.drew = .ok ovs.toArray w.drew → len ≤ most → c < len + m' → (Builtin.append_ #[t, t'] ty #[.slice base len c, ux]).run P w =
      .ok (.slice (some ⟨w.heap.size, 0, none⟩) (len + m') (grownCap w (len + m') c e)) (w.drew.alloc (.cells (ovs.toArray ++ vs.toArray ++ Builtin.zeroCells zv.cells (grownCap w (len + m') c e - (len + m'))) e)) := by
    intro base len c ovs ho hle hc
    have := run_append_grow_src (P := P) w t t' ty e i zv hd hi hiz base len c ovs (by rw [his]; exact ho) ux m' vs hsrc hc (by omega) (growslice_ok hc (by omega) (by omega))
    rw [this, cap_append]
  -- behind a new array
  have fresh : ∀ {st : St} (I : Inv W0 G st w) (len : Nat) (br : Bool) (old : List AV) (ovs : List Value), RepL G st w old ovs → RepL G st w new vs → old.length = len * sz → 0 < m' → len ≤ most → ∀ oldc,
      ∃ v w' G', (Result.ok (.slice (some ⟨w.heap.size, 0, none⟩) (len + m') (grownCap w (len + m') oldc e)) (w.drew.alloc (.cells (ovs.toArray ++ vs.toArray ++ Builtin.zeroCells zv.cells (grownCap w (len + m') oldc e - (len + m'))) e)) : Result Value) = .ok v w' ∧
        Le G st w G' (st.mk1 (newSlice br e (len + m') sz none (old ++ new))).2 w' ∧ Unb G st G' (st.mk1 (newSlice br e (len + m') sz none (old ++ new))).2 ∧ Inv W0 G' (st.mk1 (newSlice br e (len + m') sz none (old ++ new))).2 w' ∧
        Rep G' (st.mk1 (newSlice br e (len + m') sz none (old ++ new))).2 w' (st.mk1 (newSlice br e (len + m') sz none (old ++ new))).1 v := by
    intro st I len br old ovs h1 h5 h2 h3 h4 oldc
    have hge := grownCap_ge w (len + m') oldc e
    have ho1 := h1.length
    have hn1 := h5.length
    have hcsz : (ovs.toArray ++ vs.toArray ++ Builtin.zeroCells zv.cells (grownCap w (len + m') oldc e - (len + m'))).size = grownCap w (len + m') oldc e * sz := by
      simp only [Array.size_append, List.size_toArray, size_zeroCells, hzs]
      rw [ho1, hn1, h2, k2, ← Nat.add_mul, ← Nat.add_mul]
      congr 1
      omega
    have hI := (I.drew).push (newSlice br e (len + m') sz none (old ++ new)).2
    have hrep : RepL G (st.push (newSlice br e (len + m') sz none (old ++ new)).2) w.drew (old ++ new) (ovs ++ vs) := RepL.mono (Le.drew.trans (Le.push I.drew _)) _ _ (RepL.append h1 h5)
    have hm := makes_slice (W0 := W0) (byref := br) (id := st.next) (len := len + m') (sz := sz) (c := grownCap w (len + m') oldc e) (cap := none) (cs := old ++ new) (vs := ovs ++ vs)
      (C := ovs.toArray ++ vs.toArray ++ Builtin.zeroCells zv.cells (grownCap w (len + m') oldc e - (len + m'))) (t := e) hI (by simp [St.push]) (push_unborn I.drew) (push_get _) hrep
      (fun j v hj => arr_get hj) (by rw [List.length_append, h2, k2, Nat.add_mul]) hs0 hge hcsz.symm (fun k hk => by cases hk) (r := _) rfl
    have hd := Does.drew (Does.of_makes I.drew hm)
    obtain ⟨n', v', w', G', e1, e2, e3, e4, e5, e6⟩ := hd
    injection e1 with e1 e1'
    subst e1'
    refine ⟨_, _, G', rfl, e3, e4, e5, ?_⟩
    rcases e2 with rfl | ⟨rfl, _⟩
    · injection e1 with e1
      subst e1
      exact e6
    · cases e1
  split at h
  · -- nil
    simp only [Rep] at hs
    subst hs
    cases hb : Nat.beq m' 0 with
    | true =>
      rw [hb] at h
      injection h with h
      injection h with h1 h2
      subst h1; subst h2
      have := Nat.eq_of_beq_eq_true hb
      exact ⟨_, w, G, zero none 0 0 (Nat.le_refl _) this, Le.refl _ _ _, Unb.refl _ _, I, by simp [Rep]⟩
    | false =>
      rw [hb] at h
      have hn0 : 0 < m' := by
        rcases Nat.eq_zero_or_pos m' with rfl | h
        · simp at hb
        · exact h
      simp only [cond_false] at h
      injection h with h
      obtain ⟨v, w', G', f1, f2, f3, f4, f5⟩ := fresh I 0 byref [] [] RepL.nil k1 (by simp) hn0 (by omega) 0
      simp only [Nat.zero_add, List.nil_append] at f1 f2 f3 f4 f5
      rw [h] at f2 f3 f4 f5
      refine ⟨v, w', G', ?_, f2, f3, f4, f5⟩
      have := grow none 0 0 [] (run_firstCells_none w.drew sz 0 0 0) (by omega) (by omega)
      simp only [Nat.zero_add] at this
      rw [this]
      exact f1
  · -- by value
    rename_i id e0 len sz' cap cs
    have hs' := hs
    simp only [Rep] at hs
    obtain ⟨b, off, c, m0, n0, rfl, x2, x3, x4, x5, x6, x7, x8, t0, x9, x10, x11, x12⟩ := hs
    cases hb : Nat.beq m' 0 with
    | true =>
      rw [hb] at h
      simp only [cond_true] at h
      injection h with h
      injection h with h1 h2
      subst h1; subst h2
      exact ⟨_, w, G, zero _ len c x7 (Nat.eq_of_beq_eq_true hb), Le.refl _ _ _, Unb.refl _ _, I, hs'⟩
    | false =>
      rw [hb] at h
      have hn0 : 0 < m' := by
        rcases Nat.eq_zero_or_pos m' with rfl | h
        · simp at hb
        · exact h
      simp only [cond_false] at h
      have h0 := cond_none h; clear h
      obtain ⟨hq, h⟩ := h0
      simp only [Bool.not_eq_false', Bool.and_eq_true] at hq
      have hlen := Nat.le_of_ble_eq_true hq.1
      have hsz' : sz = sz' := Nat.eq_of_beq_eq_true hq.2
      subst hsz'
      obtain ⟨ovs, o1, o2, o3⟩ := x4.values
      have hold : (Builtin.firstCells sz len (.slice (some ⟨b, off, none⟩) len c)).run P w.drew = .ok ovs.toArray w.drew := by
        have := run_loadCells_list (P := P) w.drew ⟨b, off, none⟩ ovs (fun j v hj => by rw [add_addr]; exact o3 j v hj)
        rw [o2, x5] at this
        simpa [Builtin.firstCells] using this
      cases hcap : cap.any fun c => Nat.blt c (len + m') with
      | true =>
        rw [hcap] at h
        simp only [cond_true] at h
        injection h with h
        have hcc : c < len + m' := by
          cases cap with
          | none => simp at hcap
          | some c' => rw [x8 c' rfl]; exact blt_lt (by simpa using hcap)
        obtain ⟨v, w', G', f1, f2, f3, f4, f5⟩ := fresh I len byref cs ovs o1 k1 x5 hn0 hlen c
        rw [h] at f2 f3 f4 f5
        exact ⟨v, w', G', by rw [grow _ len c ovs hold hlen hcc]; exact f1, f2, f3, f4, f5⟩
      | false =>
        rw [hcap] at h
        simp only [cond_false] at h
        split at h
        rotate_left
        · cases h
        rename_i h1 hget
        obtain ⟨hq2, h⟩ := cond_some h
        simp only [Bool.and_eq_true, Bool.not_eq_true'] at hq2
        have hh : h1 = e0 := Nat.eq_of_beq_eq_true hq2.1
        subst hh
        injection h with h
        injection h with e1 e2
        subst e1; subst e2
        rw [x9] at hget
        injection hget with hget
        injection hget with hget
        subst hget
        have hborn : ¬ G.unborn id := fun hu => hu.2 _ _ _ x2
        have hids := I.elt b id m0 n0 x2
        have hcn : (cs ++ new).length = (len + m') * sz := by rw [List.length_append, x5, k2, Nat.add_mul]
        by_cases hroom : len + m' ≤ c
        · obtain ⟨y1, y2⟩ := x12 rfl (by omega)
          have hmul : (len + m') * sz ≤ c * sz := Nat.mul_le_mul_right _ hroom
          have hmk : m0 + new.length ≤ n0 := by
            rw [Nat.add_mul] at hmul
            omega
          have e3 : off + len * sz = m0 := by omega
          have hst : (storeCells ⟨b, off + len * sz, none⟩ vs).run P w = .ok () (w.setCells b m0 vs) := by
            rw [e3]
            have := run_storeCells_cells (P := P) b m0 vs 0 w (fun j hj => by
              have := (I.ecell b id m0 n0 (m0 + j) x2 (by omega)).1
              simpa using this) (fun j hj => by
              have := (I.ecell b id m0 n0 (m0 + j) x2 (by omega)).2
              simpa using this) (k1.one q1)
            simpa using this
          have L := Le.grow (w := w) (k := new.length) (vs := vs) x2 x9
          have hrun := run_append_room_src (P := P) w t t' ty e i hd hi b off len c ux m' vs hsrc hroom (fun j hj => by rw [his, e3]; exact (I.ecell b id m0 n0 (m0 + j) x2 (by omega)).1) (fun j hj => by rw [his, e3]; exact (I.ecell b id m0 n0 (m0 + j) x2 (by omega)).2)
          rw [his, e3] at hrun
          refine ⟨_, _, _, hrun, L, ?_, I.grow x2 x9 hmk, ?_⟩
          · intro j hj hu
            exact ⟨((Unb.put (st := st) (o := .tip (t0 + new.length)) hborn) j hj hu).1, unborn_grown hu (by rintro rfl; exact hborn hu)⟩
          · simp only [Rep]
            refine ⟨b, off, c, m0 + new.length, n0, rfl, by simp [Gh.grown], by simp; omega, ?_, hcn, x6, hroom, x8, t0 + new.length, by simp [St.put, Tr.get_set], Nat.le_refl _, by simp; omega, fun _ _ => ⟨by simp; omega, y2⟩⟩
            rw [RepAt.append]
            refine ⟨RepAt.mono L b off m0 id n0 x2 cs x3 x4, ?_⟩
            rw [y1]
            refine RepAt.of_values (RepL.mono L _ _ k1) fun j v hv => ?_
            have hj := (List.getElem?_eq_some_iff.1 hv).1
            rw [World.cell?_setCells_in b vs m0 w (fun i hi => (I.ecell b id m0 n0 (m0 + i) x2 (by omega)).1) j hj]
            rw [List.getElem?_eq_getElem hj] at hv
            exact hv
        · have hc : c < len + m' := by omega
          have hge := grownCap_ge w (len + m') c e
          have ho1 := o1.length
          have hcsz : (ovs.toArray ++ vs.toArray ++ Builtin.zeroCells zv.cells (grownCap w (len + m') c e - (len + m'))).size = grownCap w (len + m') c e * sz := by
            simp only [Array.size_append, List.size_toArray, size_zeroCells, hzs]
            rw [o2, hvl, x5, ← Nat.add_mul, ← Nat.add_mul]
            congr 1
            omega
          have hmul : (len + m') * sz ≤ grownCap w (len + m') c e * sz := Nat.mul_le_mul_right _ hge
          have I1 := I.drew.tipUp x9 (h' := t0 + new.length) (by omega) hids.2.2.1
          have L1 : Le G st w G (st.put id (.tip (t0 + new.length))) w.drew := Le.drew.trans (Le.tipUp x9 (by omega))
          have hget' : (st.put id (.tip (t0 + new.length))).objs.get id = some (.tip (t0 + new.length)) := by simp [St.put, Tr.get_set]
          have L2 := Le.bornTip I1 (id, (cs ++ new).length, (ovs.toArray ++ vs.toArray ++ Builtin.zeroCells zv.cells (grownCap w (len + m') c e - (len + m'))).size)
            (.cells (ovs.toArray ++ vs.toArray ++ Builtin.zeroCells zv.cells (grownCap w (len + m') c e - (len + m'))) e)
          have I2 := I1.bornTip (C := ovs.toArray ++ vs.toArray ++ Builtin.zeroCells zv.cells (grownCap w (len + m') c e - (len + m'))) (t := e) (m := (cs ++ new).length) hids.2.2.1 hids.2.2.2.2.1 hget' (by omega)
          refine ⟨_, _, _, grow _ len c ovs hold hlen hc, L1.trans L2, ?_, I2, ?_⟩
          · intro j hj hu
            exact ⟨((Unb.put (st := st) (o := .tip (t0 + new.length)) hborn) j hj hu).1, unborn_grown hu (by rintro rfl; exact hborn hu)⟩
          · simp only [Rep]
            refine ⟨w.heap.size, 0, grownCap w (len + m') c e, (cs ++ new).length, _, rfl, by simp [Gh.grown]; rfl, by simp, ?_, hcn, x6, hge, fun k hk => ?_, t0 + new.length, hget', Nat.le_refl _, by simp; omega, fun _ _ => ⟨by simp, ?_⟩⟩
            · refine RepAt.of_values (RepL.mono (L1.trans L2) _ _ (RepL.append o1 k1)) fun j v hv => ?_
              rw [Nat.zero_add]
              have := cell_new (w := w.drew) (ovs.toArray ++ vs.toArray ++ Builtin.zeroCells zv.cells (grownCap w (len + m') c e - (len + m'))) e (0, 0) j
              rw [show w.heap.size = w.drew.heap.size from rfl, this]
              exact arr_get hv
            · subst hk
              have := x8 k rfl
              subst this
              have : Nat.blt c (len + m') = true := Nat.ble_eq_true_of_le hc
              simp [this] at hcap
            · rw [Nat.zero_add]
              simp only [Array.size_append, List.size_toArray] at hcsz
              exact Nat.le_of_eq hcsz.symm
  · -- by reference
    rename_i id off len sz' cap
    have hs' := hs
    simp only [Rep] at hs
    obtain ⟨b, k0, n0, c, x1, rfl, x3, x4, x5, x6⟩ := hs
    cases hb : Nat.beq m' 0 with
    | true =>
      rw [hb] at h
      simp only [cond_true] at h
      injection h with h
      injection h with h1 h2
      subst h1; subst h2
      exact ⟨_, w, G, zero _ len c x3 (Nat.eq_of_beq_eq_true hb), Le.refl _ _ _, Unb.refl _ _, I, hs'⟩
    | false =>
      rw [hb] at h
      have hn0 : 0 < m' := by
        rcases Nat.eq_zero_or_pos m' with rfl | h
        · simp at hb
        · exact h
      simp only [cond_false] at h
      have h0 := cond_none h; clear h
      obtain ⟨hq, h⟩ := h0
      simp only [Bool.not_eq_false', Bool.and_eq_true] at hq
      have hlen := Nat.le_of_ble_eq_true hq.1
      have hsz' : sz = sz' := Nat.eq_of_beq_eq_true hq.2
      subst hsz'
      -- there is room in what is known
      have inplace : ∀ {st1 : St} (cap' : Option Nat), cap' = cap → len + m' ≤ c → storeCellsAt st (.ref id (off + len * sz)) new = some st1 →
          ∃ v w' G', (Builtin.append_ #[t, t'] ty #[.slice (some ⟨b, off, none⟩) len c, ux]).run P w = .ok v w' ∧ Le G st w G' st1 w' ∧ Unb G st G' st1 ∧ Inv W0 G' st1 w' ∧ Rep G' st1 w' (.sref id off (len + m') sz cap') v := by
        rintro st1 _ rfl hroom hst1
        have hp : Rep G st w (.ref id (off + len * sz)) (.pointer (some ⟨b, off + len * sz, none⟩)) := by simp only [Rep]; exact ⟨b, k0, n0, x1, rfl⟩
        obtain ⟨b', off', w', e1, s1, s2, s3, s4⟩ := store_does (P := P) I hp k1 q1 hst1
        injection e1 with e1; injection e1 with e1; injection e1 with e1 e2
        subst e1; subst e2
        refine ⟨_, w', G, ?_, s2, s3, s4, by simp only [Rep]; exact ⟨b, k0, n0, c, x1, rfl, hroom, x4, x5, x6⟩⟩
        rcases hsrc.kind with ⟨e', hk⟩ | hk <;> simp [Builtin.append_, run_underlying hd, run_underlying hk, sizeOf, typeInfo, hi, hsrc.len, hroom, hfc, add_addr, his, s1]
      split at h
      · rename_i c'
        obtain rfl := x4 c' rfl
        cases hroom : Nat.ble (len + m') c with
        | true =>
          rw [hroom] at h
          simp only [cond_true, Option.bind_eq_some_iff] at h
          obtain ⟨st1, hst1, h⟩ := h
          injection h with h
          injection h with e1 e2
          subst e1; subst e2
          exact inplace _ rfl (Nat.le_of_ble_eq_true hroom) hst1
        | false =>
          rw [hroom] at h
          simp only [cond_false, Option.bind_eq_some_iff] at h
          obtain ⟨old, hold, h⟩ := h
          injection h with h
          have hc : c < len + m' := by
            rcases Nat.lt_or_ge c (len + m') with h | h
            · exact h
            · rw [Nat.ble_eq_true_of_le h] at hroom; cases hroom
          rcases sliceCells_rep I hs' hold ⟨len, rfl, Nat.le_refl _⟩ with ⟨hh, _⟩ | ⟨b2, off2, c2, m2, ovs, hh, _, _, o1, o2, o3⟩
          · cases hh
          · injection hh with hh1 hh2 hh3
            injection hh1 with hh1
            rw [← hh1] at o3
            have ho1 := o1.length
            have hold' : (Builtin.firstCells sz len (.slice (some ⟨b, off, none⟩) len c)).run P w.drew = .ok ovs.toArray w.drew := by
              have := run_loadCells_list (P := P) w.drew ⟨b, off, none⟩ ovs (by simpa using o3)
              rw [ho1, o2] at this
              simpa [Builtin.firstCells] using this
            obtain ⟨v, w', G', f1, f2, f3, f4, f5⟩ := fresh I len true old ovs o1 k1 o2 hn0 hlen c
            rw [h] at f2 f3 f4 f5
            exact ⟨v, w', G', by rw [grow _ len c ovs hold' hlen hc]; exact f1, f2, f3, f4, f5⟩
      · obtain ⟨y1, y2⟩ := x5 rfl
        split at h
        · rename_i ct uf cs hcs
          obtain ⟨j1, j2, j3, j4, j5, j6⟩ := I.bcell id b k0 n0 ct uf cs x1 hcs
          cases hroom : Nat.ble (off + (len + m') * sz) cs.length with
          | true =>
            rw [hroom] at h
            simp only [cond_true, Option.bind_eq_some_iff] at h
            obtain ⟨st1, hst1, h⟩ := h
            injection h with h
            injection h with e1 e2
            subst e1; subst e2
            have hroom := Nat.le_of_ble_eq_true hroom
            have hle : len + m' ≤ c := by
              have : (len + m') * sz ≤ c * sz := by omega
              exact Nat.le_of_mul_le_mul_right this x6
            exact inplace _ rfl hle hst1
          | false =>
            rw [hroom] at h
            simp only [cond_false] at h
            have h0 := cond_some h
            clear h
            obtain ⟨hq, h⟩ := h0
            simp only [Bool.and_eq_true] at hq
            have e0 := Nat.eq_of_beq_eq_true hq.1.1
            have e1 := Nat.le_of_ble_eq_true hq.1.2
            have hct : ct = e := Nat.eq_of_beq_eq_true hq.2
            subst e0
            simp only [Nat.zero_add] at y1 y2 hroom
            injection h with h
            have hmul : (len + m') * sz = len * sz + m' * sz := Nat.add_mul _ _ _
            obtain ⟨ovs', o1, o2, o3⟩ := (j1.take (len * sz)).values
            simp only [Nat.zero_add] at o3
            have htl : (cs.take (len * sz)).length = len * sz := by simp; omega
            rcases Nat.lt_or_ge c (len + m') with hc | hc
            · -- a new array
              have hold' : (Builtin.firstCells sz len (.slice (some ⟨b, 0, none⟩) len c)).run P w.drew = .ok ovs'.toArray w.drew := by
                have := run_loadCells_list (P := P) w.drew ⟨b, 0, none⟩ ovs' (fun j v hj => by rw [add_addr, Nat.zero_add]; exact o3 j v hj)
                rw [o2, htl] at this
                simpa [Builtin.firstCells] using this
              have L1 := Le.kill I x1
              have I1 := I.kill x1 hcs (by intro e; cases e)
              obtain ⟨v, w', G', f1, f2, f3, f4, f5⟩ := fresh I1 len true (cs.take (len * sz)) ovs' (RepL.mono L1 _ _ o1) (RepL.mono L1 _ _ k1) htl hn0 hlen c
              rw [h] at f2 f3 f4 f5
              refine ⟨v, w', G', by rw [grow _ len c ovs' hold' hlen hc]; exact f1, L1.trans f2, ?_, f4, f5⟩
              exact (Unb.put (by intro hu; rw [hu.1] at x1; cases x1)).trans (Nat.le_refl _) f3
            · -- in place: the block goes over
              have hm1 : (len + m') * sz ≤ c * sz := Nat.mul_le_mul_right _ hc
              have hrun := run_append_room_src (P := P) w t t' ty e i hd hi b 0 len c ux m' vs hsrc hc (fun j hj => cell_of_shape j5 (by rw [his]; omega)) (fun j hj => by rw [his]; exact j6 _ (by omega))
              rw [his, Nat.zero_add] at hrun
              have hlr : (cs.take (len * sz) ++ new).length = (len + m') * sz := by rw [List.length_append, htl, k2, hmul]
              subst hct
              have L := Le.moved (off := len * sz) (vs := vs) (as := cs.take (len * sz) ++ new) (t := ct) I x1
              have hmoved := I.moved (off := len * sz) (vs := vs) (as := cs.take (len * sz) ++ new) (us := ovs' ++ vs) x1 hcs (RepL.append o1 k1) (fun j u hu => by
                rcases Nat.lt_or_ge j ovs'.length with hj | hj
                · rw [List.getElem?_append_left hj] at hu
                  rw [World.cell?_setCells_out b vs (len * sz) w _ (fun _ => by simp; omega)]
                  exact o3 j u hu
                · rw [List.getElem?_append_right hj] at hu
                  have hjv := (List.getElem?_eq_some_iff.1 hu).1
                  have := World.cell?_setCells_in b vs (len * sz) w (fun i hi => cell_of_shape j5 (by omega)) (j - ovs'.length) hjv
                  rw [show len * sz + (j - ovs'.length) = j by omega] at this
                  rw [this]
                  rw [List.getElem?_eq_getElem hjv] at hu
                  exact hu) (by rw [hlr]; omega)
              simp only [newSlice, St.mk1] at h
              injection h with h1 h2
              subst h1; subst h2
              refine ⟨_, _, _, hrun, L, ?_, hmoved, ?_⟩
              · refine ((Unb.put (o := .dead) (by intro hu; rw [hu.1] at x1; cases x1)).trans (Nat.le_refl _) ?_ : Unb G st _ _)
                intro i hi hu
                refine ⟨(Unb.push (G := G) _ i hi hu).1, unborn_born hu (by have : i < st.next := hi; omega)⟩
              · simp only [Rep]
                refine ⟨b, _, _, c, born_self _ _, rfl, hc, (fun k hk => by cases hk), (fun _ => ⟨?_, ?_⟩), x6⟩
                · rw [hlr]; omega
                · omega
        · cases h
  · cases h

theorem bytesOf_rep : ∀ {cs : List AV} {l : List UInt8} {vs : List Value}, bytesOf cs = some l → RepL G st w cs vs → ∃ ns : List Int, vs = ns.map (Value.int .u8) ∧ ns.map (fun n => UInt8.ofNat n.toNat) = l
  | [], l, vs, h, hr => by
    simp only [bytesOf] at h
    injection h with h
    subst h
    rw [hr.nil_inv]
    exact ⟨[], rfl, rfl⟩
  | c :: cs, l, vs, h, hr => by
    obtain ⟨v, r, rfl, hv, hr2⟩ := hr.cons_inv
    clear hr
    unfold bytesOf at h
    split at h
    · rename_i e; cases e
    · rename_i n r' e
      injection e with e1 e2
      subst e1; subst e2
      simp only [Option.bind_eq_some_iff] at h
      obtain ⟨l', h1, h2⟩ := h
      injection h2 with h2
      subst h2
      simp only [Rep] at hv
      subst hv
      obtain ⟨ns, rfl, rfl⟩ := bytesOf_rep h1 hr2
      exact ⟨n :: ns, rfl, rfl⟩
    · cases h


end
end Go.Ev
