/- Loads, stores, what is new. -/
import Derived.Test.YtgmhnpfpmcccnaaGreatDoorEvI
import Derived.Laws.MakeOwn
import Derived.Laws.AppendOwn
import Derived.Laws.BytesArg
import Derived.Lib.ConvBytes
set_option linter.all false
namespace Go.Ev
open Go.RowKit (Below)

section
variable {P : Program} {W0 : World} {G : Gh} {st : St} {w : World}

/-- What an operation does: its value, the store and the world behind it. -/
def Does (W0 : World) (G : Gh) (st : St) (w : World) (r : Result Next) (a : AV) (st' : St) : Prop :=
  ∃ n v w' G', r = .ok n w' ∧ (n = .value v ∨ n = .skip ∧ v = Go.undef) ∧ Le G st w G' st' w' ∧ Unb G st G' st' ∧ Inv W0 G' st' w' ∧ Rep G' st' w' a v

theorem readAt_rep (I : Inv W0 G st w) {p : AV} {u : Value} {n : Nat} {l : List AV} (hp : Rep G st w p u) (h : readAt st p n = some l) :
    ∃ b off, u = .pointer (some ⟨b, off, none⟩) ∧ RepAt G st w b off l ∧ l.length = n := by
  unfold readAt at h
  split at h
  · rename_i id off
    split at h
    · rename_i cs hcs
      obtain ⟨h1, rfl⟩ := range_some h
      simp only [Rep] at hp
      obtain ⟨b, k0, n0, hb, rfl⟩ := hp
      have := (I.bcell id b k0 n0 _ _ cs hb hcs).1
      refine ⟨b, off, rfl, ?_, by simp; omega⟩
      have := (this.drop off (by omega)).take n
      simpa using this
    · cases h
  · obtain ⟨h1, rfl⟩ := range_some h
    simp only [Rep] at hp
    obtain ⟨b, off, id, m, n', rfl, h2, h3, h4⟩ := hp
    exact ⟨b, off, rfl, by simpa using h4.take n, by simp; omega⟩
  · cases h

theorem run_loadAt (I : Inv W0 G st w) {t : TypeId} {p v : AV} {u : Value} (hp : Rep G st w p u) (h : loadAt P st t p = some v) : ∃ r, (Instr.loadAt t u).run P w = .ok r w ∧ Rep G st w v r := by
  simp only [loadAt, Option.bind_eq_some_iff] at h
  obtain ⟨g, hg, n, hn, l, hl, h⟩ := h
  obtain ⟨b, off, rfl, h1, h2⟩ := readAt_rep I hp hl
  obtain ⟨vs, v1, v2, v3⟩ := h1.values
  unfold shaped at h
  split at h
  · injection h with h
    subst h
    simp only [cond_true] at h2
    have := run_loadCells_list (P := P) w ⟨b, off, none⟩ vs (fun j v hj => by rw [add_addr]; exact v3 j v hj)
    rw [v2, h2] at this
    exact ⟨.agg vs.toArray, by simp [Instr.loadAt, Instr.sureAddr, loadVar, run_agg hg, run_size hn, this], by simp only [Rep]; exact ⟨_, rfl, by simpa using v1⟩⟩
  · split at h
    · injection h with h
      subst h
      obtain ⟨r, l', rfl, hr, hl'⟩ := v1.cons_inv
      have hc := v3 0 r (by simp)
      simp only [Nat.add_zero] at hc
      exact ⟨r, by simp [Instr.loadAt, Instr.sureAddr, loadVar, run_agg hg, hc], hr⟩
    · cases h

theorem store_does (I : Inv W0 G st w) {p : AV} {u : Value} {as : List AV} {vs : List Value} {st' : St} (hp : Rep G st w p u) (hr : RepL G st w as vs) (ho : as.all AV.one = true)
    (h : storeCellsAt st p as = some st') : ∃ b off w', u = .pointer (some ⟨b, off, none⟩) ∧ (storeCells ⟨b, off, none⟩ vs).run P w = .ok () w' ∧ Le G st w G st' w' ∧ Unb G st G st' ∧ Inv W0 G st' w' := by
  unfold storeCellsAt at h
  split at h
  · rename_i id off
    split at h
    · rename_i t uf cs hcs
      obtain ⟨h1, h⟩ := cond_some h
      injection h with h
      subst h
      have h1 := Nat.le_of_ble_eq_true h1
      simp only [Rep] at hp
      obtain ⟨b, k0, n0, hb, rfl⟩ := hp
      obtain ⟨k1, k2', k3, k4, k5, k6⟩ := I.bcell id b k0 n0 t uf cs hb hcs
      obtain ⟨us, u1, u2, u3⟩ := k1.values
      have hlv := hr.length
      refine ⟨b, off, _, rfl, ?_, Le.store I hb _, ?_, I.store hb hcs h1 hr⟩
      · have := run_storeCells_cells (P := P) b off vs 0 w (fun j hj => by
          have hlt : off + j < us.length := by omega
          have := u3 (off + j) us[off + j] (by simp [hlt])
          simp only [Nat.zero_add] at this
          rw [Nat.add_zero, this]; rfl) (fun j hj => by
          have := k6 (off + j) (by omega)
          rwa [Nat.add_zero]) (hr.one ho)
        simpa using this
      · intro i hi hu
        simp only [St.put, Tr.get_set]
        rw [if_neg (by rintro rfl; rw [hu.1] at hb; cases hb)]
        exact ⟨rfl, hu⟩
    · cases h
  · cases h

theorem run_storeAt (I : Inv W0 G st w) {t : TypeId} {p x : AV} {u v : Value} {st' : St} (hp : Rep G st w p u) (hx : Rep G st w x v) (h : storeAt P st t p x = some st') :
    ∃ w', (Instr.storeAt t u v).run P w = .ok () w' ∧ Le G st w G st' w' ∧ Unb G st G st' ∧ Inv W0 G st' w' := by
  simp only [storeAt, Option.bind_eq_some_iff] at h
  obtain ⟨n, hn, h⟩ := h
  obtain ⟨hq, h⟩ := cond_some h
  simp only [Bool.and_eq_true] at hq
  have q1 := Nat.eq_of_beq_eq_true hq.1
  obtain ⟨b, off, w', rfl, h1, h2⟩ := store_does (P := P) I hp hx.cells hq.2 h
  have hl := hx.cells.length
  simp only [Array.length_toList] at hl
  refine ⟨w', ?_, h2⟩
  simp [Instr.storeAt, Instr.sureAddr, storeVar, run_size hn, h1, hl, q1]

/-! ### What is new -/
theorem unborn_born {id i : Nat} {x : Nat × Nat × Nat} (h : G.unborn i) (hne : i ≠ id) : (G.born id x).unborn i := ⟨by simp only [Gh.born]; rw [if_neg hne]; exact h.1, h.2⟩
theorem unborn_grown {id i b m n : Nat} (h : G.unborn i) (hne : i ≠ id) : (G.grown b (id, m, n)).unborn i := ⟨h.1, fun b' m' n' he => by
  simp only [Gh.grown] at he
  split at he
  · injection he with he; injection he with e _; exact hne e.symm
  · exact h.2 _ _ _ he⟩

/-- What an operation makes: the thing that stands in the store gets its block. -/
def Makes (W0 : World) (G : Gh) (st : St) (w : World) (r : Result Next) (id : Nat) (a : AV) : Prop :=
  ∃ v w' G', r = .ok (.value v) w' ∧ Le G st w G' st w' ∧ (∀ i, i ≠ id → G.unborn i → G'.unborn i) ∧ Inv W0 G' st w' ∧ Rep G' st w' a v

theorem makes_block (I : Inv W0 G st w) {id : Nat} {uf : Bool} {cs : List AV} {vs : List Value} {C : Array Value} {t : TypeId} {fr : Nat × Nat} (hid : id < st.next) (hu : G.unborn id)
    (ho : st.objs.get id = some (.cells t uf cs)) (huf : uf = true → C.size = cs.length ∧ fr.2 ≤ fr.1) (hr : RepL G st w cs vs) (hC : ∀ (j : Nat) (v : Value), vs[j]? = some v → C[j]? = some v) (hl : cs.length ≤ C.size) (hfr : fr.2 ≤ fr.1 ∨ C.size ≤ fr.1)
    {r : Result Next} {v : Value} {a : AV} (h : r = .ok (.value v) (w.alloc (.cells C t fr))) (ha : Rep (G.born id (w.heap.size, cs.length, C.size)) st (w.alloc (.cells C t fr)) a v) : Makes W0 G st w r id a :=
  ⟨v, _, _, h, Le.born hu I _, fun _ hne hi => unborn_born hi hne, I.born hid hu ho huf hr hC hl hfr, ha⟩

theorem makes_drew {id : Nat} {r : Result Next} {a : AV} (h : Makes W0 G st w.drew r id a) : Makes W0 G st w r id a := by
  obtain ⟨v, w', G', h1, h2, h3⟩ := h
  exact ⟨v, w', G', h1, Le.drew.trans h2, h3⟩

theorem born_self (id : Nat) (x : Nat × Nat × Nat) : (G.born id x).β id = some x := by simp [Gh.born]

/-- A new slice of these cells. -/
theorem makes_slice (I : Inv W0 G st w) {byref : Bool} {id len sz c : Nat} {cap : Option Nat} {cs : List AV} {vs : List Value} {C : Array Value} {t : TypeId} (hid : id < st.next) (hu : G.unborn id)
    (ho : st.objs.get id = some (newSlice byref t len sz cap cs).2) (hr : RepL G st w cs vs) (hC : ∀ (j : Nat) (v : Value), vs[j]? = some v → C[j]? = some v) (hl : cs.length = len * sz) (hsz : 0 < sz)
    (hcl : len ≤ c) (hcs : c * sz = C.size) (hcap : ∀ k, cap = some k → c = k) {r : Result Next} (h : r = .ok (.value (.slice (some ⟨w.heap.size, 0, none⟩) len c)) (w.alloc (.cells C t))) :
    Makes W0 G st w r id ((newSlice byref t len sz cap cs).1 id) := by
  have hlc : cs.length ≤ C.size := by
    have := Nat.mul_le_mul_right sz hcl
    omega
  cases byref with
  | true =>
    refine makes_block I hid hu ho (fun e => ⟨by
      cases cap with
      | none => cases e
      | some c' =>
        have h1 := hcap c' rfl
        have h2 := Nat.eq_of_beq_eq_true e
        subst h1; subst h2
        omega, Nat.le_refl _⟩) hr hC hlc (.inl (by simp)) h ?_
    simp only [newSlice, Rep]
    exact ⟨_, _, _, c, born_self _ _, rfl, hcl, hcap, fun _ => ⟨by omega, by omega⟩, hsz⟩
  | false =>
    simp only [newSlice] at ho ⊢
    refine ⟨_, _, G.grown w.heap.size (id, cs.length, C.size), h, Le.bornTip I _ _, fun _ hne hi => unborn_grown hi hne, I.bornTip hid hu.1 ho hlc, ?_⟩
    simp only [Rep]
    refine ⟨w.heap.size, 0, c, cs.length, C.size, rfl, by simp [Gh.grown], by simp, ?_, hl, hsz, hcl, hcap, cs.length, ho, Nat.le_refl _, Nat.le_refl _, fun _ _ => ⟨by simp, by simp; omega⟩⟩
    refine RepAt.of_values (RepL.mono (Le.bornTip I _ _) _ _ hr) fun j v hv => ?_
    rw [Nat.zero_add, cell_new]
    exact hC j v hv

theorem RepL.of_get : ∀ {as : List AV} {vs : List Value}, as.length = vs.length → (∀ (i : Nat) a, as[i]? = some a → ∃ v, vs[i]? = some v ∧ Rep G st w a v) → RepL G st w as vs
  | [], vs, hl, _ => by
    have : vs = [] := List.eq_nil_of_length_eq_zero (by simpa using hl.symm)
    rw [this]; exact RepL.nil
  | a :: as, [], hl, _ => by simp at hl
  | a :: as, v :: vs, hl, h => by
    obtain ⟨v', h1, h2⟩ := h 0 a (by simp)
    simp at h1
    subst h1
    exact RepL.cons h2 (RepL.of_get (by simpa using hl) fun i b hb => by
      obtain ⟨u, h1, h2⟩ := h (i + 1) b (by simpa using hb)
      exact ⟨u, by simpa using h1, h2⟩)
theorem repeat_length (z : List AV) : ∀ n, (repeatCells z n).length = n * z.length
  | 0 => by simp [repeatCells]
  | n + 1 => by simp [repeatCells, repeat_length z n, Nat.add_mul]; omega
theorem repeat_get (z : List AV) : ∀ (n i : Nat), i < n * z.length → (repeatCells z n)[i]? = z[i % z.length]?
  | 0, i, h => by simp at h
  | n + 1, i, h => by
    simp only [repeatCells]
    by_cases hi : i < z.length
    · rw [List.getElem?_append_left hi, Nat.mod_eq_of_lt hi]
    · rw [List.getElem?_append_right (by omega), repeat_get z n (i - z.length) (by rw [Nat.add_mul, Nat.one_mul] at h; omega), Nat.mod_eq_sub_mod (a := i) (by omega)]
theorem repeat_rep {z : List AV} {zv : Array Value} (hz : RepL G st w z zv.toList) (n : Nat) : RepL G st w (repeatCells z n) (madeCells zv (n * zv.size)).toList := by
  have hl := hz.length
  simp only [Array.length_toList] at hl
  refine RepL.of_get (by rw [repeat_length]; simp [hl, size_madeCells]) fun i a ha => ?_
  have hi : i < n * z.length := by
    have := (List.getElem?_eq_some_iff.1 ha).1
    rwa [repeat_length] at this
  rw [repeat_get z n i hi] at ha
  obtain ⟨v, h1, h2⟩ := hz.get ha
  refine ⟨v, ?_, h2⟩
  rw [Array.getElem?_toList] at h1 ⊢
  rw [← hl] at h1 hi
  have : (madeCells zv (n * zv.size))[i]? = some zv[i % zv.size]! := by
    simp [madeCells, hi]
  rw [this]
  have hlt : i % zv.size < zv.size := by
    have := (Array.getElem?_eq_some_iff.1 h1).1
    exact this
  rw [Array.getElem?_eq_getElem hlt] at h1
  injection h1 with h1
  rw [← h1]
  simp [hlt]

theorem toList_get {l : List Value} {j : Nat} {v : Value} (h : l[j]? = some v) : l.toArray[j]? = some v := by simpa using h

theorem run_buildSlice {t e : TypeId} {n sz : Nat} {z : Value} {ps : Array (Nat × Value)} {c : Array Value} (hd : P.underlying t = some (.slice e)) (hsz : size? P e = some sz) (hz : (zeroValue e).run P w = .ok z w)
    (hb : n * sz ≤ 16777216) (hf : Instr.fill (fun i => some (i * sz, sz)) (madeCells z.cells (n * sz)) ps.toList = some c) :
    (Instr.buildSlice t n ps).run P w = .ok (.slice (some ⟨w.heap.size, 0, none⟩) n n) (w.alloc (.cells c e)) := by
  have h1 : ¬ n * sz > 2 ^ 24 := by omega
  by_cases h0 : n * sz = 0
  · have e1 : madeCells z.cells (n * sz) = #[] := by rw [h0]; simp [madeCells]
    rw [e1] at hf
    have e2 : ((Array.range (n * sz)).map fun x => (#[] : Array Value)[x % (#[] : Array Value).size]!) = #[] := by rw [h0]; simp
    unfold Instr.buildSlice
    simp only [Sem.run_bind, run_underlying hd, Result.andThen_ok, run_size hsz, h0, if_true, Array.range_zero', Array.map_empty, hf]
    simp [newRow]
  · unfold Instr.buildSlice
    simp only [Sem.run_bind, run_underlying hd, Result.andThen_ok, run_size hsz, h1, if_false, h0, Sem.run_pure, hz]
    simp only [madeCells] at hf
    simp only [hf]
    simp [newRow]

theorem mkOp_sound (I : Inv W0 G st w) {byref : Bool} {ts : List AV} {a : Act} {o : Oper} {f : Nat → AV} {x : AObj} {id : Nat} (hts : RepL G st w ts a.tmps.toList) (hk : opKind P o.op = .mk)
    (h : mkOp P byref ts o.op = some (f, x)) (hid : id < st.next) (hu : G.unborn id) (ho : st.objs.get id = some x) : Makes W0 G st w ((execOp a.eval o).run P w) id (f id) := by
  have val : ∀ {s : Sem Value} {r : Value} {w' : World}, s.run P w = .ok r w' → ((do pure (.value (← s)) : Sem Next)).run P w = .ok (.value r) w' := fun h => by simp [h]
  unfold mkOp at h
  split at h
  case h_1 t hop =>
    simp only [Option.bind_eq_some_iff] at h
    obtain ⟨z, hz, h⟩ := h
    obtain ⟨hq, h⟩ := cond_some h
    injection h with h; injection h with h1 h2; subst h1; subst h2
    obtain ⟨zv, z1, z2, _⟩ := run_zero (G := G) (st := st) hz w
    have hzc := z2.cells
    refine makes_block (t := t) (fr := (0, 0)) I hid hu ho (fun _ => ⟨by have := hzc.length; simp at this; omega, Nat.le_refl _⟩) hzc (fun j v hj => by simpa using hj) (by have := hzc.length; simp at this; omega) (.inl (by simp)) (v := .pointer (some ⟨w.heap.size, 0, none⟩)) ?_ ?_
    · simp only [execOp, hop]
      refine val ?_
      simp [Instr.alloc, z1, newVar, newRow]
    · simp only [Rep]
      exact ⟨_, _, _, born_self _ _, rfl⟩
  case h_2 t y hop =>
    simp only [Option.bind_eq_some_iff] at h
    obtain ⟨v, hv, h⟩ := h
    obtain ⟨hq, h⟩ := cond_some h
    injection h with h; injection h with h1 h2; subst h1; subst h2
    have hzc := (Rep.opnd hts hv).cells
    refine makes_block (t := t) (fr := (0, 0)) I hid hu ho (fun _ => ⟨by have := hzc.length; simp at this; omega, Nat.le_refl _⟩) hzc (fun j v hj => by simpa using hj) (by have := hzc.length; simp at this; omega) (.inl (by simp)) (v := .pointer (some ⟨w.heap.size, 0, none⟩)) ?_ ?_
    · simp only [execOp, hop]
      refine val ?_
      simp [Instr.box, newVar, newRow]
    · simp only [Rep]
      exact ⟨_, _, _, born_self _ _, rfl⟩
  case h_3 t n ps hop =>
    simp only [Option.bind_eq_some_iff] at h
    obtain ⟨l, hl, h⟩ := h
    obtain ⟨q1, q2⟩ := parts_rep hts hl
    simp only [buildSliceOp, Option.bind_eq_some_iff] at h
    obtain ⟨d, hd, h⟩ := h
    split at h
    · rename_i e
      simp only [Option.bind_eq_some_iff] at h
      obtain ⟨sz, hsz, z, hz, h⟩ := h
      have h0 := cond_none h; clear h
      obtain ⟨hq, h⟩ := h0
      simp only [Bool.not_eq_false', Bool.and_eq_true, Bool.not_eq_true'] at hq
      simp only [Option.bind_eq_some_iff] at h
      obtain ⟨cs, hf, h⟩ := h
      obtain ⟨hone, h⟩ := cond_some h
      obtain ⟨zv, z1, z2, _⟩ := run_zero (G := G) (st := st) hz w
      have hb := Nat.le_of_ble_eq_true hq.1.1
      have hzl := Nat.eq_of_beq_eq_true hq.1.2
      have hs0 : 0 < sz := by
        rcases Nat.eq_zero_or_pos sz with rfl | h
        · simp at hq
        · exact h
      have hzc := z2.cells.length
      simp only [Array.length_toList] at hzc
      have hrep := repeat_rep z2.cells n
      rw [show zv.cells.size = sz by omega] at hrep
      obtain ⟨c, c1, c2⟩ := fill_rep _ hrep q1 q2 hf
      have hcl := c2.length
      simp only [Array.length_toList] at hcl
      have hfl : cs.length = n * sz := by
        have : ∀ (ps : List (Nat × AV)) (cells : List AV), fillAV (fun i => some (i * sz, sz)) cells ps = some cs → cs.length = cells.length := by
          intro ps
          induction ps with
          | nil => intro cells h; simp only [fillAV] at h; injection h with h; rw [h]
          | cons p ps ih =>
            intro cells h
            obtain ⟨i, v⟩ := p
            simp only [fillAV, Option.bind_eq_some_iff, Option.some.injEq] at h
            obtain ⟨⟨o', s'⟩, e, h⟩ := h
            injection e with e1 e2
            obtain ⟨hg, h⟩ := cond_some h
            simp only [Bool.and_eq_true] at hg
            have g1 := Nat.eq_of_beq_eq_true hg.1
            have g2 := Nat.le_of_ble_eq_true hg.2
            rw [ih _ h, setRange_length (by omega)]
        rw [this _ _ hf, repeat_length, hzl]
      injection h with h
      have h1 : f = (newSlice byref e n sz (some n) cs).1 := by rw [h]
      have h2 : x = (newSlice byref e n sz (some n) cs).2 := by rw [h]
      subst h1; subst h2
      refine makes_slice (C := c) (t := e) (c := n) I hid hu ho c2 (fun j v hj => by simpa using hj) hfl hs0 (Nat.le_refl _) (by omega) (fun k hk => by injection hk) ?_
      simp only [execOp, hop]
      refine val ?_
      refine run_buildSlice hd hsz z1 hb ?_
      simpa using c1
    · cases h
  case h_4 t l c hop =>
    simp only [Option.bind_eq_some_iff] at h
    obtain ⟨lv, hl, cv, hc, h⟩ := h
    have hlr := Rep.opnd hts hl
    have hcr := Rep.opnd hts hc
    simp only [makeSliceOp, Option.bind_eq_some_iff] at h
    obtain ⟨d, hd, h⟩ := h
    split at h
    · rename_i e
      simp only [Option.bind_eq_some_iff] at h
      obtain ⟨sz, hsz, bs, hbs, z, hz, li, hli, ci, hci, h⟩ := h
      obtain ⟨kl, el⟩ := rep_int hli hlr
      obtain ⟨kc, ec⟩ := rep_int hci hcr
      split at h
      · rename_i ln cn
        obtain ⟨hq, h⟩ := cond_some h
        injection h with h; injection h with h1 h2; subst h1; subst h2
        simp only [Bool.and_eq_true, Bool.not_eq_true'] at hq
        have q1 := Nat.le_of_ble_eq_true hq.1.1.1.1.1
        have q2 := Nat.le_of_ble_eq_true hq.1.1.1.1.2
        have q3 := Nat.le_of_ble_eq_true hq.1.1.1.2
        have q4 := Nat.eq_of_beq_eq_true hq.1.1.2
        obtain ⟨zv, z1, z2, i, hi, hiz⟩ := run_zero (G := G) (st := st) hz w
        obtain ⟨i', hi', his⟩ := info_of_size hsz
        rw [hi] at hi'; injection hi' with hi'; subst hi'
        have hbs' : i.bytes = bs := by
          simp only [bytes?, hi, Option.bind_some, Option.some.injEq] at hbs
          exact hbs
        have hzc := z2.cells.length
        simp only [Array.length_toList] at hzc
        have hrep := repeat_rep z2.cells cn
        have hrl := hrep.length
        simp only [Array.length_toList] at hrl
        have hm : most = 1073741824 := rfl
        have hbig : (i.bytes : Int) * (cn : Int) ≤ 281474976710656 := by
          have : i.bytes * cn ≤ 4096 * 1073741824 := Nat.mul_le_mul (by omega) (by omega)
          have h2 : ((i.bytes * cn : Nat) : Int) ≤ 281474976710656 := by omega
          rwa [Int.natCast_mul] at h2
        refine makes_block (t := e) (fr := (0, 0)) (C := madeCells zv.cells (cn * zv.cells.size)) I hid hu ho (fun _ => ⟨by rw [size_madeCells] at hrl ⊢; omega, Nat.le_refl _⟩) hrep (fun j v hj => by simpa using hj) (by rw [size_madeCells] at hrl ⊢; omega) (.inl (by simp)) (v := .slice (some ⟨w.heap.size, 0, none⟩) ln cn) ?_ ?_
        · simp only [execOp, hop]
          refine val ?_
          rw [el, ec]
          have := run_make (P := P) w t e i zv hd hi hiz kl kc (ln : Int) (cn : Int) (by omega) (by omega) hbig (by omega)
          simp only [Int.toNat_natCast, his] at this
          rw [show zv.cells.size = sz by omega]
          exact this
        · simp only [Rep]
          exact ⟨_, _, _, cn, born_self _ _, rfl, q1, (fun k hk => by injection hk), (fun e => by cases e), (by
            rcases Nat.eq_zero_or_pos sz with h | h
            · have := hq.1.2; rw [h] at this; simp at this
            · exact h)⟩
      · cases h
    · cases h
  case h_5 t r hop =>
    have mk : ∀ (s : Sem Value), s.run P w = .ok (.map (some w.heap.size)) (w.alloc (.map #[] 0)) → (execOp a.eval o).run P w = (do pure (.value (← s)) : Sem Next).run P w → x = .map [] 0 → f id = .map id → Makes W0 G st w ((execOp a.eval o).run P w) id (f id) := by
      rintro s h1 h2 rfl h4
      rw [h2, val h1, h4]
      have hO : OObj G st w (.map [] 0) (.map #[] 0) := ⟨#[], rfl, rfl⟩
      exact ⟨_, _, _, rfl, Le.born hu I _, fun _ hne hi => unborn_born hi hne, I.bornObj hid hu ho hO, by simp only [Rep]; exact ⟨_, _, _, born_self _ _, rfl⟩⟩
    split at h
    · injection h with h; injection h with h1 h2
      refine mk (Instr.makeMap t none) ?_ (by simp only [execOp, hop, Option.map_none]) h2.symm (by rw [← h1])
      simp [Instr.makeMap]
    · rename_i y
      simp only [Option.bind_eq_some_iff] at h
      obtain ⟨v, hv, n, hn, d, hd, h⟩ := h
      obtain ⟨k, e⟩ := rep_int hn (Rep.opnd hts hv)
      split at h
      · injection h with h; injection h with h1 h2
        refine mk (Instr.makeMap t (some (a.eval y))) ?_ (by simp only [execOp, hop, Option.map_some]) h2.symm (by rw [← h1])
        rw [e]
        simp [Instr.makeMap, run_underlying hd, asInt, asIntOf, Result.andThen]
      · cases h
  case h_6 s d y hop =>
    simp only [Option.bind_eq_some_iff] at h
    obtain ⟨v, hv, ss, hs, dd, hd, h⟩ := h
    have hr := Rep.opnd hts hv
    split at h
    · rename_i e s'
      simp only [Option.bind_eq_some_iff] at h
      obtain ⟨ed, he, h⟩ := h
      split at h
      · obtain ⟨hq, h⟩ := cond_some h
        injection h with h; injection h with h1 h2; subst h1; subst h2
        simp only [Rep] at hr
        have hrun := run_bytes_of_string (P := P) w s d e ⟨s'.toArray⟩ hs hd he
        have hsz : (⟨s'.toArray⟩ : ByteArray).size = s'.length := by simp [ByteArray.size]
        rw [hsz] at hrun
        refine makes_drew ?_
        refine makes_block (t := e) (vs := s'.map fun b => .int .u8 (b.toNat : Int)) (C := bytesRow ⟨s'.toArray⟩ (grownCap w s'.length 0 e)) (fr := ((bytesRow ⟨s'.toArray⟩ (grownCap w s'.length 0 e)).size, (bytesRow ⟨s'.toArray⟩ (grownCap w s'.length 0 e)).size + 1))
          I.drew hid hu ho (fun e => by cases e) ?_ ?_ ?_ (.inr (Nat.le_refl _)) (v := .slice (some ⟨w.heap.size, 0, none⟩) s'.length (grownCap w s'.length 0 e)) ?_ ?_
        · refine RepL.of_get (by simp) fun i a ha => ?_
          simp only [List.getElem?_map, Option.map_eq_some_iff] at ha ⊢
          obtain ⟨b, hb, rfl⟩ := ha
          exact ⟨_, ⟨b, hb, rfl⟩, by simp only [Rep]⟩
        · intro j v hj
          simp only [List.getElem?_map, Option.map_eq_some_iff] at hj
          obtain ⟨b, hb, rfl⟩ := hj
          have hlt := (List.getElem?_eq_some_iff.1 hb)
          obtain ⟨h1, h2⟩ := hlt
          rw [bytesRow_at _ _ _ (by simpa using h1)]
          simp [h2]
        · simp [bytesRow]
        · simp only [execOp, hop]
          refine val ?_
          rw [hr]
          exact hrun
        · simp only [Rep]
          exact ⟨_, _, _, _, born_self _ _, rfl, grownCap_ge _ _ _ _, (fun k hk => by cases hk), (fun _ => ⟨by have := grownCap_ge w s'.length 0 e; simp; omega, by simp [bytesRow]; try omega⟩), by omega⟩
      · cases h
    · cases h
  case h_7 => cases h
end
end Go.Ev
