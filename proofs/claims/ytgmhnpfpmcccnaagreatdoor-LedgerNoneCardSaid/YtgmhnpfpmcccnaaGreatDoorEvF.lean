/- Births, stores and appends, told of the whole. -/
import Derived.Test.YtgmhnpfpmcccnaaGreatDoorEvE
import Derived.RangeFuncRecord
set_option linter.all false
namespace Go.Ev
open Go.RowKit (Below)

section
variable {W0 : World} {G : Gh} {st : St} {w : World}

theorem RepAt.old {b off : Nat} {cs : List AV} (h : RepAt G st w b off cs) {G' : Gh} {st' : St} {w' : World} (L : Le G st w G' st' w')
    (hc : ∀ j, j < cs.length → w'.cell? ⟨b, off + j, none⟩ = w.cell? ⟨b, off + j, none⟩) : RepAt G' st' w' b off cs := by
  obtain ⟨vs, h1, h2, h3⟩ := h.values
  refine RepAt.of_values (RepL.mono L _ _ h1) fun j v hv => ?_
  have hj : j < cs.length := by
    rw [← h2]
    exact (List.getElem?_eq_some_iff.1 hv).1
  rw [hc j hj]
  exact h3 j v hv

theorem obj_old {o : Obj} {b : Nat} (h : b < w.heap.size) : (w.alloc o).heap[b]? = w.heap[b]? := Below.heap_alloc w o b h

theorem Le.born {id : Nat} {x : Nat × Nat × Nat} (hu : G.unborn id) (I : Inv W0 G st w) (o : Obj) : Le G st w (G.born id x) st (w.alloc o) where
  β i b hb := by
    simp only [Gh.born]
    rw [if_neg (by rintro rfl; rw [hu.1] at hb; cases hb)]
    exact hb
  ext b i m n h := ⟨m, Nat.le_refl _, h⟩
  cell b i m n off h _ := cell_old (I.elt b i m n h).2.1
  tip i h hh _ := ⟨h, Nat.le_refl _, hh, fun _ _ _ _ k => k⟩
  next := Nat.le_refl _

/-- What is not the block that is born stays as it was. -/
theorem Inv.born_old (I : Inv W0 G st w) {id k n : Nat} {o : Obj} (hid : id < st.next) (hu : G.unborn id)
    (hc : ∀ t u cs, st.objs.get id = some (.cells t u cs) → RepAt (G.born id (w.heap.size, k, n)) st (w.alloc o) w.heap.size 0 cs ∧ cs.length = k ∧ k ≤ n ∧ (u = true → n = k ∧ (w.alloc o).frozen? ⟨w.heap.size, n, none⟩ = false) ∧ (w.alloc o).shape? w.heap.size = some (t, n) ∧ ∀ i, i < n → (w.alloc o).frozen? ⟨w.heap.size, i, none⟩ = false)
    (ho : ∀ a, st.objs.get id = some a → a.heavy = true → OObj (G.born id (w.heap.size, k, n)) st (w.alloc o) a o) :
    Inv W0 (G.born id (w.heap.size, k, n)) st (w.alloc o) := by
  have L := Le.born (x := (w.heap.size, k, n)) hu I o
  refine ⟨I.below.alloc I.below.size _, ?_, ?_, ?_, ?_, ?_, ?_, ?_, I.fresh⟩
  · intro i b k' n' hb
    simp only [Gh.born] at hb
    split at hb
    · injection hb with hb; injection hb with e1 e2; subst e1; subst_vars; exact ⟨I.below.size, by simp, hid⟩
    · obtain ⟨h1, h2, h3⟩ := I.blt i b k' n' hb; exact ⟨h1, by simp; omega, h3⟩
  · intro i j b k1 n1 k2 n2 hi hj d1 d2
    simp only [Gh.born] at hi hj
    split at hi <;> split at hj
    · subst_vars; rfl
    · injection hi with hi; injection hi with hi _; subst hi; exact absurd (I.blt _ _ _ _ hj).2.1 (by omega)
    · injection hj with hj; injection hj with hj _; subst hj; exact absurd (I.blt _ _ _ _ hi).2.1 (by omega)
    · exact I.binj i j b k1 n1 k2 n2 hi hj d1 d2
  · intro i b k1 n1 hb
    simp only [Gh.born] at hb ⊢
    split at hb
    · injection hb with hb
      injection hb with hb _
      subst hb
      cases he : G.ext w.heap.size with
      | none => rfl
      | some x => obtain ⟨x1, x2, x3⟩ := x; exact absurd (I.elt _ _ _ _ he).2.1 (by omega)
    · exact I.bext i b k1 n1 hb
  · intro b i m n h
    obtain ⟨h1, h2, h3, h4, h5, h6⟩ := I.elt b i m n h
    refine ⟨h1, by simp; omega, h3, h4, ?_, h6⟩
    simp only [Gh.born]
    rw [if_neg (by rintro rfl; exact hu.2 _ _ _ h)]
    exact h5
  · intro b i m n j h hj
    have hb := (I.elt b i m n h).2.1
    rw [cell_old hb, frozen_old hb]
    exact I.ecell b i m n j h hj
  · intro i b k1 n1 t u cs' hb hcs
    simp only [Gh.born] at hb
    split at hb
    · injection hb with hb
      injection hb with e1 e2
      injection e2 with e2 e3
      subst e1; subst e2; subst e3
      subst_vars
      exact hc t u cs' hcs
    · obtain ⟨h1, h2, h3⟩ := I.blt i b k1 n1 hb
      obtain ⟨k1, k2, k3, k4, k5, k6⟩ := I.bcell i b k1 n1 t u cs' hb hcs
      exact ⟨k1.old L fun j _ => cell_old h2, k2, k3, fun hu => ⟨(k4 hu).1, by rw [frozen_old h2]; exact (k4 hu).2⟩, by rw [shape_block (obj_old h2)]; exact k5, fun j hj => by rw [frozen_old h2]; exact k6 j hj⟩
  · intro i b k1 n1 a hb ha hv
    simp only [Gh.born] at hb
    split at hb
    · injection hb with hb
      injection hb with e1 e2
      subst e1
      subst_vars
      exact ⟨o, World.alloc_heap_new w o, ho a ha hv⟩
    · obtain ⟨h1, h2, h3⟩ := I.blt i b k1 n1 hb
      obtain ⟨o', j1, j2⟩ := I.bobj i b k1 n1 a hb ha hv
      exact ⟨o', by rw [obj_old h2]; exact j1, j2.mono L⟩

/-- A thing that stands in the store already gets its block. -/
theorem Inv.born (I : Inv W0 G st w) {id : Nat} {u : Bool} {cs : List AV} {vs : List Value} {C : Array Value} {t : TypeId} {fr : Nat × Nat} (hid : id < st.next) (hu : G.unborn id)
    (ho : st.objs.get id = some (.cells t u cs)) (huf : u = true → C.size = cs.length ∧ fr.2 ≤ fr.1) (hr : RepL G st w cs vs) (hC : ∀ (j : Nat) (v : Value), vs[j]? = some v → C[j]? = some v) (hl : cs.length ≤ C.size) (hfr : fr.2 ≤ fr.1 ∨ C.size ≤ fr.1) :
    Inv W0 (G.born id (w.heap.size, cs.length, C.size)) st (w.alloc (.cells C t fr)) := by
  have L := Le.born (x := (w.heap.size, cs.length, C.size)) hu I (.cells C t fr)
  refine I.born_old hid hu ?_ ?_
  · intro t' u' cs' hcs
    rw [ho] at hcs
    injection hcs with hcs
    injection hcs with e1 e2 e3
    subst e1; subst e2; subst e3
    refine ⟨RepAt.of_values (RepL.mono L _ _ hr) fun j v hv => ?_, rfl, hl, fun hu => ⟨(huf hu).1, frozen_end C t fr _ (huf hu).2⟩, shape_new C t fr, fun j hj => frozen_new C t fr j hfr hj⟩
    rw [Nat.zero_add, cell_new]
    exact hC j v hv
  · intro a ha hv
    rw [ho] at ha
    injection ha with ha
    subst ha
    cases hv
/-- A thing that is no row of cells gets its block. -/
theorem Inv.bornObj (I : Inv W0 G st w) {id : Nat} {a : AObj} {o : Obj} (hid : id < st.next) (hu : G.unborn id) (ho : st.objs.get id = some a) (h : OObj G st w a o) :
    Inv W0 (G.born id (w.heap.size, 0, 0)) st (w.alloc o) := by
  have L := Le.born (x := (w.heap.size, 0, 0)) hu I o
  refine I.born_old hid hu ?_ ?_
  · intro t' u' cs' hcs
    rw [ho] at hcs
    injection hcs with hcs
    subst hcs
    cases h
  · intro a' ha hv
    rw [ho] at ha
    injection ha with ha
    subst ha
    exact h.mono L

theorem Le.bornTip (I : Inv W0 G st w) (x : Nat × Nat × Nat) (o : Obj) : Le G st w (G.grown w.heap.size x) st (w.alloc o) where
  β i b hb := hb
  ext b i m n h := ⟨m, Nat.le_refl _, by
    simp only [Gh.grown]
    rw [if_neg (by have := (I.elt b i m n h).2.1; omega)]
    exact h⟩
  cell b i m n off h _ := cell_old (I.elt b i m n h).2.1
  tip i h hh _ := ⟨h, Nat.le_refl _, hh, fun _ b m n k => by
    simp only [Gh.grown]
    rw [if_neg (by have := (I.elt b i m n k).2.1; omega)]
    exact k⟩
  next := Nat.le_refl _

/-- A family gets a new block, of which so many cells stand for good. -/
theorem Inv.bornTip (I : Inv W0 G st w) {id h m : Nat} {C : Array Value} {t : TypeId} (hid : id < st.next) (hb0 : G.β id = none) (ho : st.objs.get id = some (.tip h)) (hm : m ≤ C.size) :
    Inv W0 (G.grown w.heap.size (id, m, C.size)) st (w.alloc (.cells C t)) := by
  have L := Le.bornTip I (id, m, C.size) (.cells C t)
  refine ⟨I.below.alloc I.below.size _, ?_, I.binj, ?_, ?_, ?_, ?_, ?_, I.fresh⟩
  · intro i b k n hb
    obtain ⟨h1, h2, h3⟩ := I.blt i b k n hb
    exact ⟨h1, by simp; omega, h3⟩
  · intro i b k n hb
    have := (I.blt i b k n hb).2.1
    simp only [Gh.grown]
    rw [if_neg (by omega)]
    exact I.bext i b k n hb
  · intro b i m' n he
    simp only [Gh.grown] at he
    split at he
    · injection he with he; injection he with e1 e2; injection e2 with e2 e3; subst_vars
      exact ⟨I.below.size, by simp, hid, hm, hb0, h, ho⟩
    · obtain ⟨h1, h2, h3, h4, h5, h6⟩ := I.elt b i m' n he
      exact ⟨h1, by simp; omega, h3, h4, h5, h6⟩
  · intro b i m' n j he hj
    simp only [Gh.grown] at he
    split at he
    · injection he with he; injection he with e1 e2; injection e2 with e2 e3; subst_vars
      exact ⟨by rw [cell_new]; simp [hj], frozen_new C t (0, 0) j (.inl (by simp)) hj⟩
    · have hb := (I.elt b i m' n he).2.1
      rw [cell_old hb, frozen_old hb]
      exact I.ecell b i m' n j he hj
  · intro i b k n t u cs hb hcs
    have h2 := (I.blt i b k n hb).2.1
    obtain ⟨k1, k2, k3, k4, k5, k6⟩ := I.bcell i b k n t u cs hb hcs
    exact ⟨k1.old L fun j _ => cell_old h2, k2, k3, fun hu => ⟨(k4 hu).1, by rw [frozen_old h2]; exact (k4 hu).2⟩, by rw [shape_block (obj_old h2)]; exact k5, fun j hj => by rw [frozen_old h2]; exact k6 j hj⟩
  · intro i b k n a hb ha hv
    have h2 := (I.blt i b k n hb).2.1
    obtain ⟨o', j1, j2⟩ := I.bobj i b k n a hb ha hv
    exact ⟨o', by rw [obj_old h2]; exact j1, j2.mono L⟩

theorem size_setCells (b : Nat) : ∀ (vs : List Value) (o : Nat) (w : World), (w.setCells b o vs).heap.size = w.heap.size
  | [], _, _ => rfl
  | v :: r, o, w => by rw [World.setCells, size_setCells b r]; simp
theorem below_setCells {B : Nat} {a : World} (b : Nat) (hb : B ≤ b) : ∀ (vs : List Value) (o : Nat) (w : World), Below B a w → Below B a (w.setCells b o vs)
  | [], _, _, h => h
  | v :: r, o, w, h => by rw [World.setCells]; exact below_setCells b hb r _ _ (h.setCell hb _)
theorem heap_setCells (b b' : Nat) (hne : b' ≠ b) : ∀ (vs : List Value) (o : Nat) (w : World), (w.setCells b o vs).heap[b']? = w.heap[b']?
  | [], _, _ => rfl
  | v :: r, o, w => by rw [World.setCells, heap_setCells b b' hne r]; exact Below.heap_setCell _ _ _ _ hne
theorem isSome_setCells (b b' : Nat) : ∀ (vs : List Value) (o : Nat) (w : World) (j : Nat), (w.cell? ⟨b', j, none⟩).isSome = true → ((w.setCells b o vs).cell? ⟨b', j, none⟩).isSome = true
  | [], _, _, _, h => h
  | v :: r, o, w, j, h => by
    rw [World.setCells]
    refine isSome_setCells b b' r _ _ j ?_
    by_cases e : b = b' ∧ o = j
    · obtain ⟨rfl, rfl⟩ := e
      obtain ⟨u, hu⟩ := Option.isSome_iff_exists.1 h
      simp [World.cell?_setCell_same _ _ _ hu]
    · rw [World.cell?_setCell_other _ _ _ _ (by simpa using e)]
      exact h

theorem setRange_length {cs vs : List AV} {off : Nat} (h : off + vs.length ≤ cs.length) : (setRange cs off vs).length = cs.length := by
  simp [setRange]
  omega

theorem Le.store (I : Inv W0 G st w) {id b k n off : Nat} {vs : List Value} (hb : G.β id = some (b, k, n)) (o : AObj) :
    Le G st w G (st.put id o) (w.setCells b off vs) where
  β i b hb := hb
  ext b i m n h := ⟨m, Nat.le_refl _, h⟩
  cell b' i m n j h _ := World.cell?_setCells_out b vs off w _ (fun e _ => by
    simp only at e
    subst e
    rw [I.bext id b' _ _ hb] at h
    cases h)
  tip i h hh hx := ⟨h, Nat.le_refl _, by
    obtain ⟨b', m, n, hx⟩ := hx
    simp only [St.put, Tr.get_set]
    rw [if_neg (by rintro rfl; have := (I.elt b' i m n hx).2.2.2.2.1; rw [hb] at this; cases this)]
    exact hh, fun _ _ _ _ k => k⟩
  next := Nat.le_refl _

/-- What a thing's block holds may be turned: the others stay as they were. -/
theorem Inv.turn (I : Inv W0 G st w) {id b k n : Nat} {w' : World} {a0 : AObj} {a : AObj} (hb : G.β id = some (b, k, n)) (ho : st.objs.get id = some a0) (hlive : a0 ≠ .dead)
    (hsz : w'.heap.size = w.heap.size) (hbel : Below W0.heap.size W0 w') (hoth : ∀ b', b' ≠ b → w'.heap[b']? = w.heap[b']?) (L : Le G st w G (st.put id a) w')
    (hc : ∀ t u cs, a = .cells t u cs → RepAt G (st.put id a) w' b 0 cs ∧ cs.length = k ∧ k ≤ n ∧ (u = true → n = k ∧ w'.frozen? ⟨b, n, none⟩ = false) ∧ w'.shape? b = some (t, n) ∧ ∀ i, i < n → w'.frozen? ⟨b, i, none⟩ = false)
    (hv : a.heavy = true → ∃ o, w'.heap[b]? = some o ∧ OObj G (st.put id a) w' a o) : Inv W0 G (st.put id a) w' := by
  have cell' : ∀ b' i, b' ≠ b → w'.cell? ⟨b', i, none⟩ = w.cell? ⟨b', i, none⟩ := fun b' i h => World.cell?_of_block (w := w) (hoth b' h)
  have froz' : ∀ b' i, b' ≠ b → w'.frozen? ⟨b', i, none⟩ = w.frozen? ⟨b', i, none⟩ := fun b' i h => World.frozen?_of_block (w := w) (hoth b' h)
  have hbb := I.blt id b k n hb
  have other : ∀ i b' k' n', G.β i = some (b', k', n') → i ≠ id → st.objs.get i ≠ some .dead → b' ≠ b := by
    rintro i b' k' n' h hne hd rfl
    exact hne (I.binj _ _ _ _ _ _ _ h hb hd (by rw [ho]; intro e; injection e with e; exact hlive e))
  refine ⟨hbel, ?_, ?_, I.bext, ?_, ?_, ?_, ?_, ?_⟩
  · intro i b' k' n' h
    rw [hsz]
    exact I.blt i b' k' n' h
  · intro i j b' k1 n1 k2 n2 h1 h2 d1 d2
    have live : ∀ i, (st.put id a).objs.get i ≠ some .dead → st.objs.get i ≠ some .dead := by
      intro i hi
      simp only [St.put, Tr.get_set] at hi
      split at hi
      · subst_vars; rw [ho]; intro e; injection e with e; exact hlive e
      · exact hi
    exact I.binj i j b' k1 n1 k2 n2 h1 h2 (live i d1) (live j d2)
  · intro b' i m n h
    obtain ⟨h1, h2, h3, h4, h5, t, h6⟩ := I.elt b' i m n h
    refine ⟨h1, by rw [hsz]; exact h2, h3, h4, h5, t, ?_⟩
    simp only [St.put, Tr.get_set]
    rw [if_neg (by rintro rfl; rw [hb] at h5; cases h5)]
    exact h6
  · intro b' i m n j h hj
    have hne : b' ≠ b := by
      rintro rfl
      rw [I.bext id b' _ _ hb] at h
      cases h
    rw [cell' b' j hne, froz' b' j hne]
    exact I.ecell b' i m n j h hj
  · intro i b' k' n' t u cs' h hcs
    simp only [St.put, Tr.get_set] at hcs
    split at hcs
    · subst_vars
      rw [hb] at h
      injection h with h; injection h with e1 e2; injection e2 with e2 e3
      subst e1; subst e2; subst e3
      injection hcs with hcs
      exact hc t u cs' hcs
    · rename_i hne
      obtain ⟨k1, k2, k3, k4, k5, k6⟩ := I.bcell i b' k' n' t u cs' h hcs
      have hne' := other i b' k' n' h hne (by rw [hcs]; intro e; cases e)
      exact ⟨k1.old L fun j _ => cell' _ _ hne', k2, k3, fun hu => ⟨(k4 hu).1, by rw [froz' _ _ hne']; exact (k4 hu).2⟩, by rw [shape_block (hoth b' hne')]; exact k5, fun j hj => by rw [froz' _ _ hne']; exact k6 j hj⟩
  · intro i b' k' n' a' h ha hh
    simp only [St.put, Tr.get_set] at ha
    split at ha
    · subst_vars
      rw [hb] at h
      injection h with h; injection h with e1 e2
      subst e1
      injection ha with ha
      subst ha
      exact hv hh
    · rename_i hne
      obtain ⟨o, j1, j2⟩ := I.bobj i b' k' n' a' h ha hh
      have hne' := other i b' k' n' h hne (by rw [ha]; intro e; injection e with e; subst e; cases hh)
      exact ⟨o, by rw [hoth b' hne']; exact j1, j2.mono L⟩
  · intro i hi
    simp only [St.put] at hi ⊢
    rw [Tr.get_set, if_neg (by omega)]
    exact I.fresh i hi

theorem Inv.store (I : Inv W0 G st w) {id b k n off : Nat} {t : TypeId} {u : Bool} {cs as : List AV} {vs : List Value} (hb : G.β id = some (b, k, n)) (ho : st.objs.get id = some (.cells t u cs)) (hl : off + as.length ≤ cs.length)
    (hr : RepL G st w as vs) : Inv W0 G (st.put id (.cells t u (setRange cs off as))) (w.setCells b off vs) := by
  have L := Le.store (vs := vs) (off := off) I hb (.cells t u (setRange cs off as))
  have hlv := hr.length
  have hbb := I.blt id b k n hb
  obtain ⟨k1, k2, k3, k4, k5, k6⟩ := I.bcell id b k n t u cs hb ho
  refine I.turn hb ho (by intro e; cases e) (size_setCells _ _ _ _) (below_setCells b hbb.1 _ _ _ I.below) (fun b' h => heap_setCells b b' h _ _ _) L ?_ (fun h => by cases h)
  intro t' u' cs' e
  injection e with e1 e2 e
  subst e1; subst e2; subst e
  refine ⟨?_, by rw [setRange_length hl]; exact k2, k3, fun hu => ⟨(k4 hu).1, by rw [World.frozen?_setCells]; exact (k4 hu).2⟩, by rw [shape_setCells]; exact k5, fun j hj => by rw [World.frozen?_setCells]; exact k6 j hj⟩
  have e1 : (cs.take off).length = off := by simp; omega
  have hcs3 : cs = cs.take off ++ ((cs.drop off).take as.length ++ cs.drop (off + as.length)) := by
    rw [← List.drop_drop, List.take_append_drop, List.take_append_drop]
  have k1' := k1
  rw [hcs3, RepAt.append, RepAt.append] at k1'
  obtain ⟨p1, p2, p3⟩ := k1'
  have hsr : setRange cs off as = cs.take off ++ (as ++ cs.drop (off + as.length)) := by simp [setRange]
  generalize st.put id (.cells t u (setRange cs off as)) = st2 at L ⊢
  rw [hsr, RepAt.append, RepAt.append]
  refine ⟨p1.old L fun j hj => World.cell?_setCells_out b vs off w _ (fun _ _ => by simp at hj ⊢; omega), ?_, ?_⟩
  · rw [e1, Nat.zero_add]
    refine RepAt.of_values (RepL.mono L _ _ hr) fun j v hv => ?_
    have hj : j < vs.length := (List.getElem?_eq_some_iff.1 hv).1
    rw [World.cell?_setCells_in b vs off w (fun i hi => cell_of_shape k5 (by omega)) j hj]
    rw [List.getElem?_eq_getElem hj] at hv
    exact hv
  · have e2 : ((cs.drop off).take as.length).length = as.length := by simp; omega
    rw [e1, e2] at p3
    rw [e1]
    exact p3.old L fun j hj => World.cell?_setCells_out b vs off w _ (fun _ _ => by simp; omega)

/-- A thing is dead from then on: nothing is said of its block any more. -/
theorem Le.kill (I : Inv W0 G st w) {id : Nat} {x : Nat × Nat × Nat} (hb : G.β id = some x) : Le G st w G (st.put id .dead) w where
  β i b hb := hb
  ext b i m n h := ⟨m, Nat.le_refl _, h⟩
  cell b' i m n j h _ := rfl
  tip i h hh hx := ⟨h, Nat.le_refl _, by
    obtain ⟨b', m, n, hx⟩ := hx
    simp only [St.put, Tr.get_set]
    rw [if_neg (by rintro rfl; have := (I.elt b' i m n hx).2.2.2.2.1; rw [hb] at this; cases this)]
    exact hh, fun _ _ _ _ k => k⟩
  next := Nat.le_refl _
theorem Inv.kill (I : Inv W0 G st w) {id b k n : Nat} {a0 : AObj} (hb : G.β id = some (b, k, n)) (ho : st.objs.get id = some a0) (hlive : a0 ≠ .dead) : Inv W0 G (st.put id .dead) w :=
  I.turn hb ho hlive rfl I.below (fun _ _ => rfl) (Le.kill I hb) (fun t u cs e => by cases e) (fun e => by cases e)

/-- A block goes over to another thing: what it held, and something more. -/
theorem Le.moved (I : Inv W0 G st w) {id b k n off : Nat} {vs : List Value} {as : List AV} {t : TypeId} (hb : G.β id = some (b, k, n)) :
    Le G st w (G.born st.next (b, as.length, n)) ((st.put id .dead).push (.cells t false as)) (w.setCells b off vs) where
  β i x hx := by
    simp only [Gh.born]
    obtain ⟨b', k', n'⟩ := x
    have := (I.blt _ _ _ _ hx).2.2
    rw [if_neg (by omega)]
    exact hx
  ext b i m n h := ⟨m, Nat.le_refl _, h⟩
  cell b' i m n j h _ := World.cell?_setCells_out b vs off w _ (fun e _ => by
    simp only at e
    subst e
    rw [I.bext id b' _ _ hb] at h
    cases h)
  tip i h hh hx := ⟨h, Nat.le_refl _, by
    obtain ⟨b', m, n, hx⟩ := hx
    have := (I.elt b' i m n hx).2.2.1
    simp only [St.push, St.put, Tr.get_set]
    rw [if_neg (by omega), if_neg (by rintro rfl; have := (I.elt b' i m n hx).2.2.2.2.1; rw [hb] at this; cases this)]
    exact hh, fun _ _ _ _ k => k⟩
  next := by simp [St.push, St.put]
theorem Inv.moved (I : Inv W0 G st w) {id b k n off : Nat} {t : TypeId} {u : Bool} {cs as : List AV} {vs us : List Value} (hb : G.β id = some (b, k, n)) (ho : st.objs.get id = some (.cells t u cs))
    (hr : RepL G st w as us) (hu : ∀ (j : Nat) u, us[j]? = some u → (w.setCells b off vs).cell? ⟨b, j, none⟩ = some u) (hk : as.length ≤ n) :
    Inv W0 (G.born st.next (b, as.length, n)) ((st.put id .dead).push (.cells t false as)) (w.setCells b off vs) := by
  have L := Le.moved (off := off) (vs := vs) (as := as) (t := t) I hb
  obtain ⟨k1, k2, k3, k4, k5, k6⟩ := I.bcell id b k n t u cs hb ho
  have hbb := I.blt id b k n hb
  have cell' : ∀ b' i, b' ≠ b → (w.setCells b off vs).cell? ⟨b', i, none⟩ = w.cell? ⟨b', i, none⟩ := fun b' i h => World.cell?_of_block (w := w) (heap_setCells b b' h _ _ _)
  have get' : ∀ i, i ≠ id → i < st.next → ((st.put id .dead).push (.cells t false as)).objs.get i = st.objs.get i := fun i h1 h2 => by
    simp only [St.push, St.put, Tr.get_set]
    rw [if_neg (by omega), if_neg h1]
  have other : ∀ i b' k' n', G.β i = some (b', k', n') → i ≠ id → st.objs.get i ≠ some .dead → b' ≠ b := by
    rintro i b' k' n' h hne hd rfl
    exact hne (I.binj _ _ _ _ _ _ _ h hb hd (by rw [ho]; intro e; cases e))
  have dead' : ((st.put id .dead).push (.cells t false as)).objs.get id = some .dead := by
    simp only [St.push, St.put, Tr.get_set]
    rw [if_neg (by omega)]
    exact if_pos trivial
  have β' : ∀ i x, (G.born st.next (b, as.length, n)).β i = some x → (i = st.next ∧ x = (b, as.length, n)) ∨ (i ≠ st.next ∧ G.β i = some x) := by
    intro i x h
    simp only [Gh.born] at h
    split at h
    · injection h with h; exact .inl ⟨by assumption, h.symm⟩
    · exact .inr ⟨by assumption, h⟩
  refine ⟨below_setCells b hbb.1 _ _ _ I.below, ?_, ?_, ?_, ?_, ?_, ?_, ?_, ?_⟩
  · intro i b' k' n' h
    rw [size_setCells]
    rcases β' _ _ h with ⟨rfl, e⟩ | ⟨_, h⟩
    · injection e with e _; subst e; exact ⟨hbb.1, hbb.2.1, by simp [St.push, St.put]⟩
    · obtain ⟨h1, h2, h3⟩ := I.blt i b' k' n' h
      exact ⟨h1, h2, by simp [St.push, St.put]; omega⟩
  · intro i j b' k1 n1 k2 n2 h1 h2 d1 d2
    rcases β' _ _ h1 with ⟨rfl, e1⟩ | ⟨e1, g1⟩ <;> rcases β' _ _ h2 with ⟨rfl, e2⟩ | ⟨e2, g2⟩
    · rfl
    · injection e1 with e1 _
      subst e1
      have hj := (I.blt _ _ _ _ g2).2.2
      have hne : j ≠ id := by rintro rfl; exact d2 dead'
      rw [get' j hne hj] at d2
      exact absurd rfl (other j _ _ _ g2 hne d2)
    · injection e2 with e2 _
      subst e2
      have hj := (I.blt _ _ _ _ g1).2.2
      have hne : i ≠ id := by rintro rfl; exact d1 dead'
      rw [get' i hne hj] at d1
      exact absurd rfl (other i _ _ _ g1 hne d1)
    · have hi := (I.blt _ _ _ _ g1).2.2
      have hj := (I.blt _ _ _ _ g2).2.2
      have n1' : i ≠ id := by rintro rfl; exact d1 dead'
      have n2' : j ≠ id := by rintro rfl; exact d2 dead'
      rw [get' i n1' hi] at d1
      rw [get' j n2' hj] at d2
      exact I.binj i j b' k1 n1 k2 n2 g1 g2 d1 d2
  · intro i b' k' n' h
    rcases β' _ _ h with ⟨rfl, e⟩ | ⟨_, h⟩
    · injection e with e _; subst e; exact I.bext id _ _ _ hb
    · exact I.bext i b' k' n' h
  · intro b' i m n' h
    obtain ⟨h1, h2, h3, h4, h5, t, h6⟩ := I.elt b' i m n' h
    refine ⟨h1, by rw [size_setCells]; exact h2, by simp [St.push, St.put]; omega, h4, ?_, t, ?_⟩
    · simp only [Gh.born]
      rw [if_neg (by omega)]
      exact h5
    · rw [get' i (by rintro rfl; rw [hb] at h5; cases h5) h3]
      exact h6
  · intro b' i m n' j h0 hj
    have h : G.ext b' = some (i, m, n') := h0
    have hne : b' ≠ b := by
      rintro rfl
      rw [I.bext id b' _ _ hb] at h
      cases h
    rw [cell' b' j hne, World.frozen?_setCells]
    exact I.ecell b' i m n' j h hj
  · intro i b' k' n' t' u' cs' h hcs
    rcases β' _ _ h with ⟨rfl, e⟩ | ⟨hne0, h⟩
    · injection e with e1 e2; injection e2 with e2 e3
      subst e1; subst e2; subst e3
      simp only [St.push, St.put, Tr.get_set] at hcs
      rw [if_pos trivial] at hcs
      injection hcs with hcs
      injection hcs with e1 e2 e3
      subst e1; subst e2; subst e3
      refine ⟨RepAt.of_values (RepL.mono L _ _ hr) fun j v hv => ?_, rfl, hk, (fun e => by cases e), by rw [shape_setCells]; exact k5, fun j hj => by rw [World.frozen?_setCells]; exact k6 j hj⟩
      rw [Nat.zero_add]
      exact hu j v hv
    · have hi := (I.blt _ _ _ _ h).2.2
      have hne : i ≠ id := by rintro rfl; rw [dead'] at hcs; cases hcs
      rw [get' i hne hi] at hcs
      obtain ⟨j1, j2, j3, j4, j5, j6⟩ := I.bcell i b' k' n' t' u' cs' h hcs
      have hne' := other i b' k' n' h hne (by rw [hcs]; intro e; cases e)
      exact ⟨j1.old L fun j _ => cell' _ _ hne', j2, j3, fun hu => ⟨(j4 hu).1, by rw [World.frozen?_setCells]; exact (j4 hu).2⟩, by rw [shape_setCells]; exact j5, fun j hj => by rw [World.frozen?_setCells]; exact j6 j hj⟩
  · intro i b' k' n' a h ha hh
    rcases β' _ _ h with ⟨rfl, e⟩ | ⟨hne0, h⟩
    · simp only [St.push, St.put, Tr.get_set] at ha
      rw [if_pos trivial] at ha
      injection ha with ha
      subst ha
      cases hh
    · have hi := (I.blt _ _ _ _ h).2.2
      have hne : i ≠ id := by rintro rfl; rw [dead'] at ha; injection ha with ha; subst ha; cases hh
      rw [get' i hne hi] at ha
      obtain ⟨o, j1, j2⟩ := I.bobj i b' k' n' a h ha hh
      have hne' := other i b' k' n' h hne (by rw [ha]; intro e; injection e with e; subst e; cases hh)
      exact ⟨o, by rw [heap_setCells b b' hne']; exact j1, j2.mono L⟩
  · intro i hi
    simp only [St.push, St.put] at hi ⊢
    rw [Tr.get_set, if_neg (by omega), Tr.get_set, if_neg (by omega)]
    exact I.fresh i (by omega)

/-! ### Objects -/
theorem Le.obj (I : Inv W0 G st w) {id b k n : Nat} (hb : G.β id = some (b, k, n)) (a : AObj) (o : Obj) : Le G st w G (st.put id a) (w.putObj b o) where
  β i b hb := hb
  ext b i m n h := ⟨m, Nat.le_refl _, h⟩
  cell b' i m n j h _ := World.cell?_of_block (w := w) (World.putObj_heap_other (by
    rintro rfl
    rw [I.bext id b' _ _ hb] at h
    cases h))
  tip i h hh hx := ⟨h, Nat.le_refl _, by
    obtain ⟨b', m, n, hx⟩ := hx
    simp only [St.put, Tr.get_set]
    rw [if_neg (by rintro rfl; have := (I.elt b' i m n hx).2.2.2.2.1; rw [hb] at this; cases this)]
    exact hh, fun _ _ _ _ k => k⟩
  next := Nat.le_refl _
theorem below_putObj {B : Nat} {a w : World} (h : Below B a w) {b : Nat} (hb : B ≤ b) (o : Obj) : Below B a (w.putObj b o) :=
  h.trans ⟨rfl, rfl, rfl, by simp, fun k hk => World.putObj_heap_other (by omega)⟩
/-- An object becomes another one. -/
theorem Inv.obj (I : Inv W0 G st w) {id b k n : Nat} {a0 a : AObj} {o : Obj} (hb : G.β id = some (b, k, n)) (ho : st.objs.get id = some a0) (hlive : a0.heavy = true) (h : OObj G st w a o) :
    Inv W0 G (st.put id a) (w.putObj b o) := by
  have L := Le.obj I hb a o
  have hbb := I.blt id b k n hb
  refine I.turn hb ho (by rintro rfl; cases hlive) (World.putObj_size) (below_putObj I.below hbb.1 o) (fun b' hne => World.putObj_heap_other hne) L ?_ ?_
  · intro t u cs e
    subst e
    cases h
  · intro _
    exact ⟨o, World.putObj_heap_same hbb.2.1, h.mono L⟩
/-- An object is let go. -/
theorem Inv.objKill (I : Inv W0 G st w) {id b k n : Nat} {a0 : AObj} (o : Obj) (hb : G.β id = some (b, k, n)) (ho : st.objs.get id = some a0) (hlive : a0.heavy = true) : Inv W0 G (st.put id .dead) (w.putObj b o) := by
  have hbb := I.blt id b k n hb
  exact I.turn hb ho (by rintro rfl; cases hlive) (World.putObj_size) (below_putObj I.below hbb.1 o) (fun b' hne => World.putObj_heap_other hne) (Le.obj I hb .dead o) (fun t u cs e => by cases e) (fun e => by cases e)

theorem Le.grow {id b m n h k : Nat} {vs : List Value} (hx : G.ext b = some (id, m, n)) (ho : st.objs.get id = some (.tip h)) :
    Le G st w (G.grown b (id, m + k, n)) (st.put id (.tip (h + k))) (w.setCells b m vs) where
  β i b hb := hb
  ext b' i m' n' he := by
    simp only [Gh.grown]
    split
    · subst_vars; rw [hx] at he; injection he with he; injection he with e1 e2; injection e2 with e2 e3; subst_vars; exact ⟨_, Nat.le_add_right _ _, rfl⟩
    · exact ⟨m', Nat.le_refl _, he⟩
  cell b' i m' n' j he hj := World.cell?_setCells_out b vs m w _ (fun e _ => by
    simp only at e ⊢
    subst e
    rw [hx] at he; injection he with he; injection he with e1 e2; injection e2 with e2 e3; subst_vars
    exact .inl hj)
  tip i h' hh hx' := by
    simp only [St.put, Tr.get_set]
    split
    · subst_vars
      rw [ho] at hh; injection hh with hh; injection hh with hh; subst hh
      refine ⟨h + k, Nat.le_add_right _ _, rfl, fun e b' m' n' hb' => ?_⟩
      have hk : k = 0 := by omega
      subst hk
      simp only [Gh.grown]
      split
      · subst_vars; rw [hx] at hb'; exact hb'
      · exact hb'
    · refine ⟨h', Nat.le_refl _, hh, fun _ b' m' n' hb' => ?_⟩
      simp only [Gh.grown]
      split
      · subst_vars; rw [hx] at hb'; injection hb' with e; injection e with e _; subst e; exact absurd rfl (by assumption)
      · exact hb'
  next := Nat.le_refl _

/-- An append in place: behind what stands for good more does. -/
theorem Inv.grow (I : Inv W0 G st w) {id b m n h k : Nat} {vs : List Value} (hx : G.ext b = some (id, m, n)) (ho : st.objs.get id = some (.tip h)) (hk : m + k ≤ n) :
    Inv W0 (G.grown b (id, m + k, n)) (st.put id (.tip (h + k))) (w.setCells b m vs) := by
  have L := Le.grow (w := w) (k := k) (vs := vs) hx ho
  have hbb := I.elt b id m n hx
  have nob : ∀ i b' k' n', G.β i = some (b', k', n') → b' ≠ b := by
    rintro i b' k' n' hb rfl
    rw [I.bext i b' _ _ hb] at hx
    cases hx
  refine ⟨below_setCells b hbb.1 _ _ _ I.below, ?_, ?_, ?_, ?_, ?_, ?_, ?_, ?_⟩
  · intro i b' k' n' h
    rw [size_setCells]
    exact I.blt i b' k' n' h
  · intro i j b' k1 n1 k2 n2 h1 h2 d1 d2
    have live : ∀ i, (st.put id (.tip (h + k))).objs.get i ≠ some .dead → st.objs.get i ≠ some .dead := by
      intro i hi
      simp only [St.put, Tr.get_set] at hi
      split at hi
      · subst_vars; rw [ho]; intro e; cases e
      · exact hi
    exact I.binj i j b' k1 n1 k2 n2 h1 h2 (live i d1) (live j d2)
  · intro i b' k' n' hb
    simp only [Gh.grown]
    rw [if_neg (nob i b' _ _ hb)]
    exact I.bext i b' _ _ hb
  · intro b' i m' n' he
    rw [size_setCells]
    simp only [Gh.grown] at he
    simp only [St.put, Tr.get_set]
    split at he
    · injection he with he; injection he with e1 e2; injection e2 with e2 e3; subst_vars
      obtain ⟨h1, h2, h3, h4, h5, _⟩ := hbb
      exact ⟨h1, h2, h3, hk, h5, _, if_pos rfl⟩
    · obtain ⟨h1, h2, h3, h4, h5, t, h6⟩ := I.elt b' i m' n' he
      refine ⟨h1, h2, h3, h4, h5, ?_⟩
      split
      · exact ⟨_, rfl⟩
      · exact ⟨t, h6⟩
  · intro b' i m' n' j he hj
    rw [World.frozen?_setCells]
    have key : ∀ b' i m' n' j, G.ext b' = some (i, m', n') → j < n' → ((w.setCells b m vs).cell? ⟨b', j, none⟩).isSome = true ∧ w.frozen? ⟨b', j, none⟩ = false := by
      intro b' i m' n' j he hj
      obtain ⟨c1, c2⟩ := I.ecell b' i m' n' j he hj
      exact ⟨isSome_setCells b b' vs m w j c1, c2⟩
    simp only [Gh.grown] at he
    split at he
    · injection he with he; injection he with e1 e2; injection e2 with e2 e3; subst_vars
      exact key _ _ _ _ j hx hj
    · exact key _ _ _ _ j he hj
  · intro i b' k' n' t u cs hb hcs
    have hne := nob i b' _ _ hb
    simp only [St.put, Tr.get_set] at hcs
    split at hcs
    · cases hcs
    · obtain ⟨k1, k2, k3, k4, k5, k6⟩ := I.bcell i b' k' n' t u cs hb hcs
      exact ⟨k1.old L fun j hj => World.cell?_setCells_out b vs m w _ (fun e _ => absurd e hne), k2, k3, fun hu => ⟨(k4 hu).1, by rw [World.frozen?_setCells]; exact (k4 hu).2⟩, by rw [shape_setCells]; exact k5, fun j hj => by rw [World.frozen?_setCells]; exact k6 j hj⟩
  · intro i b' k' n' a hb ha hv
    have hne := nob i b' _ _ hb
    simp only [St.put, Tr.get_set] at ha
    split at ha
    · injection ha with ha; subst ha; cases hv
    · obtain ⟨o, j1, j2⟩ := I.bobj i b' k' n' a hb ha hv
      exact ⟨o, by rw [heap_setCells b b' hne]; exact j1, j2.mono L⟩
  · intro i hi
    simp only [St.put] at hi ⊢
    rw [Tr.get_set, if_neg (by omega)]
    exact I.fresh i hi
end
end Go.Ev
