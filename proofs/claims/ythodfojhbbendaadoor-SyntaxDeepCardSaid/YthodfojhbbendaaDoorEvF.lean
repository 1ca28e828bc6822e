/- Births, stores and appends, told of the whole. -/
import Derived.Test.YthodfojhbbendaaDoorEvE
set_option linter.all false
namespace Go.Ev
open Go.RowKit (Below)

section
variable {W0 : World} {G : Gh} {st : St} {w : World}

theorem RepAt.old {b off : Nat} {cs : List AV} (h : RepAt G st w b off cs) {G' : Gh} {st' : St} {w' : World} (L : Le G st w G' st' w')
    (hc : ∀ j, j < cs.length → w'.cell? ⟨b, off + j, none⟩ = w.cell? ⟨b, off + j, none⟩) : RepAt G' st' w' b off cs := by
  obtain ⟨vs, h1, h2, h3⟩ := h.values
  refine RepAt.of_values (RepL.mono L _ _ h1) fun j v hv => ?_
  have hj : j < cs.length := by
    rw [← h2]
    exact (List.getElem?_eq_some_iff.1 hv).1
  rw [hc j hj]
  exact h3 j v hv

theorem Le.born {id : Nat} (hu : G.unborn id) (I : Inv W0 G st w) (o : Obj) : Le G st w (G.born id w.heap.size) st (w.alloc o) where
  β i b hb := by
    simp only [Gh.born]
    rw [if_neg (by rintro rfl; rw [hu.1] at hb; cases hb)]
    exact hb
  ext b i m n h := ⟨m, Nat.le_refl _, h⟩
  cell b i m n off h _ := cell_old (I.elt b i m n h).2.1
  tip i h hh _ := ⟨h, Nat.le_refl _, hh, fun _ _ _ _ k => k⟩
  next := Nat.le_refl _

/-- A thing that stands in the store already gets its block. -/
theorem Inv.born (I : Inv W0 G st w) {id : Nat} {cs : List AV} {vs : List Value} {C : Array Value} {t : TypeId} {fr : Nat × Nat} (hid : id < st.next) (hu : G.unborn id)
    (ho : st.objs.get id = some (.cells cs)) (hr : RepL G st w cs vs) (hC : ∀ (j : Nat) (v : Value), vs[j]? = some v → C[j]? = some v) (hl : cs.length ≤ C.size) (hfr : fr.2 ≤ fr.1 ∨ C.size ≤ fr.1) :
    Inv W0 (G.born id w.heap.size) st (w.alloc (.cells C t fr)) := by
  have L := Le.born hu I (.cells C t fr)
  refine ⟨I.below.alloc I.below.size _, ?_, ?_, ?_, ?_, ?_, ?_, I.fresh⟩
  · intro i b hb
    simp only [Gh.born] at hb
    split at hb
    · injection hb with hb; subst hb; subst_vars; exact ⟨I.below.size, by simp, hid⟩
    · obtain ⟨h1, h2, h3⟩ := I.blt i b hb; exact ⟨h1, by simp; omega, h3⟩
  · intro i j b hi hj
    simp only [Gh.born] at hi hj
    split at hi <;> split at hj
    · subst_vars; rfl
    · injection hi with hi; subst hi; exact absurd (I.blt _ _ hj).2.1 (by omega)
    · injection hj with hj; subst hj; exact absurd (I.blt _ _ hi).2.1 (by omega)
    · exact I.binj i j b hi hj
  · intro i b hb
    simp only [Gh.born] at hb ⊢
    split at hb
    · injection hb with hb
      subst hb
      cases he : G.ext w.heap.size with
      | none => rfl
      | some x => obtain ⟨x1, x2, x3⟩ := x; exact absurd (I.elt _ _ _ _ he).2.1 (by omega)
    · exact I.bext i b hb
  · intro b i m n h
    obtain ⟨h1, h2, h3, h4, h5, h6⟩ := I.elt b i m n h
    refine ⟨h1, by simp; omega, h3, h4, ?_, h6⟩
    simp only [Gh.born]
    rw [if_neg (by rintro rfl; exact hu.2 _ _ _ h)]
    exact h5
  · intro b i m n j h hj
    have hb := (I.elt b i m n h).2.1
    rw [cell_old hb, frozen_old hb]
    exact I.ecell b i m n j h hj
  · intro i b cs' hb hcs
    simp only [Gh.born] at hb
    split at hb
    · injection hb with hb
      subst hb
      subst_vars
      rw [ho] at hcs
      injection hcs with hcs
      injection hcs with hcs
      subst hcs
      refine ⟨RepAt.of_values (RepL.mono L _ _ hr) fun j v hv => ?_, fun j hj => frozen_new C t fr j hfr (by omega)⟩
      rw [Nat.zero_add, cell_new]
      exact hC j v hv
    · obtain ⟨h1, h2, h3⟩ := I.blt i b hb
      obtain ⟨k1, k2⟩ := I.bcell i b cs' hb hcs
      exact ⟨k1.old L fun j _ => cell_old h2, fun j hj => by rw [frozen_old h2]; exact k2 j hj⟩

theorem Le.bornTip (I : Inv W0 G st w) (x : Nat × Nat × Nat) (o : Obj) : Le G st w (G.grown w.heap.size x) st (w.alloc o) where
  β i b hb := hb
  ext b i m n h := ⟨m, Nat.le_refl _, by
    simp only [Gh.grown]
    rw [if_neg (by have := (I.elt b i m n h).2.1; omega)]
    exact h⟩
  cell b i m n off h _ := cell_old (I.elt b i m n h).2.1
  tip i h hh _ := ⟨h, Nat.le_refl _, hh, fun _ b m n k => by
    simp only [Gh.grown]
    rw [if_neg (by have := (I.elt b i m n k).2.1; omega)]
    exact k⟩
  next := Nat.le_refl _

/-- A family gets a new block, of which so many cells stand for good. -/
theorem Inv.bornTip (I : Inv W0 G st w) {id h m : Nat} {C : Array Value} {t : TypeId} (hid : id < st.next) (hb0 : G.β id = none) (ho : st.objs.get id = some (.tip h)) (hm : m ≤ C.size) :
    Inv W0 (G.grown w.heap.size (id, m, C.size)) st (w.alloc (.cells C t)) := by
  have L := Le.bornTip I (id, m, C.size) (.cells C t)
  refine ⟨I.below.alloc I.below.size _, ?_, I.binj, ?_, ?_, ?_, ?_, I.fresh⟩
  · intro i b hb
    obtain ⟨h1, h2, h3⟩ := I.blt i b hb
    exact ⟨h1, by simp; omega, h3⟩
  · intro i b hb
    have := (I.blt i b hb).2.1
    simp only [Gh.grown]
    rw [if_neg (by omega)]
    exact I.bext i b hb
  · intro b i m' n he
    simp only [Gh.grown] at he
    split at he
    · injection he with he; injection he with e1 e2; injection e2 with e2 e3; subst_vars
      exact ⟨I.below.size, by simp, hid, hm, hb0, h, ho⟩
    · obtain ⟨h1, h2, h3, h4, h5, h6⟩ := I.elt b i m' n he
      exact ⟨h1, by simp; omega, h3, h4, h5, h6⟩
  · intro b i m' n j he hj
    simp only [Gh.grown] at he
    split at he
    · injection he with he; injection he with e1 e2; injection e2 with e2 e3; subst_vars
      exact ⟨by rw [cell_new]; simp [hj], frozen_new C t (0, 0) j (.inl (by simp)) hj⟩
    · have hb := (I.elt b i m' n he).2.1
      rw [cell_old hb, frozen_old hb]
      exact I.ecell b i m' n j he hj
  · intro i b cs hb hcs
    have h2 := (I.blt i b hb).2.1
    obtain ⟨k1, k2⟩ := I.bcell i b cs hb hcs
    exact ⟨k1.old L fun j _ => cell_old h2, fun j hj => by rw [frozen_old h2]; exact k2 j hj⟩

theorem size_setCells (b : Nat) : ∀ (vs : List Value) (o : Nat) (w : World), (w.setCells b o vs).heap.size = w.heap.size
  | [], _, _ => rfl
  | v :: r, o, w => by rw [World.setCells, size_setCells b r]; simp
theorem below_setCells {B : Nat} {a : World} (b : Nat) (hb : B ≤ b) : ∀ (vs : List Value) (o : Nat) (w : World), Below B a w → Below B a (w.setCells b o vs)
  | [], _, _, h => h
  | v :: r, o, w, h => by rw [World.setCells]; exact below_setCells b hb r _ _ (h.setCell hb _)

theorem setRange_length {cs vs : List AV} {off : Nat} (h : off + vs.length ≤ cs.length) : (setRange cs off vs).length = cs.length := by
  simp [setRange]
  omega

theorem Le.store (I : Inv W0 G st w) {id b off : Nat} {vs : List Value} (hb : G.β id = some b) (o : AObj) :
    Le G st w G (st.put id o) (w.setCells b off vs) where
  β i b hb := hb
  ext b i m n h := ⟨m, Nat.le_refl _, h⟩
  cell b' i m n j h _ := World.cell?_setCells_out b vs off w _ (fun e _ => by
    simp only at e
    subst e
    rw [I.bext id b' hb] at h
    cases h)
  tip i h hh hx := ⟨h, Nat.le_refl _, by
    obtain ⟨b', m, n, hx⟩ := hx
    simp only [St.put, Tr.get_set]
    rw [if_neg (by rintro rfl; have := (I.elt b' i m n hx).2.2.2.2.1; rw [hb] at this; cases this)]
    exact hh, fun _ _ _ _ k => k⟩
  next := Nat.le_refl _

theorem Inv.store (I : Inv W0 G st w) {id b off : Nat} {cs as : List AV} {vs : List Value} (hb : G.β id = some b) (ho : st.objs.get id = some (.cells cs)) (hl : off + as.length ≤ cs.length)
    (hr : RepL G st w as vs) : Inv W0 G (st.put id (.cells (setRange cs off as))) (w.setCells b off vs) := by
  have L := Le.store (vs := vs) (off := off) I hb (.cells (setRange cs off as))
  have hlv := hr.length
  have hbb := I.blt id b hb
  refine ⟨below_setCells b hbb.1 _ _ _ I.below, ?_, I.binj, I.bext, ?_, ?_, ?_, ?_⟩
  · intro i b' h
    rw [size_setCells]
    exact I.blt i b' h
  · intro b' i m n h
    obtain ⟨h1, h2, h3, h4, h5, t, h6⟩ := I.elt b' i m n h
    refine ⟨h1, by rw [size_setCells]; exact h2, h3, h4, h5, t, ?_⟩
    simp only [St.put, Tr.get_set]
    rw [if_neg (by rintro rfl; rw [hb] at h5; cases h5)]
    exact h6
  · intro b' i m n j h hj
    rw [World.frozen?_setCells, World.cell?_setCells_out b vs off w _ (fun e _ => by
      simp only at e
      subst e
      rw [I.bext id b' hb] at h
      cases h)]
    exact I.ecell b' i m n j h hj
  · intro i b' cs' h hcs
    simp only [St.put, Tr.get_set] at hcs
    split at hcs
    · subst_vars
      rw [hb] at h
      injection h with h
      subst h
      injection hcs with hcs
      injection hcs with hcs
      subst hcs
      obtain ⟨k1, k2⟩ := I.bcell i b cs hb ho
      refine ⟨?_, fun j hj => by rw [World.frozen?_setCells]; exact k2 j (by rw [setRange_length hl] at hj; exact hj)⟩
      have e1 : (cs.take off).length = off := by simp; omega
      have hcs3 : cs = cs.take off ++ ((cs.drop off).take as.length ++ cs.drop (off + as.length)) := by
        rw [← List.drop_drop, List.take_append_drop, List.take_append_drop]
      have k1' := k1
      rw [hcs3, RepAt.append, RepAt.append] at k1'
      obtain ⟨p1, p2, p3⟩ := k1'
      have hsr : setRange cs off as = cs.take off ++ (as ++ cs.drop (off + as.length)) := by simp [setRange]
      generalize st.put i (.cells (setRange cs off as)) = st2 at L ⊢
      rw [hsr, RepAt.append, RepAt.append]
      refine ⟨p1.old L fun j hj => World.cell?_setCells_out b vs off w _ (fun _ _ => by simp at hj ⊢; omega), ?_, ?_⟩
      · rw [e1, Nat.zero_add]
        refine RepAt.of_values (RepL.mono L _ _ hr) fun j v hv => ?_
        have hj : j < vs.length := (List.getElem?_eq_some_iff.1 hv).1
        rw [World.cell?_setCells_in b vs off w (fun i hi => by
          obtain ⟨us, u1, u2, u3⟩ := k1.values
          have : off + i < us.length := by omega
          have := u3 (off + i) us[off + i] (by simp [this])
          rw [Nat.zero_add] at this
          rw [this]; rfl) j hj]
        rw [List.getElem?_eq_getElem hj] at hv
        exact hv
      · have e2 : ((cs.drop off).take as.length).length = as.length := by simp; omega
        rw [e1, e2] at p3
        rw [e1]
        exact p3.old L fun j hj => World.cell?_setCells_out b vs off w _ (fun _ _ => by simp; omega)
    · obtain ⟨k1, k2⟩ := I.bcell i b' cs' h hcs
      have hne : b' ≠ b := by
        rintro rfl
        exact absurd (I.binj _ _ _ h hb) (by assumption)
      exact ⟨k1.old L fun j hj => World.cell?_setCells_out b vs off w _ (fun e _ => absurd e hne), fun j hj => by rw [World.frozen?_setCells]; exact k2 j hj⟩
  · intro i hi
    simp only [St.put] at hi ⊢
    rw [Tr.get_set, if_neg (by omega)]
    exact I.fresh i hi

theorem Le.grow {id b m n h k : Nat} {vs : List Value} (hx : G.ext b = some (id, m, n)) (ho : st.objs.get id = some (.tip h)) :
    Le G st w (G.grown b (id, m + k, n)) (st.put id (.tip (h + k))) (w.setCells b m vs) where
  β i b hb := hb
  ext b' i m' n' he := by
    simp only [Gh.grown]
    split
    · subst_vars; rw [hx] at he; injection he with he; injection he with e1 e2; injection e2 with e2 e3; subst_vars; exact ⟨_, Nat.le_add_right _ _, rfl⟩
    · exact ⟨m', Nat.le_refl _, he⟩
  cell b' i m' n' j he hj := World.cell?_setCells_out b vs m w _ (fun e _ => by
    simp only at e ⊢
    subst e
    rw [hx] at he; injection he with he; injection he with e1 e2; injection e2 with e2 e3; subst_vars
    exact .inl hj)
  tip i h' hh hx' := by
    simp only [St.put, Tr.get_set]
    split
    · subst_vars
      rw [ho] at hh; injection hh with hh; injection hh with hh; subst hh
      refine ⟨h + k, Nat.le_add_right _ _, rfl, fun e b' m' n' hb' => ?_⟩
      have hk : k = 0 := by omega
      subst hk
      simp only [Gh.grown]
      split
      · subst_vars; rw [hx] at hb'; exact hb'
      · exact hb'
    · refine ⟨h', Nat.le_refl _, hh, fun _ b' m' n' hb' => ?_⟩
      simp only [Gh.grown]
      split
      · subst_vars; rw [hx] at hb'; injection hb' with e; injection e with e _; subst e; exact absurd rfl (by assumption)
      · exact hb'
  next := Nat.le_refl _

/-- An append in place: behind what stands for good more does. -/
theorem Inv.grow (I : Inv W0 G st w) {id b m n h k : Nat} {vs : List Value} (hx : G.ext b = some (id, m, n)) (ho : st.objs.get id = some (.tip h)) (hk : m + k ≤ n) :
    Inv W0 (G.grown b (id, m + k, n)) (st.put id (.tip (h + k))) (w.setCells b m vs) := by
  have L := Le.grow (w := w) (k := k) (vs := vs) hx ho
  have hbb := I.elt b id m n hx
  have nob : ∀ i b', G.β i = some b' → b' ≠ b := by
    rintro i b' hb rfl
    rw [I.bext i b' hb] at hx
    cases hx
  refine ⟨below_setCells b hbb.1 _ _ _ I.below, ?_, I.binj, ?_, ?_, ?_, ?_, ?_⟩
  · intro i b' h
    rw [size_setCells]
    exact I.blt i b' h
  · intro i b' hb
    simp only [Gh.grown]
    rw [if_neg (nob i b' hb)]
    exact I.bext i b' hb
  · intro b' i m' n' he
    rw [size_setCells]
    simp only [Gh.grown] at he
    simp only [St.put, Tr.get_set]
    split at he
    · injection he with he; injection he with e1 e2; injection e2 with e2 e3; subst_vars
      obtain ⟨h1, h2, h3, h4, h5, _⟩ := hbb
      exact ⟨h1, h2, h3, hk, h5, _, if_pos rfl⟩
    · obtain ⟨h1, h2, h3, h4, h5, t, h6⟩ := I.elt b' i m' n' he
      refine ⟨h1, h2, h3, h4, h5, ?_⟩
      split
      · exact ⟨_, rfl⟩
      · exact ⟨t, h6⟩
  · intro b' i m' n' j he hj
    rw [World.frozen?_setCells]
    have key : ∀ b' i m' n' j, G.ext b' = some (i, m', n') → j < n' → ((w.setCells b m vs).cell? ⟨b', j, none⟩).isSome = true ∧ w.frozen? ⟨b', j, none⟩ = false := by
      intro b' i m' n' j he hj
      obtain ⟨c1, c2⟩ := I.ecell b' i m' n' j he hj
      refine ⟨?_, c2⟩
      by_cases hin : b' = b ∧ m ≤ j ∧ j < m + vs.length
      · obtain ⟨rfl, h1, h2⟩ := hin
        by_cases hall : ∀ i, i < vs.length → (w.cell? ⟨b', m + i, none⟩).isSome = true
        · have := World.cell?_setCells_in b' vs m w hall (j - m) (by omega)
          rw [show m + (j - m) = j by omega] at this
          rw [this]; rfl
        · exact isSome_setCells b' vs m w j c1
      · rw [World.cell?_setCells_out b vs m w _ (fun e _ => by simp only at e ⊢; omega)]
        exact c1
    simp only [Gh.grown] at he
    split at he
    · injection he with he; injection he with e1 e2; injection e2 with e2 e3; subst_vars
      exact key _ _ _ _ j hx hj
    · exact key _ _ _ _ j he hj
  · intro i b' cs hb hcs
    have hne := nob i b' hb
    simp only [St.put, Tr.get_set] at hcs
    split at hcs
    · cases hcs
    · obtain ⟨k1, k2⟩ := I.bcell i b' cs hb hcs
      exact ⟨k1.old L fun j hj => World.cell?_setCells_out b vs m w _ (fun e _ => absurd e hne), fun j hj => by rw [World.frozen?_setCells]; exact k2 j hj⟩
  · intro i hi
    simp only [St.put] at hi ⊢
    rw [Tr.get_set, if_neg (by omega)]
    exact I.fresh i hi
where
  isSome_setCells (b : Nat) : ∀ (vs : List Value) (o : Nat) (w : World) (j : Nat), (w.cell? ⟨b, j, none⟩).isSome = true → ((w.setCells b o vs).cell? ⟨b, j, none⟩).isSome = true
    | [], _, _, _, h => h
    | v :: r, o, w, j, h => by
      rw [World.setCells]
      refine isSome_setCells b r _ _ j ?_
      by_cases e : o = j
      · subst e
        obtain ⟨u, hu⟩ := Option.isSome_iff_exists.1 h
        simp [World.cell?_setCell_same _ _ _ hu]
      · rw [World.cell?_setCell_other _ _ _ _ (by simpa using e)]
        exact h
end
end Go.Ev
