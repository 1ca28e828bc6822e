/- A block goes over to another thing, turned in whatever way. -/
import Derived.Test.YtgmhnpfpmcccnaaGreatDoorEvWc
set_option linter.all false
namespace Go.Ev
open Go.RowKit (Below)
section
variable {W0 : World} {G : Gh} {st : St} {w : World}
/-- A block goes over to another thing, turned in whatever way. -/
theorem Le.moved2 (I : Inv W0 G st w) {id b k n : Nat} {ks : List AV} {t : TypeId} (hb : G.β id = some (b, k, n)) {w' : World} (hoth : ∀ b', b' ≠ b → w'.heap[b']? = w.heap[b']?) :
    Le G st w (G.born st.next (b, ks.length, n)) ((st.put id .dead).push (.cells t false ks)) w' where
  β i x hx := by
    simp only [Gh.born]
    obtain ⟨b', k', n'⟩ := x
    have := (I.blt _ _ _ _ hx).2.2
    rw [if_neg (by omega)]
    exact hx
  ext b i m n h := ⟨m, Nat.le_refl _, h⟩
  cell b' i m n j h _ := World.cell?_of_block (w := w) (hoth b' (by
    rintro rfl
    rw [I.bext id b' _ _ hb] at h
    cases h))
  tip i h hh hx := ⟨h, Nat.le_refl _, by
    obtain ⟨b', m, n, hx⟩ := hx
    have := (I.elt b' i m n hx).2.2.1
    simp only [St.push, St.put, Tr.get_set]
    rw [if_neg (by omega), if_neg (by rintro rfl; have := (I.elt b' i m n hx).2.2.2.2.1; rw [hb] at this; cases this)]
    exact hh, fun _ _ _ _ k => k⟩
  next := by simp [St.push, St.put]
theorem Inv.moved2 (I : Inv W0 G st w) {id b k n : Nat} {t : TypeId} {u : Bool} {cs ks : List AV} {us : List Value} (hb : G.β id = some (b, k, n)) (ho : st.objs.get id = some (.cells t u cs)) {w' : World} (hsz' : w'.heap.size = w.heap.size) (hbel : Below W0.heap.size W0 w') (hoth : ∀ b', b' ≠ b → w'.heap[b']? = w.heap[b']?) (hsh : w'.shape? b = w.shape? b) (hfz : ∀ j, w'.frozen? ⟨b, j, none⟩ = w.frozen? ⟨b, j, none⟩)
    (hr : RepL G st w ks us) (hu : ∀ (j : Nat) u, us[j]? = some u → w'.cell? ⟨b, j, none⟩ = some u) (hk : ks.length ≤ n) :
    Inv W0 (G.born st.next (b, ks.length, n)) ((st.put id .dead).push (.cells t false ks)) w' := by
  have L := Le.moved2 (ks := ks) (t := t) I hb hoth
  obtain ⟨k1, k2, k3, k4, k5, k6⟩ := I.bcell id b k n t u cs hb ho
  have hbb := I.blt id b k n hb
  have cell' : ∀ b' i, b' ≠ b → w'.cell? ⟨b', i, none⟩ = w.cell? ⟨b', i, none⟩ := fun b' i h => World.cell?_of_block (w := w) (hoth b' h)
  have get' : ∀ i, i ≠ id → i < st.next → ((st.put id .dead).push (.cells t false ks)).objs.get i = st.objs.get i := fun i h1 h2 => by
    simp only [St.push, St.put, Tr.get_set]
    rw [if_neg (by omega), if_neg h1]
  have other : ∀ i b' k' n', G.β i = some (b', k', n') → i ≠ id → st.objs.get i ≠ some .dead → b' ≠ b := by
    rintro i b' k' n' h hne hd rfl
    exact hne (I.binj _ _ _ _ _ _ _ h hb hd (by rw [ho]; intro e; cases e))
  have dead' : ((st.put id .dead).push (.cells t false ks)).objs.get id = some .dead := by
    simp only [St.push, St.put, Tr.get_set]
    rw [if_neg (by omega)]
    exact if_pos trivial
  have β' : ∀ i x, (G.born st.next (b, ks.length, n)).β i = some x → (i = st.next ∧ x = (b, ks.length, n)) ∨ (i ≠ st.next ∧ G.β i = some x) := by
    intro i x h
    simp only [Gh.born] at h
    split at h
    · injection h with h; exact .inl ⟨by assumption, h.symm⟩
    · exact .inr ⟨by assumption, h⟩
  have froz' : ∀ b' i, b' ≠ b → w'.frozen? ⟨b', i, none⟩ = w.frozen? ⟨b', i, none⟩ := fun b' i h => World.frozen?_of_block (w := w) (hoth b' h)
  refine ⟨hbel, ?_, ?_, ?_, ?_, ?_, ?_, ?_, ?_⟩
  · intro i b' k' n' h
    rw [hsz']
    rcases β' _ _ h with ⟨rfl, e⟩ | ⟨_, h⟩
    · injection e with e _; subst e; exact ⟨hbb.1, hbb.2.1, by simp [St.push, St.put]⟩
    · obtain ⟨h1, h2, h3⟩ := I.blt i b' k' n' h
      exact ⟨h1, h2, by simp [St.push, St.put]; omega⟩
  · intro i j b' k1 n1 k2 n2 h1 h2 d1 d2
    rcases β' _ _ h1 with ⟨rfl, e1⟩ | ⟨e1, g1⟩ <;> rcases β' _ _ h2 with ⟨rfl, e2⟩ | ⟨e2, g2⟩
    · rfl
    · injection e1 with e1 _
      subst e1
      have hj := (I.blt _ _ _ _ g2).2.2
      have hne : j ≠ id := by rintro rfl; exact d2 dead'
      rw [get' j hne hj] at d2
      exact absurd rfl (other j _ _ _ g2 hne d2)
    · injection e2 with e2 _
      subst e2
      have hj := (I.blt _ _ _ _ g1).2.2
      have hne : i ≠ id := by rintro rfl; exact d1 dead'
      rw [get' i hne hj] at d1
      exact absurd rfl (other i _ _ _ g1 hne d1)
    · have hi := (I.blt _ _ _ _ g1).2.2
      have hj := (I.blt _ _ _ _ g2).2.2
      have n1' : i ≠ id := by rintro rfl; exact d1 dead'
      have n2' : j ≠ id := by rintro rfl; exact d2 dead'
      rw [get' i n1' hi] at d1
      rw [get' j n2' hj] at d2
      exact I.binj i j b' k1 n1 k2 n2 g1 g2 d1 d2
  · intro i b' k' n' h
    rcases β' _ _ h with ⟨rfl, e⟩ | ⟨_, h⟩
    · injection e with e _; subst e; exact I.bext id _ _ _ hb
    · exact I.bext i b' k' n' h
  · intro b' i m n' h
    obtain ⟨h1, h2, h3, h4, h5, t, h6⟩ := I.elt b' i m n' h
    refine ⟨h1, by rw [hsz']; exact h2, by simp [St.push, St.put]; omega, h4, ?_, t, ?_⟩
    · simp only [Gh.born]
      rw [if_neg (by omega)]
      exact h5
    · rw [get' i (by rintro rfl; rw [hb] at h5; cases h5) h3]
      exact h6
  · intro b' i m n' j h0 hj
    have h : G.ext b' = some (i, m, n') := h0
    have hne : b' ≠ b := by
      rintro rfl
      rw [I.bext id b' _ _ hb] at h
      cases h
    rw [cell' b' j hne, froz' b' j hne]
    exact I.ecell b' i m n' j h hj
  · intro i b' k' n' t' u' cs' h hcs
    rcases β' _ _ h with ⟨rfl, e⟩ | ⟨hne0, h⟩
    · injection e with e1 e2; injection e2 with e2 e3
      subst e1; subst e2; subst e3
      simp only [St.push, St.put, Tr.get_set] at hcs
      rw [if_pos trivial] at hcs
      injection hcs with hcs
      injection hcs with e1 e2 e3
      subst e1; subst e2; subst e3
      refine ⟨RepAt.of_values (RepL.mono L _ _ hr) fun j v hv => ?_, rfl, hk, (fun e => by cases e), by rw [hsh]; exact k5, fun j hj => by rw [hfz]; exact k6 j hj⟩
      rw [Nat.zero_add]
      exact hu j v hv
    · have hi := (I.blt _ _ _ _ h).2.2
      have hne : i ≠ id := by rintro rfl; rw [dead'] at hcs; cases hcs
      rw [get' i hne hi] at hcs
      obtain ⟨j1, j2, j3, j4, j5, j6⟩ := I.bcell i b' k' n' t' u' cs' h hcs
      have hne' := other i b' k' n' h hne (by rw [hcs]; intro e; cases e)
      exact ⟨j1.old L fun j _ => cell' _ _ hne', j2, j3, fun hu => ⟨(j4 hu).1, by rw [froz' _ _ hne']; exact (j4 hu).2⟩, by rw [shape_block (hoth b' hne')]; exact j5, fun j hj => by rw [froz' _ _ hne']; exact j6 j hj⟩
  · intro i b' k' n' a h ha hh
    rcases β' _ _ h with ⟨rfl, e⟩ | ⟨hne0, h⟩
    · simp only [St.push, St.put, Tr.get_set] at ha
      rw [if_pos trivial] at ha
      injection ha with ha
      subst ha
      cases hh
    · have hi := (I.blt _ _ _ _ h).2.2
      have hne : i ≠ id := by rintro rfl; rw [dead'] at ha; injection ha with ha; subst ha; cases hh
      rw [get' i hne hi] at ha
      obtain ⟨o, j1, j2⟩ := I.bobj i b' k' n' a h ha hh
      have hne' := other i b' k' n' h hne (by rw [ha]; intro e; injection e with e; subst e; cases hh)
      exact ⟨o, by rw [hoth b' hne']; exact j1, j2.mono L⟩
  · intro i hi
    simp only [St.push, St.put] at hi ⊢
    rw [Tr.get_set, if_neg (by omega), Tr.get_set, if_neg (by omega)]
    exact I.fresh i (by omega)


end
end Go.Ev
