/- Calls that are told together with what they leave in the store. -/
import Derived.Test.YtgmhnpfpmcccnaaGreatDoorEvWf
set_option linter.all false
namespace Go.Ev
open Go.RowKit (Below)

mutual
/-- All numbers of things so much higher. -/
def AV.sh (k : Nat) : AV → AV
  | .ref id off => .ref (k + id) off
  | .sl id e len sz cap cs => .sl (k + id) e len sz cap (AV.shs k cs)
  | .sref id off len sz cap => .sref (k + id) off len sz cap
  | .map id => .map (k + id)
  | .func fn a b => .func fn (AV.shs k a) (AV.shs k b)
  | .iface t a => .iface t (AV.sh k a)
  | .agg cs => .agg (AV.shs k cs)
  | .tuple cs => .tuple (AV.shs k cs)
  | x => x
def AV.shs (k : Nat) : List AV → List AV
  | [] => []
  | a :: xs => AV.sh k a :: AV.shs k xs
end
mutual
/-- All things that are named are such ones. -/
def AV.inL (p : Nat → Bool) : AV → Bool
  | .ref id _ => p id
  | .sl id _ _ _ _ cs => p id && AV.insL p cs
  | .sref id _ _ _ _ => p id
  | .map id => p id
  | .func _ a b => AV.insL p a && AV.insL p b
  | .iface _ a => AV.inL p a
  | .agg cs => AV.insL p cs
  | .tuple cs => AV.insL p cs
  | .vptr _ => false
  | .yield _ => false
  | _ => true
def AV.insL (p : Nat → Bool) : List AV → Bool
  | [] => true
  | a :: xs => AV.inL p a && AV.insL p xs
end
def entSh (k : Nat) : List (AV × AV × Nat) → List (AV × AV × Nat)
  | [] => []
  | (a, b, n) :: es => (a.sh k, b.sh k, n) :: entSh k es
def entIn (p : Nat → Bool) : List (AV × AV × Nat) → Bool
  | [] => true
  | (a, b, _) :: es => a.inL p && b.inL p && entIn p es
def AObj.sh (k : Nat) : AObj → AObj
  | .cells t u cs => .cells t u (AV.shs k cs)
  | .map es c => .map (entSh k es) c
  | x => x
def AObj.inL (p : Nat → Bool) : AObj → Bool
  | .cells _ _ cs => AV.insL p cs
  | .tip _ => true
  | .map es _ => entIn p es
  | _ => false
def entBeq : List (AV × AV × Nat) → List (AV × AV × Nat) → Bool
  | [], [] => true
  | (a, b, n) :: es, (a', b', n') :: es' => AV.beq a a' && AV.beq b b' && Nat.beq n n' && entBeq es es'
  | _, _ => false
def AObj.beq : AObj → AObj → Bool
  | .cells t u cs, .cells t' u' cs' => Nat.beq t t' && (u == u') && AV.beqs cs cs'
  | .tip n, .tip n' => Nat.beq n n'
  | .map es c, .map es' c' => entBeq es es' && Nat.beq c c'
  | _, _ => false
theorem entBeq_sound : ∀ {a b : List (AV × AV × Nat)}, entBeq a b = true → a = b
  | [], [], _ => rfl
  | [], _ :: _, h => by cases h
  | _ :: _, [], h => by simp [entBeq] at h
  | (a, b, n) :: es, (a', b', n') :: es', h => by
    simp only [entBeq, Bool.and_eq_true] at h
    rw [AV.beq_sound _ _ h.1.1.1, AV.beq_sound _ _ h.1.1.2, Nat.eq_of_beq_eq_true h.1.2, entBeq_sound h.2]
theorem AObj.beq_sound {a b : AObj} (h : AObj.beq a b = true) : a = b := by
  cases a <;> cases b <;> first | (cases h; done) | skip
  · simp only [AObj.beq, Bool.and_eq_true] at h
    rw [Nat.eq_of_beq_eq_true h.1.1, eq_of_beq h.1.2, AV.beqs_sound _ _ h.2]
  · simp only [AObj.beq] at h
    rw [Nat.eq_of_beq_eq_true h]
  · simp only [AObj.beq, Bool.and_eq_true] at h
    rw [entBeq_sound h.1, Nat.eq_of_beq_eq_true h.2]

/-- What a call leaves: things by their numbers. -/
abbrev Left := List (Nat × AObj)
def lkp (id : Nat) : Left → Option AObj
  | [] => none
  | (i, o) :: r => cond (Nat.beq id i) (some o) (lkp id r)
def live (d : Left) (id : Nat) : Bool := (lkp id d).isSome
def addAll (k : Nat) : Left → Tr AObj → Tr AObj
  | [], t => t
  | (i, o) :: r, t => (addAll k r t).set (o.sh k) (k + i)
theorem get_addAll (k : Nat) : ∀ (d : Left) (t : Tr AObj) (i : Nat), (addAll k d t).get i = if k ≤ i then (match lkp (i - k) d with | some o => some (o.sh k) | none => t.get i) else t.get i
  | [], t, i => by simp [addAll, lkp]
  | (j, o) :: r, t, i => by
    simp only [addAll, Tr.get_set, lkp, cond_beq]
    by_cases h : i = k + j
    · subst h
      rw [if_pos rfl, if_pos (by omega), if_pos (by omega)]
    · rw [if_neg h, get_addAll k r t i]
      by_cases hk : k ≤ i
      · rw [if_pos hk, if_pos hk, if_neg (by omega)]
      · rw [if_neg hk, if_neg hk]
theorem lkp_mem {id : Nat} {o : AObj} : ∀ {d : Left}, lkp id d = some o → (id, o) ∈ d
  | [], h => by cases h
  | (i, o') :: r, h => by
    simp only [lkp, cond_beq] at h
    split at h
    · injection h with h
      subst h
      rename_i e
      subst e
      exact List.mem_cons_self
    · exact List.mem_cons_of_mem _ (lkp_mem h)

theorem shs_length (k : Nat) : ∀ (l : List AV), (AV.shs k l).length = l.length
  | [] => rfl
  | a :: xs => by simp [AV.shs, shs_length k xs]

section
variable {W0 : World} {G G1 : Gh} {st st1 : St} {w w' : World} {d : Left}

/-- Both together. -/
def joinG (G G1 : Gh) (k B : Nat) (d : Left) : Gh where
  β i := if i < k then G.β i else if live d (i - k) then G1.β (i - k) else none
  ext b := if b < B then G.ext b else (G1.ext b).bind fun x => if live d x.1 then some (k + x.1, x.2.1, x.2.2) else none
def joinS (st : St) (d : Left) (n : Nat) : St := ⟨addAll st.next d st.objs, st.next + n⟩

theorem joinG_new {k B id : Nat} (h : live d id = true) : (joinG G G1 k B d).β (k + id) = G1.β id := by
  simp only [joinG]
  rw [if_neg (by omega), show k + id - k = id by omega, if_pos h]
theorem joinG_ext {k B b id m n : Nat} (hb : B ≤ b) (h : live d id = true) (he : G1.ext b = some (id, m, n)) : (joinG G G1 k B d).ext b = some (k + id, m, n) := by
  simp only [joinG]
  rw [if_neg (by omega), he]
  simp [h]
theorem joinS_new {n id : Nat} {o : AObj} (h : lkp id d = some o) : (joinS st d n).objs.get (st.next + id) = some (o.sh st.next) := by
  simp only [joinS, get_addAll]
  rw [if_pos (by omega), show st.next + id - st.next = id by omega, h]
theorem joinS_old {n i : Nat} (h : i < st.next) : (joinS st d n).objs.get i = st.objs.get i := by
  simp only [joinS, get_addAll]
  rw [if_neg (by omega)]

variable (I1 : Inv w G1 st1 w') (hd : ∀ id o, lkp id d = some o → st1.objs.get id = some o) (n : Nat)
include I1 hd
mutual
theorem Rep.sh : ∀ (a : AV) (v : Value), a.inL (live d) = true → Rep G1 st1 w' a v → Rep (joinG G G1 st.next w.heap.size d) (joinS st d n) w' (a.sh st.next) v
  | .int _ _, _, _, h => by simpa only [Rep, AV.sh] using h
  | .bool _, _, _, h => by simpa only [Rep, AV.sh] using h
  | .str _, _, _, h => by simpa only [Rep, AV.sh] using h
  | .nilp, _, _, h => by simpa only [Rep, AV.sh] using h
  | .glob _ _, _, _, h => by simpa only [Rep, AV.sh] using h
  | .snil, _, _, h => by simpa only [Rep, AV.sh] using h
  | .sempty, _, _, h => by simpa only [Rep, AV.sh] using h
  | .mnil, _, _, h => by simpa only [Rep, AV.sh] using h
  | .nilf, _, _, h => by simpa only [Rep, AV.sh] using h
  | .nili, _, _, h => by simpa only [Rep, AV.sh] using h
  | .resi .., _, _, h => by simpa only [Rep, AV.sh] using h
  | .strx .., _, _, h => by simpa only [Rep, AV.sh] using h
  | .any, _, _, h => by simpa only [Rep, AV.sh] using h
  | .vptr _, _, hc, _ => by simp [AV.inL] at hc
  | .yield _, _, hc, _ => by simp [AV.inL] at hc
  | .ref id off, _, hc, h => by
    simp only [AV.inL] at hc
    simp only [Rep, AV.sh] at h ⊢
    obtain ⟨b, k, n, h1, h2⟩ := h
    exact ⟨b, k, n, by rw [joinG_new hc]; exact h1, h2⟩
  | .map id, _, hc, h => by
    simp only [AV.inL] at hc
    simp only [Rep, AV.sh] at h ⊢
    obtain ⟨b, k, n, h1, h2⟩ := h
    exact ⟨b, k, n, by rw [joinG_new hc]; exact h1, h2⟩
  | .sref id off len sz cap, _, hc, h => by
    simp only [AV.inL] at hc
    simp only [Rep, AV.sh] at h ⊢
    obtain ⟨b, k, n, c, h1, h2⟩ := h
    exact ⟨b, k, n, c, by rw [joinG_new hc]; exact h1, h2⟩
  | .sl id e len sz cap cs, _, hc, h => by
    simp only [AV.inL, Bool.and_eq_true] at hc
    simp only [Rep, AV.sh] at h ⊢
    obtain ⟨b, off, c, m, n, h1, h2, h3, h4, h5, h6, h7, h8, t, h9, h10, h11, h12⟩ := h
    obtain ⟨o, ho⟩ := Option.isSome_iff_exists.1 hc.1
    have e1 := hd _ _ ho
    rw [h9] at e1
    injection e1 with e1
    subst e1
    refine ⟨b, off, c, m, n, h1, joinG_ext (I1.elt _ _ _ _ h2).1 hc.1 h2, by rw [shs_length]; exact h3, RepAt.sh cs b off hc.2 h4, by rw [shs_length]; exact h5, h6, h7, h8, t, joinS_new ho, h10, by rw [shs_length]; exact h11, by rw [shs_length]; exact h12⟩
  | .func fn a b, _, hc, h => by
    simp only [AV.inL, Bool.and_eq_true] at hc
    simp only [Rep, AV.sh] at h ⊢
    obtain ⟨f, c, h1, h2, h3⟩ := h
    exact ⟨f, c, h1, RepL.sh a _ hc.1 h2, RepL.sh b _ hc.2 h3⟩
  | .iface t a, _, hc, h => by
    simp only [AV.inL] at hc
    simp only [Rep, AV.sh] at h ⊢
    obtain ⟨u, h1, h2⟩ := h
    exact ⟨u, h1, Rep.sh a u hc h2⟩
  | .agg cs, _, hc, h => by
    simp only [AV.inL] at hc
    simp only [Rep, AV.sh] at h ⊢
    obtain ⟨u, h1, h2⟩ := h
    exact ⟨u, h1, RepL.sh cs _ hc h2⟩
  | .tuple cs, _, hc, h => by
    simp only [AV.inL] at hc
    simp only [Rep, AV.sh] at h ⊢
    obtain ⟨u, h1, h2⟩ := h
    exact ⟨u, h1, RepL.sh cs _ hc h2⟩
theorem RepL.sh : ∀ (xs : List AV) (vs : List Value), AV.insL (live d) xs = true → RepL G1 st1 w' xs vs → RepL (joinG G G1 st.next w.heap.size d) (joinS st d n) w' (AV.shs st.next xs) vs
  | [], _, _, h => by simpa only [RepL, AV.shs] using h
  | a :: xs, _, hc, h => by
    simp only [AV.insL, Bool.and_eq_true] at hc
    simp only [RepL, AV.shs] at h ⊢
    obtain ⟨v, vs, h1, h2, h3⟩ := h
    exact ⟨v, vs, h1, Rep.sh a v hc.1 h2, RepL.sh xs vs hc.2 h3⟩
theorem RepAt.sh : ∀ (xs : List AV) (b off : Nat), AV.insL (live d) xs = true → RepAt G1 st1 w' b off xs → RepAt (joinG G G1 st.next w.heap.size d) (joinS st d n) w' b off (AV.shs st.next xs)
  | [], _, _, _, _ => by simp only [RepAt, AV.shs]
  | a :: xs, b, off, hc, h => by
    simp only [AV.insL, Bool.and_eq_true] at hc
    simp only [RepAt, AV.shs] at h ⊢
    obtain ⟨⟨v, h1, h2⟩, h3⟩ := h
    exact ⟨⟨v, h1, Rep.sh a v hc.1 h2⟩, RepAt.sh xs b (off + 1) hc.2 h3⟩
end
theorem RepEs.sh : ∀ {es : List (AV × AV × Nat)} {l : List MapEntry}, entIn (live d) es = true → RepEs G1 st1 w' es l → RepEs (joinG G G1 st.next w.heap.size d) (joinS st d n) w' (entSh st.next es) l
  | [], _, _, h => h
  | (k, v, b) :: es, _, hc, h => by
    simp only [entIn, Bool.and_eq_true] at hc
    obtain ⟨k', v', r, h1, h2, h3, h4⟩ := h
    exact ⟨k', v', r, h1, Rep.sh I1 hd n _ _ hc.1.1 h2, Rep.sh I1 hd n _ _ hc.1.2 h3, RepEs.sh hc.2 h4⟩

theorem join_le (I : Inv W0 G st w) : Le G st w (joinG G G1 st.next w.heap.size d) (joinS st d n) w' where
  β i x h := by
    obtain ⟨b, k, m⟩ := x
    have := (I.blt _ _ _ _ h).2.2
    simp only [joinG]
    rw [if_pos this]
    exact h
  ext b i m k h := ⟨m, Nat.le_refl _, by
    have := (I.elt _ _ _ _ h).2.1
    simp only [joinG]
    rw [if_pos this]
    exact h⟩
  cell b i m k off h _ := I1.below.cell (p := ⟨b, off, none⟩) (I.elt _ _ _ _ h).2.1
  tip i h hh hx := ⟨h, Nat.le_refl _, by
    obtain ⟨b, m, k, hx⟩ := hx
    rw [joinS_old (I.elt _ _ _ _ hx).2.2.1]
    exact hh, fun _ b m k hx => by
      have := (I.elt _ _ _ _ hx).2.1
      simp only [joinG]
      rw [if_pos this]
      exact hx⟩
  next := by simp [joinS]

theorem join_inv (I : Inv W0 G st w) (hn : st1.next = n) (hin : ∀ id o, lkp id d = some o → o.inL (live d) = true) : Inv W0 (joinG G G1 st.next w.heap.size d) (joinS st d n) w' := by
  have B := I1.below
  have L := join_le (d := d) I1 hd n I
  have hs := I.below.size
  -- of which kind a thing is
  have βk : ∀ i x, (joinG G G1 st.next w.heap.size d).β i = some x → (i < st.next ∧ G.β i = some x) ∨ ∃ id o, i = st.next + id ∧ lkp id d = some o ∧ G1.β id = some x := by
    intro i x h
    simp only [joinG] at h
    split at h
    · exact .inl ⟨by assumption, h⟩
    · split at h
      · rename_i hl
        obtain ⟨o, ho⟩ := Option.isSome_iff_exists.1 hl
        exact .inr ⟨i - st.next, o, by omega, ho, h⟩
      · cases h
  have xk : ∀ b i m k, (joinG G G1 st.next w.heap.size d).ext b = some (i, m, k) → (b < w.heap.size ∧ G.ext b = some (i, m, k)) ∨ ∃ id o, w.heap.size ≤ b ∧ i = st.next + id ∧ lkp id d = some o ∧ G1.ext b = some (id, m, k) := by
    intro b i m k h
    simp only [joinG] at h
    split at h
    · exact .inl ⟨by assumption, h⟩
    · simp only [Option.bind_eq_some_iff] at h
      obtain ⟨⟨id, m', k'⟩, h1, h2⟩ := h
      split at h2
      · rename_i hl
        obtain ⟨o, ho⟩ := Option.isSome_iff_exists.1 hl
        injection h2 with h2
        injection h2 with e1 e2
        injection e2 with e2 e3
        subst e1; subst e2; subst e3
        exact .inr ⟨id, o, by omega, rfl, ho, h1⟩
      · cases h2
  have nd : ∀ id o, lkp id d = some o → st1.objs.get id ≠ some .dead := by
    intro id o h e
    rw [hd _ _ h] at e
    injection e with e
    subst e
    have := hin _ _ h
    simp [AObj.inL] at this
  refine ⟨I.below.trans (B.mono hs), ?_, ?_, ?_, ?_, ?_, ?_, ?_, ?_⟩
  · intro i b k m h
    rcases βk _ _ h with ⟨h1, h2⟩ | ⟨id, o, rfl, h1, h2⟩
    · obtain ⟨a1, a2, a3⟩ := I.blt _ _ _ _ h2
      exact ⟨a1, Nat.lt_of_lt_of_le a2 B.size, by simp [joinS]; omega⟩
    · obtain ⟨a1, a2, a3⟩ := I1.blt _ _ _ _ h2
      exact ⟨Nat.le_trans hs a1, a2, by simp [joinS]; omega⟩
  · intro i j b k m k' m' h h' e e'
    rcases βk _ _ h with ⟨h1, h2⟩ | ⟨id, o, rfl, h1, h2⟩ <;> rcases βk _ _ h' with ⟨h1', h2'⟩ | ⟨id', o', rfl, h1', h2'⟩
    · rw [joinS_old h1] at e
      rw [joinS_old h1'] at e'
      exact I.binj _ _ _ _ _ _ _ h2 h2' e e'
    · have := (I.blt _ _ _ _ h2).2.1
      have := (I1.blt _ _ _ _ h2').1
      omega
    · have := (I.blt _ _ _ _ h2').2.1
      have := (I1.blt _ _ _ _ h2).1
      omega
    · rw [I1.binj _ _ _ _ _ _ _ h2 h2' (nd _ _ h1) (nd _ _ h1')]
  · intro i b k m h
    rcases βk _ _ h with ⟨h1, h2⟩ | ⟨id, o, rfl, h1, h2⟩
    · simp only [joinG]
      rw [if_pos (I.blt _ _ _ _ h2).2.1]
      exact I.bext _ _ _ _ h2
    · have := (I1.blt _ _ _ _ h2).1
      simp only [joinG]
      rw [if_neg (by omega), I1.bext _ _ _ _ h2]
      rfl
  · intro b i m k h
    rcases xk _ _ _ _ h with ⟨h1, h2⟩ | ⟨id, o, h0, rfl, h1, h2⟩
    · obtain ⟨a1, a2, a3, a4, a5, t, a6⟩ := I.elt _ _ _ _ h2
      refine ⟨a1, Nat.lt_of_lt_of_le a2 B.size, by simp [joinS]; omega, a4, ?_, t, ?_⟩
      · simp only [joinG]
        rw [if_pos a3]
        exact a5
      · rw [joinS_old a3]
        exact a6
    · obtain ⟨a1, a2, a3, a4, a5, t, a6⟩ := I1.elt _ _ _ _ h2
      have e1 := hd _ _ h1
      rw [a6] at e1
      injection e1 with e1
      subst e1
      refine ⟨by omega, a2, by simp [joinS]; omega, a4, ?_, t, joinS_new h1⟩
      rw [joinG_new (by simp [live, h1])]
      exact a5
  · intro b i m k j h hj
    rcases xk _ _ _ _ h with ⟨h1, h2⟩ | ⟨id, o, h0, rfl, h1, h2⟩
    · rw [B.cell (p := ⟨b, j, none⟩) h1, B.frozen (p := ⟨b, j, none⟩) h1]
      exact I.ecell _ _ _ _ _ h2 hj
    · exact I1.ecell _ _ _ _ _ h2 hj
  · intro i b k m t u cs h hcs
    rcases βk _ _ h with ⟨h1, h2⟩ | ⟨id, o, rfl, h1, h2⟩
    · rw [joinS_old h1] at hcs
      have hb := (I.blt _ _ _ _ h2).2.1
      obtain ⟨k1, k2, k3, k4, k5, k6⟩ := I.bcell _ _ _ _ _ _ _ h2 hcs
      refine ⟨?_, k2, k3, fun hu => ⟨(k4 hu).1, by rw [B.frozen (p := ⟨b, m, none⟩) hb]; exact (k4 hu).2⟩, by rw [shape_block (B.block b hb)]; exact k5, fun i hi => by rw [B.frozen (p := ⟨b, i, none⟩) hb]; exact k6 i hi⟩
      obtain ⟨vs, j1, _, j3⟩ := k1.values
      exact RepAt.of_values (RepL.mono L _ _ j1) fun j v hv => by rw [B.cell (p := ⟨b, 0 + j, none⟩) hb]; exact j3 j v hv
    · rw [joinS_new h1] at hcs
      injection hcs with hcs
      cases o <;> simp only [AObj.sh] at hcs <;> first | (cases hcs; done) | skip
      injection hcs with e1 e2 e3
      subst e1; subst e2; subst e3
      have hi := hin _ _ h1
      simp only [AObj.inL] at hi
      obtain ⟨k1, k2, k3⟩ := I1.bcell _ _ _ _ _ _ _ h2 (hd _ _ h1)
      exact ⟨RepAt.sh I1 hd n _ _ _ hi k1, by rw [shs_length]; exact k2, k3⟩
  · intro i b k m a h ha hh
    rcases βk _ _ h with ⟨h1, h2⟩ | ⟨id, o, rfl, h1, h2⟩
    · rw [joinS_old h1] at ha
      obtain ⟨o', o1, o2⟩ := I.bobj _ _ _ _ _ h2 ha hh
      exact ⟨o', by rw [B.block b (I.blt _ _ _ _ h2).2.1]; exact o1, o2.mono L⟩
    · rw [joinS_new h1] at ha
      injection ha with ha
      subst ha
      have hi := hin _ _ h1
      cases o <;> first | (simp [AObj.sh, AObj.heavy] at hh; done) | (simp [AObj.inL] at hi; done) | skip
      rename_i es c
      simp only [AObj.inL] at hi
      obtain ⟨o', o1, o2⟩ := I1.bobj _ _ _ _ _ h2 (hd _ _ h1) rfl
      obtain ⟨es', rfl, p2⟩ := o2
      exact ⟨_, o1, es', rfl, RepEs.sh I1 hd n hi p2⟩
  · intro i hi
    simp only [joinS] at hi
    simp only [joinS, get_addAll]
    rw [if_pos (by omega)]
    cases hl : lkp (i - st.next) d with
    | none => exact I.fresh i (by omega)
    | some o =>
      have e1 := hd _ _ hl
      rw [I1.fresh _ (by omega)] at e1
      cases e1

theorem join_unb (I : Inv W0 G st w) : Unb G st (joinG G G1 st.next w.heap.size d) (joinS st d n) := by
  intro i hi hu
  refine ⟨joinS_old hi, ?_, ?_⟩
  · simp only [joinG]
    rw [if_pos hi]
    exact hu.1
  · intro b m k h
    simp only [joinG] at h
    split at h
    · exact hu.2 _ _ _ h
    · simp only [Option.bind_eq_some_iff] at h
      obtain ⟨⟨id, m', k'⟩, h1, h2⟩ := h
      split at h2
      · injection h2 with h2
        injection h2 with e1 _
        omega
      · cases h2
end

/-- A call that is told with what it leaves: its number, its arguments, its value, the things it leaves, how many there were. -/
structure ToldS where
  f : Nat
  args : List AV
  v : AV
  d : Left
  n : Nat
def toldAt (f : Nat) (args : List AV) : List ToldS → Option ToldS
  | [] => none
  | x :: r => cond (Nat.beq f x.f && AV.beqs args x.args) (some x) (toldAt f args r)
def toldMext (t : List ToldS) (old : FuncId → List AV → St → Option (AV × St)) : FuncId → List AV → St → Option (AV × St) := fun f args st => match toldAt f args t with
  | some x => some (x.v.sh st.next, joinS st x.d x.n)
  | none => old f args st
def allLeft (d : Left) (st1 : St) : Left → Bool
  | [] => true
  | (id, o) :: r => (match st1.objs.get id with | some o' => AObj.beq o' o | none => false) && o.inL (live d) && allLeft d st1 r
noncomputable def toldRun (C : Cfg) (ext : Ext) (x : ToldS) : Bool :=
  cond (AV.closeds x.args && x.v.inL (live x.d) && hasBody C.P x.f && !((C.P.funcs[x.f]?).any fun fn => fn.name == "runtime.NumGoroutine"))
    (callG C ext 100000 1000 false x.f x.args St.empty fun _ v st1 => AV.beq v x.v && Nat.beq st1.next x.n && allLeft x.d st1 x.d) false
theorem toldAt_mem {f : Nat} {args : List AV} {x : ToldS} : ∀ {t : List ToldS}, toldAt f args t = some x → x ∈ t ∧ f = x.f ∧ args = x.args
  | [], h => by cases h
  | y :: t, h => by
    simp only [toldAt] at h
    cases hc : Nat.beq f y.f && AV.beqs args y.args with
    | false =>
      rw [hc] at h
      obtain ⟨h1, h2⟩ := toldAt_mem h
      exact ⟨List.mem_cons_of_mem _ h1, h2⟩
    | true =>
      rw [hc] at h
      injection h with h
      subst h
      simp only [Bool.and_eq_true] at hc
      exact ⟨List.mem_cons_self, Nat.eq_of_beq_eq_true hc.1, AV.beqs_sound _ _ hc.2⟩
theorem allLeft_ok {d : Left} {st1 : St} : ∀ {l : Left}, allLeft d st1 l = true → ∀ id o, (id, o) ∈ l → st1.objs.get id = some o ∧ o.inL (live d) = true
  | [], _, _, _, h => by cases h
  | (i, o') :: r, h, id, o, hm => by
    simp only [allLeft, Bool.and_eq_true] at h
    rcases List.mem_cons.1 hm with e | hm
    · injection e with e1 e2
      subst e1; subst e2
      refine ⟨?_, h.1.2⟩
      have h1 := h.1.1
      split at h1
      · rename_i o2 ho2
        rw [ho2, AObj.beq_sound h1]
      · cases h1
    · exact allLeft_ok h.2 id o hm
theorem toldMext_ok {C : Cfg} {ext : Ext} {t : List ToldS} {old : FuncId → List AV → St → Option (AV × St)} (hm : C.P.follows .mixedOrders = true) (hE : ExtOk C.P ext) (hM : MextOk C.P C.mext) (ho : MextOk C.P old) (ht : t.all (toldRun C ext) = true) :
    MextOk C.P (toldMext t old) := by
  intro f args st v st' hx W0 G w vs I hr
  unfold toldMext at hx
  split at hx
  rotate_left
  · exact ho f args st v st' hx W0 G w vs I hr
  rename_i x hx1
  injection hx with hx
  injection hx with e1 e2
  subst e1; subst e2
  obtain ⟨hmem, rfl, rfl⟩ := toldAt_mem hx1
  have hrun := List.all_eq_true.1 ht _ hmem
  simp only [toldRun] at hrun
  obtain ⟨hc, hrun⟩ := cond_true_false hrun
  simp only [Bool.and_eq_true, Bool.not_eq_true'] at hc
  obtain ⟨⟨⟨c1, c2⟩, c3⟩, c4⟩ := hc
  have h1 := callG_ok 1000 false x.f x.args St.empty _ _ (fun _ _ _ h => h) hrun
  have I0 : Inv w ⟨fun _ => none, fun _ => none⟩ St.empty w := {
    below := Below.refl _ _
    blt := fun _ _ _ _ h => by cases h
    binj := fun _ _ _ _ _ _ _ h => by cases h
    bext := fun _ _ _ _ h => by cases h
    elt := fun _ _ _ _ h => by cases h
    ecell := fun _ _ _ _ _ h => by cases h
    bcell := fun _ _ _ _ _ _ _ h => by cases h
    bobj := fun _ _ _ _ _ h => by cases h
    fresh := fun id _ => by simp [St.empty, Tr.get] }
  rcases (call_sound (W0 := w) hm hE hM 100000 1000).1 x.f x.args St.empty _ h1 _ w vs I0 (RepL.closed c1 hr) with ⟨u, w', v, st', G', k1, _⟩ | ⟨_, k2, _⟩
  · exact (hasBody_enter c3 k1).elim
  · refine .inr ⟨?_, Calls.mono (callsIn_wide.1 k2) fun e w' he => ?_⟩
    · unfold hasBody at c3
      split at c3
      · rename_i fn hfn
        have hfn' : C.P.funcs[x.f]? = some fn := hfn
        rw [hfn'] at c4
        have h0 : ¬ fn.name = "runtime.NumGoroutine" := by simpa using c4
        have h1 : ¬ fn.body = none := by intro h; rw [h] at c3; cases c3
        simp [callFunc, hfn', h0, h1]
      · cases c3
    · obtain ⟨u, v, st1, G1, rfl, hk, hg, hrep⟩ := he
      simp only [Bool.or_self, Bool.and_eq_true] at hk
      obtain ⟨⟨g1, g2⟩, g3⟩ := hk
      have g1 := AV.beq_sound _ _ g1
      have g2 := Nat.eq_of_beq_eq_true g2
      subst g1
      have I1 := hg.inv
      have hl := allLeft_ok g3
      have hd : ∀ id o, lkp id x.d = some o → st1.objs.get id = some o := fun id o h => (hl id o (lkp_mem h)).1
      have hin : ∀ id o, lkp id x.d = some o → o.inL (live x.d) = true := fun id o h => (hl id o (lkp_mem h)).2
      exact ⟨u, _, rfl, ⟨join_le I1 hd x.n I, join_unb I1 hd x.n I, join_inv I1 hd x.n I g2 hin⟩, Rep.sh I1 hd x.n _ _ c2 hrep⟩
end Go.Ev
