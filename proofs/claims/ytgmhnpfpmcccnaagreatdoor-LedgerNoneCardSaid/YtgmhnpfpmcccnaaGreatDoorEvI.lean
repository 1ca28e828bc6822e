/- Slices, addresses, fields, and: what yields a value alone does so in the model. -/
import Derived.Test.YtgmhnpfpmcccnaaGreatDoorEvH
set_option linter.all false
namespace Go.Ev
open Go.RowKit (Below)

section
variable {P : Program} {G : Gh} {st : St} {w : World}

theorem rep_int {x : AV} {i : Int} {u : Value} (h : intOf x = some i) (hx : Rep G st w x u) : ∃ k, u = .int k i := by
  unfold intOf at h
  split at h
  · injection h with h; subst h; simp only [Rep] at hx; exact ⟨_, hx⟩
  · cases h
theorem within_spec {x : AV} {n m : Nat} {u : Value} (h : within x n = some m) (hx : Rep G st w x u) : ∃ k, u = .int k (m : Int) ∧ m ≤ n := by
  simp only [within, Option.bind_eq_some_iff] at h
  obtain ⟨i, hi, h⟩ := h
  obtain ⟨k, rfl⟩ := rep_int hi hx
  split at h
  · obtain ⟨h1, h2⟩ := cond_some h
    injection h2 with h2
    subst h2
    exact ⟨k, rfl, Nat.le_of_ble_eq_true h1⟩
  · cases h
theorem run_sliceBound {x : AV} {n n' m : Nat} {u : Value} {code : BoundsCode} (h : within x n = some m) (hx : Rep G st w x u) (hn : n ≤ n') : (Instr.sliceBound u n' code).run P w = .ok m w := by
  obtain ⟨k, rfl, h1⟩ := within_spec h hx
  have h2 : m ≤ n' := by omega
  simp [Instr.sliceBound, asIntOf, h2]

/-- An operand that may be missing. -/
def RepO (G : Gh) (st : St) (w : World) : Option AV → Option Value → Prop
  | none, v => v = none
  | some a, v => ∃ u, v = some u ∧ Rep G st w a u
theorem RepO.opt {ts : List AV} {a : Act} (h : RepL G st w ts a.tmps.toList) {x : Option Operand} {v : Option AV} (hv : optV ts x = some v) : RepO G st w v (x.map a.eval) := by
  cases x with
  | none => simp only [optV] at hv; injection hv with hv; subst hv; rfl
  | some x =>
    simp only [optV, Option.bind_eq_some_iff] at hv
    obtain ⟨u, h1, h2⟩ := hv
    injection h2 with h2
    subst h2
    exact ⟨_, rfl, Rep.opnd h h1⟩

theorem bounds_spec {len cap : Nat} {low high max : Option AV} {l h m : Nat} (hb : bounds len cap low high max = some (l, h, m)) :
    mxOf cap max = some m ∧ hiOf len m high max = some h ∧ loOf h low = some l := by
  simp only [bounds, Option.bind_eq_some_iff, Option.some.injEq, Prod.mk.injEq] at hb
  obtain ⟨m', h1, h', h2, l', h3, rfl, rfl, rfl⟩ := hb
  exact ⟨h1, h2, h3⟩

/-- The bounds, where the true capacity is at least what is known of it. -/
theorem run_bounds {isSlice : Bool} {len cap cap' : Nat} {low high max : Option AV} {low' high' max' : Option Value} {l h m : Nat}
    (hl : RepO G st w low low') (hh : RepO G st w high high') (hm : RepO G st w max max') (hb : bounds len cap low high max = some (l, h, m)) (hc : cap ≤ cap') (hlen : len ≤ cap) :
    (Instr.sliceBounds isSlice len cap' low' high' max').run P w = .ok (l, h, if max.isSome then m else cap') w ∧ l ≤ h ∧ h ≤ cap ∧ (max.isSome = true → m ≤ cap ∧ h ≤ m) := by
  obtain ⟨b1, b2, b3⟩ := bounds_spec hb
  have hhm : h ≤ m ∧ m ≤ cap := by
    have hm1 : m ≤ cap := by
      cases max with
      | none => simp only [mxOf, Option.some.injEq] at b1; omega
      | some v =>
        obtain ⟨u, _, hu⟩ := hm
        exact (within_spec b1 hu).choose_spec.2
    cases high with
    | none =>
      cases max with
      | none => simp only [mxOf, hiOf, Option.some.injEq] at b1 b2; omega
      | some v => simp only [hiOf] at b2; cases b2
    | some v =>
      obtain ⟨u, _, hu⟩ := hh
      have := (within_spec b2 hu).choose_spec.2
      omega
  have hlh : l ≤ h := by
    cases low with
    | none => simp only [loOf, Option.some.injEq] at b3; omega
    | some v =>
      obtain ⟨u, _, hu⟩ := hl
      exact (within_spec b3 hu).choose_spec.2
  refine ⟨?_, hlh, by omega, fun _ => ⟨hhm.2, hhm.1⟩⟩
  unfold Instr.sliceBounds
  cases max with
  | none =>
    simp only [RepO] at hm
    subst hm
    simp only [mxOf, Option.some.injEq] at b1
    cases high with
    | none =>
      simp only [RepO] at hh
      subst hh
      simp only [hiOf, Option.some.injEq] at b2
      subst b2
      cases low with
      | none =>
        simp only [RepO] at hl
        subst hl
        simp only [loOf, Option.some.injEq] at b3
        subst b3
        simp
      | some v =>
        obtain ⟨u, rfl, hu⟩ := hl
        simp [run_sliceBound b3 hu (Nat.le_refl _)]
    | some hv =>
      obtain ⟨uh, rfl, huh⟩ := hh
      have e1 : ∀ c, (Instr.sliceBound uh cap' c).run P w = .ok h w := fun c => run_sliceBound b2 huh (by omega)
      cases low with
      | none =>
        simp only [RepO] at hl
        subst hl
        simp only [loOf, Option.some.injEq] at b3
        subst b3
        simp [e1]
      | some v =>
        obtain ⟨u, rfl, hu⟩ := hl
        simp [e1, run_sliceBound b3 hu (Nat.le_refl _)]
  | some mv =>
    obtain ⟨um, rfl, hum⟩ := hm
    have e0 : ∀ c, (Instr.sliceBound um cap' c).run P w = .ok m w := fun c => run_sliceBound b1 hum hc
    cases high with
    | none => simp only [hiOf] at b2; cases b2
    | some hv =>
      obtain ⟨uh, rfl, huh⟩ := hh
      have e1 : ∀ c, (Instr.sliceBound uh m c).run P w = .ok h w := fun c => run_sliceBound b2 huh (Nat.le_refl _)
      cases low with
      | none =>
        simp only [RepO] at hl
        subst hl
        simp only [loOf, Option.some.injEq] at b3
        subst b3
        simp [e0, e1]
      | some v =>
        obtain ⟨u, rfl, hu⟩ := hl
        simp [e0, e1, run_sliceBound b3 hu (Nat.le_refl _)]

theorem add_addr (b off n : Nat) : (⟨b, off, none⟩ : Addr).add n = ⟨b, off + n, none⟩ := by
  unfold Addr.add
  split <;> simp_all

theorem run_sliceOp {t : TypeId} {x : AV} {u : Value} {low high max : Option AV} {low' high' max' : Option Value} {v : AV} (hx : Rep G st w x u) (hl : RepO G st w low low') (hh : RepO G st w high high')
    (hm : RepO G st w max max') (h : sliceOp P t x low high max = some v) : ∃ r, (Instr.sliceAt t u low' high' max').run P w = .ok r w ∧ Rep G st w v r := by
  simp only [sliceOp, Option.bind_eq_some_iff] at h
  obtain ⟨d, hd, h⟩ := h
  split at h
  · -- a string
    split at h
    · cases h
    · simp only [Option.bind_eq_some_iff] at h
      obtain ⟨⟨l, hi, m⟩, hb, h⟩ := h
      injection h with h
      subst h
      simp only [Rep] at hx
      subst hx
      simp only [RepO] at hm
      subst hm
      rename_i s _
      have hsz : (⟨s.toArray⟩ : ByteArray).size = s.length := by simp [ByteArray.size]
      obtain ⟨hr, h1, h2, _⟩ := run_bounds (P := P) (isSlice := false) (max := none) hl hh rfl hb (Nat.le_refl _) (Nat.le_refl _)
      refine ⟨.string ((⟨s.toArray⟩ : ByteArray).extract l hi), ?_, ?_⟩
      · simp [Instr.sliceAt, Instr.slice, run_underlying hd, hsz, hr]
      · simp only [Rep]
        congr 1
        apply ByteArray.ext
        simp [ByteArray.data_extract]
        rw [List.drop_take]
  · -- a string of which its length alone is told
    split at h
    · cases h
    · simp only [Option.bind_eq_some_iff] at h
      obtain ⟨⟨l, hi, m⟩, hb, h⟩ := h
      obtain ⟨hhi, h⟩ := cond_some h
      injection h with h
      subst h
      simp only [Rep] at hx
      obtain ⟨s, rfl, _, s2, s3⟩ := hx
      simp only [RepO] at hm
      subst hm
      have hsz : (⟨s.toArray⟩ : ByteArray).size = s.length := by simp [ByteArray.size]
      rename_i _ n _ _ _
      have hb' : bounds s.length s.length low high none = some (l, hi, s.length) ∧ hi ≤ n := by
        cases high with
        | none => cases hhi
        | some v =>
          simp only [bounds, mxOf, hiOf, Option.bind_some, Option.bind_eq_some_iff] at hb ⊢
          obtain ⟨h0, e1, l0, e2, e3⟩ := hb
          injection e3 with e3; injection e3 with e3 e4; injection e4 with e4 e5
          subst e3; subst e4
          simp only [within, Option.bind_eq_some_iff] at e1
          obtain ⟨i, e6, e7⟩ := e1
          cases i with
          | negSucc _ => cases e7
          | ofNat kk =>
            simp only [cond_ble] at e7
            split at e7
            · rename_i hle
              injection e7 with e7
              subst e7
              refine ⟨⟨kk, ?_, l0, e2, rfl⟩, hle⟩
              simp only [within, e6, Option.bind_some, cond_ble]
              rw [if_pos (by omega)]
            · cases e7
      obtain ⟨hr, h1, h2, _⟩ := run_bounds (P := P) (isSlice := false) (max := none) hl hh rfl hb'.1 (Nat.le_refl _) (Nat.le_refl _)
      refine ⟨.string ((⟨s.toArray⟩ : ByteArray).extract l hi), ?_, ?_⟩
      · simp [Instr.sliceAt, Instr.slice, run_underlying hd, hsz, hr]
      · simp only [Rep]
        refine ⟨(s.take hi).drop l, ?_, fun _ h => (by cases h), ?_, ?_⟩
        · congr 1
          apply ByteArray.ext
          simp [ByteArray.data_extract]
          rw [List.drop_take]
        · simp; omega
        · simp; omega
  · -- a nil slice
    simp only [Option.bind_eq_some_iff] at h
    obtain ⟨sz, hsz, ⟨l, hi, m⟩, hb, h⟩ := h
    injection h with h
    subst h
    simp only [Rep] at hx
    subst hx
    obtain ⟨hr, h1, h2, h3⟩ := run_bounds (P := P) (isSlice := true) hl hh hm hb (Nat.le_refl _) (Nat.le_refl _)
    have e1 : hi = 0 := by omega
    have e2 : l = 0 := by omega
    have e3 : (if max.isSome then m else 0) = 0 := by
      split
      · have := h3 (by assumption); omega
      · rfl
    rw [e3] at hr
    subst e1; subst e2
    exact ⟨.slice none 0 0, by simp [Instr.sliceAt, Instr.slice, run_underlying hd, hr, run_size hsz], by simp [Rep]⟩
  · -- a slice by value
    rename_i elem id e len sz' cap cs
    simp only [Option.bind_eq_some_iff] at h
    obtain ⟨sz, hsz, h⟩ := h
    have h0 := cond_none h
    clear h
    obtain ⟨hq, h⟩ := h0
    have hq : sz = sz' := Nat.eq_of_beq_eq_true (by simpa using hq)
    subst hq
    simp only [Rep] at hx
    obtain ⟨b, off, c, m0, n0, rfl, x2, x3, x4, x5, x6, x7, x8, t0, x9, x10, x11, x12⟩ := hx
    have key : ∀ l hi m, bounds len len low high max = some (l, hi, m) → ∃ r, (Instr.sliceAt t (.slice (some ⟨b, off, none⟩) len c) low' high' max').run P w = .ok r w ∧
        (r = .slice (some (if (if max.isSome then m else c) = l then ⟨b, off, none⟩ else ⟨b, off + l * sz, none⟩)) (hi - l) ((if max.isSome then m else c) - l)) ∧ l ≤ hi ∧ hi ≤ len ∧ (max.isSome = true → m ≤ len ∧ hi ≤ m) := by
      intro l hi m hb
      obtain ⟨hr, h1, h2, h3⟩ := run_bounds (P := P) (isSlice := true) hl hh hm hb x7 (Nat.le_refl _)
      generalize (if max.isSome then m else c) = M at hr ⊢
      refine ⟨_, ?_, rfl, h1, h2, h3⟩
      simp only [Instr.sliceAt, Instr.slice, Sem.run_bind, run_underlying hd, Result.andThen_ok, hr, run_size hsz, Sem.run_pure]
      congr 2
      split <;> simp [add_addr]
    have fin : ∀ l hi m cap', bounds len len low high max = some (l, hi, m) → (∀ k, cap' = some k → (if max.isSome then m else c) - l = k) →
        ∃ r, (Instr.sliceAt t (.slice (some ⟨b, off, none⟩) len c) low' high' max').run P w = .ok r w ∧ Rep G st w (.sl id (e - (len - hi) * sz) (hi - l) sz cap' ((cs.take (hi * sz)).drop (l * sz))) r := by
      intro l hi m cap' hb hcap
      obtain ⟨r, r1, r2, h1, h2, h3⟩ := key l hi m hb
      refine ⟨r, r1, ?_⟩
      rw [r2]
      generalize hM : (if max.isSome then m else c) = M at *
      have hM1 : hi ≤ M := by
        rw [← hM]; split
        · exact (h3 (by assumption)).2
        · omega
      have hM2 : M ≤ c := by
        rw [← hM]; split
        · have := (h3 (by assumption)).1; omega
        · omega
      have p1 : l * sz ≤ hi * sz := Nat.mul_le_mul_right _ h1
      have p2 : hi * sz ≤ len * sz := Nat.mul_le_mul_right _ h2
      have p3 : (hi - l) * sz = hi * sz - l * sz := Nat.sub_mul _ _ _
      have p4 : (len - hi) * sz = len * sz - hi * sz := Nat.sub_mul _ _ _
      have hlen : ((cs.take (hi * sz)).drop (l * sz)).length = (hi - l) * sz := by simp; omega
      simp only [Rep]
      have hat : ∀ o, (M = l ∧ o = off) ∨ (M ≠ l ∧ o = off + l * sz) → RepAt G st w b o ((cs.take (hi * sz)).drop (l * sz)) ∧ o + ((cs.take (hi * sz)).drop (l * sz)).length ≤ m0 := by
        rintro o (⟨ho1, rfl⟩ | ⟨_, rfl⟩)
        · have : (cs.take (hi * sz)).drop (l * sz) = [] := by
            apply List.eq_nil_of_length_eq_zero
            rw [hlen]
            have : hi - l = 0 := by omega
            rw [this]; simp
          rw [this]
          exact ⟨by simp [RepAt], by simp; omega⟩
        · exact ⟨RepAt.drop (l * sz) (by simp; omega) (x4.take (hi * sz)), by rw [hlen]; omega⟩
      refine ⟨b, if M = l then off else off + l * sz, M - l, m0, n0, by split <;> rfl, x2, ?_, ?_, hlen, x6, by omega, hcap, t0, x9, by omega, by rw [hlen]; omega, ?_⟩
      · exact (hat _ (by by_cases e : M = l; exact .inl ⟨e, if_pos e⟩; exact .inr ⟨e, if_neg e⟩)).2
      · exact (hat _ (by by_cases e : M = l; exact .inl ⟨e, if_pos e⟩; exact .inr ⟨e, if_neg e⟩)).1
      · intro f1 f2
        have g1 : M ≠ l := by omega
        have g2 : len * sz - hi * sz = 0 := by omega
        have g3 : len = hi := by
          have : (len - hi) * sz = 0 := by omega
          rcases Nat.mul_eq_zero.1 this with h | h <;> omega
        subst g3
        have g4 : len < c := by omega
        obtain ⟨y1, y2⟩ := x12 (by omega) g4
        rw [if_neg g1, hlen]
        have q1 : (M - l) * sz = M * sz - l * sz := Nat.sub_mul _ _ _
        have q2 : l * sz ≤ M * sz := Nat.mul_le_mul_right _ (by omega)
        have q3 : M * sz ≤ c * sz := Nat.mul_le_mul_right _ hM2
        omega
    split at h
    · simp only [Option.bind_eq_some_iff] at h
      obtain ⟨⟨l, hi, m⟩, hb, h⟩ := h
      injection h with h
      subst h
      refine fin l hi m _ hb ?_
      intro k hk
      cases cap with
      | none => cases hk
      | some c' =>
        injection hk with hk
        subst hk
        rw [x8 c' rfl]
        simp
    · simp only [Option.bind_eq_some_iff] at h
      obtain ⟨⟨l, hi, m⟩, hb, h⟩ := h
      injection h with h
      subst h
      refine fin l hi m _ hb ?_
      intro k hk
      injection hk with hk
  · -- a slice by reference
    rename_i elem id off len sz' cap
    simp only [Option.bind_eq_some_iff] at h
    obtain ⟨sz, hsz, h⟩ := h
    have h0 := cond_none h
    clear h
    obtain ⟨hq, h⟩ := h0
    have hq : sz = sz' := Nat.eq_of_beq_eq_true (by simpa using hq)
    subst hq
    simp only [Rep] at hx
    obtain ⟨b, k0, n0, c, x1, rfl, x3, x4, x5, x6⟩ := hx
    split at h
    · rename_i c'
      obtain rfl := x4 c' rfl
      simp only [Option.bind_eq_some_iff] at h
      obtain ⟨⟨l, hi, m⟩, hb, h⟩ := h
      injection h with h
      subst h
      obtain ⟨hr, h1, h2, h3⟩ := run_bounds (P := P) (isSlice := true) hl hh hm hb (Nat.le_refl _) x3
      have hM : (if max.isSome then m else c) = m := by
        cases hmx : max with
        | none => have := (bounds_spec hb).1; rw [hmx] at this; simp only [mxOf, Option.some.injEq] at this; simp [this]
        | some _ => simp
      rw [hM] at hr
      have hmc : hi ≤ m := by
        cases hmx : max with
        | none => rw [hmx] at hM; simp at hM; omega
        | some _ => exact (h3 (by simp [hmx])).2
      refine ⟨_, by simp only [Instr.sliceAt, Instr.slice, Sem.run_bind, run_underlying hd, Result.andThen_ok, hr, run_size hsz, Sem.run_pure] <;> rfl, ?_⟩
      simp only [Rep]
      refine ⟨b, k0, n0, m - l, x1, ?_, by omega, (fun k hk => by injection hk), (fun e => by cases e), x6⟩
      rw [cond_beq]
      congr 1
      split <;> simp [add_addr]
    · simp only [Option.bind_eq_some_iff] at h
      obtain ⟨⟨l, hi, m⟩, hb, h⟩ := h
      obtain ⟨hr, h1, h2, h3⟩ := run_bounds (P := P) (isSlice := true) hl hh hm hb x3 (Nat.le_refl _)
      refine ⟨_, by simp only [Instr.sliceAt, Instr.slice, Sem.run_bind, run_underlying hd, Result.andThen_ok, hr, run_size hsz, Sem.run_pure] <;> rfl, ?_⟩
      cases hq : (Nat.blt l m || Nat.beq l 0) with
      | false =>
        simp only [hq, cond_false] at h
        injection h with h
        subst h
        simp only [Bool.or_eq_false_iff] at hq
        have g1 : m ≤ l := by
          have := hq.1
          rcases Nat.lt_or_ge l m with h | h
          · rw [show Nat.blt l m = true from Nat.ble_eq_true_of_le h] at this; cases this
          · exact h
        have g2 : hi ≤ m := by
          cases hmx : max with
          | none =>
            have := (bounds_spec hb).1; rw [hmx] at this; simp only [mxOf, Option.some.injEq] at this; omega
          | some _ => exact (h3 (by simp [hmx])).2
        have g3 : hi - l = 0 := by omega
        simp only [Rep, g3]
        simp only [Option.map_some, add_addr]
        split <;> (split <;> exact ⟨_, _, _, rfl⟩)
      | true =>
      simp only [hq, cond_true] at h
      injection h with h
      subst h
      have hml : max = none → m = len := fun e => by
        have := (bounds_spec hb).1; rw [e] at this; simp only [mxOf, Option.some.injEq] at this; exact this.symm
      have hML : (if max.isSome then m else c) = l → l = 0 := fun e => by
        rw [Bool.or_eq_true] at hq
        rcases hq with hq | hq
        · have := Nat.le_of_ble_eq_true hq
          split at e
          · omega
          · have := hml (by simpa using (by assumption : ¬ max.isSome = true))
            omega
        · exact Nat.eq_of_beq_eq_true hq
      have hlM : l ≤ (if max.isSome then m else c) := by
        split
        · have := (h3 (by assumption)).2; omega
        · omega
      simp only [Rep]
      refine ⟨b, k0, n0, (if max.isSome then m else c) - l, x1, ?_, ?_, (fun k hk => ?_), (fun e => ?_), x6⟩
      · congr 1
        generalize (if max.isSome then m else c) = M at *
        split
        · have := hML (by assumption)
          subst this
          simp
        · simp [add_addr]
      · split
        · have := (h3 (by assumption)).2; omega
        · omega
      · simp only [Option.bind_eq_some_iff, Option.some.injEq] at hk
        obtain ⟨_, hk0, rfl⟩ := hk
        simp [hk0]
      · have hmx : max = none := by
          cases hmx : max with
          | none => rfl
          | some _ => rw [hmx] at e; cases e
        have hmx' : max.isSome = false := by rw [hmx]; rfl
        obtain ⟨y1, y2⟩ := x5 rfl
        simp only [hmx', Bool.false_eq_true, if_false] at hlM ⊢
        have e1 : l * sz + (c - l) * sz = c * sz := by rw [← Nat.add_mul]; congr 1; omega
        omega
  · -- an array behind a pointer
    rename_i n elem id off
    simp only [Option.bind_eq_some_iff] at h
    obtain ⟨sz, hsz, h⟩ := h
    have h0 := cond_none h
    clear h
    obtain ⟨hq, h⟩ := h0
    have hs0 : 0 < sz := by
      rcases Nat.eq_zero_or_pos sz with rfl | h
      · simp at hq
      · exact h
    simp only [Option.bind_eq_some_iff] at h
    obtain ⟨⟨l, hi, m⟩, hb, h⟩ := h
    injection h with h
    subst h
    simp only [Rep] at hx
    obtain ⟨b, k0, n0, x1, rfl⟩ := hx
    obtain ⟨hr, h1, h2, h3⟩ := run_bounds (P := P) (isSlice := false) hl hh hm hb (Nat.le_refl _) (Nat.le_refl _)
    have hM : (if max.isSome then m else n) = m := by
      cases hmx : max with
      | none => have := (bounds_spec hb).1; rw [hmx] at this; simp only [mxOf, Option.some.injEq] at this; simp [this]
      | some _ => simp
    rw [hM] at hr
    have hmc : hi ≤ m := by
      cases hmx : max with
      | none => rw [hmx] at hM; simp at hM; omega
      | some _ => exact (h3 (by simp [hmx])).2
    refine ⟨_, by simp only [Instr.sliceAt, Instr.sureAddr, Sem.run_bind, run_underlying hd, Result.andThen_ok, hr, run_size hsz, Sem.run_pure] <;> rfl, ?_⟩
    simp only [Rep]
    refine ⟨b, k0, n0, m - l, x1, ?_, by omega, (fun k hk => by injection hk), (fun e => by cases e), hs0⟩
    rw [cond_beq]
    congr 1
    split <;> simp [add_addr]
  · cases h

/-! ### Addresses, fields, elements -/
theorem run_sliceRoom {t : TypeId} {id off len sz' room : Nat} {u : Value} {low high max : Option AV} {low' high' max' : Option Value} {v : AV} (hx : Rep G st w (.sref id off len sz' none) u) (hl : RepO G st w low low') (hh : RepO G st w high high')
    (hm : RepO G st w max max') (hrm : ∀ b k n, G.β id = some (b, k, n) → ∀ c, k ≤ off + c * sz' → room ≤ c) (h : sliceRoom P t id off len sz' room low high max = some v) : ∃ r, (Instr.sliceAt t u low' high' max').run P w = .ok r w ∧ Rep G st w v r := by
  simp only [sliceRoom, Option.bind_eq_some_iff] at h
  obtain ⟨d, hd, h⟩ := h
  split at h
  rotate_left
  · cases h
  simp only [Option.bind_eq_some_iff] at h
  obtain ⟨sz, hsz, h⟩ := h
  have h0 := cond_none h
  clear h
  obtain ⟨hq, h⟩ := h0
  simp only [Bool.or_eq_false_iff, Bool.not_eq_false'] at hq
  obtain ⟨hq, hlen⟩ := hq
  have hq : sz = sz' := Nat.eq_of_beq_eq_true hq
  subst hq
  have hlen : len ≤ room := Nat.le_of_ble_eq_true hlen
  simp only [Rep] at hx
  obtain ⟨b, k0, n0, c, x1, rfl, x3, x4, x5, x6⟩ := hx
  have hroom : room ≤ c := hrm b k0 n0 x1 c (x5 trivial).1
  simp only [Option.bind_eq_some_iff] at h
  obtain ⟨⟨l, hi, m⟩, hb, h⟩ := h
  obtain ⟨hr, h1, h2, h3⟩ := run_bounds (P := P) (isSlice := true) hl hh hm hb hroom hlen
  refine ⟨_, by simp only [Instr.sliceAt, Instr.slice, Sem.run_bind, run_underlying hd, Result.andThen_ok, hr, run_size hsz, Sem.run_pure] <;> rfl, ?_⟩
  cases hq : (Nat.blt l m || Nat.beq l 0) with
  | false =>
    simp only [hq, cond_false] at h
    injection h with h
    subst h
    simp only [Bool.or_eq_false_iff] at hq
    have g1 : m ≤ l := by
      have := hq.1
      rcases Nat.lt_or_ge l m with h | h
      · rw [show Nat.blt l m = true from Nat.ble_eq_true_of_le h] at this; cases this
      · exact h
    have g2 : hi ≤ m := by
      cases hmx : max with
      | none =>
        have := (bounds_spec hb).1; rw [hmx] at this; simp only [mxOf, Option.some.injEq] at this; omega
      | some _ => exact (h3 (by simp [hmx])).2
    have g3 : hi - l = 0 := by omega
    simp only [Rep, g3]
    simp only [Option.map_some, add_addr]
    split <;> (split <;> exact ⟨_, _, _, rfl⟩)
  | true =>
  simp only [hq, cond_true] at h
  injection h with h
  subst h
  have hml : max = none → m = room := fun e => by
    have := (bounds_spec hb).1; rw [e] at this; simp only [mxOf, Option.some.injEq] at this; exact this.symm
  have hML : (if max.isSome then m else c) = l → l = 0 := fun e => by
    rw [Bool.or_eq_true] at hq
    rcases hq with hq | hq
    · have := Nat.le_of_ble_eq_true hq
      split at e
      · omega
      · have := hml (by simpa using (by assumption : ¬ max.isSome = true))
        omega
    · exact Nat.eq_of_beq_eq_true hq
  have hlM : l ≤ (if max.isSome then m else c) := by
    split
    · have := (h3 (by assumption)).2; omega
    · omega
  simp only [Rep]
  refine ⟨b, k0, n0, (if max.isSome then m else c) - l, x1, ?_, ?_, (fun k hk => ?_), (fun e => ?_), x6⟩
  · congr 1
    generalize (if max.isSome then m else c) = M at *
    split
    · have := hML (by assumption)
      subst this
      simp
    · simp [add_addr]
  · split
    · have := (h3 (by assumption)).2; omega
    · omega
  · simp only [Option.bind_eq_some_iff, Option.some.injEq] at hk
    obtain ⟨_, hk0, rfl⟩ := hk
    simp [hk0]
  · have hmx : max = none := by
      cases hmx : max with
      | none => rfl
      | some _ => rw [hmx] at e; cases e
    have hmx' : max.isSome = false := by rw [hmx]; rfl
    obtain ⟨y1, y2⟩ := x5 trivial
    simp only [hmx', Bool.false_eq_true, if_false] at hlM ⊢
    have e1 : l * sz + (c - l) * sz = c * sz := by rw [← Nat.add_mul]; congr 1; omega
    omega

theorem run_shift {x v : AV} {u : Value} {n : Nat} (hx : Rep G st w x u) (h : shift x n = some v) : ∃ b off, u = .pointer (some ⟨b, off, none⟩) ∧ Rep G st w v (.pointer (some ⟨b, off + n, none⟩)) := by
  unfold shift at h
  split at h
  · injection h with h; subst h
    simp only [Rep] at hx ⊢
    obtain ⟨b, k0, n0, h1, rfl⟩ := hx
    exact ⟨b, _, rfl, b, k0, n0, h1, rfl⟩
  · obtain ⟨h1, h⟩ := cond_some h
    injection h with h; subst h
    have h1 := Nat.le_of_ble_eq_true h1
    simp only [Rep] at hx ⊢
    obtain ⟨b, off, id, m, n', rfl, h2, h3, h4⟩ := hx
    exact ⟨b, off, rfl, b, off + n, id, m, n', rfl, h2, by simp; omega, h4.drop n h1⟩
  · injection h with h; subst h
    simp only [Rep] at hx ⊢
    subst hx
    exact ⟨_, _, rfl, rfl⟩
  · cases h

theorem field_spec {s : TypeId} {i : Nat} {fd : Field} (h : fieldOf P s i = some fd) : ∃ fs, P.underlying s = some (.struct fs) ∧ fs[i]? = some fd := by
  simp only [fieldOf, Option.bind_eq_some_iff] at h
  obtain ⟨d, h1, h2⟩ := h
  split at h2
  · exact ⟨_, h1, h2⟩
  · cases h2

theorem blt_lt {a b : Nat} (h : Nat.blt a b = true) : a < b := Nat.le_of_ble_eq_true h

theorem run_indexAddr {t : TypeId} {x ix v : AV} {u ui : Value} (hx : Rep G st w x u) (hi : Rep G st w ix ui) (h : indexAddrOp P t x ix = some v) :
    ∃ r, (Instr.indexAt t u ui).run P w = .ok r w ∧ Rep G st w v r := by
  simp only [indexAddrOp, Option.bind_eq_some_iff] at h
  obtain ⟨d, hd, i, hi0, h⟩ := h
  obtain ⟨k, rfl⟩ := rep_int hi0 hi
  split at h
  · cases h
  · rename_i n
    split at h
    · rename_i elem _ _ len sz' _ cs
      simp only [Option.bind_eq_some_iff] at h
      obtain ⟨sz, hsz, h⟩ := h
      have h0 := cond_some h
      clear h
      obtain ⟨hq, h⟩ := h0
      simp only [Bool.and_eq_true] at hq
      have q1 : n < len := blt_lt hq.1
      have q2 : sz = sz' := Nat.eq_of_beq_eq_true hq.2
      subst q2
      simp only [Rep] at hx
      obtain ⟨b, off, c, m0, n0, rfl, x2, x3, x4, x5, x6, _⟩ := hx
      have hv : Rep G st w (.vptr cs) (.pointer (some ⟨b, off, none⟩)) := by
        simp only [Rep]; exact ⟨b, off, _, m0, n0, rfl, x2, x3, x4⟩
      obtain ⟨b', off', e, hr⟩ := run_shift hv h
      injection e with e; injection e with e; injection e with e1 e2; subst e1; subst e2
      exact ⟨_, by simp [Instr.indexAt, asIntOf, run_underlying hd, q1, run_size hsz, add_addr], hr⟩
    · rename_i elem id off len sz' cap
      simp only [Option.bind_eq_some_iff] at h
      obtain ⟨sz, hsz, h⟩ := h
      have h0 := cond_some h
      clear h
      obtain ⟨hq, h⟩ := h0
      simp only [Bool.and_eq_true] at hq
      have q1 : n < len := blt_lt hq.1
      injection h with h
      subst h
      simp only [Rep] at hx
      obtain ⟨b, k0, n0, c, x1, rfl, _⟩ := hx
      exact ⟨_, by simp [Instr.indexAt, asIntOf, run_underlying hd, q1, run_size hsz, add_addr] <;> rfl, by simp only [Rep]; exact ⟨b, k0, n0, x1, rfl⟩⟩
    · rename_i N elem
      simp only [Option.bind_eq_some_iff] at h
      obtain ⟨sz, hsz, h⟩ := h
      have h0 := cond_some h
      clear h
      obtain ⟨hq, h⟩ := h0
      have q1 : n < N := blt_lt hq
      obtain ⟨b, off, rfl, hr⟩ := run_shift hx h
      exact ⟨_, by simp [Instr.indexAt, Instr.sureAddr, asIntOf, run_underlying hd, q1, run_size hsz, add_addr], hr⟩
    · cases h

theorem run_index {t : TypeId} {x ix v : AV} {u ui : Value} (hx : Rep G st w x u) (hi : Rep G st w ix ui) (h : indexOp P t x ix = some v) :
    ∃ r, (Instr.index t u ui).run P w = .ok r w ∧ Rep G st w v r := by
  simp only [indexOp, Option.bind_eq_some_iff] at h
  obtain ⟨d, hd, i, hi0, h⟩ := h
  obtain ⟨k, rfl⟩ := rep_int hi0 hi
  split at h
  · cases h
  · rename_i n
    split at h
    · rename_i s
      simp only [Option.bind_eq_some_iff] at h
      obtain ⟨b, hb, h⟩ := h
      injection h with h
      subst h
      simp only [Rep] at hx
      subst hx
      have : (⟨s.toArray⟩ : ByteArray)[n]? = some b := by
        have hlt := (List.getElem?_eq_some_iff.1 hb)
        obtain ⟨h1, h2⟩ := hlt
        have : n < (⟨s.toArray⟩ : ByteArray).size := by simpa [ByteArray.size] using h1
        have e : (⟨s.toArray⟩ : ByteArray)[n]? = some ((⟨s.toArray⟩ : ByteArray)[n]'this) := by simp [this]
        rw [e, ← h2]
        rfl
      exact ⟨_, by simp [Instr.index, asIntOf, run_underlying hd, this] <;> rfl, by simp [Rep]⟩
    · rename_i N elem cs
      simp only [Option.bind_eq_some_iff] at h
      obtain ⟨sz, hsz, h⟩ := h
      have h0 := cond_some h
      clear h
      obtain ⟨hq, h⟩ := h0
      have q1 : n < N := blt_lt hq
      simp only [Rep] at hx
      obtain ⟨vs, rfl, hx⟩ := hx
      obtain ⟨r, r1, r2⟩ := run_partOf hx h
      exact ⟨r, by simp [Instr.index, asIntOf, run_underlying hd, q1, run_size hsz, r1], r2⟩
    · cases h

theorem run_nilCheck {x v : AV} {u : Value} (hx : Rep G st w x u) (h : nilCheckOp x = some v) (ρ : Operand → Value) (o : Oper) (y : Operand) (ho : o.op = .nilCheck y) (hy : ρ y = u) :
    ∃ r, (execOp ρ o).run P w = .ok (.value r) w ∧ Rep G st w v r := by
  unfold nilCheckOp at h
  split at h <;> first | (cases h; done) | skip
  all_goals
    injection h with h
    subst h
    have hx' := hx
    simp only [Rep] at hx
  · obtain ⟨b, _, _, _, rfl⟩ := hx; exact ⟨_, by simp [execOp, ho, hy], hx'⟩
  · obtain ⟨b, _, _, _, _, rfl, _⟩ := hx; exact ⟨_, by simp [execOp, ho, hy], hx'⟩
  · subst hx; exact ⟨_, by simp [execOp, ho, hy], hx'⟩
  · obtain ⟨_, _, rfl, _⟩ := hx; exact ⟨_, by simp [execOp, ho, hy], hx'⟩
  · obtain ⟨_, rfl, _⟩ := hx; exact ⟨_, by simp [execOp, ho, hy], hx'⟩

theorem run_assert_yes {s xt : TypeId} {y : Value} {ok : Bool} {d : TypeDesc} (hd : P.underlying s = some d) (hni : ∀ ms, d ≠ .interface ms) :
    (Instr.typeAssert (.iface s y) xt s ok).run P w = .ok (if ok then .tuple #[y, .bool true] else y) w := by
  unfold Instr.typeAssert
  simp only [Sem.run_bind, run_underlying hd, Result.andThen_ok]
  cases d <;> first | exact absurd rfl (hni _) | (cases ok <;> simp)
theorem run_assert_no {s t xt : TypeId} {y z : Value} {d : TypeDesc} (hd : P.underlying t = some d) (hni : ∀ ms, d ≠ .interface ms) (hne : s ≠ t) (hz : (zeroValue t).run P w = .ok z w) :
    (Instr.typeAssert (.iface s y) xt t true).run P w = .ok (.tuple #[z, .bool false]) w := by
  unfold Instr.typeAssert
  simp only [Sem.run_bind, run_underlying hd, Result.andThen_ok]
  cases d <;> first | exact absurd rfl (hni _) | simp [hne, hz]
theorem run_assert_nil {t xt : TypeId} {z : Value} {d : TypeDesc} (hd : P.underlying t = some d) (hni : ∀ ms, d ≠ .interface ms) (hz : (zeroValue t).run P w = .ok z w) :
    (Instr.typeAssert .nilIface xt t true).run P w = .ok (.tuple #[z, .bool false]) w := by
  unfold Instr.typeAssert
  simp only [Sem.run_bind, run_underlying hd, Result.andThen_ok]
  cases d <;> first | exact absurd rfl (hni _) | simp [hz]
theorem typeAssert_sound {x v : AV} {u : Value} {xt t : TypeId} {ok : Bool} (hr : Rep G st w x u) (h : assertOp P t ok x = some v) :
    ∃ r, (Instr.typeAssert u xt t ok).run P w = .ok r w ∧ Rep G st w v r := by
  simp only [assertOp, Option.bind_eq_some_iff] at h
  obtain ⟨d, hd, h⟩ := h
  split at h
  · cases h
  · rename_i s y hni
    have hni' : ∀ ms, d ≠ .interface ms := fun ms e => hni ms e
    simp only [Rep] at hr
    obtain ⟨y', rfl, hy⟩ := hr
    cases hb : Nat.beq s t with
    | true =>
      rw [hb] at h
      have := Nat.eq_of_beq_eq_true hb
      subst this
      injection h with h
      subst h
      refine ⟨_, run_assert_yes hd hni', ?_⟩
      cases ok with
      | true => simp only [cond_true, if_true, Rep]; exact ⟨_, rfl, RepL.cons hy (RepL.cons (by simp only [Rep]) RepL.nil)⟩
      | false => simpa using hy
    | false =>
      rw [hb] at h
      simp only [cond_false] at h
      have hne : s ≠ t := by rintro rfl; simp at hb
      have h0 := cond_some h
      clear h
      obtain ⟨ho, h⟩ := h0
      subst ho
      simp only [Option.bind_eq_some_iff] at h
      obtain ⟨z, hz, h⟩ := h
      injection h with h
      subst h
      obtain ⟨zv, z1, z2, _⟩ := run_zero (G := G) (st := st) hz w
      exact ⟨_, run_assert_no hd hni' hne z1, by simp only [Rep]; exact ⟨_, rfl, RepL.cons z2 (RepL.cons (by simp only [Rep]) RepL.nil)⟩⟩
  · rename_i hni
    have hni' : ∀ ms, d ≠ .interface ms := fun ms e => hni ms e
    simp only [Rep] at hr
    subst hr
    have h0 := cond_some h
    clear h
    obtain ⟨ho, h⟩ := h0
    subst ho
    simp only [Option.bind_eq_some_iff] at h
    obtain ⟨z, hz, h⟩ := h
    injection h with h
    subst h
    obtain ⟨zv, z1, z2, _⟩ := run_zero (G := G) (st := st) hz w
    exact ⟨_, run_assert_nil hd hni' z1, by simp only [Rep]; exact ⟨_, rfl, RepL.cons z2 (RepL.cons (by simp only [Rep]) RepL.nil)⟩⟩
  · cases h

/-- What yields a value alone does so in the model. -/
theorem pureOp_sound {ts : List AV} {a : Act} {o : Oper} {v : AV} (hts : RepL G st w ts a.tmps.toList) (hk : opKind P o.op = .pure) (h : pureOp P ts o.op = some v) :
    ∃ r, (execOp a.eval o).run P w = .ok (.value r) w ∧ Rep G st w v r := by
  have val : ∀ {s : Sem Value} {r : Value}, s.run P w = .ok r w → ((do pure (.value (← s)) : Sem Next)).run P w = .ok (.value r) w := fun h => by simp [h]
  unfold pureOp at h
  split at h
  case h_1 x ho => exact ⟨_, by simp [execOp, ho] <;> rfl, Rep.opnd hts h⟩
  case h_2 x ho => exact ⟨_, by simp [execOp, ho] <;> rfl, Rep.opnd hts h⟩
  case h_3 c x y ho =>
    simp only [Option.bind_eq_some_iff] at h
    obtain ⟨cv, hc, h⟩ := h
    have hcr := Rep.opnd hts hc
    split at h
    · simp only [Rep] at hcr
      exact ⟨_, by simp [execOp, ho, hcr, asBool] <;> rfl, Rep.opnd hts h⟩
    · simp only [Rep] at hcr
      exact ⟨_, by simp [execOp, ho, hcr, asBool] <;> rfl, Rep.opnd hts h⟩
    · cases h
  case h_4 t ps ho =>
    simp only [Option.bind_eq_some_iff] at h
    obtain ⟨l, hl, h⟩ := h
    obtain ⟨r, r1, r2⟩ := run_buildOp hts hl h
    exact ⟨r, by simp only [execOp, ho]; exact val r1, r2⟩
  case h_5 x ho =>
    simp only [Option.bind_eq_some_iff] at h
    obtain ⟨u, hu, h⟩ := h
    exact run_nilCheck (Rep.opnd hts hu) h a.eval o x ho rfl
  case h_6 op t x y yt ho =>
    simp only [Option.bind_eq_some_iff] at h
    obtain ⟨u, hu, u', hu', h⟩ := h
    obtain ⟨r, r1, r2⟩ := run_binOpV (Rep.opnd hts hu) (Rep.opnd hts hu') h
    exact ⟨r, by simp only [execOp, ho]; exact val r1, r2⟩
  case h_7 op t x ho =>
    simp only [Option.bind_eq_some_iff] at h
    obtain ⟨u, hu, h⟩ := h
    obtain ⟨r, r1, r2⟩ := run_unOpV (Rep.opnd hts hu) h
    exact ⟨r, by simp only [execOp, ho]; exact val r1, r2⟩
  case h_8 s d x ho =>
    simp only [Option.bind_eq_some_iff] at h
    obtain ⟨u, hu, ds, hs, dd, hd, h⟩ := h
    obtain ⟨r, r1, r2⟩ := run_convPure hs hd (Rep.opnd hts hu) h
    exact ⟨r, by simp only [execOp, ho]; exact val r1, r2⟩
  case h_9 t x ho =>
    simp only [Option.bind_eq_some_iff] at h
    obtain ⟨u, hu, d, hd, h⟩ := h
    have hr := Rep.opnd hts hu
    split at h
    · cases h
    · injection h with h
      subst h
      refine ⟨.iface t (a.eval x), ?_, by simp only [Rep]; exact ⟨_, rfl, hr⟩⟩
      simp only [execOp, ho]
      refine val ?_
      simp only [Instr.makeInterface, Sem.run_bind, run_underlying hd, Result.andThen_ok]
      first | rfl | (split <;> first | rfl | simp_all)
  case h_10 fn first cap ho =>
    simp only [Option.bind_eq_some_iff] at h
    obtain ⟨l, hl, l', hl', h⟩ := h
    injection h with h
    subst h
    refine ⟨.func fn (first.map a.eval) (cap.map a.eval), by simp [execOp, ho, Instr.makeFunc], ?_⟩
    simp only [Rep]
    exact ⟨_, _, rfl, by simpa using RepL.opnds hts hl, by simpa using RepL.opnds hts hl'⟩
  case h_11 t x lo hi mx ho =>
    simp only [Option.bind_eq_some_iff] at h
    obtain ⟨u, hu, lo', hlo, hi', hhi, mx', hmx, h⟩ := h
    obtain ⟨r, r1, r2⟩ := run_sliceOp (Rep.opnd hts hu) (RepO.opt hts hlo) (RepO.opt hts hhi) (RepO.opt hts hmx) h
    exact ⟨r, by simp only [execOp, ho]; exact val r1, r2⟩
  case h_12 s x i ho =>
    simp only [Option.bind_eq_some_iff] at h
    obtain ⟨u, hu, fd, hf, n, hn, h⟩ := h
    obtain ⟨hq, h⟩ := cond_none h
    obtain ⟨fs, f1, f2⟩ := field_spec hf
    obtain ⟨b, off, e, hr⟩ := run_shift (Rep.opnd hts hu) h
    refine ⟨_, ?_, hr⟩
    simp only [execOp, ho]
    refine val ?_
    have hn0 : n ≠ 0 := by rintro rfl; simp at hq
    simp [Instr.fieldAt, run_underlying f1, f2, e, Instr.sureAddr, fieldPlace, run_size hn, hn0, add_addr]
  case h_13 s x i ho =>
    simp only [Option.bind_eq_some_iff] at h
    obtain ⟨u, hu, fd, hf, h⟩ := h
    obtain ⟨fs, f1, f2⟩ := field_spec hf
    have hr := Rep.opnd hts hu
    split at h
    · simp only [Rep] at hr
      obtain ⟨vs, e, hr⟩ := hr
      obtain ⟨r, r1, r2⟩ := run_partOf hr h
      refine ⟨r, ?_, r2⟩
      simp only [execOp, ho]
      refine val ?_
      simp [Instr.field, run_underlying f1, f2, e, asAgg, r1]
    · cases h
  case h_14 t x i ho =>
    simp only [Option.bind_eq_some_iff] at h
    obtain ⟨u, hu, ui, hui, h⟩ := h
    obtain ⟨r, r1, r2⟩ := run_indexAddr (Rep.opnd hts hu) (Rep.opnd hts hui) h
    exact ⟨r, by simp only [execOp, ho]; exact val r1, r2⟩
  case h_15 t x i ho =>
    simp only [Option.bind_eq_some_iff] at h
    obtain ⟨u, hu, ui, hui, h⟩ := h
    obtain ⟨r, r1, r2⟩ := run_index (Rep.opnd hts hu) (Rep.opnd hts hui) h
    exact ⟨r, by simp only [execOp, ho]; exact val r1, r2⟩
  case h_16 x i ho =>
    simp only [Option.bind_eq_some_iff] at h
    obtain ⟨u, hu, h⟩ := h
    have hr := Rep.opnd hts hu
    split at h
    · simp only [Rep] at hr
      obtain ⟨vs, e, hr⟩ := hr
      obtain ⟨r, r1, r2⟩ := hr.get h
      rw [Array.getElem?_toList] at r1
      exact ⟨r, by simp [execOp, ho, Instr.extract, e, r1], r2⟩
    · cases h
  case h_17 x xt t ok ho =>
    simp only [Option.bind_eq_some_iff] at h
    obtain ⟨u, hu, h⟩ := h
    have hr := Rep.opnd hts hu
    obtain ⟨r, r1, r2⟩ := typeAssert_sound (xt := xt) hr h
    exact ⟨r, by simp only [execOp, ho]; exact val r1, r2⟩
  case h_18 args ats ho =>
    simp only [Option.bind_eq_some_iff] at h
    obtain ⟨vs, hvs, h⟩ := h
    split at h
    · rename_i k x k' y
      obtain ⟨hq, h⟩ := cond_some h
      injection h with h
      subst h
      obtain ⟨u, l, hl, hu, hn⟩ := (RepL.opnds hts hvs).cons_inv
      obtain ⟨u', l', hl', hu', hn⟩ := hn.cons_inv
      have hn := hn.nil_inv
      subst hn; subst hl'
      have hargs : args.map a.eval = #[u, u'] := by
        apply Array.ext'
        simpa using hl
      simp only [Rep] at hu hu'
      subst hu; subst hu'
      exact ⟨.int k (if y < x then y else x), by simp [execOp, ho, resolve, invoke, builtin, hargs, Builtin.min_, Builtin.min2], by simp only [Rep]⟩
    · rename_i x y
      injection h with h
      subst h
      obtain ⟨u, l, hl, hu, hn⟩ := (RepL.opnds hts hvs).cons_inv
      obtain ⟨u', l', hl', hu', hn⟩ := hn.cons_inv
      have hn := hn.nil_inv
      subst hn; subst hl'
      have hargs : args.map a.eval = #[u, u'] := by
        apply Array.ext'
        simpa using hl
      simp only [Rep] at hu hu'
      subst hu; subst hu'
      obtain ⟨r, r1, r2⟩ := run_strOp (P := P) (G := G) (st := st) (w := w) (op := .leq) (x := x) (y := y) (v := .bool (strLt x y || strEq x y)) rfl
      simp only [Rep] at r2
      subst r2
      refine ⟨.string ⟨(cond (strLt x y || strEq x y) x y).toArray⟩, ?_, by simp only [Rep]⟩
      have : (Builtin.min_ ats o.type #[.string ⟨x.toArray⟩, .string ⟨y.toArray⟩]).run P w = .ok (.string ⟨(cond (strLt x y || strEq x y) x y).toArray⟩) w := by
        simp only [Builtin.min_, List.foldlM_cons, List.foldlM_nil, Builtin.min2, Sem.run_bind, r1, Result.andThen_ok, asBool, Sem.run_pure]
        cases (strLt x y || strEq x y) <;> rfl
      simp [execOp, ho, resolve, invoke, builtin, hargs, this]
    · cases h
  case h_19 args ats ho =>
    simp only [Option.bind_eq_some_iff] at h
    obtain ⟨vs, hvs, h⟩ := h
    split at h
    · rename_i k x k' y
      obtain ⟨hq, h⟩ := cond_some h
      injection h with h
      subst h
      obtain ⟨u, l, hl, hu, hn⟩ := (RepL.opnds hts hvs).cons_inv
      obtain ⟨u', l', hl', hu', hn⟩ := hn.cons_inv
      have hn := hn.nil_inv
      subst hn; subst hl'
      have hargs : args.map a.eval = #[u, u'] := by
        apply Array.ext'
        simpa using hl
      simp only [Rep] at hu hu'
      subst hu; subst hu'
      exact ⟨.int k (if y > x then y else x), by simp [execOp, ho, resolve, invoke, builtin, hargs, Builtin.max_, Builtin.max2], by simp only [Rep]⟩
    · rename_i x y
      injection h with h
      subst h
      obtain ⟨u, l, hl, hu, hn⟩ := (RepL.opnds hts hvs).cons_inv
      obtain ⟨u', l', hl', hu', hn⟩ := hn.cons_inv
      have hn := hn.nil_inv
      subst hn; subst hl'
      have hargs : args.map a.eval = #[u, u'] := by
        apply Array.ext'
        simpa using hl
      simp only [Rep] at hu hu'
      subst hu; subst hu'
      obtain ⟨r, r1, r2⟩ := run_strOp (P := P) (G := G) (st := st) (w := w) (op := .geq) (x := x) (y := y) (v := .bool (!strLt x y)) rfl
      simp only [Rep] at r2
      subst r2
      refine ⟨.string ⟨(cond (!strLt x y) x y).toArray⟩, ?_, by simp only [Rep]⟩
      have : (Builtin.max_ ats o.type #[.string ⟨x.toArray⟩, .string ⟨y.toArray⟩]).run P w = .ok (.string ⟨(cond (!strLt x y) x y).toArray⟩) w := by
        simp only [Builtin.max_, List.foldlM_cons, List.foldlM_nil, Builtin.max2, Sem.run_bind, r1, Result.andThen_ok, asBool, Sem.run_pure]
        cases (!strLt x y) <;> rfl
      simp [execOp, ho, resolve, invoke, builtin, hargs, this]
    · cases h
  case h_20 cal args ats n1 n2 ho =>
    have hcal : cal = .builtin .len := by
      rw [ho] at hk
      unfold opKind at hk
      split at hk <;> first | (cases hk; done) | skip
      all_goals simp_all
    subst hcal
    simp only [Option.bind_eq_some_iff] at h
    obtain ⟨vs, hvs, h⟩ := h
    split at h
    · simp only [Option.bind_eq_some_iff] at h
      obtain ⟨t, ht, d, hd, h⟩ := h
      obtain ⟨u, l, hl, hu, hn⟩ := (RepL.opnds hts hvs).cons_inv
      have hn := hn.nil_inv
      subst hn
      have hargs : args.map a.eval = #[u] := by
        apply Array.ext'
        simpa using hl
      have run : ∀ {n : Nat}, (Builtin.len_ ats o.type #[u]).run P w = .ok (.int .i64 n) w → (execOp a.eval o).run P w = .ok (.value (.int .i64 n)) w := fun h => by
        simp [execOp, ho, resolve, invoke, builtin, hargs, h]
      have len : ∀ {n : Nat}, (match d, u with | .string, .string s => s.size = n | .slice _, .slice _ m _ => m = n | _, _ => False) → (Builtin.len_ ats o.type #[u]).run P w = .ok (.int .i64 n) w := fun {n} hn => by
        unfold Builtin.len_
        rw [ht]
        simp only [List.getElem?_toArray, List.getElem?_cons_zero, Sem.run_bind, run_underlying hd, Result.andThen_ok]
        split at hn <;> first | (cases hn; done) | (subst hn; rfl)
      split at h <;> first | (cases h; done) | skip
      all_goals
        injection h with h
        subst h
        simp only [Rep] at hu
        simp only [Rep]
      · subst hu; exact ⟨_, run (len (by simp [ByteArray.size])), rfl⟩
      · obtain ⟨s, rfl, _, s2, s3⟩ := hu
        exact ⟨_, run (n := s.length) (len (by simp [ByteArray.size])), s.length, rfl, by omega, by omega, by omega⟩
      · subst hu; exact ⟨_, run (n := 0) (len rfl), rfl⟩
      · obtain ⟨_, _, _, rfl⟩ := hu; exact ⟨_, run (n := 0) (len rfl), rfl⟩
      · obtain ⟨_, _, _, _, _, rfl, _⟩ := hu; exact ⟨_, run (len rfl), rfl⟩
      · obtain ⟨_, _, _, _, _, rfl, _⟩ := hu; exact ⟨_, run (len rfl), rfl⟩
    · cases h
  case h_21 => cases h
end
end Go.Ev
