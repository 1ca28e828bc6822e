/- Copies, what is cleared, texts that share bytes, looks; all operations that make no call. -/
import Derived.Test.YtgmhnpfpmcccnaaGreatDoorEvP
set_option linter.all false
namespace Go.Ev
open Go.RowKit (Below)

section
variable {P : Program} {W0 : World} {G : Gh} {st : St} {w : World}

theorem lenOf_slice {d : AV} {u : Value} {n : Nat} (hd : Rep G st w d u) (h : lenOf d = some n) : ∃ b c, u = .slice b n c := by
  cases d <;> simp only [lenOf, Option.some.injEq] at h <;> first | (cases h; done) | skip
  all_goals
    subst h
    simp only [Rep] at hd
  · exact ⟨_, _, hd⟩
  · obtain ⟨b, off, c, m, n, rfl, _⟩ := hd; exact ⟨_, _, rfl⟩
  · obtain ⟨b, k, n, c, _, rfl, _⟩ := hd; exact ⟨_, _, rfl⟩
  · obtain ⟨b, off, c, rfl⟩ := hd; exact ⟨_, _, rfl⟩

theorem copy_sound (I : Inv W0 G st w) {ats : Array TypeId} {ty : TypeId} {d s v : AV} {ud us : Value} {st' : St} (hd : Rep G st w d ud) (hs : Rep G st w s us) (h : copyOp P st ats d s = some (v, st')) :
    ∃ r w', (Builtin.copy_ ats ty #[ud, us]).run P w = .ok r w' ∧ Le G st w G st' w' ∧ Unb G st G st' ∧ Inv W0 G st' w' ∧ Rep G st' w' v r := by
  unfold copyOp at h
  split at h
  rotate_left
  · cases h
  rename_i t t' hats
  have hats : ats = #[t, t'] := by apply Array.ext'; simpa using hats
  subst hats
  simp only [Option.bind_eq_some_iff] at h
  obtain ⟨td, htd, h⟩ := h
  split at h
  rotate_left
  · cases h
  rename_i e
  simp only [Option.bind_eq_some_iff] at h
  obtain ⟨sz, hsz, dn, hdn, sn, hsn, cs, hcs, h⟩ := h
  have main : ∀ (hone : cs.all AV.one = true), ∃ nvs, (∀ w' : World, (Builtin.lenOf us).run P w' = .ok sn w') ∧ (Builtin.firstCells sz (min sn dn) us).run P w = .ok nvs.toArray w ∧ RepL G st w cs nvs ∧ cs.length = min sn dn * sz := by
    intro hone
    obtain ⟨nvs, m, _, h2, h3, h4, _, _, _, h8, h9⟩ := appended_rep (P := P) I htd hs hcs ⟨sn, hsn, Nat.min_le_left _ _⟩ hone
    rw [hsn] at h2
    injection h2 with h2
    subst h2
    exact ⟨nvs, h3, h4, h8, h9⟩
  have start : ∀ (base : Option Addr) (c : Nat) (nvs : List Value), ud = .slice base dn c → (∀ w' : World, (Builtin.lenOf us).run P w' = .ok sn w') → (Builtin.firstCells sz (min sn dn) us).run P w = .ok nvs.toArray w →
      (Builtin.copy_ #[t, t'] ty #[ud, us]).run P w = (do
        if let some a := base then storeCells a nvs
        pure (goInt ((min sn dn : Nat) : Int)) : Sem Value).run P w := by
    rintro base c nvs rfl h1 h2
    unfold Builtin.copy_
    simp only [List.getElem?_toArray, List.getElem?_cons_zero, List.getElem?_cons_succ, Sem.run_bind, run_underlying htd, Result.andThen_ok, run_size hsz, h1, Sem.run_pure]
    have h2' : (Builtin.firstCells sz (sn.min dn) us).run P w = .ok nvs.toArray w := h2
    rw [h2', Result.andThen_ok]
    cases base <;> rfl
  split at h
  · rename_i id off len sz' cap
    have h0 := cond_some h
    clear h
    obtain ⟨hq, h⟩ := h0
    simp only [Bool.and_eq_true] at hq
    simp only [Option.bind_eq_some_iff] at h
    obtain ⟨st1, hst1, h⟩ := h
    injection h with h; injection h with e1 e2; subst e1; subst e2
    obtain ⟨nvs, h1, h2, h3, h4⟩ := main hq.2
    simp only [lenOf, Option.some.injEq] at hdn
    subst hdn
    simp only [Rep] at hd
    obtain ⟨b, k0, n0, c, x1, rfl, _⟩ := hd
    have hp : Rep G st w (.ref id off) (.pointer (some ⟨b, off, none⟩)) := by simp only [Rep]; exact ⟨b, k0, n0, x1, rfl⟩
    obtain ⟨b', off', w', e1, s1, s2, s3, s4⟩ := store_does (P := P) I hp h3 hq.2 hst1
    injection e1 with e1; injection e1 with e1; injection e1 with e1 e2
    subst e1; subst e2
    refine ⟨goInt ((min sn len : Nat) : Int), w', ?_, s2, s3, s4, by simp only [Rep, goInt]⟩
    rw [start (some ⟨b, off, none⟩) c nvs rfl h1 h2]
    simp [s1]
  · have h0 := cond_some h
    clear h
    obtain ⟨hq, h⟩ := h0
    injection h with h; injection h with e1 e2; subst e1; subst e2
    have hz := Nat.eq_of_beq_eq_true hq
    have hcn : cs = [] := by
      unfold appended at hcs
      split at hcs
      · simp only [Option.bind_eq_some_iff] at hcs
        obtain ⟨d', _, hcs⟩ := hcs
        split at hcs
        · obtain ⟨_, hcs⟩ := cond_some hcs
          injection hcs with hcs
          rw [← hcs, hz]
          simp
        · cases hcs
      · obtain ⟨_, hcs⟩ := cond_some hcs
        rw [hz] at hcs
        unfold sliceCells at hcs
        split at hcs
        · obtain ⟨_, hcs⟩ := cond_some hcs; injection hcs with hcs; exact hcs.symm
        · obtain ⟨_, hcs⟩ := cond_some hcs; injection hcs with hcs; exact hcs.symm
        · have h0 := cond_some hcs; obtain ⟨_, h⟩ := h0; obtain ⟨_, rfl⟩ := range_some h; simp
        · split at hcs
          · have h0 := cond_some hcs; obtain ⟨_, h⟩ := h0; obtain ⟨_, rfl⟩ := range_some h; simp
          · cases hcs
        · cases hcs
    obtain ⟨nvs, h1, h2, h3, h4⟩ := main (by rw [hcn]; rfl)
    obtain ⟨base, c, rfl⟩ := lenOf_slice hd hdn
    have hnv : nvs = [] := by rw [hcn] at h3; exact h3.nil_inv
    subst hnv
    refine ⟨goInt ((min sn dn : Nat) : Int), w, ?_, Le.refl _ _ _, Unb.refl _ _, I, by simp only [Rep, goInt, hz]; rfl⟩
    rw [start base c [] rfl h1 h2]
    cases base <;> simp [storeCells]

theorem clear_sound (I : Inv W0 G st w) {ats : Array TypeId} {ty t : TypeId} {x : AV} {u : Value} {st' : St} (hat : ats[0]? = some t) (hx : Rep G st w x u) (h : clearOp P st t x = some st') :
    ∃ w', (Builtin.clear_ ats ty #[u]).run P w = .ok (.tuple #[]) w' ∧ Le G st w G st' w' ∧ Unb G st G st' ∧ Inv W0 G st' w' := by
  simp only [clearOp, Option.bind_eq_some_iff] at h
  obtain ⟨d, hd, h⟩ := h
  unfold Builtin.clear_
  simp only [hat, List.getElem?_toArray, List.getElem?_cons_zero, Sem.run_bind, run_underlying hd, Result.andThen_ok]
  split at h
  · injection h with h; subst h
    simp only [Rep] at hx; subst hx
    exact ⟨w, by simp, Le.refl _ _ _, Unb.refl _ _, I⟩
  · injection h with h; subst h
    simp only [Rep] at hx; subst hx
    exact ⟨w, by simp, Le.refl _ _ _, Unb.refl _ _, I⟩
  · rename_i id
    split at h
    · rename_i es c hget
      injection h with h; subst h
      simp only [Rep] at hx
      obtain ⟨b, k0, n0, hb, rfl⟩ := hx
      obtain ⟨o, ho, l, rfl, hl⟩ := I.bobj id b k0 n0 _ hb hget rfl
      have hO : OObj G st w (.map [] c) (.map #[] c) := ⟨#[], rfl, rfl⟩
      refine ⟨_, ?_, obj_does (o0 := .map l c) I hb hget rfl hO⟩
      simp [getObj_run ho trivial, setObj_run ho trivial]
    · cases h
  · rename_i e id off n sz cap
    simp only [Option.bind_eq_some_iff] at h
    obtain ⟨sz', hsz, z, hz, h⟩ := h
    have h0 := cond_some h
    clear h
    obtain ⟨hq, h⟩ := h0
    simp only [Bool.and_eq_true] at hq
    have hs : sz = sz' := Nat.eq_of_beq_eq_true hq.1.1
    subst hs
    have hzl := Nat.eq_of_beq_eq_true hq.1.2
    obtain ⟨zv, z1, z2, _⟩ := run_zero (G := G) (st := st) hz w
    simp only [Rep] at hx
    obtain ⟨b, k0, n0, c, x1, rfl, x3, x4, x5, x6⟩ := hx
    cases hn : Nat.beq n 0 with
    | true =>
      rw [hn] at h
      injection h with h; subst h
      have := Nat.eq_of_beq_eq_true hn
      subst this
      exact ⟨w, by simp, Le.refl _ _ _, Unb.refl _ _, I⟩
    | false =>
      rw [hn] at h
      simp only [cond_false] at h
      have hn0 : n ≠ 0 := by rintro rfl; simp at hn
      have hp : Rep G st w (.ref id off) (.pointer (some ⟨b, off, none⟩)) := by simp only [Rep]; exact ⟨b, k0, n0, x1, rfl⟩
      have hrep := repeat_rep z2.cells n
      have hzc := z2.cells.length
      simp only [Array.length_toList] at hzc
      have hone : (repeatCells z.cells n).all AV.one = true := by
        have : ∀ n, (repeatCells z.cells n).all AV.one = true := fun n => by
          induction n with
          | zero => rfl
          | succ n ih => simp only [repeatCells, List.all_append, hq.2, ih, Bool.and_self]
        exact this n
      obtain ⟨b', off', w', e1, s1, s2, s3, s4⟩ := store_does (P := P) I hp hrep hone h
      injection e1 with e1; injection e1 with e1; injection e1 with e1 e2
      subst e1; subst e2
      refine ⟨w', ?_, s2, s3, s4⟩
      have hzz : (Builtin.zeroCells zv.cells n).toList = (madeCells zv.cells (n * zv.cells.size)).toList := by
        simp [Builtin.zeroCells, madeCells]
      have s1' : (storeCells ⟨b, off, none⟩ (Builtin.zeroCells zv.cells n).toList).run P w = .ok () w' := by rw [hzz]; exact s1
      obtain ⟨n', rfl⟩ : ∃ n', n = n' + 1 := ⟨n - 1, by omega⟩
      simp [z1, s1']
  · rename_i _ e _ n _ _ _
    have h0 := cond_some h
    clear h
    obtain ⟨hq, h⟩ := h0
    injection h with h; subst h
    have := Nat.eq_of_beq_eq_true hq
    subst this
    simp only [Rep] at hx
    obtain ⟨b, off, c, m, n, rfl, _⟩ := hx
    exact ⟨w, by simp, Le.refl _ _ _, Unb.refl _ _, I⟩
  · cases h

/-! ### A text that shares a row's bytes -/
theorem freeze_heap (w : World) (a : Addr) (n b : Nat) (h : b ≠ a.block) : (w.freeze a n).heap[b]? = w.heap[b]? := by
  unfold World.freeze
  split
  · rfl
  · simp only [Array.getElem?_modify]
    rw [if_neg (by omega)]
theorem freeze_size (w : World) (a : Addr) (n : Nat) : (w.freeze a n).heap.size = w.heap.size := by
  unfold World.freeze
  split <;> simp
theorem Le.freeze (I : Inv W0 G st w) {id b k n : Nat} (hb : G.β id = some (b, k, n)) (m : Nat) : Le G st w G (st.put id .dead) (w.freeze ⟨b, 0, none⟩ m) where
  β i b hb := hb
  ext b i m n h := ⟨m, Nat.le_refl _, h⟩
  cell b' i m n j h _ := World.cell?_of_block (w := w) (freeze_heap w _ _ b' (by
    rintro rfl
    rw [I.bext id _ _ _ hb] at h
    cases h))
  tip i h hh hx := ⟨h, Nat.le_refl _, by
    obtain ⟨b', m, n, hx⟩ := hx
    simp only [St.put, Tr.get_set]
    rw [if_neg (by rintro rfl; have := (I.elt b' i m n hx).2.2.2.2.1; rw [hb] at this; cases this)]
    exact hh, fun _ _ _ _ k => k⟩
  next := Nat.le_refl _
theorem unsafeString_sound (I : Inv W0 G st w) {ats : Array TypeId} {ty : TypeId} {p v : AV} {u : Value} {n : Int} {st' : St} (hp : Rep G st w p u) (h : unsafeStringOp P st ats p n = some (v, st')) :
    ∃ r w', (Builtin.unsafeString_ ats ty #[u, .int .i64 n]).run P w = .ok r w' ∧ Le G st w G st' w' ∧ Unb G st G st' ∧ Inv W0 G st' w' ∧ Rep G st' w' v r := by
  unfold unsafeStringOp at h
  split at h
  rotate_left
  · cases h
  rename_i pt it hats
  have hats : ats = #[pt, it] := by apply Array.ext'; simpa using hats
  subst hats
  cases hn : n == 0 with
  | true =>
    rw [hn] at h
    have hn0 : n = 0 := by simpa using hn
    subst hn0
    simp only [cond_true] at h
    have he : Rep G st w (.str []) (.string .empty) := by simp only [Rep]; rfl
    split at h
    · injection h with h; injection h with e1 e2; subst e1; subst e2
      simp only [Rep] at hp; subst hp
      exact ⟨_, w, Go.Lib.run_unsafeString_none w pt it ty none, Le.refl _ _ _, Unb.refl _ _, I, he⟩
    · injection h with h; injection h with e1 e2; subst e1; subst e2
      simp only [Rep] at hp
      obtain ⟨b, k, n, _, rfl⟩ := hp
      exact ⟨_, w, Go.Lib.run_unsafeString_none w pt it ty _, Le.refl _ _ _, Unb.refl _ _, I, he⟩
    · cases h
  | false =>
    rw [hn] at h
    simp only [cond_false] at h
    split at h
    rotate_left
    · cases h
    rename_i id
    split at h
    rotate_left
    · cases h
    rename_i e uf cs hget
    simp only [Option.bind_eq_some_iff] at h
    obtain ⟨d, hd, h⟩ := h
    split at h
    rotate_left
    · cases h
    rename_i u'
    have h0 := cond_some h
    clear h
    obtain ⟨hq, h⟩ := h0
    simp only [Bool.and_eq_true, decide_eq_true_eq] at hq
    obtain ⟨⟨⟨⟨q1, q2⟩, q3⟩, q4⟩, q5⟩ := hq
    have q1 := Nat.eq_of_beq_eq_true q1
    have q2 := Nat.eq_of_beq_eq_true q2
    have q3 := Nat.le_of_ble_eq_true q3
    have q4 := Nat.le_of_ble_eq_true q4
    subst q1
    simp only [Option.bind_eq_some_iff] at h
    obtain ⟨s, hs, h⟩ := h
    have h0 := cond_some h
    clear h
    obtain ⟨hl, h⟩ := h0
    have hl : s.length = n.toNat := by simpa using hl
    injection h with h; injection h with e1 e2; subst e1; subst e2
    simp only [Rep] at hp
    obtain ⟨b, k, N, hb, rfl⟩ := hp
    obtain ⟨k1, k2, k3, k4, k5, k6⟩ := I.bcell id b k N _ uf cs hb hget
    obtain ⟨vs, v1, v2, v3⟩ := (k1.take n.toNat).values
    obtain ⟨ns, hns, hls⟩ := bytesOf_rep hs v1
    have hm : most = 1073741824 := rfl
    have hlen : ns.length = n.toNat := by have := congrArg List.length hls; rw [List.length_map] at this; omega
    have hcell : ∀ (j : Nat) x, s[j]? = some x → w.cell? ((⟨b, 0, none⟩ : Addr).add j) = some (.int .u8 x.toNat) ∨ True := fun _ _ _ => .inr trivial
    have hrun : (Builtin.unsafeString_ #[pt, it] ty #[.pointer (some ⟨b, 0, none⟩), .int .i64 n]).run P w = .ok (.string ⟨s.toArray⟩) (w.freeze ⟨b, 0, none⟩ n.toNat) := by
      have hneg : ¬ n < 0 := by omega
      have hmax : ¬ n > IntKind.i64.max := by
        have : IntKind.i64.max = 9223372036854775807 := rfl
        omega
      have hnz : ¬ n = 0 := by omega
      have hlies : liesAt P P.depth u' (N / P.cellsOf u') 0 u' n.toNat = true := Go.Lib.liesAt_bytes q2 _ _ (by rw [q2]; simp; omega)
      have hlb : ∀ (ns : List Int) (vs : List Value) (a : Addr) (acc : ByteArray), vs = ns.map (Value.int .u8) → (∀ (j : Nat) v, vs[j]? = some v → w.cell? (a.add j) = some v) →
          (loadBytes a acc ns.length).run P w = .ok ⟨acc.data ++ (ns.map fun n => UInt8.ofNat n.toNat).toArray⟩ w := by
        intro ns
        induction ns with
        | nil => intro vs a acc _ _; simp [loadBytes]
        | cons x ns ih =>
          rintro vs a acc rfl hc
          have h0 : w.cell? a = some (.int .u8 x) := by
            have := hc 0 (.int .u8 x) (by simp)
            simpa [Addr.add] using this
          have := ih (ns.map (Value.int .u8)) (a.add 1) (acc.push (x.toNat.toUInt8)) rfl (fun j v hv => by
            have := hc (j + 1) v (by simpa using hv)
            have e : (a.add 1).add j = a.add (j + 1) := by
              unfold Addr.add
              by_cases hj : j = 0
              · subst hj; simp
              · simp [hj]; omega
            rw [e]; exact this)
          simp only [List.length_cons, loadBytes, Sem.run_bind, run_load, h0, Result.andThen]
          rw [this]
          congr 1
          apply ByteArray.ext
          simp [ByteArray.push]
      have hlb' := hlb ns vs ⟨b, 0, none⟩ .empty hns (fun j v hv => by rw [add_addr]; exact v3 j v hv)
      rw [hlen, hls] at hlb'
      have hdef : Builtin.unsafeString_ #[pt, it] ty #[.pointer (some ⟨b, 0, none⟩), .int .i64 n] =
          (do
            let n ← asInt (.int .i64 n)
            if n < 0 then runtimePanic (.error "unsafe.String: len out of range")
            if n > IntKind.i64.max then unsupported (.unsafePointer "String: a length above the largest int")
            if n = 0 then pure (.string .empty)
            else if ← variablesAt ⟨b, 0, none⟩ (← elemOf pt) n.toNat then do
              let s ← loadBytes ⟨b, 0, none⟩ .empty n.toNat
              freeze ⟨b, 0, none⟩ n.toNat
              pure (.string s)
            else unsupported (.unsafePointer "String: not so many bytes at ptr")) := rfl
      rw [hdef]
      have h63 : n ≤ 9223372036854775807 := by omega
      simp [asInt, asIntOf, hneg, hnz, variablesAt, k5, elemOf, run_underlying hd, hlies, hlb', h63]
    have L := Le.freeze I hb n.toNat
    refine ⟨_, _, hrun, L, Unb.put (by intro hu; rw [hu.1] at hb; cases hb), ?_, by simp only [Rep]⟩
    exact I.turn hb hget (by intro e; cases e) (freeze_size _ _ _) (Go.Lib.below_freeze I.below (I.blt _ _ _ _ hb).1 _) (fun b' h => freeze_heap w _ _ b' h) L (fun t u cs e => by cases e) (fun e => by cases e)

/-! ### Looks -/
theorem bytesText_sound (I : Inv W0 G st w) {s d e : TypeId} {v : AV} {u : Value} {n : Nat} {cs : List AV} {l : List UInt8} (hs : P.underlying s = some (.slice e)) (hd : P.underlying d = some .string) (he : P.underlying e = some (.int .u8)) (hr : Rep G st w v u)
    (hn : lenOf v = some n) (hcs : sliceCells st n v 1 = some cs) (hl : bytesOf cs = some l) : (convert s d u).run P w = .ok (.string ⟨l.toArray⟩) w := by
  rcases sliceCells_rep I hr hcs ⟨n, hn, Nat.le_refl _⟩ with ⟨hh, rfl, rfl⟩ | ⟨b, off, c, m, vs, hh, hm, _, o1, o2, o3⟩
  · rw [hh, run_convert_bytes_string w s d e none 0 0 hs he hd]
    simp only [bytesOf] at hl
    injection hl with hl
    subst hl
    rfl
  · have : m = n := by rw [hn] at hm; injection hm with hm; exact hm.symm
    subst this
    obtain ⟨ns, rfl, rfl⟩ := bytesOf_rep hl o1
    have hlen := o1.length
    rw [List.length_map] at hlen
    rw [hh, run_convert_bytes_string w s d e _ m c hs he hd, run_bytesToString w _ m c ns (by
      have := run_loadCells_list (P := P) w ⟨b, off, none⟩ (ns.map (Value.int .u8)) o3
      rw [List.length_map, hlen, o2, Nat.mul_one] at this
      exact this), foldl_push_bytes]
    have he0 : ByteArray.empty.data = #[] := rfl
    rw [he0]
    simp

theorem toUnsafe_sound (I : Inv W0 G st w) {s d t n : Nat} {id off b k N : Nat} {e : TypeId} {uf : Bool} {cs : List AV} (hs : P.underlying s = some (.pointer t)) (hd : P.underlying d = some .unsafePointer) (hn : size? P t = some n) (hn0 : n ≠ 0)
    (hb : G.β id = some (b, k, N)) (hget : st.objs.get id = some (.cells e uf cs)) (ho : off < cs.length) : (convert s d (.pointer (some ⟨b, off, none⟩))).run P w = .ok (.pointer (some ⟨b, off, none⟩)) w := by
  obtain ⟨k1, k2, k3, k4, k5, k6⟩ := I.bcell id b k N e uf cs hb hget
  have hlt : off < N := by omega
  have hno : ¬ off ≥ N := by omega
  unfold convert
  simp only [Sem.run_bind, run_underlying hs, run_underlying hd, Result.andThen_ok]
  simp [Conv.unsafePointer, run_underlying hs, run_underlying hd, Conv.seenAt, viewAt, k5, run_size hn, hn0, cellsIn, hno]

theorem fromUnsafe_sound (I : Inv W0 G st w) {s d t n : Nat} {id off b k N : Nat} {e : TypeId} {cs : List AV} (hs : P.underlying s = some .unsafePointer) (hd : P.underlying d = some (.pointer t)) (hn : size? P t = some n) (hn0 : n ≠ 0)
    (hb : G.β id = some (b, k, N)) (hget : st.objs.get id = some (.cells e true cs)) (hl : liesAt P P.depth e (cs.length / P.cellsOf e) off t 1 = true) : (convert s d (.pointer (some ⟨b, off, none⟩))).run P w = .ok (.pointer (some ⟨b, off, none⟩)) w := by
  obtain ⟨k1, k2, k3, k4, k5, k6⟩ := I.bcell id b k N e true cs hb hget
  have hN : N = cs.length := by rw [(k4 rfl).1, k2]
  rw [← hN] at hl
  unfold convert
  simp only [Sem.run_bind, run_underlying hs, run_underlying hd, Result.andThen_ok]
  simp [Conv.unsafePointer, run_underlying hs, run_underlying hd, Conv.seenAt, viewAt, k5, run_size hn, hn0, variablesAt, hl]

theorem takeO_rep {o : Option Operand} {r : List AV} {A : Option AV × List AV} {a : Act} {us : List Value} (h : takeO o r = some A) (hr : RepL G st w r (o.toArray.toList.map a.eval ++ us)) : RepO G st w A.1 (o.map a.eval) ∧ RepL G st w A.2 us := by
  cases o with
  | none =>
    simp only [takeO] at h
    injection h with h
    subst h
    exact ⟨rfl, by simpa using hr⟩
  | some x =>
    cases r with
    | nil => cases h
    | cons b r =>
      simp only [takeO] at h
      injection h with h
      subst h
      have hr' : RepL G st w (b :: r) (a.eval x :: us) := by simpa using hr
      obtain ⟨u, l, e, h1, h2⟩ := hr'.cons_inv
      injection e with e1 e2
      subst e1; subst e2
      exact ⟨⟨_, rfl, h1⟩, h2⟩
theorem run_sliceSt (I : Inv W0 G st w) {t : TypeId} {x : AV} {u : Value} {low high max : Option AV} {low' high' max' : Option Value} {v : AV} (hx : Rep G st w x u) (hl : RepO G st w low low') (hh : RepO G st w high high')
    (hm : RepO G st w max max') (h : sliceSt P st t x low high max = some v) : ∃ r, (Instr.sliceAt t u low' high' max').run P w = .ok r w ∧ Rep G st w v r := by
  unfold sliceSt at h
  split at h
  · rename_i id off len sz
    split at h
    · rename_i ty uf cs hcs
      refine run_sliceRoom hx hl hh hm (fun b k n hb c hc => ?_) h
      have hb' := (I.bcell id b k n _ _ cs hb hcs).2.1
      have h6 : 0 < sz := by
        simp only [Rep] at hx
        obtain ⟨_, _, _, _, _, _, _, _, _, h6⟩ := hx
        exact h6
      rw [hb']
      have h7 : k - off ≤ c * sz := by omega
      exact Nat.div_le_of_le_mul (by rw [Nat.mul_comm]; exact h7)
    · exact run_sliceOp hx hl hh hm h
    · cases h
  · exact run_sliceOp hx hl hh hm h
theorem readV_sound (I : Inv W0 G st w) {vs : List AV} {v : AV} {a : Act} {o : Oper} (hvs : RepL G st w vs (o.op.operands.toList.map a.eval)) (h : readV P st o.op vs = some v) :
    ∃ r, (execOp a.eval o).run P w = .ok (.value r) w ∧ Rep G st w v r := by
  have val : ∀ {s : Sem Value} {r : Value}, s.run P w = .ok r w → ((do pure (.value (← s)) : Sem Next)).run P w = .ok (.value r) w := fun h => by simp [h]
  unfold readV at h
  split at h
  · rename_i t x p ho
    rw [ho] at hvs
    simp only [Op.operands] at hvs
    obtain ⟨u, l, e, hp, hn⟩ := hvs.cons_inv
    have e1 : u = a.eval x := by simp at e; exact e.1.symm
    subst e1
    obtain ⟨r, r1, r2⟩ := run_loadAt I hp h
    exact ⟨r, by simp only [execOp, ho]; exact val r1, r2⟩
  · rename_i t x y ok m k ho
    rw [ho] at hvs
    simp only [Op.operands] at hvs
    obtain ⟨u, l, e, hm, hn⟩ := hvs.cons_inv
    obtain ⟨u', l', e', hk, hn⟩ := hn.cons_inv
    subst e'
    have e1 : u = a.eval x ∧ u' = a.eval y := by simp at e; exact ⟨e.1.symm, e.2.1.symm⟩
    obtain ⟨rfl, rfl⟩ := e1
    obtain ⟨r, r1, r2⟩ := lookup_sound I hm hk h
    exact ⟨r, by simp only [execOp, ho]; exact val r1, r2⟩
  · rename_i t x lo hi mx v0 r0 ho
    rw [ho] at hvs
    simp only [Op.operands, Array.toList_append, List.map_append] at hvs
    simp only [Option.bind_eq_some_iff] at h
    obtain ⟨A, hA, B, hB, D, hD, h⟩ := h
    have hvs' : RepL G st w (v0 :: r0) (a.eval x :: ((lo.toArray.toList.map a.eval) ++ ((hi.toArray.toList.map a.eval) ++ (mx.toArray.toList.map a.eval)))) := by simpa using hvs
    obtain ⟨u, l, e, hx, hr⟩ := hvs'.cons_inv
    injection e with e1 e2
    subst e1; subst e2
    obtain ⟨o1, hr⟩ := takeO_rep hA hr
    obtain ⟨o2, hr⟩ := takeO_rep hB hr
    have hr' : RepL G st w B.2 ((mx.toArray.toList.map a.eval) ++ []) := by simpa using hr
    obtain ⟨o3, _⟩ := takeO_rep hD hr'
    obtain ⟨r, r1, r2⟩ := run_sliceSt (P := P) I hx o1 o2 o3 h
    exact ⟨r, by simp only [execOp, ho]; exact val r1, r2⟩
  · rename_i args ats m ho
    rw [ho] at hvs
    simp only [Op.operands, Call.operands] at hvs
    obtain ⟨u, l, e, hm, hn⟩ := hvs.cons_inv
    have hn := hn.nil_inv
    subst hn
    have hargs : args.map a.eval = #[u] := by
      apply Array.ext'
      simpa using e
    simp only [Option.bind_eq_some_iff] at h
    obtain ⟨t, ht, d, hd, h⟩ := h
    have run : ∀ {n : Nat}, (Builtin.len_ ats o.type #[u]).run P w = .ok (.int .i64 n) w → (execOp a.eval o).run P w = .ok (.value (.int .i64 n)) w := fun h => by
      simp [execOp, ho, resolve, invoke, builtin, hargs, h]
    have start : Builtin.len_ ats o.type #[u] = Builtin.len_ ats o.type #[u] := rfl
    split at h
    · injection h with h; subst h
      simp only [Rep] at hm; subst hm
      refine ⟨_, run (n := 0) ?_, by simp only [Rep]; rfl⟩
      unfold Builtin.len_
      rw [ht]
      simp only [List.getElem?_toArray, List.getElem?_cons_zero, Sem.run_bind, run_underlying hd, Result.andThen_ok]
      rfl
    · rename_i id
      split at h
      · rename_i es c hget
        injection h with h; subst h
        simp only [Rep] at hm
        obtain ⟨b, k0, n0, hb, rfl⟩ := hm
        obtain ⟨ob, ho', L, rfl, hL⟩ := I.bobj id b k0 n0 _ hb hget rfl
        have hle := hL.length
        refine ⟨_, run (n := es.length) ?_, by simp only [Rep]⟩
        unfold Builtin.len_
        rw [ht]
        simp only [List.getElem?_toArray, List.getElem?_cons_zero, Sem.run_bind, run_underlying hd, Result.andThen_ok, getObj_run ho' trivial, Sem.run_pure]
        simp only [Array.length_toList] at hle
        rw [hle]
        rfl
      · cases h
    · cases h
  · rename_i s d x v' ho
    rw [ho] at hvs
    simp only [Op.operands] at hvs
    obtain ⟨u, l, e, hr, hn⟩ := hvs.cons_inv
    have e1 : u = a.eval x := by simp at e; exact e.1.symm
    subst e1
    simp only [Option.bind_eq_some_iff] at h
    obtain ⟨ss, hs, dd, hd, h⟩ := h
    have fin : ∀ {r : Value}, (convert s d (a.eval x)).run P w = .ok r w → Rep G st w v r → ∃ r, (execOp a.eval o).run P w = .ok (.value r) w ∧ Rep G st w v r := fun {r} h1 h2 => ⟨r, by simp only [execOp, ho]; exact val h1, h2⟩
    split at h
    · rename_i t
      split at h
      · injection h with h; subst h
        have hr' := hr
        simp only [Rep] at hr
        refine fin (r := .pointer none) ?_ (by simp only [Rep])
        rw [hr]
        unfold convert
        simp only [Sem.run_bind, run_underlying hs, run_underlying hd, Result.andThen_ok]
        simp [Conv.unsafePointer, run_underlying hs, run_underlying hd]
      · rename_i id off
        split at h
        · rename_i e uf cs hget
          simp only [Option.bind_eq_some_iff] at h
          obtain ⟨n, hn', h⟩ := h
          have h0 := cond_some h
          clear h
          obtain ⟨hq, h⟩ := h0
          injection h with h; subst h
          simp only [Bool.and_eq_true, Bool.not_eq_true'] at hq
          have hr' := hr
          simp only [Rep] at hr
          obtain ⟨b, k, N, hb, hu⟩ := hr
          refine fin (r := .pointer (some ⟨b, off, none⟩)) ?_ (by rw [← hu]; exact hr')
          rw [hu]
          exact toUnsafe_sound I hs hd hn' (by rintro rfl; simp at hq) hb hget (blt_lt hq.1)
        · cases h
      · cases h
    · rename_i t
      split at h
      · injection h with h; subst h
        simp only [Rep] at hr
        refine fin (r := .pointer none) ?_ (by simp only [Rep])
        rw [hr]
        unfold convert
        simp only [Sem.run_bind, run_underlying hs, run_underlying hd, Result.andThen_ok]
        simp [Conv.unsafePointer, run_underlying hs, run_underlying hd]
      · rename_i id off
        split at h
        · rename_i e cs hget
          simp only [Option.bind_eq_some_iff] at h
          obtain ⟨n, hn', h⟩ := h
          have h0 := cond_some h
          clear h
          obtain ⟨hq, h⟩ := h0
          injection h with h; subst h
          simp only [Bool.and_eq_true, Bool.not_eq_true'] at hq
          have hr' := hr
          simp only [Rep] at hr
          obtain ⟨b, k, N, hb, hu⟩ := hr
          refine fin (r := .pointer (some ⟨b, off, none⟩)) ?_ (by rw [← hu]; exact hr')
          rw [hu]
          exact fromUnsafe_sound I hs hd hn' (by rintro rfl; simp at hq) hb hget hq.2
        · cases h
      · cases h
    · rename_i e
      simp only [Option.bind_eq_some_iff] at h
      obtain ⟨ed, he, h⟩ := h
      split at h
      · simp only [Option.bind_eq_some_iff] at h
        obtain ⟨n, hn', cs, hcs, l, hl, h⟩ := h
        injection h with h; subst h
        exact fin (bytesText_sound I hs hd he hr hn' hcs hl) (by simp only [Rep])
      · cases h
    · cases h
  · cases h

theorem find_born : ∀ {es : List (AV × AV × Nat)} {l : List MapEntry} {b : Nat} {e : AV × AV × Nat}, RepEs G st w es l → (es.find? fun e => Nat.beq e.2.2 b) = some e → ∃ m, (l.find? fun x => x.born == b) = some m ∧ Rep G st w e.1 m.key ∧ Rep G st w e.2.1 m.val
  | [], l, b, e, _, h => by cases h
  | (k, v, c) :: es, l, b, e, hl, h => by
    obtain ⟨k', v', r, rfl, h1, h2, h3⟩ := hl
    rw [List.find?_cons] at h
    split at h
    · rename_i hb
      injection h with h; subst h
      have := Nat.eq_of_beq_eq_true hb
      have hcb : (c == b) = true := by simpa using this
      exact ⟨⟨k', v', c⟩, by rw [List.find?_cons]; simp only [hcb], h1, h2⟩
    · rename_i hb
      obtain ⟨m, m1, m2⟩ := find_born h3 h
      refine ⟨m, ?_, m2⟩
      rw [List.find?_cons]
      have : (c == b) = false := by
        have hne : c ≠ b := by rintro rfl; simp at hb
        simpa using hne
      simp only [this]
      exact m1
theorem entry_sound (I : Inv W0 G st w) {it v : AV} {u : Value} (hx : Rep G st w it u) (h : entryOp st it = some v) : ∃ r, (Instr.entry u).run P w = .ok r w ∧ Rep G st w v r := by
  unfold entryOp at h
  split at h
  rotate_left
  · cases h
  rename_i r
  simp only [Rep] at hx
  obtain ⟨b, k0, n0, hb, rfl⟩ := hx
  split at h
  rotate_left
  · cases h
  rename_i m since seen last hget
  simp only [Option.bind_eq_some_iff] at h
  obtain ⟨bn, hbn, h⟩ := h
  split at h
  rotate_left
  · cases h
  rename_i es clock hm
  have h0 := cond_some h
  clear h
  obtain ⟨hq, h⟩ := h0
  have hcl := Nat.eq_of_beq_eq_true hq
  subst hcl
  simp only [Option.bind_eq_some_iff] at h
  obtain ⟨e, he, h⟩ := h
  injection h with h; subst h
  obtain ⟨o, ho, mb, k1, n1, rfl, hmb⟩ := I.bobj r b k0 n0 _ hb hget rfl
  obtain ⟨o', ho', L, rfl, hL⟩ := I.bobj m mb k1 n1 _ hmb hm rfl
  obtain ⟨me, m1, m2, m3⟩ := find_born hL he
  refine ⟨.tuple #[me.key, me.val], ?_, by simp only [Rep]; exact ⟨_, rfl, RepL.cons m2 (RepL.cons m3 RepL.nil)⟩⟩
  have hback : seen.toArray.back? = some bn := by simpa using hbn
  have hfind : L.find? (fun x => x.born == bn) = some me := by rw [← Array.find?_toList]; exact m1
  unfold Instr.entry
  simp only [Sem.run_bind, getObj_run ho trivial, Result.andThen_ok, hback, getObj_run ho' trivial]
  simp [hfind]

/-! ### What turns the store -/
theorem args1 {ts : List AV} {a : Act} {args : Array Operand} {x : AV} (hts : RepL G st w ts a.tmps.toList) (h : opnds ts args.toList = some [x]) : ∃ u, args.map a.eval = #[u] ∧ Rep G st w x u := by
  obtain ⟨u, l, e, hu, hn⟩ := (RepL.opnds hts h).cons_inv
  have hn := hn.nil_inv
  subst hn
  exact ⟨u, by apply Array.ext'; simpa using e, hu⟩
theorem args2 {ts : List AV} {a : Act} {args : Array Operand} {x y : AV} (hts : RepL G st w ts a.tmps.toList) (h : opnds ts args.toList = some [x, y]) : ∃ u v, args.map a.eval = #[u, v] ∧ Rep G st w x u ∧ Rep G st w y v := by
  obtain ⟨u, l, e, hu, hn⟩ := (RepL.opnds hts h).cons_inv
  obtain ⟨v, l', e', hv, hn⟩ := hn.cons_inv
  have hn := hn.nil_inv
  subst hn; subst e'
  exact ⟨u, v, by apply Array.ext'; simpa using e, hu, hv⟩

theorem effOp_sound (I : Inv W0 G st w) {byref : Bool} {ts : List AV} {a : Act} {o : Oper} {v : AV} {st' : St} (hts : RepL G st w ts a.tmps.toList) (h : effOp P byref ts st o.op = some (v, st')) :
    Does W0 G st w ((execOp a.eval o).run P w) v st' := by
  unfold effOp at h
  split at h
  case h_1 t x y hop =>
    simp only [Option.bind_eq_some_iff] at h
    obtain ⟨p, hp, u, hu, st1, h1, h⟩ := h
    injection h with h; injection h with e1 e2; subst e1; subst e2
    obtain ⟨w', k1, k2, k3, k4⟩ := run_storeAt I (Rep.opnd hts hp) (Rep.opnd hts hu) h1
    exact ⟨.skip, Go.undef, w', G, by simp [execOp, hop, k1], .inr ⟨rfl, rfl⟩, k2, k3, k4, Rep.undef⟩
  case h_2 args ats hop =>
    simp only [Option.bind_eq_some_iff] at h
    obtain ⟨vs, hvs, h⟩ := h
    split at h
    · obtain ⟨us, ux, hargs, hs, hx⟩ := args2 hts hvs
      obtain ⟨r, w', G', k1, k2, k3, k4, k5⟩ := append_sound (ty := o.type) I hs hx h
      exact ⟨_, r, w', G', by simp [execOp, hop, resolve, invoke, builtin, hargs, k1], .inl rfl, k2, k3, k4, k5⟩
    · cases h
  case h_3 t x k y hop =>
    simp only [Option.bind_eq_some_iff] at h
    obtain ⟨m, hm, k', hk, u, hu, st1, h1, h⟩ := h
    injection h with h; injection h with e1 e2; subst e1; subst e2
    obtain ⟨w', k1, k2, k3, k4⟩ := update_sound I (Rep.opnd hts hm) (Rep.opnd hts hk) (Rep.opnd hts hu) h1
    exact ⟨.skip, Go.undef, w', G, by simp [execOp, hop, k1], .inr ⟨rfl, rfl⟩, k2, k3, k4, Rep.undef⟩
  case h_4 t x k y hop =>
    simp only [Option.bind_eq_some_iff] at h
    obtain ⟨m, hm, k', hk, u, hu, st1, h1, h⟩ := h
    injection h with h; injection h with e1 e2; subst e1; subst e2
    obtain ⟨w', k1, k2, k3, k4⟩ := update_sound I (Rep.opnd hts hm) (Rep.opnd hts hk) (Rep.opnd hts hu) h1
    exact ⟨.skip, Go.undef, w', G, by simp [execOp, hop, k1], .inr ⟨rfl, rfl⟩, k2, k3, k4, Rep.undef⟩
  case h_5 t x hop =>
    simp only [Option.bind_eq_some_iff] at h
    obtain ⟨u, hu, h⟩ := h
    obtain ⟨r, w', G', k1, k2, k3, k4, k5⟩ := range_sound I (Rep.opnd hts hu) h
    exact ⟨_, r, w', G', by simp [execOp, hop, k1], .inl rfl, k2, k3, k4, k5⟩
  case h_6 x hop =>
    simp only [Option.bind_eq_some_iff] at h
    obtain ⟨u, hu, v', hv, h⟩ := h
    injection h with h; injection h with e1 e2; subst e1; subst e2
    obtain ⟨r, r1, r2⟩ := entry_sound (P := P) I (Rep.opnd hts hu) hv
    exact Does.value (v := r) (by simp [execOp, hop, r1]) I r2
  case h_7 args ats hop =>
    simp only [Option.bind_eq_some_iff] at h
    obtain ⟨vs, hvs, h⟩ := h
    split at h
    · obtain ⟨um, uk, hargs, hm, hk⟩ := args2 hts hvs
      simp only [Option.bind_eq_some_iff] at h
      obtain ⟨t, ht, st1, h1, h⟩ := h
      injection h with h; injection h with e1 e2; subst e1; subst e2
      obtain ⟨w', k1, k2, k3, k4⟩ := delete_sound (ty := o.type) I ht hm hk h1
      exact ⟨_, .tuple #[], w', G, by simp [execOp, hop, resolve, invoke, builtin, hargs, k1], .inl rfl, k2, k3, k4, by simp only [Rep]; exact ⟨_, rfl, RepL.nil⟩⟩
    · cases h
  case h_8 args ats hop =>
    simp only [Option.bind_eq_some_iff] at h
    obtain ⟨vs, hvs, h⟩ := h
    split at h
    · obtain ⟨ux, hargs, hx⟩ := args1 hts hvs
      simp only [Option.bind_eq_some_iff] at h
      obtain ⟨t, ht, st1, h1, h⟩ := h
      injection h with h; injection h with e1 e2; subst e1; subst e2
      obtain ⟨w', k1, k2, k3, k4⟩ := clear_sound (ty := o.type) I ht hx h1
      exact ⟨_, .tuple #[], w', G, by simp [execOp, hop, resolve, invoke, builtin, hargs, k1], .inl rfl, k2, k3, k4, by simp only [Rep]; exact ⟨_, rfl, RepL.nil⟩⟩
    · cases h
  case h_9 args ats hop =>
    simp only [Option.bind_eq_some_iff] at h
    obtain ⟨vs, hvs, h⟩ := h
    split at h
    · obtain ⟨ud, us, hargs, hd, hs⟩ := args2 hts hvs
      obtain ⟨r, w', k1, k2, k3, k4, k5⟩ := copy_sound (ty := o.type) I hd hs h
      exact ⟨_, r, w', G, by simp [execOp, hop, resolve, invoke, builtin, hargs, k1], .inl rfl, k2, k3, k4, k5⟩
    · cases h
  case h_10 args ats hop =>
    simp only [Option.bind_eq_some_iff] at h
    obtain ⟨vs, hvs, h⟩ := h
    split at h
    · obtain ⟨ux, hargs, hx⟩ := args1 hts hvs
      injection h with h; injection h with e1 e2; subst e1; subst e2
      simp only [Rep] at hx; subst hx
      exact Does.value (v := .pointer none) (by simp [execOp, hop, resolve, invoke, builtin, hargs, Go.Lib.run_unsafeSliceData_nil]) I (by simp only [Rep])
    · rename_i id off len sz cap
      obtain ⟨ux, hargs, hx⟩ := args1 hts hvs
      have h0 := cond_none h
      clear h
      obtain ⟨hq, h⟩ := h0
      injection h with h; injection h with e1 e2; subst e1; subst e2
      simp only [Rep] at hx
      obtain ⟨b, k0, n0, c, x1, rfl, x3, _⟩ := hx
      have hc : c ≠ 0 := by
        rintro rfl
        have : _ = 0 := Nat.le_zero.1 x3
        rw [this] at hq
        simp at hq
      exact Does.value (v := .pointer (some ⟨b, off, none⟩)) (by simp [execOp, hop, resolve, invoke, builtin, hargs, Go.Lib.run_unsafeSliceData_row _ _ _ _ _ _ hc]) I (by simp only [Rep]; exact ⟨b, k0, n0, x1, rfl⟩)
    · cases h
  case h_11 args ats hop =>
    simp only [Option.bind_eq_some_iff] at h
    obtain ⟨vs, hvs, h⟩ := h
    split at h
    · rename_i p n
      obtain ⟨up, un, hargs, hp, hn⟩ := args2 hts hvs
      simp only [Rep] at hn; subst hn
      obtain ⟨r, w', k1, k2, k3, k4, k5⟩ := unsafeString_sound (ty := o.type) I hp h
      exact ⟨_, r, w', G, by simp [execOp, hop, resolve, invoke, builtin, hargs, k1], .inl rfl, k2, k3, k4, k5⟩
    · cases h
  case h_12 args ats hop =>
    simp only [Option.bind_eq_some_iff] at h
    obtain ⟨vs, hvs, h⟩ := h
    have cap : ∀ {t e : TypeId} {b : Option Addr} {n c : Nat}, ats[0]? = some t → P.underlying t = some (.slice e) → (Builtin.cap_ ats o.type #[.slice b n c]).run P w = .ok (.int .i64 c) w := fun {t e b n c} ht hd => by
      unfold Builtin.cap_
      rw [ht]
      simp only [List.getElem?_toArray, List.getElem?_cons_zero, Sem.run_bind, run_underlying hd, Result.andThen_ok]
      rfl
    split at h <;> first | (cases h; done) | skip
    all_goals
      simp only [Option.bind_eq_some_iff] at h
      obtain ⟨t, ht, d, hd, h⟩ := h
      split at h <;> first | (cases h; done) | skip
      injection h with h; injection h with e1 e2; subst e1; subst e2
      obtain ⟨ux, hargs, hx⟩ := args1 hts hvs
      simp only [Rep] at hx
    · subst hx
      exact Does.value (v := .int .i64 0) (by
        have := cap (b := none) (n := 0) (c := 0) ht hd
        simp [execOp, hop, resolve, invoke, builtin, hargs, this]) I (by simp only [Rep])
    · obtain ⟨b, off, c, m, n, rfl, _, _, _, _, _, _, hcap, _⟩ := hx
      have := hcap _ rfl
      subst this
      exact Does.value (v := .int .i64 c) (by simp [execOp, hop, resolve, invoke, builtin, hargs, cap ht hd]) I (by simp only [Rep])
    · obtain ⟨b, k, n, c, _, rfl, _, hcap, _⟩ := hx
      have := hcap _ rfl
      subst this
      exact Does.value (v := .int .i64 c) (by simp [execOp, hop, resolve, invoke, builtin, hargs, cap ht hd]) I (by simp only [Rep])
  case h_13 => cases h

/-- An operation that makes no call does in the model what the evaluator says. -/
theorem aop_sound {C : Cfg} {f : FuncId} (I : Inv W0 G st w) {ts : List AV} {a : Act} {o : Oper} {v : AV} {st' : St} (hts : RepL G st w ts a.tmps.toList) (h : aop C f ts st o = some (v, st')) :
    Does W0 G st w ((execOp a.eval o).run C.P w) v st' := by
  unfold aop at h
  split at h
  · rename_i hk
    simp only [Option.bind_eq_some_iff] at h
    obtain ⟨u, hu, h⟩ := h
    injection h with h; injection h with e1 e2; subst e1; subst e2
    obtain ⟨r, r1, r2⟩ := pureOp_sound (w := w) hts hk hu
    exact Does.value r1 I r2
  · simp only [Option.bind_eq_some_iff] at h
    obtain ⟨vs, hvs, u, hu, h⟩ := h
    injection h with h; injection h with e1 e2; subst e1; subst e2
    obtain ⟨r, r1, r2⟩ := readV_sound (P := C.P) I (RepL.opnds hts hvs) hu
    exact Does.value r1 I r2
  · rename_i hk
    simp only [Option.bind_eq_some_iff] at h
    obtain ⟨⟨g, x⟩, hx, h⟩ := h
    injection h with h; injection h with e1 e2; subst e1; subst e2
    exact Does.of_makes I (mkOp_sound (I.push x) (RepL.mono (Le.push I x) _ _ hts) hk hx (by simp [St.push]) (push_unborn I) (push_get x))
  · exact effOp_sound I hts h

end
end Go.Ev
