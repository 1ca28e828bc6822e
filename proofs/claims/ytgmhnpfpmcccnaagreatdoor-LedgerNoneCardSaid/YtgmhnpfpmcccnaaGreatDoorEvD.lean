/- What an abstract value says of a value in a world; how a world may go on. -/
import Derived.Test.YtgmhnpfpmcccnaaGreatDoorEvC
import Derived.Below
import Derived.WalkKit
set_option linter.all false
namespace Go.Ev
open Go.RowKit (Below)

/-- How things lie: things by their blocks (and how many of the block's cells are told, how many there are); blocks of slices by value: the family, how many of their cells stand for good, how many there are. -/
structure Gh where
  β : Nat → Option (Nat × Nat × Nat)
  ext : Nat → Option (Nat × Nat × Nat)

mutual
def Rep (G : Gh) (st : St) (w : World) : AV → Value → Prop
  | .int k n, v => v = .int k n
  | .bool b, v => v = .bool b
  | .str s, v => v = .string ⟨s.toArray⟩
  | .nilp, v => v = .pointer none
  | .ref id off, v => ∃ b k n, G.β id = some (b, k, n) ∧ v = .pointer (some ⟨b, off, none⟩)
  | .glob g off, v => v = .pointer (some ⟨g, off, none⟩)
  | .vptr cs, v => ∃ b off id m n, v = .pointer (some ⟨b, off, none⟩) ∧ G.ext b = some (id, m, n) ∧ off + cs.length ≤ m ∧ RepAt G st w b off cs
  | .snil, v => v = .slice none 0 0
  | .sl id e len sz cap cs, v => ∃ b off c m n, v = .slice (some ⟨b, off, none⟩) len c ∧ G.ext b = some (id, m, n) ∧ off + cs.length ≤ m ∧
      RepAt G st w b off cs ∧ cs.length = len * sz ∧ 0 < sz ∧ len ≤ c ∧ (∀ k, cap = some k → c = k) ∧
      ∃ h, st.objs.get id = some (.tip h) ∧ e ≤ h ∧ cs.length ≤ e ∧ (h = e → len < c → off + cs.length = m ∧ off + c * sz ≤ n)
  | .sref id off len sz cap, v => ∃ b k n c, G.β id = some (b, k, n) ∧ v = .slice (some ⟨b, off, none⟩) len c ∧ len ≤ c ∧ (∀ j, cap = some j → c = j) ∧ (cap = none → k ≤ off + c * sz ∧ off + c * sz ≤ n) ∧ 0 < sz
  | .sempty, v => ∃ b off c, v = .slice (some ⟨b, off, none⟩) 0 c
  | .mnil, v => v = .map none
  | .map id, v => ∃ b k n, G.β id = some (b, k, n) ∧ v = .map (some b)
  | .func fn first cap, v => ∃ f c, v = .func fn f c ∧ RepL G st w first f.toList ∧ RepL G st w cap c.toList
  | .yield id, v => ∃ b k n, G.β id = some (b, k, n) ∧ v = .func (.yield b) #[] #[]
  | .nilf, v => v = .nilFunc
  | .iface t a, v => ∃ u, v = .iface t u ∧ Rep G st w a u
  | .nili, v => v = .nilIface
  | .agg cs, v => ∃ vs, v = .agg vs ∧ RepL G st w cs vs.toList
  | .tuple cs, v => ∃ vs, v = .tuple vs ∧ RepL G st w cs vs.toList
  | .resi k m r lo hi, v => ∃ n, v = .int k n ∧ n % (m : Int) = r ∧ lo ≤ n ∧ n ≤ hi
  | .strx ws lo hi, v => ∃ s : List UInt8, v = .string ⟨s.toArray⟩ ∧ (∀ x ∈ ws, s ≠ x) ∧ lo ≤ s.length ∧ s.length ≤ hi
  | .any, v => v.oneCell' = true
def RepL (G : Gh) (st : St) (w : World) : List AV → List Value → Prop
  | [], l => l = []
  | a :: as, l => ∃ v vs, l = v :: vs ∧ Rep G st w a v ∧ RepL G st w as vs
def RepAt (G : Gh) (st : St) (w : World) (b off : Nat) : List AV → Prop
  | [] => True
  | a :: as => (∃ v, w.cell? ⟨b, off, none⟩ = some v ∧ Rep G st w a v) ∧ RepAt G st w b (off + 1) as
end

/-- How a store and a world go on: nothing that was told before is told otherwise. -/
structure Le (G : Gh) (st : St) (w : World) (G' : Gh) (st' : St) (w' : World) : Prop where
  β : ∀ id x, G.β id = some x → G'.β id = some x
  ext : ∀ b id m n, G.ext b = some (id, m, n) → ∃ m', m ≤ m' ∧ G'.ext b = some (id, m', n)
  cell : ∀ b id m n off, G.ext b = some (id, m, n) → off < m → w'.cell? ⟨b, off, none⟩ = w.cell? ⟨b, off, none⟩
  tip : ∀ id h, st.objs.get id = some (.tip h) → (∃ b m n, G.ext b = some (id, m, n)) → ∃ h', h ≤ h' ∧ st'.objs.get id = some (.tip h') ∧
    (h' = h → ∀ b m n, G.ext b = some (id, m, n) → G'.ext b = some (id, m, n))
  next : st.next ≤ st'.next

/-- Not born yet: nothing in the world stands for it. -/
def Gh.unborn (G : Gh) (id : Nat) : Prop := G.β id = none ∧ ∀ b m n, G.ext b ≠ some (id, m, n)
/-- What is not born stays so, and as it is. -/
def Unb (G : Gh) (st : St) (G' : Gh) (st' : St) : Prop := ∀ id, id < st.next → G.unborn id → st'.objs.get id = st.objs.get id ∧ G'.unborn id
theorem Unb.refl (G : Gh) (st : St) : Unb G st G st := fun _ _ h => ⟨rfl, h⟩
theorem Unb.trans {G G' G'' : Gh} {st st' st'' : St} (h : Unb G st G' st') (hn : st.next ≤ st'.next) (k : Unb G' st' G'' st'') : Unb G st G'' st'' := fun id hi hu => by
  obtain ⟨a1, a2⟩ := h id hi hu
  obtain ⟨b1, b2⟩ := k id (Nat.lt_of_lt_of_le hi hn) a2
  exact ⟨b1.trans a1, b2⟩

theorem Le.refl (G : Gh) (st : St) (w : World) : Le G st w G st w :=
  ⟨fun _ _ h => h, fun _ _ m _ h => ⟨m, Nat.le_refl _, h⟩, fun _ _ _ _ _ _ _ => rfl, fun _ h hh _ => ⟨h, Nat.le_refl _, hh, fun _ _ _ _ k => k⟩, Nat.le_refl _⟩

theorem Le.trans {G G' G'' : Gh} {st st' st'' : St} {w w' w'' : World} (h : Le G st w G' st' w') (k : Le G' st' w' G'' st'' w'') : Le G st w G'' st'' w'' where
  β id b hb := k.β id b (h.β id b hb)
  ext b id m n he := by
    obtain ⟨m', h1, h2⟩ := h.ext b id m n he
    obtain ⟨m'', h3, h4⟩ := k.ext b id m' n h2
    exact ⟨m'', Nat.le_trans h1 h3, h4⟩
  cell b id m n off he ho := by
    obtain ⟨m', h1, h2⟩ := h.ext b id m n he
    rw [k.cell b id m' n off h2 (Nat.lt_of_lt_of_le ho h1), h.cell b id m n off he ho]
  tip id h0 ht hb := by
    obtain ⟨h', h1, h2, h3⟩ := h.tip id h0 ht hb
    obtain ⟨b, m, n, he⟩ := hb
    obtain ⟨m', _, he'⟩ := h.ext b id m n he
    obtain ⟨h'', k1, k2, k3⟩ := k.tip id h' h2 ⟨b, m', n, he'⟩
    refine ⟨h'', Nat.le_trans h1 k1, k2, fun e b m n hx => ?_⟩
    have e1 : h' = h0 := by omega
    have e2 : h'' = h' := by omega
    exact k3 e2 b m n (h3 e1 b m n hx)
  next := Nat.le_trans h.next k.next

section
variable {G G' : Gh} {st st' : St} {w w' : World}
mutual
theorem Rep.mono (L : Le G st w G' st' w') : ∀ (a : AV) (v : Value), Rep G st w a v → Rep G' st' w' a v
  | .int _ _, _, h => by simpa only [Rep] using h
  | .bool _, _, h => by simpa only [Rep] using h
  | .str _, _, h => by simpa only [Rep] using h
  | .nilp, _, h => by simpa only [Rep] using h
  | .ref _ _, _, h => by
    simp only [Rep] at h ⊢
    obtain ⟨b, k, n, h1, h2⟩ := h
    exact ⟨b, k, n, L.β _ _ h1, h2⟩
  | .glob _ _, _, h => by simpa only [Rep] using h
  | .vptr cs, _, h => by
    simp only [Rep] at h ⊢
    obtain ⟨b, off, id, m, n, h1, h2, h3, h4⟩ := h
    obtain ⟨m', k1, k2⟩ := L.ext b id m n h2
    exact ⟨b, off, id, m', n, h1, k2, Nat.le_trans h3 k1, RepAt.mono L b off m id n h2 cs h3 h4⟩
  | .snil, _, h => by simpa only [Rep] using h
  | .sl id e len sz cap cs, _, h => by
    simp only [Rep] at h ⊢
    obtain ⟨b, off, c, m, n, h1, h2, h3, h4, h5, h6, h7, h8, t, h9, h10, h11, h12⟩ := h
    obtain ⟨m', k1, k2⟩ := L.ext b id m n h2
    obtain ⟨t', j1, j2, j3⟩ := L.tip id t h9 ⟨b, m, n, h2⟩
    refine ⟨b, off, c, m', n, h1, k2, Nat.le_trans h3 k1, RepAt.mono L b off m id n h2 cs h3 h4, h5, h6, h7, h8, t', j2, Nat.le_trans h10 j1, h11, fun e1 e2 => ?_⟩
    have e3 : t' = t := by omega
    have e4 := j3 e3 b m n h2
    rw [k2] at e4
    injection e4 with e4
    injection e4 with _ e4
    injection e4 with e4 _
    have := h12 (by omega) e2
    omega
  | .sref _ _ _ _ _, _, h => by
    simp only [Rep] at h ⊢
    obtain ⟨b, k, n, c, h1, h2⟩ := h
    exact ⟨b, k, n, c, L.β _ _ h1, h2⟩
  | .sempty, _, h => by simpa only [Rep] using h
  | .mnil, _, h => by simpa only [Rep] using h
  | .map _, _, h => by
    simp only [Rep] at h ⊢
    obtain ⟨b, k, n, h1, h2⟩ := h
    exact ⟨b, k, n, L.β _ _ h1, h2⟩
  | .yield _, _, h => by
    simp only [Rep] at h ⊢
    obtain ⟨b, k, n, h1, h2⟩ := h
    exact ⟨b, k, n, L.β _ _ h1, h2⟩
  | .func _ first cap, _, h => by
    simp only [Rep] at h ⊢
    obtain ⟨f, c, h1, h2, h3⟩ := h
    exact ⟨f, c, h1, RepL.mono L first _ h2, RepL.mono L cap _ h3⟩
  | .nilf, _, h => by simpa only [Rep] using h
  | .iface _ a, _, h => by
    simp only [Rep] at h ⊢
    obtain ⟨u, h1, h2⟩ := h
    exact ⟨u, h1, Rep.mono L a u h2⟩
  | .nili, _, h => by simpa only [Rep] using h
  | .agg cs, _, h => by
    simp only [Rep] at h ⊢
    obtain ⟨u, h1, h2⟩ := h
    exact ⟨u, h1, RepL.mono L cs _ h2⟩
  | .tuple cs, _, h => by
    simp only [Rep] at h ⊢
    obtain ⟨u, h1, h2⟩ := h
    exact ⟨u, h1, RepL.mono L cs _ h2⟩
  | .resi .., _, h => by simpa only [Rep] using h
  | .strx .., _, h => by simpa only [Rep] using h
  | .any, _, h => by simpa only [Rep] using h
theorem RepL.mono (L : Le G st w G' st' w') : ∀ (as : List AV) (vs : List Value), RepL G st w as vs → RepL G' st' w' as vs
  | [], _, h => by simpa only [RepL] using h
  | a :: as, _, h => by
    simp only [RepL] at h ⊢
    obtain ⟨v, vs, h1, h2, h3⟩ := h
    exact ⟨v, vs, h1, Rep.mono L a v h2, RepL.mono L as vs h3⟩
theorem RepAt.mono (L : Le G st w G' st' w') (b off m id n : Nat) (hx : G.ext b = some (id, m, n)) : ∀ (as : List AV), off + as.length ≤ m → RepAt G st w b off as → RepAt G' st' w' b off as
  | [], _, _ => by simp only [RepAt]
  | a :: as, hl, h => by
    simp only [RepAt, List.length_cons] at h hl ⊢
    obtain ⟨⟨v, h1, h2⟩, h3⟩ := h
    exact ⟨⟨v, by rw [L.cell b id m n off hx (by omega)]; exact h1, Rep.mono L a v h2⟩, RepAt.mono L b (off + 1) m id n hx as (by omega) h3⟩
end
end

/-! ### What is no row of cells -/
/-- A map's entries. -/
def RepEs (G : Gh) (st : St) (w : World) : List (AV × AV × Nat) → List MapEntry → Prop
  | [], l => l = []
  | (k, v, b) :: es, l => ∃ k' v' r, l = ⟨k', v', b⟩ :: r ∧ Rep G st w k k' ∧ Rep G st w v v' ∧ RepEs G st w es r
theorem RepEs.mono {G G' : Gh} {st st' : St} {w w' : World} (L : Le G st w G' st' w') : ∀ {es : List (AV × AV × Nat)} {l : List MapEntry}, RepEs G st w es l → RepEs G' st' w' es l
  | [], _, h => h
  | (k, v, b) :: es, _, h => by
    obtain ⟨k', v', r, h1, h2, h3, h4⟩ := h
    exact ⟨k', v', r, h1, Rep.mono L _ _ h2, Rep.mono L _ _ h3, RepEs.mono L h4⟩
def AObj.heavy : AObj → Bool
  | .map _ _ => true
  | .iter .. => true
  | .siter _ _ => true
  | .loop _ => true
  | .dfd => true
  | _ => false
/-- What a thing that is no row of cells says of an object. -/
def OObj (G : Gh) (st : St) (w : World) : AObj → Obj → Prop
  | .map es c, o => ∃ es', o = .map es' c ∧ RepEs G st w es es'.toList
  | .iter none since seen last, o => o = .mapIter none since seen.toArray last
  | .iter (some m) since seen last, o => ∃ b k n, o = .mapIter (some b) since seen.toArray last ∧ G.β m = some (b, k, n)
  | .siter s pos, o => o = .stringIter ⟨s.toArray⟩ pos
  | .loop l, o => ∃ tmps d k n g, o = .loop ⟨l.state, l.pending, g, tmps, l.params, l.assign, l.body, d⟩ ∧ RepL G st w l.tmps tmps.toList ∧ G.β l.defers = some (d, k, n)
  | .dfd, o => o = .deferred (some [])
  | _, _ => False
theorem OObj.mono {G G' : Gh} {st st' : St} {w w' : World} (L : Le G st w G' st' w') : ∀ {a : AObj} {o : Obj}, OObj G st w a o → OObj G' st' w' a o
  | .map es c, _, h => by
    obtain ⟨es', h1, h2⟩ := h
    exact ⟨es', h1, RepEs.mono L h2⟩
  | .iter none _ _ _, _, h => h
  | .iter (some m) _ _ _, _, h => by
    obtain ⟨b, k, n, h1, h2⟩ := h
    exact ⟨b, k, n, h1, L.β _ _ h2⟩
  | .siter _ _, _, h => h
  | .loop l, _, h => by
    obtain ⟨tmps, d, k, n, g, h1, h2, h3⟩ := h
    exact ⟨tmps, d, k, n, g, h1, RepL.mono L _ _ h2, L.β _ _ h3⟩
  | .dfd, _, h => h
  | .cells _ _ _, _, h => h
  | .tip _, _, h => h
  | .dead, _, h => h
theorem OObj.heavy {G : Gh} {st : St} {w : World} : ∀ {a : AObj} {o : Obj}, OObj G st w a o → a.heavy = true
  | .map .., _, _ => rfl
  | .iter none .., _, _ => rfl
  | .iter (some _) .., _, _ => rfl
  | .siter .., _, _ => rfl
  | .loop _, _, _ => rfl
  | .dfd, _, _ => rfl
/-- An object that holds no cells. -/
def Obj.light : Obj → Prop
  | .cells .. => False
  | _ => True
theorem OObj.light {G : Gh} {st : St} {w : World} : ∀ {a : AObj} {o : Obj}, OObj G st w a o → Obj.light o
  | .map .., _, h => by obtain ⟨_, rfl, _⟩ := h; trivial
  | .iter none .., _, h => by simp only [OObj] at h; subst h; trivial
  | .iter (some _) .., _, h => by obtain ⟨_, _, _, rfl, _⟩ := h; trivial
  | .siter .., _, h => by simp only [OObj] at h; subst h; trivial
  | .loop _, _, h => by obtain ⟨_, _, _, _, _, rfl, _⟩ := h; trivial
  | .dfd, _, h => by simp only [OObj] at h; subst h; trivial

end Go.Ev
