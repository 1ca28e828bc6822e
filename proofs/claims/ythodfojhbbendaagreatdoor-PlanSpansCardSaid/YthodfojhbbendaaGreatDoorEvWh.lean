/- strconv.ParseInt (decimal, 64 bits) and strconv.Atoi, as the evaluator takes them: by the library's own contracts. -/
import Derived.Test.YthodfojhbbendaaGreatDoorEvWc
import Derived.Shelf.Strconv.AtoiAll
import Derived.Shelf.Strconv.ParseIntPublic10
set_option linter.all false
namespace Go.Ev
open Go.RowKit (Below)
open Go.Shelf (Ren)
open Go.Proofs (LaysC.n172 LaysC.n174 enters_of)

/-- What ParseInt(s, 10, 64) says of a numeral. -/
def parseI (s : List UInt8) : Option Int := match Go.Lib.parseIntB 64 s with
  | .ok v => cond (Nat.ble s.length most) (some v) none
  | _ => none
def parseExt (g : FuncId) (old : Ext) : Ext := fun f args => cond (Nat.beq f g) (match args with
  | [.str s, .int .i64 10, .int .i64 64] => (parseI s).map fun n => .tuple [.int .i64 n, .nili]
  | _ => none) (old f args)
/-- An error's value, as far as it is told. -/
def isErr : AV → Bool
  | .iface _ _ => true
  | .nili => true
  | _ => false
theorem isErr_one {a : AV} (h : isErr a = true) : a.one = true := by
  cases a <;> first | rfl | exact absurd h (by decide) | (revert h; intro h; exact Bool.noConfusion h)
/-- What Atoi says: the number; else a new error (of type tE), where the variable of that error is told (gS: no numeral, gR: out of range). -/
def atoiH (tE gS gR : Nat) (s : List UInt8) (st : St) : Option (Int × AV) := cond (Nat.ble s.length most) (match Go.Lib.atoiAll s with
  | .ok v => some (v, .nili)
  | .range => (st.old gR 0).bind fun a => cond (isErr a) (some (Go.Lib.atoiSat s, .iface tE .any)) none
  | _ => (st.old gS 0).bind fun a => cond (isErr a) (some (0, .iface tE .any)) none) none
def atoiMext (g tE gS gR : Nat) (old : FuncId → List AV → St → Option (AV × St)) : FuncId → List AV → St → Option (AV × St) := fun f args st => cond (Nat.beq f g) (match args with
  | [.str s] => (atoiH tE gS gR s st).map fun r => (.tuple [.int .i64 r.1, r.2], st)
  | _ => none) (old f args st)

section
variable {W0 : World} {G : Gh} {st : St} {w : World} {P : Program}
theorem err_val {a : AV} {v : Value} (h : Rep G st w a v) (he : isErr a = true) : v = .nilIface ∨ ∃ te pe, v = .iface te pe := by
  cases a <;> first | (cases he; done) | skip
  · simp only [Rep] at h
    obtain ⟨u, rfl, _⟩ := h
    exact .inr ⟨_, _, rfl⟩
  · simp only [Rep] at h
    exact .inl h
theorem str_arg {vs : Array Value} {s : List UInt8} (h : RepL G st w [.str s] vs.toList) : vs = #[.string ⟨s.toArray⟩] := by
  obtain ⟨v1, l1, e1, r1, h⟩ := h.cons_inv
  have e2 := h.nil_inv
  subst e2
  simp only [Rep] at r1
  subst r1
  apply Array.ext'
  simpa using e1
theorem parseExt_ok {ρ : Ren} {old : Ext} (ho : ExtOk P old) (L : LaysC.n174 P ρ) : ExtOk P (parseExt (ρ.f 174) old) := by
  intro f args v hx G st w vs hr
  unfold parseExt at hx
  cases hfg : Nat.beq f (ρ.f 174) with
  | false => rw [hfg] at hx; exact ho f args v hx G st w vs hr
  | true =>
    rw [hfg] at hx
    have := Nat.eq_of_beq_eq_true hfg
    subst this
    simp only [cond_true] at hx
    split at hx
    rotate_left
    · cases hx
    rename_i s
    obtain ⟨n, h1, rfl⟩ := Option.map_eq_some_iff.1 hx
    unfold parseI at h1
    split at h1
    rotate_left
    · cases h1
    rename_i v hv
    obtain ⟨h2, h1⟩ := cond_some h1
    injection h1 with h1
    subst h1
    have h2 := Nat.le_of_ble_eq_true h2
    have hm : most = 1073741824 := rfl
    obtain ⟨v1, l1, e1, r1, hr⟩ := hr.cons_inv
    obtain ⟨v2, l2, e2, r2, hr⟩ := hr.cons_inv
    obtain ⟨v3, l3, e3, r3, hr⟩ := hr.cons_inv
    have e4 := hr.nil_inv
    subst e4; subst e3; subst e2
    simp only [Rep] at r1 r2 r3
    subst r1; subst r2; subst r3
    have : vs = #[.string ⟨s.toArray⟩, .int .i64 10, .int .i64 64] := by apply Array.ext'; simpa using e1
    subst this
    refine .inr ⟨Go.Proofs.enters_of L.f174 (by kernel_rfl) rfl _ _, Calls.mono (Go.Proofs.Any.strconv_ParseInt_10_at64_ok L ⟨s.toArray⟩ (by show s.toArray.size ≤ _; simp; omega) v (by simpa using hv) w) fun e w' he => ?_⟩
    obtain ⟨rfl, hw⟩ := he
    refine ⟨_, rfl, ?_, ?_⟩
    · simp only [Rep]
      exact ⟨_, rfl, RepL.cons (by simp only [Rep]) (RepL.cons (by simp only [Rep]) RepL.nil)⟩
    · rcases hw with rfl | ⟨t, rfl⟩
      · exact Below.refl _ _
      · exact Go.Lib.bytesWorld_below _ _ _
theorem atoiMext_ok {ρ : Ren} {old : FuncId → List AV → St → Option (AV × St)} (ho : MextOk P old) (L : LaysC.n172 P ρ) : MextOk P (atoiMext (ρ.f 172) (ρ.t 168) (ρ.g 15) (ρ.g 16) old) := by
  intro f args st v st' hx W0 G w vs I hr
  unfold atoiMext at hx
  cases hfg : Nat.beq f (ρ.f 172) with
  | false => rw [hfg] at hx; exact ho f args st v st' hx W0 G w vs I hr
  | true =>
    rw [hfg] at hx
    have := Nat.eq_of_beq_eq_true hfg
    subst this
    simp only [cond_true] at hx
    split at hx
    rotate_left
    · cases hx
    rename_i s
    obtain ⟨⟨n, a⟩, h1, hx⟩ := Option.map_eq_some_iff.1 hx
    injection hx with e1 e2
    subst e1; subst e2
    have := str_arg hr
    subst this
    unfold atoiH at h1
    obtain ⟨h2, h1⟩ := cond_some h1
    have h2 := Nat.le_of_ble_eq_true h2
    have hm : most = 1073741824 := rfl
    have hsz : (⟨s.toArray⟩ : ByteArray).size = s.length := by show s.toArray.size = _; simp
    have fin : ∀ {w' : World} {u : Value} {n : Int} {a : AV}, Below w.heap.size w w' → Rep G st w' a u → ∃ u' G', Ending.returned (.tuple #[.int .i64 n, u]) = .returned u' ∧ Goes W0 G st w G' st w' ∧ Rep G' st w' (.tuple [.int .i64 n, a]) u' := fun B hu =>
      ⟨_, G, rfl, goes_below I B, by simp only [Rep]; exact ⟨_, rfl, RepL.cons (by simp only [Rep]) (RepL.cons hu RepL.nil)⟩⟩
    have told : ∀ {g : Nat} {a : AV}, st.old g 0 = some a → isErr a = true → ∃ ev, w.cell? ⟨g, 0, none⟩ = some ev ∧ (ev = .nilIface ∨ ∃ te pe, ev = .iface te pe) := fun hg ha => by
      obtain ⟨hb, hq, _⟩ := I.old _ _ _ hg
      obtain ⟨ev, hv, hrep⟩ := hq (isErr_one ha)
      exact ⟨ev, by rw [I.below.cell (p := ⟨_, 0, none⟩) hb]; exact hv, err_val (hrep G st w) ha⟩
    refine .inr ⟨Go.Proofs.enters_of L.f172 (by kernel_rfl) rfl _ _, ?_⟩
    cases hv : Go.Lib.atoiAll s <;> rw [hv] at h1 <;> dsimp only at h1
    · rename_i v
      injection h1 with h1
      injection h1 with e1 e2
      subst e1; subst e2
      refine Calls.mono (Go.Proofs.Any.strconv_Atoi_ok L ⟨s.toArray⟩ (by rw [hsz]; omega) v (by simpa using hv) w) fun e w' he => ?_
      obtain ⟨rfl, hw⟩ := he
      refine fin ?_ (by simp only [Rep])
      rcases hw with rfl | ⟨t, rfl⟩
      · exact Below.refl _ _
      · exact Go.Lib.bytesWorld_below _ _ _
    · simp only [Option.bind_eq_some_iff] at h1
      obtain ⟨a0, hg, h1⟩ := h1
      obtain ⟨ha, h1⟩ := cond_some h1
      injection h1 with h1
      injection h1 with e1 e2
      subst e1; subst e2
      obtain ⟨ev, h3, h4⟩ := told hg ha
      refine Calls.mono (Go.Proofs.Any.strconv_Atoi_syntax L ⟨s.toArray⟩ (by rw [hsz]; omega) (by simpa using hv) ev w h3 h4) fun e w' he => ?_
      obtain ⟨N, rfl, _, _, B⟩ := he
      exact fin B (by simp only [Rep]; exact ⟨_, rfl, rfl⟩)
    · simp only [Option.bind_eq_some_iff] at h1
      obtain ⟨a0, hg, h1⟩ := h1
      obtain ⟨ha, h1⟩ := cond_some h1
      injection h1 with h1
      injection h1 with e1 e2
      subst e1; subst e2
      obtain ⟨ev, h3, h4⟩ := told hg ha
      refine Calls.mono (Go.Proofs.Any.strconv_Atoi_range L ⟨s.toArray⟩ (by rw [hsz]; omega) (by simpa using hv) ev w h3 h4) fun e w' he => ?_
      obtain ⟨N, rfl, _, _, B⟩ := he
      exact fin B (by simp only [Rep]; exact ⟨_, rfl, rfl⟩)
end
end Go.Ev
