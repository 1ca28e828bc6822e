/- strings.Contains (of one byte) and strings.ReplaceAll, as the evaluator takes them: by the library's own contracts. -/
import Derived.Test.YthodfojhbbendaaGreatDoorEvWh
import Derived.Test.YthodfojhbbendaaGreatDoorEvHg
import Derived.Shelf.Strings.Search3
import Derived.Shelf.Strings.Replace
set_option linter.all false
namespace Go.Ev
open Go.RowKit (Below)
open Go.Shelf (Ren)
open Go.Proofs (Lays.n144 Lays.n155 enters_of)

def contH (s : List UInt8) (c : UInt8) : Bool := decide (0 ≤ Go.Lib.indexByte s c)
def contExt (g : FuncId) (old : Ext) : Ext := fun f args => cond (Nat.beq f g) (match args with
  | [.str s, .str [c]] => some (.bool (contH s c))
  | _ => none) (old f args)
/-- A number of which nothing is told. -/
def isNum : Option AV → Bool
  | some (.resi .i64 _ _ _ _) => true
  | _ => false
/-- What ReplaceAll says, where the variable of the longest search (gM) is a number. -/
def raH (gM : Nat) (s a b : List UInt8) (st : St) : Option (List UInt8) := cond (isNum (st.old gM 0) && (Nat.ble 1 a.length && (Nat.ble s.length 10000000 && Nat.ble b.length 1000))) (some (Go.Lib.replaceAll s a b)) none
def raMext (g gM : Nat) (old : FuncId → List AV → St → Option (AV × St)) : FuncId → List AV → St → Option (AV × St) := fun f args st => cond (Nat.beq f g) (match args with
  | [.str s, .str a, .str b] => (raH gM s a b st).map fun r => (.str r, st)
  | _ => none) (old f args st)
section
variable {W0 : World} {G : Gh} {st : St} {w : World} {P : Program}
theorem contExt_ok {ρ : Ren} {old : Ext} (ho : ExtOk P old) (L : Go.Proofs.Lays.n144 P ρ) : ExtOk P (contExt (ρ.f 144) old) := by
  intro f args v hx G st w vs hr
  unfold contExt at hx
  cases hfg : Nat.beq f (ρ.f 144) with
  | false => rw [hfg] at hx; exact ho f args v hx G st w vs hr
  | true =>
    rw [hfg] at hx
    have := Nat.eq_of_beq_eq_true hfg
    subst this
    simp only [cond_true] at hx
    split at hx
    rotate_left
    · cases hx
    rename_i s c
    injection hx with hx
    subst hx
    obtain ⟨v1, l1, e1, r1, hr⟩ := hr.cons_inv
    obtain ⟨v2, l2, e2, r2, hr⟩ := hr.cons_inv
    have e4 := hr.nil_inv
    subst e4; subst e2
    simp only [Rep] at r1 r2
    subst r1; subst r2
    have : vs = #[.string ⟨s.toArray⟩, .string ⟨#[c]⟩] := by apply Array.ext'; simpa using e1
    subst this
    refine .inr ⟨Go.Proofs.enters_of L.f144 (by kernel_rfl) rfl _ _, Calls.mono (Go.Proofs.Any.strings_Contains_one L ⟨s.toArray⟩ c w) fun e w' he => ?_⟩
    obtain ⟨rfl, rfl⟩ := he
    exact ⟨_, rfl, by simp only [Rep]; rfl, Below.refl _ _⟩
theorem raMext_ok {ρ : Ren} {old : FuncId → List AV → St → Option (AV × St)} (ho : MextOk P old) (L : Go.Proofs.Lays.n155 P ρ) (X : Go.Proofs.Builder.Extra P ρ) : MextOk P (raMext (ρ.f 155) (ρ.g 1) old) := by
  intro f args st v st' hx W0 G w vs I hr
  unfold raMext at hx
  cases hfg : Nat.beq f (ρ.f 155) with
  | false => rw [hfg] at hx; exact ho f args st v st' hx W0 G w vs I hr
  | true =>
    rw [hfg] at hx
    have := Nat.eq_of_beq_eq_true hfg
    subst this
    simp only [cond_true] at hx
    split at hx
    rotate_left
    · cases hx
    rename_i s a b
    obtain ⟨r, h1, hx⟩ := Option.map_eq_some_iff.1 hx
    injection hx with e1 e2
    subst e1; subst e2
    unfold raH at h1
    obtain ⟨h2, h1⟩ := cond_some h1
    injection h1 with h1
    subst h1
    simp only [Bool.and_eq_true] at h2
    obtain ⟨h2, h3, h4, h5⟩ := h2
    have h3 := Nat.le_of_ble_eq_true h3
    have h4 := Nat.le_of_ble_eq_true h4
    have h5 := Nat.le_of_ble_eq_true h5
    obtain ⟨v1, l1, e1, r1, hr⟩ := hr.cons_inv
    obtain ⟨v2, l2, e2, r2, hr⟩ := hr.cons_inv
    obtain ⟨v3, l3, e3, r3, hr⟩ := hr.cons_inv
    have e4 := hr.nil_inv
    subst e4; subst e3; subst e2
    simp only [Rep] at r1 r2 r3
    subst r1; subst r2; subst r3
    have : vs = #[.string ⟨s.toArray⟩, .string ⟨a.toArray⟩, .string ⟨b.toArray⟩] := by apply Array.ext'; simpa using e1
    subst this
    have hsz : ∀ l : List UInt8, (⟨l.toArray⟩ : ByteArray).size = l.length := fun l => by show l.toArray.size = _; simp
    obtain ⟨m, hm⟩ : ∃ m : Int, w.cell? ⟨ρ.g 1, 0, none⟩ = some (.int .i64 m) := by
      cases h6 : st.old (ρ.g 1) 0 with
      | none => rw [h6] at h2; cases h2
      | some q =>
        rw [h6] at h2
        cases q <;> first | (cases h2; done) | skip
        rename_i k mm rr lo hi
        cases k <;> first | (cases h2; done) | skip
        obtain ⟨hb, hq, _⟩ := I.old _ _ _ h6
        obtain ⟨ev, hv, hrep⟩ := hq rfl
        have := hrep G st w
        simp only [Rep] at this
        obtain ⟨n, rfl, _⟩ := this
        exact ⟨n, by rw [I.below.cell (p := ⟨_, 0, none⟩) hb]; exact hv⟩
    have hcb : Go.Lib.countB ⟨s.toArray⟩ ⟨a.toArray⟩ * (⟨a.toArray⟩ : ByteArray).size ≤ (⟨s.toArray⟩ : ByteArray).size := Go.Lib.countB_mul_le _ (by rw [hsz]; exact h3) _ _ (Nat.le_refl _)
    rw [hsz, hsz] at hcb
    have hcb2 : Go.Lib.countB ⟨s.toArray⟩ ⟨a.toArray⟩ ≤ s.length := Nat.le_trans (Nat.le_mul_of_pos_right _ (by omega)) hcb
    have hcb3 : Go.Lib.countB ⟨s.toArray⟩ ⟨a.toArray⟩ * b.length ≤ 10000000 * 1000 := Nat.mul_le_mul (Nat.le_trans hcb2 h4) h5
    refine .inr ⟨Go.Proofs.enters_of L.f155 (by kernel_rfl) rfl _ _, Calls.mono (Go.Proofs.Any.strings_ReplaceAll L X ⟨s.toArray⟩ ⟨a.toArray⟩ ⟨b.toArray⟩ m w (by rw [hsz]; omega) hm (by rw [hsz]; exact h3) (by rw [hsz, hsz]; omega)) fun e w' he => ?_⟩
    obtain ⟨rfl, B⟩ := he
    exact ⟨_, G, rfl, goes_below I B, by simp only [Rep]⟩
end
theorem mext_comes {C : Cfg} {ext : Ext} {rounds n : Nat} {f : FuncId} {args : List AV} {v : AV} {st st' : St} (he : ext f args = none) (h : C.mext f args st = some (v, st')) : CallsTo (callK C ext rounds (n + 1)) false f args st v st' :=
  ⟨false, fun k => by simp only [callK, he, h]⟩
end Go.Ev
