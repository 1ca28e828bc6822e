/- Results of which something is told; stores. -/
import Derived.Test.YthodfojhbbendaaGreatDoorSpY
set_option linter.all false
set_option maxRecDepth 100000
namespace Go.Proofs.YthodfojhbbendaaGreatDoor
open Go Go.Ev
noncomputable section

/-! ### A result of which something is told -/
def T {α : Type} (φ : α → Prop) (o : Option α) : Prop := ∃ r, o = some r ∧ φ r
theorem T.some {α : Type} {φ : α → Prop} {a : α} (h : φ a) : T φ (some a) := ⟨a, rfl, h⟩
theorem T.bind {α β : Type} {φ : β → Prop} {o : Option α} {k : α → Option β} (h : T (fun a => T φ (k a)) o) : T φ (Option.bind o k) := by
  obtain ⟨a, rfl, h⟩ := h
  exact h
theorem T.mono {α : Type} {φ ψ : α → Prop} {o : Option α} (h : T φ o) (k : ∀ a, φ a → ψ a) : T ψ o := by
  obtain ⟨a, rfl, h⟩ := h
  exact ⟨a, rfl, k a h⟩
theorem T.step {α β : Type} {φ : β → Prop} {o : Option α} {k : α → Option β} {a : α} (h : o = .some a) (h2 : T φ (k a)) : T φ (Option.bind o k) := by
  subst h
  exact h2

/-! ### Stores -/
def ldc (o : Option AObj) (off : Nat) : Option AV := match o with
  | .some (.cells _ _ cs) => cs[off]?
  | _ => none
def lda (o : Option AObj) (off n : Nat) : Option AV := match o with
  | .some (.cells _ _ cs) => if off + n ≤ cs.length then .some (.agg ((cs.drop off).take n)) else none
  | _ => none
def stc (st : St) (id : Nat) (o : Option AObj) (off : Nat) (vs : List AV) : Option St := match o with
  | .some (.cells t u cs) => if off + vs.length ≤ cs.length then .some (st.put id (.cells t u (setRange cs off vs))) else none
  | _ => none
theorem bleF {a b : Nat} (h : ¬ a ≤ b) : Nat.ble a b = false := by
  cases e : Nat.ble a b with
  | false => rfl
  | true => exact absurd (Nat.le_of_ble_eq_true e) h
theorem ldcE {t u cs off} : ldc (.some (.cells t u cs)) off = cs[off]? := rfl
theorem ldaE {t u cs off n} (h : off + n ≤ cs.length) : lda (.some (.cells t u cs)) off n = .some (.agg ((cs.drop off).take n)) := if_pos h
theorem stcE {st : St} {id t u cs off vs} (h : off + vs.length ≤ cs.length) : stc st id (.some (.cells t u cs)) off vs = .some (st.put id (.cells t u (setRange cs off vs))) := if_pos h
theorem ld1 {T : TypeId} [L : LdTy C0.P T false 1] {st : St} {id off : Nat} : loadAt C0.P st T (.ref id off) = ldc (st.objs.get id) off := by
  simp only [loadAt, L.agg, L.size, Option.bind_some, cond_false, readAt, ldc]
  cases h : st.objs.get id with
  | none => rfl
  | some o =>
    cases o with
    | cells t u cs =>
      simp only [range?]
      by_cases hl : off < cs.length
      · rw [condT (Nat.ble_eq_true_of_le (by omega)), Option.bind_some, List.getElem?_eq_getElem hl, List.drop_eq_getElem_cons hl]
        rfl
      · rw [condF (bleF (by omega)), List.getElem?_eq_none (by omega)]; rfl
    | _ => rfl
theorem ldN {T : TypeId} {n : Nat} [L : LdTy C0.P T true n] {st : St} {id off : Nat} : loadAt C0.P st T (.ref id off) = lda (st.objs.get id) off n := by
  simp only [loadAt, L.agg, L.size, Option.bind_some, cond_true, readAt, lda]
  cases h : st.objs.get id with
  | none => rfl
  | some o =>
    cases o with
    | cells t u cs =>
      simp only [range?]
      by_cases hl : off + n ≤ cs.length
      · rw [condT (Nat.ble_eq_true_of_le hl), if_pos hl]; rfl
      · rw [condF (bleF hl), if_neg hl]; rfl
    | _ => rfl
theorem stX {T : TypeId} {g : Bool} {n : Nat} [L : LdTy C0.P T g n] {st : St} {id off : Nat} {v : AV} (hn : v.cells.length = n) (ho : v.cells.all AV.one = true) : storeAt C0.P st T (.ref id off) v = stc st id (st.objs.get id) off v.cells := by
  subst hn
  simp only [storeAt, L.size, Option.bind_some, ho, Nat.beq_refl, Bool.and_true, cond_true, storeCellsAt, stc]
  cases h : st.objs.get id with
  | none => rfl
  | some o =>
    cases o with
    | cells t u cs =>
      simp only []
      by_cases hl : off + v.cells.length ≤ cs.length
      · rw [condT (Nat.ble_eq_true_of_le hl), if_pos hl]
      · rw [condF (bleF hl), if_neg hl]
    | _ => rfl
theorem nxPush {st : St} {o : AObj} : (st.push o).next = st.next + 1 := rfl
theorem nxPut {st : St} {id : Nat} {o : AObj} : (st.put id o).next = st.next := rfl
theorem oldPush {st : St} {o : AObj} : (st.push o).old = st.old := rfl
theorem oldPut {st : St} {id : Nat} {o : AObj} : (st.put id o).old = st.old := rfl
theorem gpE {st : St} {o : AObj} {i : Nat} (h : i = st.next) : (st.push o).objs.get i = .some o := by subst h; exact get_push _ _
theorem gpN {st : St} {o : AObj} {i : Nat} (h : i ≠ st.next) : (st.push o).objs.get i = st.objs.get i := get_push_ne _ h
theorem guE {st : St} {o : AObj} {i j : Nat} (h : i = j) : (st.put j o).objs.get i = .some o := by subst h; exact get_put _ _ _
theorem guN {st : St} {o : AObj} {i j : Nat} (h : i ≠ j) : (st.put j o).objs.get i = st.objs.get i := get_put_ne _ h
theorem shR {id off n : Nat} : shift (.ref id off) n = .some (.ref id (off + n)) := rfl
theorem nilR {id off : Nat} : nilCheckOp (.ref id off) = .some (.ref id off) := rfl
theorem avI {k : IntKind} {n : Int} : avInt k (.int k n) = .some n := if_pos rfl
theorem avS {s : List UInt8} : avStr (.str s) = .some s := rfl
theorem avB {b : Bool} : avBool (.bool b) = .some b := rfl
theorem deV {a : Int} {b : Bool} {c : Int} {d : List UInt8} {e f : AV} : de_Ai64_b_i64_s_a_aZ (.agg [.int .i64 a, .bool b, .int .i64 c, .str d, e, f]) = .some (a, b, c, d, e, f) := rfl
instance t3 : LdTy C0.P 3 false 1 := ⟨by kernel_rfl, by kernel_rfl⟩
instance t4 : LdTy C0.P 4 false 1 := ⟨by kernel_rfl, by kernel_rfl⟩
instance t9 : LdTy C0.P 9 false 1 := ⟨by kernel_rfl, by kernel_rfl⟩
instance t22 : LdTy C0.P 22 false 1 := ⟨by kernel_rfl, by kernel_rfl⟩
instance t26 : LdTy C0.P 129 true 3 := ⟨by kernel_rfl, by kernel_rfl⟩
instance t29 : LdTy C0.P 25 true 6 := ⟨by kernel_rfl, by kernel_rfl⟩
instance t30 : LdTy C0.P 26 false 1 := ⟨by kernel_rfl, by kernel_rfl⟩
instance t32 : LdTy C0.P 28 true 10 := ⟨by kernel_rfl, by kernel_rfl⟩
instance t34 : LdTy C0.P 58 true 31 := ⟨by kernel_rfl, by kernel_rfl⟩
instance t35 : LdTy C0.P 42 false 1 := ⟨by kernel_rfl, by kernel_rfl⟩
instance t40 : LdTy C0.P 121 false 1 := ⟨by kernel_rfl, by kernel_rfl⟩
instance t49 : LdTy C0.P 124 false 1 := ⟨by kernel_rfl, by kernel_rfl⟩
end
end Go.Proofs.YthodfojhbbendaaGreatDoor
