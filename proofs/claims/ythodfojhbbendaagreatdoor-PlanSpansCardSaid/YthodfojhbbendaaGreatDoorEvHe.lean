/- What printed walks lean on: values taken apart, operations told in plain terms. -/
import Derived.Test.YthodfojhbbendaaGreatDoorEvHd
set_option linter.all false
namespace Go.Ev

def subC : List Nat → Code → Code
  | [], c => c
  | 0 :: p, .seq a _ => subC p a
  | _ :: p, .seq _ b => subC p b
  | 0 :: p, .cond _ a _ => subC p a
  | _ :: p, .cond _ _ b => subC p b
  | _ :: p, .block _ b => subC p b
  | _ :: p, .loop b => subC p b
  | _ :: p, .scope b => subC p b
  | _ :: _, c => c
/-- A piece of a function's code. -/
def codeAt (P : Program) (f : FuncId) (p : List Nat) : Code := match P.funcs[f]? with
  | some fn => match fn.body with
    | some c => subC p c
    | none => .skip
  | none => .skip

/-! ### Values taken apart -/
def avInt (k : IntKind) (v : AV) : Option Int := match v with
  | .int k' n => if k = k' then some n else none
  | _ => none
theorem avInt_ok {k : IntKind} {v : AV} {n : Int} (h : avInt k v = some n) : v = .int k n := by
  unfold avInt at h
  split at h
  · split at h
    · rename_i e; subst e; rw [Option.some.inj h]
    · cases h
  · cases h
def avBool (v : AV) : Option Bool := match v with
  | .bool b => some b
  | _ => none
theorem avBool_ok {v : AV} {b : Bool} (h : avBool v = some b) : v = .bool b := by
  unfold avBool at h
  split at h
  · rw [Option.some.inj h]
  · cases h
def avStr (v : AV) : Option (List UInt8) := match v with
  | .str s => some s
  | _ => none
theorem avStr_ok {v : AV} {s : List UInt8} (h : avStr v = some s) : v = .str s := by
  unfold avStr at h
  split at h
  · rw [Option.some.inj h]
  · cases h
def avAV (v : AV) : Option AV := some v
theorem avAV_ok {v x : AV} (h : avAV v = some x) : v = x := Option.some.inj h
def avPair (v : AV) : Option (AV × Bool) := match v with
  | .tuple [x, .bool b] => some (x, b)
  | _ => none
theorem avPair_ok {v x : AV} {b : Bool} (h : avPair v = some (x, b)) : v = .tuple [x, .bool b] := by
  unfold avPair at h
  split at h
  · cases h; rfl
  · cases h
def isOne (v : AV) : Option Unit := if v.one = true then some () else none
theorem isOne_ok {v : AV} {u : Unit} (h : isOne v = some u) : v.cells = [v] := by
  unfold isOne at h
  split at h
  · rename_i e
    cases v <;> first | rfl | cases e
  · cases h
theorem cellsN : ([] : List (List AV)) = [] := rfl
theorem cellsC {a b : List AV} {l m : List (List AV)} (h : a = b) (t : l = m) : a :: l = b :: m := by rw [h, t]

/-! ### Truths -/
theorem bF {b : Bool} (h : ¬ b = true) : b = false := by cases b <;> simp_all
theorem beqT {a b : Int} (h : a = b) : (a == b) = true := by simpa using h
theorem beqF {a b : Int} (h : ¬ a = b) : (a == b) = false := by simpa using h
theorem bneT {a b : Int} (h : ¬ a = b) : (a != b) = true := by simpa using h
theorem bneF {a b : Int} (h : a = b) : (a != b) = false := by simpa using h
theorem strEq_iff : ∀ {a b : List UInt8}, strEq a b = true ↔ a = b
  | [], [] => by simp [strEq]
  | [], _ :: _ => by simp [strEq]
  | _ :: _, [] => by simp [strEq]
  | x :: a, y :: b => by
    simp only [strEq, Bool.and_eq_true, Nat.beq_eq, List.cons.injEq, strEq_iff (a := a) (b := b)]
    constructor
    · rintro ⟨h, rfl⟩; exact ⟨UInt8.toNat_inj.1 h, rfl⟩
    · rintro ⟨rfl, rfl⟩; exact ⟨rfl, rfl⟩
theorem strEqT {a b : List UInt8} (h : a = b) : strEq a b = true := strEq_iff.2 h
theorem strEqF {a b : List UInt8} (h : ¬ a = b) : strEq a b = false := by
  cases e : strEq a b with
  | false => rfl
  | true => exact absurd (strEq_iff.1 e) h
theorem strNeT {a b : List UInt8} (h : ¬ a = b) : (!strEq a b) = true := by rw [strEqF h]; rfl
theorem strNeF {a b : List UInt8} (h : a = b) : (!strEq a b) = false := by rw [strEqT h]; rfl
theorem binB_ok {o : Option AV} {b : Bool} (h : o.bind avBool = some b) : o = some (.bool b) := by
  obtain ⟨v, h1, h2⟩ := Option.bind_eq_some_iff.1 h
  rw [h1, avBool_ok h2]
theorem iteE {p : Prop} [Decidable p] {α : Type} {a b x : α} {G : Prop} (t : p → a = x → G) (f : ¬p → b = x → G) : (if p then a else b) = x → G := fun h => iteElim h t f
theorem bindE {α β : Type} {o : Option α} {g : α → Option β} {x : β} {G : Prop} (t : ∀ a, o = some a → g a = some x → G) : o.bind g = some x → G := fun h => bindElim h t
theorem leafElim {α : Type} {a r : α} {G : α → Prop} (h : some a = some r) (g : G a) : G r := Option.some.inj h ▸ g
theorem beq_int (k : IntKind) (n : Int) : AV.beq (.int k n) (.int k n) = true := by simp [AV.beq]
theorem beq_str (s : List UInt8) : AV.beq (.str s) (.str s) = true := by simp [AV.beq, strEq_iff]
theorem beq_bool (b : Bool) : AV.beq (.bool b) (.bool b) = true := by simp [AV.beq]

/-! ### Texts -/
def idxS (s : List UInt8) (i : Int) : Option Int := match i with
  | .ofNat k => (s[k]?).bind fun b => some (b.toNat : Int)
  | .negSucc _ => none
theorem idx_ok {P : Program} {t : TypeId} {s : List UInt8} {i v : Int} {k : IntKind} (ht : P.underlying t = some .string) (h : idxS s i = some v) : indexOp P t (.str s) (.int k i) = some (.int .u8 v) := by
  unfold idxS at h
  unfold indexOp
  simp only [ht, Option.bind_some, intOf]
  split at h
  · obtain ⟨b, h1, h2⟩ := Option.bind_eq_some_iff.1 h
    simp only [h1, Option.bind_some, ← Option.some.inj h2]
  · cases h
def catS (a b : List UInt8) : Option (List UInt8) := if a.length + b.length ≤ 9223372036854775807 then some (a ++ b) else none
theorem cat_ok {a b s : List UInt8} (h : catS a b = some s) : strOp .add a b = some (.str s) := by
  unfold catS at h
  split at h
  · rename_i e
    simp only [strOp, Nat.ble_eq_true_of_le e, cond_true, Option.some.inj h]
  · cases h
/-- A piece of a text. -/
def subS (s : List UInt8) (lo hi : Int) : Option (List UInt8) := match lo, hi with
  | .ofNat l, .ofNat h => if l ≤ h ∧ h ≤ s.length then some ((s.take h).drop l) else none
  | _, _ => none
theorem subS_inv {s r : List UInt8} {lo hi : Int} (h : subS s lo hi = some r) : ∃ l k : Nat, lo = l ∧ hi = k ∧ l ≤ k ∧ k ≤ s.length ∧ r = (s.take k).drop l := by
  unfold subS at h
  split at h
  · split at h
    · rename_i e
      exact ⟨_, _, rfl, rfl, e.1, e.2, (Option.some.inj h).symm⟩
    · cases h
  · cases h
theorem within_ofNat {k : IntKind} {a n : Nat} (h : a ≤ n) : within (.int k (a : Int)) n = some a := by
  show cond (Nat.ble a n) (some a) none = _
  rw [Nat.ble_eq_true_of_le h]; rfl
theorem sub11 {P : Program} {t : TypeId} {s r : List UInt8} {lo hi : Int} {k k' : IntKind} (ht : P.underlying t = some .string) (h : subS s lo hi = some r) : sliceOp P t (.str s) (some (.int k lo)) (some (.int k' hi)) none = some (.str r) := by
  obtain ⟨l, m, rfl, rfl, h1, h2, rfl⟩ := subS_inv h
  simp only [sliceOp, ht, Option.bind_some, bounds, mxOf, hiOf, loOf, within_ofNat h2, within_ofNat h1]
theorem sub10 {P : Program} {t : TypeId} {s r : List UInt8} {lo : Int} {k : IntKind} (ht : P.underlying t = some .string) (h : subS s lo (s.length : Nat) = some r) : sliceOp P t (.str s) (some (.int k lo)) none none = some (.str r) := by
  obtain ⟨l, m, rfl, e, h1, h2, rfl⟩ := subS_inv h
  obtain rfl : s.length = m := by exact_mod_cast e
  simp only [sliceOp, ht, Option.bind_some, bounds, mxOf, hiOf, loOf, within_ofNat h1]
theorem sub01 {P : Program} {t : TypeId} {s r : List UInt8} {hi : Int} {k' : IntKind} (ht : P.underlying t = some .string) (h : subS s 0 hi = some r) : sliceOp P t (.str s) none (some (.int k' hi)) none = some (.str r) := by
  obtain ⟨l, m, e, rfl, h1, h2, rfl⟩ := subS_inv h
  obtain rfl : 0 = l := by exact_mod_cast e
  simp only [sliceOp, ht, Option.bind_some, bounds, mxOf, hiOf, loOf, within_ofNat h2]
theorem sub00 {P : Program} {t : TypeId} {s r : List UInt8} (ht : P.underlying t = some .string) (h : subS s 0 (s.length : Nat) = some r) : sliceOp P t (.str s) none none none = some (.str r) := by
  obtain ⟨l, m, e, e', h1, h2, rfl⟩ := subS_inv h
  obtain rfl : 0 = l := by exact_mod_cast e
  obtain rfl : s.length = m := by exact_mod_cast e'
  simp only [sliceOp, ht, Option.bind_some, bounds, mxOf, hiOf, loOf]
/-- The text of a row of bytes. -/
def strOf (st : St) (v : AV) : Option (List UInt8) := (lenOf v).bind fun n => (sliceCells st n v 1).bind fun cs => bytesOf cs
theorem strOf_ok {st : St} {v : AV} {l : List UInt8} (h : strOf st v = some l) : ((lenOf v).bind fun n => (sliceCells st n v 1).bind fun cs => (bytesOf cs).bind fun l => some (AV.str l)) = some (.str l) := by
  obtain ⟨n, h1, h⟩ := Option.bind_eq_some_iff.1 h
  obtain ⟨cs, h2, h3⟩ := Option.bind_eq_some_iff.1 h
  simp only [h1, h2, h3, Option.bind_some]

/-! ### Rows, things -/
theorem len_ok {P : Program} {t e : TypeId} {v : AV} {n : Nat} (ht : P.underlying t = some (.slice e)) (h : lenOf v = some n) : pureOp P [v] (.call ⟨.builtin .len, #[.tmp 0], #[t]⟩) = some (.int .i64 (n : Int)) := by
  have h0 : opnds [v] (#[Operand.tmp 0] : Array Operand).toList = some [v] := rfl
  cases v <;> first | (cases h; done) | (obtain rfl := Option.some.inj h; simp only [pureOp, h0, Option.bind_some, List.getElem?_toArray, List.getElem?_cons_zero, ht] <;> rfl)
def mlen (st : St) (m : AV) : Option Nat := match m with
  | .mnil => some 0
  | .map id => match st.objs.get id with
    | some (.map es _) => some es.length
    | _ => none
  | _ => none
theorem mlen_ok {P : Program} {t k e : TypeId} {st : St} {v : AV} {n : Nat} (ht : P.underlying t = some (.map k e)) (h : mlen st v = some n) : readV P st (.call ⟨.builtin .len, #[.tmp 0], #[t]⟩) [v] = some (.int .i64 (n : Int)) := by
  unfold mlen at h
  split at h
  · obtain rfl := Option.some.inj h; simp [readV, ht]
  · split at h
    · rename_i e; obtain rfl := Option.some.inj h; simp [readV, ht, e]
    · cases h
  · cases h
theorem nil_ok {x v : AV} (h : nilCheckOp x = some v) : nilCheckOp x = some x := by
  unfold nilCheckOp at h ⊢
  split at h <;> first | rfl | cases h
theorem sto_ok {o : Option St} {st : St} (h : o = some st) : (o.bind fun st' => some (AV.undef, st')) = some (AV.undef, st) := by rw [h]; rfl
/-- Something new, by what makes it. -/
def mkNew (o : Option ((Nat → AV) × AObj)) (st : St) : Option (AV × St) := o.bind fun x => some (x.1 st.next, st.push x.2)
def boxOp (t : TypeId) (v : AV) (st : St) : Option (AV × St) := if v.cells.all AV.one = true then some (.ref st.next 0, st.push (.cells t true v.cells)) else none
theorem box_ok {t : TypeId} {v x : AV} {st st' : St} (h : boxOp t v st = some (x, st')) :
    (Option.bind (cond (v.cells.all AV.one) (some ((fun id => AV.ref id 0 : Nat → AV), AObj.cells t true v.cells)) none) fun y => some (y.1 st.next, st.push y.2)) = some (x, st') := by
  unfold boxOp at h
  split at h
  · rename_i e; rw [e]; exact h
  · cases h
def bytesNew (e : TypeId) (s : List UInt8) : Option ((Nat → AV) × AObj) := cond (Nat.ble s.length most) (some (fun id => .sref id 0 s.length 1 none, .cells e false (s.map fun b => .int .u8 b.toNat))) none
def andI (k : IntKind) (a b : Int) : Int := k.wrap ((BitVec.ofInt k.bits a &&& BitVec.ofInt k.bits b).toNat)
def orI (k : IntKind) (a b : Int) : Int := k.wrap ((BitVec.ofInt k.bits a ||| BitVec.ofInt k.bits b).toNat)
def xorI (k : IntKind) (a b : Int) : Int := k.wrap ((BitVec.ofInt k.bits a ^^^ BitVec.ofInt k.bits b).toNat)
def andNotI (k : IntKind) (a b : Int) : Int := k.wrap ((BitVec.ofInt k.bits a &&& ~~~ BitVec.ofInt k.bits b).toNat)
def notI (k : IntKind) (a : Int) : Int := xorI k (if k.signed then -1 else k.max) a
/-- A look that is asked anew. -/
theorem ask_ok {X : Option AV} {y v : AV} (h : X = some y) (hb : AV.beq y v = true) : X = some v ∧ AV.beq v v = true := by
  have e := AV.beq_sound _ _ hb
  subst e
  exact ⟨h, hb⟩
end Go.Ev
