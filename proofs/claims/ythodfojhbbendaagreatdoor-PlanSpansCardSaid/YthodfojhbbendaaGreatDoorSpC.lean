/- The lemmas of a step, together. -/
import Derived.Test.YthodfojhbbendaaGreatDoorSpB
set_option linter.all false
set_option maxRecDepth 100000
namespace Go.Proofs.YthodfojhbbendaaGreatDoor
open Go Go.Ev
noncomputable section

theorem bindC {α β : Type} {a b : Option α} {k : α → Option β} (h : a = b) : Option.bind a k = Option.bind b k := by rw [h]
theorem iteC {α : Type} {c d : Prop} [Decidable c] [Decidable d] {a b : α} (h : c = d) : ite c a b = ite d a b := by
  subst h
  congr
attribute [local congr] bindC iteC
theorem ldaW {t u cs n} (h : cs.length = n) : lda (.some (.cells t u cs)) 0 n = .some (.agg cs) := by
  subst h
  rw [ldaE (by omega), List.drop_zero, List.take_length]
theorem stcW {st : St} {id t u cs vs} (h : vs.length = cs.length) : stc st id (.some (.cells t u cs)) 0 vs = .some (st.put id (.cells t u vs)) := by
  rw [stcE (by omega)]
  simp only [setRange, List.take_zero, List.nil_append, Nat.zero_add, h, List.drop_length, List.append_nil]
theorem stc1 {st : St} {id t u cs off} {v : AV} (h : off < cs.length) : stc st id (.some (.cells t u cs)) off [v] = .some (st.put id (.cells t u (cs.set off v))) := by
  rw [stcE (by simp; omega)]
  simp only [setRange, List.length_cons, List.length_nil]
  rw [List.set_eq_take_append_cons_drop, if_pos h]
  simp

theorem stI {T : TypeId} {g : Bool} [L : LdTy C0.P T g 1] {st : St} {id off : Nat} {k : IntKind} {n : Int} : storeAt C0.P st T (.ref id off) (.int k n) = stc st id (st.objs.get id) off [.int k n] := stX rfl rfl
theorem stS {T : TypeId} {g : Bool} [L : LdTy C0.P T g 1] {st : St} {id off : Nat} {s : List UInt8} : storeAt C0.P st T (.ref id off) (.str s) = stc st id (st.objs.get id) off [.str s] := stX rfl rfl
theorem stB {T : TypeId} {g : Bool} [L : LdTy C0.P T g 1] {st : St} {id off : Nat} {b : Bool} : storeAt C0.P st T (.ref id off) (.bool b) = stc st id (st.objs.get id) off [.bool b] := stX rfl rfl
theorem stA {T : TypeId} {g : Bool} {n : Nat} [L : LdTy C0.P T g n] {st : St} {id off : Nat} {cs : List AV} (hn : cs.length = n) (ho : cs.all AV.one = true) : storeAt C0.P st T (.ref id off) (.agg cs) = stc st id (st.objs.get id) off cs := stX hn ho
theorem one_cells {v : AV} (h : v.one = true) : v.cells = [v] := by
  cases v <;> first | rfl | (cases h)
theorem stV {T : TypeId} {g : Bool} [L : LdTy C0.P T g 1] {st : St} {id off : Nat} {v : AV} (h : v.one = true) : storeAt C0.P st T (.ref id off) v = stc st id (st.objs.get id) off [v] := by
  rw [stX (by rw [one_cells h]; rfl) (by rw [one_cells h]; simp [h]), one_cells h]
theorem oneI {k : IntKind} {n : Int} : (AV.int k n).one = true := rfl
theorem oneS {s : List UInt8} : (AV.str s).one = true := rfl
theorem oneB {b : Bool} : (AV.bool b).one = true := rfl
theorem oneN : AV.snil.one = true := rfl
theorem oneR {a b : Nat} : (AV.ref a b).one = true := rfl
theorem oneL {a b c d : Nat} {e : Option Nat} {f : List AV} : (AV.sl a b c d e f).one = true := rfl
theorem isO {v : AV} (h : v.one = true) : isOne v = .some () := if_pos h
/-! ### The lemmas of a step, together -/
def allG := And.intro @gpE <| And.intro @gpN <| And.intro @guE <| And.intro @guN <| And.intro @nxPush <| And.intro @nxPut <| And.intro @oldPush <| @oldPut
def allS := And.intro @Option.bind_some.{0,0} <| And.intro @shR <| And.intro @nilR <| And.intro @avI <| And.intro @avS <| And.intro @avB <| And.intro @ld1 <| And.intro @ldN <| And.intro @ldcE <| And.intro @ldaW <| And.intro @stI <| And.intro @stS <| And.intro @stB <| And.intro @stA <| And.intro @isO <| And.intro @stcW <| And.intro @stc1 <| And.intro @deV <| And.intro @Int.natCast_zero <| And.intro @gpE <| And.intro @gpN <| And.intro @guE <| And.intro @guN <| And.intro @nxPush <| And.intro @nxPut <| And.intro @oldPush <| And.intro @oldPut <| And.intro @List.getElem?_cons_succ.{0} <| And.intro @List.getElem?_cons_zero.{0} <| And.intro @List.set_cons_succ.{0} <| And.intro @List.set_cons_zero.{0} <| And.intro @List.length_cons.{0} <| And.intro @List.length_nil.{0} <| And.intro @List.take_succ_cons.{0} <| And.intro @List.take_zero.{0} <| And.intro @List.drop_succ_cons.{0} <| And.intro @List.drop_zero.{0} <| And.intro @List.nil_append.{0} <| And.intro @List.cons_append.{0} <| @Nat.zero_add
def oneB_ := And.intro @List.all_cons.{0} <| And.intro @List.all_nil.{0} <| And.intro @oneI <| And.intro @oneS <| And.intro @oneB <| And.intro @oneN <| And.intro @oneR <| And.intro @oneL <| And.intro @Bool.and_true <| @Bool.true_and


end
end Go.Proofs.YthodfojhbbendaaGreatDoor
