/- Abstract values and stores, and the operations over them: a deterministic reading of the model's code. -/
import Derived.Calls
import Derived.Defers
import Derived.Orders
set_option linter.all false
namespace Go.Ev

/-- A value as the evaluator has it. 'sl': a slice by value (its family, where it ends there, how long, an element's cells, its capacity if known, its cells); 'sref': a slice of a block by reference; 'vptr': an address at which these cells stand for good. -/
inductive AV where
  | int (k : IntKind) (n : Int)
  | bool (b : Bool)
  | str (s : List UInt8)
  | nilp
  | ref (id off : Nat)
  | glob (g off : Nat)
  | vptr (cells : List AV)
  | snil
  | sl (id e len sz : Nat) (cap : Option Nat) (cells : List AV)
  | sref (id off len sz : Nat) (cap : Option Nat)
  | sempty
  | mnil
  | map (id : Nat)
  | func (fn : Fn) (first captured : List AV)
  | yield (id : Nat)
  | nilf
  | iface (t : TypeId) (v : AV)
  | nili
  | agg (cells : List AV)
  | tuple (vs : List AV)
  /-- A whole number of which this alone is told: what it leaves by m, and between which it lies. -/
  | resi (k : IntKind) (m : Nat) (r lo hi : Int)
  /-- A string of which this alone is told: it is none of these, and its length lies between. -/
  | strx (ws : List (List UInt8)) (lo hi : Nat)
  /-- One cell, of which nothing is told. -/
  | any
  deriving Inhabited

def AV.undef : AV := .tuple []

/-- The cells of a value. -/
def AV.cells : AV → List AV
  | .agg cs => cs
  | v => [v]

/-- One cell's value. -/
def AV.one : AV → Bool
  | .agg _ => false
  | .tuple _ => false
  | _ => true

/-- A range over a function that is under way. -/
structure ALoop where
  state : LoopState
  pending : Option Code
  fn : FuncId
  tmps : List AV
  params : Array Tmp
  assign : Code
  body : Code
  defers : Nat

inductive AObj where
  /-- A row of cells: the type of its elements; are there no more than these; the cells. -/
  | cells (t : TypeId) (full : Bool) (cs : List AV)
  | tip (n : Nat)
  | map (es : List (AV × AV × Nat)) (clock : Nat)
  | iter (m : Option Nat) (since : Nat) (seen : List Nat) (last : Nat)
  | siter (s : List UInt8) (pos : Nat)
  | loop (l : ALoop)
  | dfd
  | dead
instance : Inhabited AObj := ⟨.dead⟩

/-- A table by numbers: a tree whose ways are the number's halves. -/
inductive Tr (α : Type) where
  | leaf
  | node (l : Tr α) (v : Option α) (r : Tr α)

namespace Tr
variable {α : Type}
def get : Tr α → Nat → Option α
  | .leaf, _ => none
  | .node l v r, n => cond (Nat.beq n 0) v (cond (Nat.beq (n % 2) 1) (l.get (n / 2)) (r.get (n / 2 - 1)))
def single (a : α) : Nat → Nat → Tr α
  | 0, _ => .node .leaf (some a) .leaf
  | f + 1, n => cond (Nat.beq n 0) (.node .leaf (some a) .leaf) (cond (Nat.beq (n % 2) 1) (.node (single a f (n / 2)) none .leaf) (.node .leaf none (single a f (n / 2 - 1))))
def set (a : α) : Tr α → Nat → Tr α
  | .leaf, n => single a n n
  | .node l v r, n => cond (Nat.beq n 0) (.node l (some a) r) (cond (Nat.beq (n % 2) 1) (.node (l.set a (n / 2)) v r) (.node l v (r.set a (n / 2 - 1))))
end Tr

structure St where
  objs : Tr AObj
  next : Nat

def St.empty : St := ⟨.leaf, 0⟩

/-- A new thing in the store: its number, the store behind it. -/
def St.push (s : St) (o : AObj) : St := ⟨s.objs.set o s.next, s.next + 1⟩
def St.put (s : St) (id : Nat) (o : AObj) : St := ⟨s.objs.set o id, s.next⟩

/-- A constant of the code. -/
def ofConst1 : Value → Option AV
  | .int k n => some (.int k n)
  | .bool b => some (.bool b)
  | .string s => some (.str s.data.toList)
  | .pointer none => some .nilp
  | .slice none 0 0 => some .snil
  | .map none => some .mnil
  | .nilFunc => some .nilf
  | .nilIface => some .nili
  | _ => none
def ofConsts : List Value → Option (List AV)
  | [] => some []
  | v :: vs => (ofConst1 v).bind fun a => (ofConsts vs).bind fun as => some (a :: as)
def ofConst : Value → Option AV
  | .agg cs => (ofConsts cs.toList).bind fun l => some (.agg l)
  | .tuple ⟨[]⟩ => some (.tuple [])
  | v => ofConst1 v

/-- An operand's value. -/
def opnd (ts : List AV) : Operand → Option AV
  | .tmp t => some (ts.getD t AV.undef)
  | .const v => ofConst v
  | .global g => some (.glob g 0)
  | .func f => some (.func (.func f) [] [])

def opnds (ts : List AV) : List Operand → Option (List AV)
  | [] => some []
  | x :: xs => (opnd ts x).bind fun a => (opnds ts xs).bind fun as => some (a :: as)

/-! ### Types -/
def size? (P : Program) (t : TypeId) : Option Nat := (P.info? t).bind fun i => some i.size
def zero? (P : Program) (t : TypeId) : Option AV := (P.info? t).bind fun i => i.zero.bind ofConst
def bytes? (P : Program) (t : TypeId) : Option Nat := (P.info? t).bind fun i => some i.bytes
def agg? (P : Program) (t : TypeId) : Option Bool := (P.underlying t).bind fun d => match d with
  | .struct _ => some true
  | .array _ _ => some true
  | _ => some false

/-! ### Strings -/
def strLt : List UInt8 → List UInt8 → Bool
  | _, [] => false
  | [], _ :: _ => true
  | a :: x, b :: y => Nat.blt a.toNat b.toNat || (Nat.beq a.toNat b.toNat && strLt x y)
def strEq : List UInt8 → List UInt8 → Bool
  | [], [] => true
  | a :: x, b :: y => Nat.beq a.toNat b.toNat && strEq x y
  | _, _ => false
def strOp (op : BinOp) (x y : List UInt8) : Option AV :=
  match op with
  | .add => cond (Nat.ble (x.length + y.length) 9223372036854775807) (some (.str (x ++ y))) none
  | .eql => some (.bool (strEq x y))
  | .neq => some (.bool (!strEq x y))
  | .lss => some (.bool (strLt x y))
  | .leq => some (.bool (strLt x y || strEq x y))
  | .gtr => some (.bool (!(strLt x y || strEq x y)))
  | .geq => some (.bool (!strLt x y))
  | _ => none

/-! ### Numbers -/
def intOp (op : BinOp) (k : IntKind) (a : Int) (k' : IntKind) (b : Int) : Option AV :=
  match op with
  | .shl => if b < 0 then none else some (.int k (k.wrap (a * 2 ^ (min b.toNat k.bits))))
  | .shr => if b < 0 then none else some (.int k (a.fdiv (2 ^ (min b.toNat k.bits))))
  | op => if k ≠ k' then none else match op with
    | .add => some (.int k (k.wrap (a + b)))
    | .sub => some (.int k (k.wrap (a - b)))
    | .mul => some (.int k (k.wrap (a * b)))
    | .quo => if b = 0 then none else some (.int k (k.wrap (a.tdiv b)))
    | .rem => if b = 0 then none else some (.int k (a.tmod b))
    | .and => some (.int k (k.wrap ((BitVec.ofInt k.bits a &&& BitVec.ofInt k.bits b).toNat)))
    | .or => some (.int k (k.wrap ((BitVec.ofInt k.bits a ||| BitVec.ofInt k.bits b).toNat)))
    | .xor => some (.int k (k.wrap ((BitVec.ofInt k.bits a ^^^ BitVec.ofInt k.bits b).toNat)))
    | .andNot => some (.int k (k.wrap ((BitVec.ofInt k.bits a &&& ~~~ BitVec.ofInt k.bits b).toNat)))
    | .eql => some (.bool (a == b))
    | .neq => some (.bool (a != b))
    | .lss => some (.bool (a < b))
    | .leq => some (.bool (a ≤ b))
    | .gtr => some (.bool (a > b))
    | .geq => some (.bool (a ≥ b))
    | _ => none

/-- Of a number that is told by what it leaves. -/
def resOp (op : BinOp) (k : IntKind) (m : Nat) (r lo hi : Int) (k' : IntKind) (c : Int) : Option AV :=
  match op with
  | .rem => if k = k' ∧ 0 < c then (if m % c.toNat = 0 then (if 0 ≤ lo then some (.int k (r % c)) else some (.resi k c.toNat (r % c) (1 - c) (c - 1))) else (if 0 ≤ lo then some (.resi k 1 0 0 (c - 1)) else some (.resi k 1 0 (1 - c) (c - 1)))) else none
  | .add => if k = k' ∧ k.min ≤ lo + c ∧ hi + c ≤ k.max ∧ 0 < m then some (.resi k m ((r + c) % m) (lo + c) (hi + c)) else none
  | .and => if k = k' ∧ 0 ≤ c ∧ c.toNat + 1 = 2 ^ (c.toNat + 1).log2 ∧ (c.toNat + 1).log2 < 31 ∧ 32 ≤ k.bits then (if m % (c.toNat + 1) = 0 then some (.int k (r % (c + 1))) else some (.resi k 1 0 0 c)) else none
  | .shr => if 0 ≤ c ∧ c.toNat ≤ k.bits ∧ m % 2 ^ c.toNat = 0 ∧ 0 < m then some (.resi k (m / 2 ^ c.toNat) (r / 2 ^ c.toNat) (lo.fdiv (2 ^ c.toNat)) (hi.fdiv (2 ^ c.toNat))) else none
  | .or => if k = k' ∧ k.signed = false ∧ 0 ≤ c ∧ c ≤ k.max then some (.resi k 1 0 c k.max) else none
  | .sub => if k = k' ∧ k.min ≤ lo - c ∧ hi - c ≤ k.max ∧ 0 < m then some (.resi k m ((r - c) % m) (lo - c) (hi - c)) else none
  | .lss => if k = k' then (if hi < c then some (.bool true) else if c ≤ lo then some (.bool false) else none) else none
  | .leq => if k = k' then (if hi ≤ c then some (.bool true) else if c < lo then some (.bool false) else none) else none
  | .gtr => if k = k' then (if c < lo then some (.bool true) else if hi ≤ c then some (.bool false) else none) else none
  | .geq => if k = k' then (if c ≤ lo then some (.bool true) else if hi < c then some (.bool false) else none) else none
  | .eql => if k = k' then (if hi < c ∨ c < lo then some (.bool false) else none) else none
  | .neq => if k = k' then (if hi < c ∨ c < lo then some (.bool true) else none) else none
  | _ => none
/-- The sides turned round. -/
def flipOp : BinOp → Option BinOp
  | .add => some .add
  | .and => some .and
  | .or => some .or
  | .eql => some .eql
  | .neq => some .neq
  | .lss => some .gtr
  | .leq => some .geq
  | .gtr => some .lss
  | .geq => some .leq
  | _ => none
/-- A number that is told in part, as another kind of number. -/
def resConv (k : IntKind) (m : Nat) (r lo hi : Int) : AV :=
  if k.min ≤ lo ∧ hi ≤ k.max then .resi k m r lo hi else if 2 ^ k.bits % m = 0 then .resi k m r k.min k.max else .resi k 1 0 k.min k.max
/-- Of a string that is none of these. -/
def strxOp (op : BinOp) (ws : List (List UInt8)) (lo hi : Nat) (s : List UInt8) : Option AV :=
  cond (ws.any (fun w => strEq w s) || Nat.blt s.length lo || Nat.blt hi s.length) (match op with
    | .eql => some (.bool false)
    | .neq => some (.bool true)
    | _ => none) none

/-! ### Equality -/
/-- Are two values the same? none: not told here. -/
def eqOne (d : TypeDesc) (xo yo : Operand) (x y : AV) : Option Bool :=
  match d, x, y with
  | .bool, .bool a, .bool b => some (a == b)
  | .pointer _, .nilp, .nilp => some true
  | .pointer _, .nilp, .ref _ _ => some false
  | .pointer _, .ref _ _, .nilp => some false
  | .pointer _, .nilp, .vptr _ => some false
  | .pointer _, .vptr _, .nilp => some false
  | .slice _, .snil, .snil => some true
  | .slice _, .snil, .sl .. => some false
  | .slice _, .sl .., .snil => some false
  | .slice _, .snil, .sref .. => some false
  | .slice _, .sref .., .snil => some false
  | .slice _, .snil, .sempty => some false
  | .slice _, .sempty, .snil => some false
  | .map _ _, .mnil, .mnil => some true
  | .map _ _, .mnil, .map _ => some false
  | .map _ _, .map _, .mnil => some false
  | .func _ _ _, .nilf, .nilf => some true
  | .func _ _ _, .nilf, .func .. => some false
  | .func _ _ _, .func .., .nilf => some false
  | .interface _, .nili, .nili => match xo, yo with
    | .const _, _ => some true
    | _, .const _ => some true
    | _, _ => none
  | .interface _, .nili, .iface .. => some false
  | .interface _, .iface .., .nili => some false
  | _, _, _ => none

end Go.Ev
