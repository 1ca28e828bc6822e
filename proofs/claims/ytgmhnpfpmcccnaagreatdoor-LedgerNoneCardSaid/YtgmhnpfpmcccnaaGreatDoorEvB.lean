/- The evaluator: operations, regions, code, calls. -/
import Derived.Test.YtgmhnpfpmcccnaaGreatDoorEvA
set_option linter.all false
namespace Go.Ev

structure Cfg where
  P : Program
  /-- In these functions an append, or a slice that is written out, makes a block by reference. -/
  byref : FuncId → Bool
  /-- What some functions of the library do to the store. -/
  mext : FuncId → List AV → St → Option (AV × St)

/-! ### Memory -/
def range? (cs : List AV) (off n : Nat) : Option (List AV) := cond (Nat.ble (off + n) cs.length) (some ((cs.drop off).take n)) none
def setRange (cs : List AV) (off : Nat) (vs : List AV) : List AV := cs.take off ++ vs ++ cs.drop (off + vs.length)

/-- What stands at an address: so many cells. -/
def readAt (st : St) (p : AV) (n : Nat) : Option (List AV) :=
  match p with
  | .ref id off => match st.objs.get id with
    | some (.cells _ _ cs) => range? cs off n
    | _ => none
  | .vptr cs => range? cs 0 n
  | _ => none

def shaped (isAgg : Bool) (cs : List AV) : Option AV :=
  match isAgg with
  | true => some (.agg cs)
  | false => match cs with
    | [c] => some c
    | _ => none

def loadAt (P : Program) (st : St) (t : TypeId) (p : AV) : Option AV :=
  (agg? P t).bind fun g => (size? P t).bind fun n => (readAt st p (cond g n 1)).bind fun cs => shaped g cs

def storeCellsAt (st : St) (p : AV) (vs : List AV) : Option St :=
  match p with
  | .ref id off => match st.objs.get id with
    | some (.cells t u cs) => cond (Nat.ble (off + vs.length) cs.length) (some (st.put id (.cells t u (setRange cs off vs)))) none
    | _ => none
  | _ => none

def storeAt (P : Program) (st : St) (t : TypeId) (p v : AV) : Option St :=
  (size? P t).bind fun n => cond (Nat.beq v.cells.length n && v.cells.all AV.one) (storeCellsAt st p v.cells) none

/-- An address so many cells on. -/
def shift (p : AV) (n : Nat) : Option AV :=
  match p with
  | .ref id off => some (.ref id (off + n))
  | .vptr cs => cond (Nat.ble n cs.length) (some (.vptr (cs.drop n))) none
  | .glob g off => some (.glob g (off + n))
  | _ => none

def partOf (P : Program) (t : TypeId) (cs : List AV) (off : Nat) : Option AV :=
  (agg? P t).bind fun g => match g with
    | true => (size? P t).bind fun n => (range? cs off n).bind fun l => some (.agg l)
    | false => cs[off]?

def fieldOf (P : Program) (s : TypeId) (i : Nat) : Option Field :=
  (P.underlying s).bind fun d => match d with
    | .struct fs => fs[i]?
    | _ => none

/-- A slice's cells, as many of its elements as are asked for. -/
def sliceCells (st : St) (n : Nat) (v : AV) (sz : Nat) : Option (List AV) :=
  match v with
  | .snil => cond (Nat.beq n 0) (some []) none
  | .sempty => cond (Nat.beq n 0) (some []) none
  | .sl _ _ len sz' _ cs => cond (Nat.ble n len && Nat.beq sz sz') (range? cs 0 (n * sz)) none
  | .sref id off len sz' _ => match st.objs.get id with
    | some (.cells _ _ cs) => cond (Nat.ble n len && Nat.beq sz sz') (range? cs off (n * sz)) none
    | _ => none
  | _ => none

def lenOf : AV → Option Nat
  | .snil => some 0
  | .sempty => some 0
  | .sl _ _ n _ _ _ => some n
  | .sref _ _ n _ _ => some n
  | _ => none

/-- A new slice of these cells: the thing, the value by its number. -/
def newSlice (byref : Bool) (t : TypeId) (len sz : Nat) (cap : Option Nat) (cs : List AV) : (Nat → AV) × AObj :=
  match byref with
  | true => (fun id => .sref id 0 len sz cap, .cells t (match cap with | some c => Nat.beq c len | none => false) cs)
  | false => (fun id => .sl id cs.length len sz cap cs, .tip cs.length)
def St.mk1 (st : St) (x : (Nat → AV) × AObj) : AV × St := (x.1 st.next, st.push x.2)

def most : Nat := 1073741824

/-- What is appended: a slice's cells, or a string's bytes. -/
def appended (P : Program) (st : St) (t t' : TypeId) (n : Nat) (sz : Nat) (x : AV) : Option (List AV) :=
  match x with
  | .str s => (P.underlying t').bind fun d => match d with
    | .string => cond (Nat.beq sz 1 && Nat.ble n s.length) (some ((s.take n).map fun b => .int .u8 b.toNat)) none
    | _ => none
  | x => cond (Nat.beq t t') (sliceCells st n x sz) none
def addLen : AV → Option Nat
  | .str s => some s.length
  | x => lenOf x

def appendOp (P : Program) (byref : Bool) (st : St) (argTypes : Array TypeId) (s x : AV) : Option (AV × St) :=
  match argTypes.toList with
  | [t, t'] => (P.underlying t).bind fun d => match d with
    | .slice elem => (size? P elem).bind fun sz => (bytes? P elem).bind fun bs => (zero? P elem).bind fun z => (addLen x).bind fun n => (appended P st t t' n sz x).bind fun new =>
      cond (!(new.all AV.one && Nat.ble n most && Nat.ble bs 4096 && !Nat.beq sz 0 && Nat.beq z.cells.length sz)) none <|
      match s with
      | .snil => cond (Nat.beq n 0) (some (.snil, st)) (some (st.mk1 (newSlice byref elem n sz none new)))
      | .sl id e len sz' cap cs =>
        cond (Nat.beq n 0) (some (s, st)) <| cond (!(Nat.ble len most && Nat.beq sz sz')) none <|
        cond (cap.any fun c => Nat.blt c (len + n)) (some (st.mk1 (newSlice byref elem (len + n) sz none (cs ++ new)))) <|
        match st.objs.get id with
        | some (.tip h) => cond (Nat.beq h e && !byref) (some (.sl id (e + new.length) (len + n) sz cap (cs ++ new), st.put id (.tip (e + new.length)))) none
        | _ => none
      | .sref id off len sz' cap =>
        cond (Nat.beq n 0) (some (s, st)) <| cond (!(Nat.ble len most && Nat.beq sz sz')) none <|
        match cap with
        | some c => cond (Nat.ble (len + n) c)
            ((storeCellsAt st (.ref id (off + len * sz)) new).bind fun st' => some (.sref id off (len + n) sz cap, st'))
            ((sliceCells st len s sz).bind fun old => some (st.mk1 (newSlice true elem (len + n) sz none (old ++ new))))
        | none => match st.objs.get id with
          | some (.cells t0 _ cs) => cond (Nat.ble (off + (len + n) * sz) cs.length)
            ((storeCellsAt st (.ref id (off + len * sz)) new).bind fun st' => some (.sref id off (len + n) sz none, st'))
            (cond (Nat.beq off 0 && Nat.ble (len * sz) cs.length && Nat.beq t0 elem) (some ((st.put id .dead).mk1 (newSlice true elem (len + n) sz none (cs.take (len * sz) ++ new)))) none)
          | _ => none
      | _ => none
    | _ => none
  | _ => none

def intOf : AV → Option Int
  | .int _ n => some n
  | _ => none

/-- An index within a bound. -/
def within (x : AV) (n : Nat) : Option Nat :=
  (intOf x).bind fun i => match i with
    | .ofNat k => cond (Nat.ble k n) (some k) none
    | .negSucc _ => none

def optV (ts : List AV) : Option Operand → Option (Option AV)
  | none => some none
  | some x => (opnd ts x).bind fun v => some (some v)

/-- The bounds of a slice expression: low, high, max. -/
def mxOf (cap : Nat) : Option AV → Option Nat
  | some v => within v cap
  | none => some cap
def hiOf (len m : Nat) : Option AV → Option AV → Option Nat
  | some v, _ => within v m
  | none, none => some len
  | none, some _ => none
def loOf (h : Nat) : Option AV → Option Nat
  | some v => within v h
  | none => some 0
def bounds (len cap : Nat) (low high max : Option AV) : Option (Nat × Nat × Nat) :=
  (mxOf cap max).bind fun m => (hiOf len m high max).bind fun h => (loOf h low).bind fun l => some (l, h, m)

def sliceOp (P : Program) (t : TypeId) (x : AV) (low high max : Option AV) : Option AV :=
  (P.underlying t).bind fun d => match d, x with
  | .string, .str s => match max with
    | some _ => none
    | none => (bounds s.length s.length low high none).bind fun (l, h, _) => some (.str ((s.take h).drop l))
  | .string, .strx _ n _ => match max with
    | some _ => none
    | none => (bounds n n low high none).bind fun (l, h, _) => cond (high.isSome) (some (.strx [] (h - l) (h - l))) none
  | .slice elem, .snil => (size? P elem).bind fun _ => (bounds 0 0 low high max).bind fun _ => some .snil
  | .slice elem, .sl id e len sz' cap cs => (size? P elem).bind fun sz => cond (!Nat.beq sz sz') none <|
    match max with
    | none => (bounds len len low high none).bind fun (l, h, _) =>
        some (.sl id (e - (len - h) * sz) (h - l) sz (cap.bind fun c => some (c - l)) ((cs.take (h * sz)).drop (l * sz)))
    | some _ => (bounds len len low high max).bind fun (l, h, m) =>
        some (.sl id (e - (len - h) * sz) (h - l) sz (some (m - l)) ((cs.take (h * sz)).drop (l * sz)))
  | .slice elem, .sref id off len sz' cap => (size? P elem).bind fun sz => cond (!Nat.beq sz sz') none <|
    match cap with
    | some c => (bounds len c low high max).bind fun (l, h, m) => some (.sref id (cond (Nat.beq m l) off (off + l * sz)) (h - l) sz (some (m - l)))
    | none => (bounds len len low high max).bind fun (l, h, m) =>
        cond (Nat.blt l m || Nat.beq l 0) (some (.sref id (off + l * sz) (h - l) sz (max.bind fun _ => some (m - l)))) (some .sempty)
  | .array n elem, .ref id off => (size? P elem).bind fun sz => cond (Nat.beq sz 0) none <| (bounds n n low high max).bind fun (l, h, m) =>
      some (.sref id (cond (Nat.beq m l) off (off + l * sz)) (h - l) sz (some (m - l)))
  | _, _ => none

def indexAddrOp (P : Program) (t : TypeId) (x ix : AV) : Option AV :=
  (P.underlying t).bind fun d => (intOf ix).bind fun i => match i with
  | .negSucc _ => none
  | .ofNat k => match d, x with
    | .slice elem, .sl _ _ len sz' _ cs => (size? P elem).bind fun sz => cond (Nat.blt k len && Nat.beq sz sz') (shift (.vptr cs) (k * sz)) none
    | .slice elem, .sref id off len sz' _ => (size? P elem).bind fun sz => cond (Nat.blt k len && Nat.beq sz sz') (some (.ref id (off + k * sz))) none
    | .array n elem, p => (size? P elem).bind fun sz => cond (Nat.blt k n) (shift p (k * sz)) none
    | _, _ => none

def indexOp (P : Program) (t : TypeId) (x ix : AV) : Option AV :=
  (P.underlying t).bind fun d => (intOf ix).bind fun i => match i with
  | .negSucc _ => none
  | .ofNat k => match d, x with
    | .string, .str s => (s[k]?).bind fun b => some (.int .u8 b.toNat)
    | .array n elem, .agg cs => (size? P elem).bind fun sz => cond (Nat.blt k n) (partOf P elem cs (k * sz)) none
    | _, _ => none

def fillAV (place : Nat → Option (Nat × Nat)) (cells : List AV) : List (Nat × AV) → Option (List AV)
  | [] => some cells
  | (i, v) :: rest => (place i).bind fun (off, sz) =>
    cond (Nat.beq v.cells.length sz && Nat.ble (off + sz) cells.length) (fillAV place (setRange cells off v.cells) rest) none

def parts? (ts : List AV) : List (Nat × Operand) → Option (List (Nat × AV))
  | [] => some []
  | (i, x) :: r => (opnd ts x).bind fun v => (parts? ts r).bind fun l => some ((i, v) :: l)

def repeatCells (z : List AV) : Nat → List AV
  | 0 => []
  | n + 1 => z ++ repeatCells z n

def buildOp (P : Program) (t : TypeId) (ps : List (Nat × AV)) : Option AV :=
  (zero? P t).bind fun z => (P.underlying t).bind fun d => match d with
  | .struct fs => (fs.toList.mapM (fun f => (P.info? f.type).map fun i => (f.offset, i.size))).bind fun places => (fillAV (fun i => places[i]?) z.cells ps).bind fun cs => some (.agg cs)
  | .array _ elem => (size? P elem).bind fun sz => (fillAV (fun i => some (i * sz, sz)) z.cells ps).bind fun cs => some (.agg cs)
  | _ => none

def buildSliceOp (P : Program) (byref : Bool) (t : TypeId) (len : Nat) (ps : List (Nat × AV)) : Option ((Nat → AV) × AObj) :=
  (P.underlying t).bind fun d => match d with
  | .slice elem => (size? P elem).bind fun sz => (zero? P elem).bind fun z =>
    cond (!(Nat.ble (len * sz) 16777216 && Nat.beq z.cells.length sz && !Nat.beq sz 0)) none <|
    (fillAV (fun i => some (i * sz, sz)) (repeatCells z.cells len) ps).bind fun cs => cond (cs.all AV.one) (some (newSlice byref elem len sz (some len) cs)) none
  | _ => none

def makeSliceOp (P : Program) (t : TypeId) (l c : AV) : Option ((Nat → AV) × AObj) :=
  (P.underlying t).bind fun d => match d with
  | .slice elem => (size? P elem).bind fun sz => (bytes? P elem).bind fun bs => (zero? P elem).bind fun z =>
    (intOf l).bind fun l => (intOf c).bind fun c => match l, c with
    | .ofNat l, .ofNat c => cond (Nat.ble l c && Nat.ble c most && Nat.ble bs 4096 && Nat.beq z.cells.length sz && !Nat.beq sz 0 && z.cells.all AV.one)
        (some (fun id => .sref id 0 l sz (some c), .cells elem true (repeatCells z.cells c))) none
    | _, _ => none
  | _ => none

def bytesOf : List AV → Option (List UInt8)
  | [] => some []
  | .int .u8 n :: r => (bytesOf r).bind fun l => some (UInt8.ofNat n.toNat :: l)
  | _ => none

def convPure (d : TypeDesc) (x : AV) : Option AV :=
  match d, x with
  | .int k, .int _ n => some (.int k (k.wrap n))
  | .int k, .resi _ m r lo hi => some (resConv k m r lo hi)
  | .string, .str s => some (.str s)
  | _, _ => none

/-- Two cells, by the type that they have: none: not told here. -/
def eqLeaf (d : TypeDesc) (x y : AV) : Option Bool :=
  match d, x, y with
  | .int _, .int k a, .int k' b => cond (k == k') (some (a == b)) none
  | .int _, .resi k m r lo hi, .int k' c => match resOp .eql k m r lo hi k' c with
    | some (.bool b) => some b
    | _ => none
  | .int _, .int k' c, .resi k m r lo hi => match resOp .eql k m r lo hi k' c with
    | some (.bool b) => some b
    | _ => none
  | .string, .str a, .str b => some (strEq a b)
  | .string, .strx ws lo hi, .str s => match strxOp .eql ws lo hi s with
    | some (.bool b) => some b
    | _ => none
  | .string, .str s, .strx ws lo hi => match strxOp .eql ws lo hi s with
    | some (.bool b) => some b
    | _ => none
  | .bool, .bool a, .bool b => some (a == b)
  | d, x, y => eqOne d (.tmp 0) (.tmp 0) x y
/-- The fields of two structs, one by one. -/
def eqFieldsV (P : Program) (E : TypeId → AV → AV → Option Bool) (xs ys : List AV) : List Field → Option Bool
  | [] => some true
  | f :: fs => cond (f.name == "_") (eqFieldsV P E xs ys fs) ((partOf P f.type xs f.offset).bind fun a => (partOf P f.type ys f.offset).bind fun b => (E f.type a b).bind fun r => match r with
    | true => eqFieldsV P E xs ys fs
    | false => some false)
def eqV (P : Program) : Nat → TypeId → AV → AV → Option Bool
  | 0, _, _, _ => none
  | n + 1, t, x, y => (P.underlying t).bind fun d => match d, x, y with
    | .struct fs, .agg xs, .agg ys => cond (P.stoodInHeld t) none (eqFieldsV P (eqV P n) xs ys fs.toList)
    | d, x, y => eqLeaf d x y
/-- Are two values of a type the same? -/
def eqVal (P : Program) (t : TypeId) (x y : AV) : Option Bool := eqV P 20 t x y

def binOpV (P : Program) (op : BinOp) (t : TypeId) (xo yo : Operand) (x y : AV) : Option AV :=
  match x, y with
  | .int k a, .int k' b => intOp op k a k' b
  | .str a, .str b => strOp op a b
  | .resi k m r lo hi, .int k' c => resOp op k m r lo hi k' c
  | .int k' c, .resi k m r lo hi => (flipOp op).bind fun op' => cond (k == k') (resOp op' k m r lo hi k' c) none
  | .strx ws lo hi, .str s => strxOp op ws lo hi s
  | .str s, .strx ws lo hi => strxOp op ws lo hi s
  | .agg xs, .agg ys => cond (P.eqGuardType P.depth t) none ((eqVal P t (.agg xs) (.agg ys)).bind fun b => match op with
    | .eql => some (.bool b)
    | .neq => some (.bool (!b))
    | _ => none)
  | .ref i a, .ref j b => (P.underlying t).bind fun d => match d with
    | .pointer e => (size? P e).bind fun _ => cond (Nat.beq i j && Nat.beq a b) (match op with
      | .eql => some (.bool true)
      | .neq => some (.bool false)
      | _ => none) none
    | _ => none
  | .iface s u, .iface s' u' => (P.underlying t).bind fun d => match d with
    | .interface _ => (cond (!Nat.beq s s') (some false) ((P.info? s).bind fun i => cond (!i.comparable) none ((P.underlying s).bind fun ds => match ds with
      | .int _ => eqLeaf ds u u'
      | .string => eqLeaf ds u u'
      | .bool => eqLeaf ds u u'
      | _ => none))).bind fun b => match op with
        | .eql => some (.bool b)
        | .neq => some (.bool (!b))
        | _ => none
    | _ => none
  | x, y => (P.underlying t).bind fun d => (eqOne d xo yo x y).bind fun b => match op with
    | .eql => some (.bool b)
    | .neq => some (.bool (!b))
    | _ => none

def unOpV (op : UnOp) (x : AV) : Option AV :=
  match op, x with
  | .neg, .int k n => some (.int k (k.wrap (0 - n)))
  | .xor, .int k n => intOp .xor k (if k.signed then -1 else k.max) k n
  | .not, .bool b => some (.bool !b)
  | _, _ => none

def nilCheckOp (x : AV) : Option AV :=
  match x with
  | .ref .. => some x
  | .vptr _ => some x
  | .glob .. => some x
  | .func (.func _) _ _ => some x
  | .iface .. => some x
  | _ => none

inductive OpK where
  | pure
  | load
  | mk
  | eff

/-- What kind of operation: a value alone · a load · something new · all else. -/
def opKind (P : Program) (op : Op) : OpK :=
  match op with
  | .move _ | .assign _ | .pick .. | .build .. | .nilCheck _ | .binOp .. | .unOp .. | .makeInterface .. | .makeFunc .. | .fieldAddr .. | .field ..
  | .indexAddr .. | .index .. | .extract .. | .typeAssert .. => .pure
  | .load .. | .lookup .. => .load
  | .slice t .. => match P.underlying t with
    | some (.slice _) => .load
    | _ => .pure
  | .alloc _ | .box .. | .buildSlice .. | .makeSlice .. | .makeMap .. => .mk
  | .convert s d _ => match P.underlying s, P.underlying d with
    | some (.slice _), _ => .load
    | some .unsafePointer, _ => .load
    | _, some .unsafePointer => .load
    | _, some (.slice _) => .mk
    | _, _ => .pure
  | .call { callee := .builtin .len, argTypes, .. } => match (argTypes[0]?).bind P.underlying with
    | some (.map _ _) => .load
    | _ => .pure
  | .call { callee := .builtin .min, .. } | .call { callee := .builtin .max, .. } => .pure
  | _ => .eff

/-- What an interface holds, if it has this type. -/
def assertOp (P : Program) (t : TypeId) (ok : Bool) (v : AV) : Option AV :=
  (P.underlying t).bind fun d => match d, v with
    | .interface _, _ => none
    | _, .iface u w => cond (Nat.beq u t) (some (cond ok (.tuple [w, .bool true]) w)) (cond ok ((zero? P t).bind fun z => some (.tuple [z, .bool false])) none)
    | _, .nili => cond ok ((zero? P t).bind fun z => some (.tuple [z, .bool false])) none
    | _, _ => none

/-- A value alone. -/
def pureOp (P : Program) (ts : List AV) (op : Op) : Option AV :=
  match op with
  | .move x | .assign x => opnd ts x
  | .pick c a b => (opnd ts c).bind fun c => match c with
    | .bool true => opnd ts a
    | .bool false => opnd ts b
    | _ => none
  | .build t ps => (parts? ts ps.toList).bind fun ps => buildOp P t ps
  | .nilCheck x => (opnd ts x).bind nilCheckOp
  | .binOp op t x y _ => (opnd ts x).bind fun a => (opnd ts y).bind fun b => binOpV P op t x y a b
  | .unOp op _ x => (opnd ts x).bind fun a => unOpV op a
  | .convert s d x => (opnd ts x).bind fun v => (P.underlying s).bind fun _ => (P.underlying d).bind fun d => convPure d v
  | .makeInterface t x => (opnd ts x).bind fun v => (P.underlying t).bind fun d => match d with
    | .interface _ => none
    | _ => some (.iface t v)
  | .makeFunc fn first cap => (opnds ts first.toList).bind fun a => (opnds ts cap.toList).bind fun b => some (.func fn a b)
  | .slice t x lo hi mx => (opnd ts x).bind fun v => (optV ts lo).bind fun lo => (optV ts hi).bind fun hi => (optV ts mx).bind fun mx => sliceOp P t v lo hi mx
  | .fieldAddr s x i => (opnd ts x).bind fun p => (fieldOf P s i).bind fun fd => (size? P fd.type).bind fun n => cond (Nat.beq n 0) none (shift p fd.offset)
  | .field s x i => (opnd ts x).bind fun v => (fieldOf P s i).bind fun fd => match v with
    | .agg cs => partOf P fd.type cs fd.offset
    | _ => none
  | .indexAddr t x i => (opnd ts x).bind fun v => (opnd ts i).bind fun i => indexAddrOp P t v i
  | .index t x i => (opnd ts x).bind fun v => (opnd ts i).bind fun i => indexOp P t v i
  | .extract x i => (opnd ts x).bind fun v => match v with
    | .tuple vs => vs[i]?
    | _ => none
  | .typeAssert x _ t ok => (opnd ts x).bind fun v => assertOp P t ok v
  | .call { callee := .builtin .min, args, .. } => (opnds ts args.toList).bind fun vs => match vs with
    | [.int k x, .int k' y] => cond (k == k') (some (.int k (if y < x then y else x))) none
    | [.str x, .str y] => some (.str (cond (strLt x y || strEq x y) x y))
    | _ => none
  | .call { callee := .builtin .max, args, .. } => (opnds ts args.toList).bind fun vs => match vs with
    | [.int k x, .int k' y] => cond (k == k') (some (.int k (if y > x then y else x))) none
    | [.str x, .str y] => some (.str (cond (!strLt x y) x y))
    | _ => none
  | .call { args, argTypes, .. } => (opnds ts args.toList).bind fun vs => match vs with
    | [x] => (argTypes[0]?).bind fun t => (P.underlying t).bind fun d => match d, x with
      | .string, .str s => some (.int .i64 s.length)
      | .string, .strx _ lo hi => some (.resi .i64 1 0 lo hi)
      | .slice _, .snil => some (.int .i64 0)
      | .slice _, .sempty => some (.int .i64 0)
      | .slice _, .sl _ _ n _ _ _ => some (.int .i64 n)
      | .slice _, .sref _ _ n _ _ => some (.int .i64 n)
      | _, _ => none
    | _ => none
  | _ => none

/-- Something new: the thing, and the value by its number. -/
def mkOp (P : Program) (byref : Bool) (ts : List AV) (op : Op) : Option ((Nat → AV) × AObj) :=
  match op with
  | .alloc t => (zero? P t).bind fun z => cond (z.cells.all AV.one) (some (fun id => .ref id 0, .cells t true z.cells)) none
  | .box t x => (opnd ts x).bind fun v => cond (v.cells.all AV.one) (some (fun id => .ref id 0, .cells t true v.cells)) none
  | .buildSlice t n ps => (parts? ts ps.toList).bind fun ps => buildSliceOp P byref t n ps
  | .makeSlice t l c => (opnd ts l).bind fun l => (opnd ts c).bind fun c => makeSliceOp P t l c
  | .makeMap t r => match r with
    | none => some (fun id => .map id, .map [] 0)
    | some x => (opnd ts x).bind fun v => (intOf v).bind fun _ => (P.underlying t).bind fun d => match d with
      | .map _ _ => some (fun id => .map id, .map [] 0)
      | _ => none
  | .convert s d x => (opnd ts x).bind fun v => (P.underlying s).bind fun s => (P.underlying d).bind fun d => match s, d, v with
    | .string, .slice e, .str s => (P.underlying e).bind fun ed => match ed with
      | .int .u8 => cond (Nat.ble s.length most) (some (fun id => .sref id 0 s.length 1 none, .cells e false (s.map fun b => .int .u8 b.toNat))) none
      | _ => none
    | _, _, _ => none
  | _ => none

/-! ### Maps -/
/-- A key that can be looked for: its type is compared cell by cell. -/
def mfind (P : Program) (t : TypeId) (k : AV) : List (AV × AV × Nat) → Nat → Option (Option (Nat × AV))
  | [], _ => some none
  | (k', v, _) :: es, i => (eqVal P t k k').bind fun b => match b with
    | true => some (some (i, v))
    | false => mfind P t k es (i + 1)
/-- Keys of these kinds are compared without a look at what they hold. -/
def keyOk (P : Program) : Nat → TypeId → AV → Bool
  | 0, _, _ => false
  | n + 1, t, x => match P.underlying t, x with
    | some (.int _), _ => true
    | some .string, _ => true
    | some .bool, _ => true
    | some (.struct fs), .agg xs => fs.toList.all fun f => f.name == "_" || (match partOf P f.type xs f.offset with
      | some y => keyOk P n f.type y
      | none => false)
    | _, _ => false
def setAt (es : List (AV × AV × Nat)) (i : Nat) (k v : AV) : List (AV × AV × Nat) := es.modify i fun e => (k, v, e.2.2)
/-- Are these the same to the bit? -/
def scalKey : AV → AV → Bool
  | .int k a, .int k' b => k == k' && a == b
  | .str a, .str b => strEq a b
  | .bool a, .bool b => a == b
  | _, _ => false
def allKeys : List AV → List AV → Bool
  | [], [] => true
  | a :: l, b :: m => scalKey a b && allKeys l m
  | _, _ => false
def sameKey : AV → AV → Bool
  | .agg a, .agg b => allKeys a b
  | x, y => scalKey x y
def mapOp (P : Program) (t : TypeId) (x : AV) : Option (TypeId × TypeId) := (P.underlying t).bind fun d => match d with
  | .map k e => cond (keyOk P 5 k x) (some (k, e)) none
  | _ => none
def lookupOp (P : Program) (st : St) (t : TypeId) (m k : AV) (ok : Bool) : Option AV :=
  (mapOp P t k).bind fun (kt, et) => (match m with
    | .mnil => some []
    | .map id => match st.objs.get id with
      | some (.map es _) => some es
      | _ => none
    | _ => none).bind fun es => (mfind P kt k es 0).bind fun r => match r with
      | some (_, v) => some (cond ok (.tuple [v, .bool true]) v)
      | none => (zero? P et).bind fun z => some (cond ok (.tuple [z, .bool false]) z)
def updateOp (P : Program) (st : St) (t : TypeId) (m k v : AV) : Option St :=
  (mapOp P t k).bind fun (kt, _) => match m with
    | .map id => match st.objs.get id with
      | some (.map es c) => (mfind P kt k es 0).bind fun r => match r with
        | some (i, _) => cond ((es[i]?).any fun e => sameKey e.1 k) (some (st.put id (.map (setAt es i k v) c))) none
        | none => some (st.put id (.map (es ++ [(k, v, c)]) (c + 1)))
      | _ => none
    | _ => none
def deleteOp (P : Program) (st : St) (t : TypeId) (m k : AV) : Option St :=
  (mapOp P t k).bind fun (kt, _) => match m with
    | .mnil => some st
    | .map id => match st.objs.get id with
      | some (.map es c) => (mfind P kt k es 0).bind fun r => match r with
        | some (i, _) => some (st.put id (.map (es.eraseIdx i) c))
        | none => some (st.put id (.map es c))
      | _ => none
    | _ => none
def rangeOp (P : Program) (st : St) (t : TypeId) (x : AV) : Option (AV × St) :=
  (P.underlying t).bind fun d => match d, x with
  | .string, .str s => some (.ref st.next 0, st.push (.siter s 0))
  | .map _ _, .mnil => some (.ref st.next 0, st.push (.iter none 0 [] 0))
  | .map _ _, .map id => match st.objs.get id with
    | some (.map _ c) => some (.ref st.next 0, st.push (.iter (some id) c [] c))
    | _ => none
  | _, _ => none
/-- What a walk may come to next: all outcomes. -/
def nextOp (st : St) (it : AV) (str : Bool) : Option (List (AV × St)) :=
  match it with
  | .ref r 0 => match st.objs.get r, str with
    | some (.siter s pos), true => some [cond (Nat.blt pos s.length)
        ((fun (c, width) => (.tuple [.bool true, .int .i64 pos, .int .i32 c], st.put r (.siter s (pos + width)))) (Utf8.decode ⟨s.toArray⟩ pos))
        (.tuple [.bool false], st)]
    | some (.iter none _ _ _), false => some [(.tuple [.bool false], st)]
    | some (.iter (some m) since seen last), false => match st.objs.get m with
      | some (.map es clock) =>
        cond (!seen.isEmpty && !es.isEmpty && es.all fun e => Nat.ble last e.2.2) none <| some <|
        (fun left => (fun old new => cond old.isEmpty [(.tuple [.bool false], st)] [] ++ (old ++ new).map fun e => (.tuple [.bool true, e.1, e.2.1], st.put r (.iter (some m) since (seen ++ [e.2.2]) clock)))
          (left.filter fun e => Nat.blt e.2.2 since) (left.filter fun e => Nat.ble since e.2.2))
          (es.filter fun e => !(seen.any fun b => Nat.beq b e.2.2))
      | _ => none
    | _, _ => none
  | _ => none
def entryOp (st : St) (it : AV) : Option AV :=
  match it with
  | .ref r 0 => match st.objs.get r with
    | some (.iter (some m) _ seen last) => (seen.getLast?).bind fun b => match st.objs.get m with
      | some (.map es clock) => cond (Nat.beq clock last) ((es.find? fun e => Nat.beq e.2.2 b).bind fun e => some (.tuple [e.1, e.2.1])) none
      | _ => none
    | _ => none
  | _ => none
def copyOp (P : Program) (st : St) (argTypes : Array TypeId) (d s : AV) : Option (AV × St) :=
  match argTypes.toList with
  | [t, t'] => (P.underlying t).bind fun td => match td with
    | .slice elem => (size? P elem).bind fun sz => (lenOf d).bind fun dn => (addLen s).bind fun sn =>
      (appended P st t t' (min sn dn) sz s).bind fun cs => match d with
        | .sref id off _ sz' _ => cond (Nat.beq sz sz' && cs.all AV.one) ((storeCellsAt st (.ref id off) cs).bind fun st' => some (.int .i64 (min sn dn : Nat), st')) none
        | _ => cond (Nat.beq (min sn dn) 0) (some (.int .i64 0, st)) none
    | _ => none
  | _ => none
def clearOp (P : Program) (st : St) (t : TypeId) (x : AV) : Option St :=
  (P.underlying t).bind fun d => match d, x with
  | _, .mnil => some st
  | _, .snil => some st
  | .map _ _, .map id => match st.objs.get id with
    | some (.map _ c) => some (st.put id (.map [] c))
    | _ => none
  | .slice elem, .sref id off n sz _ => (size? P elem).bind fun sz' => (zero? P elem).bind fun z => cond (Nat.beq sz sz' && Nat.beq z.cells.length sz && z.cells.all AV.one)
      (cond (Nat.beq n 0) (some st) (storeCellsAt st (.ref id off) (repeatCells z.cells n))) none
  | .slice _, .sl _ _ n _ _ _ => cond (Nat.beq n 0) (some st) none
  | _, _ => none

/-- A slice of a slice by reference of which it is known how much room there is at least. -/
def sliceRoom (P : Program) (t : TypeId) (id off len sz' room : Nat) (low high max : Option AV) : Option AV :=
  (P.underlying t).bind fun d => match d with
  | .slice elem => (size? P elem).bind fun sz => cond (!Nat.beq sz sz' || !Nat.ble len room) none <| (bounds len room low high max).bind fun (l, h, m) =>
      cond (Nat.blt l m || Nat.beq l 0) (some (.sref id (off + l * sz) (h - l) sz (max.bind fun _ => some (m - l)))) (some .sempty)
  | _ => none
def sliceSt (P : Program) (st : St) (t : TypeId) (x : AV) (low high max : Option AV) : Option AV :=
  match x with
  | .sref id off len sz none => match st.objs.get id with
    | some (.cells _ _ cs) => sliceRoom P t id off len sz ((cs.length - off) / sz) low high max
    | some _ => sliceOp P t x low high max
    | none => none
  | _ => sliceOp P t x low high max
/-- An operand that may be left out, off a row of values. -/
def takeO : Option Operand → List AV → Option (Option AV × List AV)
  | none, r => some (none, r)
  | some _, a :: r => some (some a, r)
  | some _, [] => none
/-- What looks at the store alone, by its operands' values. -/
def readV (P : Program) (st : St) (op : Op) (vs : List AV) : Option AV :=
  match op, vs with
  | .load t _, [p] => loadAt P st t p
  | .lookup t _ _ ok, [m, k] => lookupOp P st t m k ok
  | .slice t _ lo hi mx, x :: r => (takeO lo r).bind fun a => (takeO hi a.2).bind fun b => (takeO mx b.2).bind fun c => sliceSt P st t x a.1 b.1 c.1
  | .call { callee := .builtin .len, argTypes, .. }, [m] => (argTypes[0]?).bind fun t => (P.underlying t).bind fun d => match d, m with
    | .map _ _, .mnil => some (.int .i64 0)
    | .map _ _, .map id => match st.objs.get id with
      | some (.map es _) => some (.int .i64 es.length)
      | _ => none
    | _, _ => none
  | .convert s d _, [v] => (P.underlying s).bind fun s => (P.underlying d).bind fun d => match s, d with
    | .pointer t, .unsafePointer => match v with
      | .nilp => some .nilp
      | .ref id off => match st.objs.get id with
        | some (.cells _ _ cs) => (size? P t).bind fun n => cond (Nat.blt off cs.length && !Nat.beq n 0) (some v) none
        | _ => none
      | _ => none
    | .unsafePointer, .pointer t => match v with
      | .nilp => some .nilp
      | .ref id off => match st.objs.get id with
        | some (.cells e true cs) => (size? P t).bind fun n => cond (!Nat.beq n 0 && liesAt P P.depth e (cs.length / P.cellsOf e) off t 1) (some v) none
        | _ => none
      | _ => none
    | .slice e, .string => (P.underlying e).bind fun ed => match ed with
      | .int .u8 => (lenOf v).bind fun n => (sliceCells st n v 1).bind fun cs => (bytesOf cs).bind fun l => some (.str l)
      | _ => none
    | _, _ => none
  | _, _ => none

/-- The bytes behind a pointer as a text; they are frozen from then on: the row is dead. -/
def unsafeStringOp (P : Program) (st : St) (argTypes : Array TypeId) (p : AV) (n : Int) : Option (AV × St) :=
  match argTypes.toList with
  | [pt, _] => cond (n == 0)
      (match p with
        | .nilp => some (.str [], st)
        | .ref .. => some (.str [], st)
        | _ => none)
      (match p with
        | .ref id 0 => match st.objs.get id with
          | some (.cells e _ cs) => (P.underlying pt).bind fun d => match d with
            | .pointer u => cond (Nat.beq u e && Nat.beq (P.cellsOf e) 1 && Nat.ble n.toNat cs.length && Nat.ble cs.length most && decide (0 < n)) ((bytesOf (cs.take n.toNat)).bind fun s => cond (s.length == n.toNat) (some (.str s, st.put id .dead)) none) none
            | _ => none
          | _ => none
        | _ => none)
  | _ => none

/-- What turns the store, or looks at much of it. -/
def effOp (P : Program) (byref : Bool) (ts : List AV) (st : St) (op : Op) : Option (AV × St) :=
  match op with
  | .store t a x => (opnd ts a).bind fun p => (opnd ts x).bind fun v => (storeAt P st t p v).bind fun st' => some (AV.undef, st')
  | .call { callee := .builtin .append, args, argTypes } => (opnds ts args.toList).bind fun vs => match vs with
    | [s, x] => appendOp P byref st argTypes s x
    | _ => none
  | .mapUpdate t x k v | .insert t x k v => (opnd ts x).bind fun m => (opnd ts k).bind fun k => (opnd ts v).bind fun v => (updateOp P st t m k v).bind fun st' => some (AV.undef, st')
  | .range t x => (opnd ts x).bind fun x => rangeOp P st t x
  | .entry x => (opnd ts x).bind fun x => (entryOp st x).bind fun v => some (v, st)
  | .call { callee := .builtin .delete, args, argTypes } => (opnds ts args.toList).bind fun vs => match vs with
    | [m, k] => (argTypes[0]?).bind fun t => (deleteOp P st t m k).bind fun st' => some (.tuple [], st')
    | _ => none
  | .call { callee := .builtin .clear, args, argTypes } => (opnds ts args.toList).bind fun vs => match vs with
    | [x] => (argTypes[0]?).bind fun t => (clearOp P st t x).bind fun st' => some (.tuple [], st')
    | _ => none
  | .call { callee := .builtin .copy, args, argTypes } => (opnds ts args.toList).bind fun vs => match vs with
    | [d, s] => copyOp P st argTypes d s
    | _ => none
  | .call { callee := .builtin .unsafeSliceData, args, .. } => (opnds ts args.toList).bind fun vs => match vs with
    | [.snil] => some (.nilp, st)
    | [.sref id off len _ _] => cond (Nat.beq len 0) none (some (.ref id off, st))
    | _ => none
  | .call { callee := .builtin .unsafeString, args, argTypes } => (opnds ts args.toList).bind fun vs => match vs with
    | [p, .int .i64 n] => unsafeStringOp P st argTypes p n
    | _ => none
  | .call { callee := .builtin .cap, args, argTypes } => (opnds ts args.toList).bind fun vs => match vs with
    | [.snil] => (argTypes[0]?).bind fun t => (P.underlying t).bind fun d => match d with
      | .slice _ => some (.int .i64 0, st)
      | _ => none
    | [.sl _ _ _ _ (some c) _] => (argTypes[0]?).bind fun t => (P.underlying t).bind fun d => match d with
      | .slice _ => some (.int .i64 c, st)
      | _ => none
    | [.sref _ _ _ _ (some c)] => (argTypes[0]?).bind fun t => (P.underlying t).bind fun d => match d with
      | .slice _ => some (.int .i64 c, st)
      | _ => none
    | _ => none
  | _ => none

/-- An operation that makes no call: its value, the store behind it. -/
def aop (C : Cfg) (f : FuncId) (ts : List AV) (st : St) (o : Oper) : Option (AV × St) :=
  match opKind C.P o.op with
  | .pure => (pureOp C.P ts o.op).bind fun v => some (v, st)
  | .load => (opnds ts o.op.operands.toList).bind fun vs => (readV C.P st o.op vs).bind fun v => some (v, st)
  | .mk => (mkOp C.P (C.byref f) ts o.op).bind fun (v, x) => some (v st.next, st.push x)
  | .eff => effOp C.P (C.byref f) ts st o.op

end Go.Ev
