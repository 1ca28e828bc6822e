/- The evaluator: operations, regions, code, calls. -/
import Derived.Test.YthodfojhbbendaaDoorEvA
set_option linter.all false
namespace Go.Ev

structure Cfg where
  P : Program
  /-- In these functions an append, or a slice that is written out, makes a block by reference. -/
  byref : FuncId → Bool

/-! ### Memory -/
def range? (cs : List AV) (off n : Nat) : Option (List AV) := cond (Nat.ble (off + n) cs.length) (some ((cs.drop off).take n)) none
def setRange (cs : List AV) (off : Nat) (vs : List AV) : List AV := cs.take off ++ vs ++ cs.drop (off + vs.length)

/-- What stands at an address: so many cells. -/
def readAt (st : St) (p : AV) (n : Nat) : Option (List AV) :=
  match p with
  | .ref id off => match st.objs.get id with
    | some (.cells cs) => range? cs off n
    | _ => none
  | .vptr cs => range? cs 0 n
  | _ => none

def shaped (isAgg : Bool) (cs : List AV) : Option AV :=
  match isAgg with
  | true => some (.agg cs)
  | false => match cs with
    | [c] => some c
    | _ => none

def loadAt (P : Program) (st : St) (t : TypeId) (p : AV) : Option AV :=
  (agg? P t).bind fun g => (size? P t).bind fun n => (readAt st p (cond g n 1)).bind fun cs => shaped g cs

def storeCellsAt (st : St) (p : AV) (vs : List AV) : Option St :=
  match p with
  | .ref id off => match st.objs.get id with
    | some (.cells cs) => cond (Nat.ble (off + vs.length) cs.length) (some (st.put id (.cells (setRange cs off vs)))) none
    | _ => none
  | _ => none

def storeAt (P : Program) (st : St) (t : TypeId) (p v : AV) : Option St :=
  (size? P t).bind fun n => cond (Nat.beq v.cells.length n && v.cells.all AV.one) (storeCellsAt st p v.cells) none

/-- An address so many cells on. -/
def shift (p : AV) (n : Nat) : Option AV :=
  match p with
  | .ref id off => some (.ref id (off + n))
  | .vptr cs => cond (Nat.ble n cs.length) (some (.vptr (cs.drop n))) none
  | .glob g off => some (.glob g (off + n))
  | _ => none

def partOf (P : Program) (t : TypeId) (cs : List AV) (off : Nat) : Option AV :=
  (agg? P t).bind fun g => match g with
    | true => (size? P t).bind fun n => (range? cs off n).bind fun l => some (.agg l)
    | false => cs[off]?

def fieldOf (P : Program) (s : TypeId) (i : Nat) : Option Field :=
  (P.underlying s).bind fun d => match d with
    | .struct fs => fs[i]?
    | _ => none

/-- A slice's cells, as many of its elements as are asked for. -/
def sliceCells (st : St) (n : Nat) (v : AV) (sz : Nat) : Option (List AV) :=
  match v with
  | .snil => cond (Nat.beq n 0) (some []) none
  | .sl _ _ len sz' _ cs => cond (Nat.ble n len && Nat.beq sz sz') (range? cs 0 (n * sz)) none
  | .sref id off _ _ => match st.objs.get id with
    | some (.cells cs) => range? cs off (n * sz)
    | _ => none
  | _ => none

def lenOf : AV → Option Nat
  | .snil => some 0
  | .sl _ _ n _ _ _ => some n
  | .sref _ _ n _ => some n
  | _ => none

/-- A new slice of these cells: the thing, the value by its number. -/
def newSlice (byref : Bool) (len sz : Nat) (cap : Option Nat) (cs : List AV) : (Nat → AV) × AObj :=
  match byref with
  | true => (fun id => .sref id 0 len cap, .cells cs)
  | false => (fun id => .sl id cs.length len sz cap cs, .tip cs.length)
def St.mk1 (st : St) (x : (Nat → AV) × AObj) : AV × St := (x.1 st.next, st.push x.2)

def most : Nat := 1073741824

def appendOp (P : Program) (byref : Bool) (st : St) (argTypes : Array TypeId) (s x : AV) : Option (AV × St) :=
  match argTypes.toList with
  | [t, t'] => cond (!Nat.beq t t') none <| (P.underlying t).bind fun d => match d with
    | .slice elem => (size? P elem).bind fun sz => (bytes? P elem).bind fun bs => (zero? P elem).bind fun z => (lenOf x).bind fun n => (sliceCells st n x sz).bind fun new =>
      cond (!(new.all AV.one && Nat.ble n most && Nat.ble bs 4096 && !Nat.beq sz 0 && Nat.beq z.cells.length sz)) none <|
      match s with
      | .snil => cond (Nat.beq n 0) (some (.snil, st)) (some (st.mk1 (newSlice byref n sz none new)))
      | .sl id e len sz' cap cs =>
        cond (Nat.beq n 0) (some (s, st)) <| cond (!(Nat.ble len most && Nat.beq sz sz')) none <|
        cond (cap.any fun c => Nat.blt c (len + n)) (some (st.mk1 (newSlice byref (len + n) sz none (cs ++ new)))) <|
        match st.objs.get id with
        | some (.tip h) => cond (Nat.beq h e && !byref) (some (.sl id (e + new.length) (len + n) sz cap (cs ++ new), st.put id (.tip (e + new.length)))) none
        | _ => none
      | .sref id off len cap =>
        cond (Nat.beq n 0) (some (s, st)) <| cond (!Nat.ble len most) none <|
        match cap with
        | some c => cond (Nat.ble (len + n) c)
            ((storeCellsAt st (.ref id (off + len * sz)) new).bind fun st' => some (.sref id off (len + n) cap, st'))
            ((sliceCells st len s sz).bind fun old => some (st.mk1 (newSlice true (len + n) sz none (old ++ new))))
        | none => none
      | _ => none
    | _ => none
  | _ => none

def intOf : AV → Option Int
  | .int _ n => some n
  | _ => none

/-- An index within a bound. -/
def within (x : AV) (n : Nat) : Option Nat :=
  (intOf x).bind fun i => match i with
    | .ofNat k => cond (Nat.ble k n) (some k) none
    | .negSucc _ => none

def optV (ts : List AV) : Option Operand → Option (Option AV)
  | none => some none
  | some x => (opnd ts x).bind fun v => some (some v)

/-- The bounds of a slice expression: low, high, max. -/
def mxOf (cap : Nat) : Option AV → Option Nat
  | some v => within v cap
  | none => some cap
def hiOf (len m : Nat) : Option AV → Option AV → Option Nat
  | some v, _ => within v m
  | none, none => some len
  | none, some _ => none
def loOf (h : Nat) : Option AV → Option Nat
  | some v => within v h
  | none => some 0
def bounds (len cap : Nat) (low high max : Option AV) : Option (Nat × Nat × Nat) :=
  (mxOf cap max).bind fun m => (hiOf len m high max).bind fun h => (loOf h low).bind fun l => some (l, h, m)

def sliceOp (P : Program) (t : TypeId) (x : AV) (low high max : Option AV) : Option AV :=
  (P.underlying t).bind fun d => match d, x with
  | .string, .str s => match max with
    | some _ => none
    | none => (bounds s.length s.length low high none).bind fun (l, h, _) => some (.str ((s.take h).drop l))
  | .slice elem, .snil => (size? P elem).bind fun _ => (bounds 0 0 low high max).bind fun _ => some .snil
  | .slice elem, .sl id e len sz' cap cs => (size? P elem).bind fun sz => cond (!Nat.beq sz sz') none <|
    match max with
    | none => (bounds len len low high none).bind fun (l, h, _) =>
        some (.sl id (e - (len - h) * sz) (h - l) sz (cap.bind fun c => some (c - l)) ((cs.take (h * sz)).drop (l * sz)))
    | some _ => (bounds len len low high max).bind fun (l, h, m) =>
        some (.sl id (e - (len - h) * sz) (h - l) sz (some (m - l)) ((cs.take (h * sz)).drop (l * sz)))
  | .slice elem, .sref id off len cap => (size? P elem).bind fun sz =>
    match cap with
    | some c => (bounds len c low high max).bind fun (l, h, m) => some (.sref id (cond (Nat.beq m l) off (off + l * sz)) (h - l) (some (m - l)))
    | none => (bounds len len low high max).bind fun (l, h, m) =>
        cond (Nat.beq l 0) (some (.sref id off (h - l) (max.bind fun _ => some (m - l)))) none
  | .array n elem, .ref id off => (size? P elem).bind fun sz => (bounds n n low high max).bind fun (l, h, m) =>
      some (.sref id (cond (Nat.beq m l) off (off + l * sz)) (h - l) (some (m - l)))
  | _, _ => none

def indexAddrOp (P : Program) (t : TypeId) (x ix : AV) : Option AV :=
  (P.underlying t).bind fun d => (intOf ix).bind fun i => match i with
  | .negSucc _ => none
  | .ofNat k => match d, x with
    | .slice elem, .sl _ _ len sz' _ cs => (size? P elem).bind fun sz => cond (Nat.blt k len && Nat.beq sz sz') (shift (.vptr cs) (k * sz)) none
    | .slice elem, .sref id off len _ => (size? P elem).bind fun sz => cond (Nat.blt k len) (some (.ref id (off + k * sz))) none
    | .array n elem, p => (size? P elem).bind fun sz => cond (Nat.blt k n) (shift p (k * sz)) none
    | _, _ => none

def indexOp (P : Program) (t : TypeId) (x ix : AV) : Option AV :=
  (P.underlying t).bind fun d => (intOf ix).bind fun i => match i with
  | .negSucc _ => none
  | .ofNat k => match d, x with
    | .string, .str s => (s[k]?).bind fun b => some (.int .u8 b.toNat)
    | .array n elem, .agg cs => (size? P elem).bind fun sz => cond (Nat.blt k n) (partOf P elem cs (k * sz)) none
    | _, _ => none

def fillAV (place : Nat → Option (Nat × Nat)) (cells : List AV) : List (Nat × AV) → Option (List AV)
  | [] => some cells
  | (i, v) :: rest => (place i).bind fun (off, sz) =>
    cond (Nat.beq v.cells.length sz && Nat.ble (off + sz) cells.length) (fillAV place (setRange cells off v.cells) rest) none

def parts? (ts : List AV) : List (Nat × Operand) → Option (List (Nat × AV))
  | [] => some []
  | (i, x) :: r => (opnd ts x).bind fun v => (parts? ts r).bind fun l => some ((i, v) :: l)

def repeatCells (z : List AV) : Nat → List AV
  | 0 => []
  | n + 1 => z ++ repeatCells z n

def buildOp (P : Program) (t : TypeId) (ps : List (Nat × AV)) : Option AV :=
  (zero? P t).bind fun z => (P.underlying t).bind fun d => match d with
  | .struct fs => (fs.toList.mapM (fun f => (P.info? f.type).map fun i => (f.offset, i.size))).bind fun places => (fillAV (fun i => places[i]?) z.cells ps).bind fun cs => some (.agg cs)
  | .array _ elem => (size? P elem).bind fun sz => (fillAV (fun i => some (i * sz, sz)) z.cells ps).bind fun cs => some (.agg cs)
  | _ => none

def buildSliceOp (P : Program) (byref : Bool) (t : TypeId) (len : Nat) (ps : List (Nat × AV)) : Option ((Nat → AV) × AObj) :=
  (P.underlying t).bind fun d => match d with
  | .slice elem => (size? P elem).bind fun sz => (zero? P elem).bind fun z =>
    cond (!(Nat.ble (len * sz) 16777216 && Nat.beq z.cells.length sz && !Nat.beq sz 0)) none <|
    (fillAV (fun i => some (i * sz, sz)) (repeatCells z.cells len) ps).bind fun cs => cond (cs.all AV.one) (some (newSlice byref len sz (some len) cs)) none
  | _ => none

def makeSliceOp (P : Program) (t : TypeId) (l c : AV) : Option ((Nat → AV) × AObj) :=
  (P.underlying t).bind fun d => match d with
  | .slice elem => (size? P elem).bind fun sz => (bytes? P elem).bind fun bs => (zero? P elem).bind fun z =>
    (intOf l).bind fun l => (intOf c).bind fun c => match l, c with
    | .ofNat l, .ofNat c => cond (Nat.ble l c && Nat.ble c most && Nat.ble bs 4096 && Nat.beq z.cells.length sz && !Nat.beq sz 0 && z.cells.all AV.one)
        (some (fun id => .sref id 0 l (some c), .cells (repeatCells z.cells c))) none
    | _, _ => none
  | _ => none

def bytesOf : List AV → Option (List UInt8)
  | [] => some []
  | .int .u8 n :: r => (bytesOf r).bind fun l => some (UInt8.ofNat n.toNat :: l)
  | _ => none

def convPure (d : TypeDesc) (x : AV) : Option AV :=
  match d, x with
  | .int k, .int _ n => some (.int k (k.wrap n))
  | .string, .str s => some (.str s)
  | _, _ => none

def binOpV (P : Program) (op : BinOp) (t : TypeId) (xo yo : Operand) (x y : AV) : Option AV :=
  match x, y with
  | .int k a, .int k' b => intOp op k a k' b
  | .str a, .str b => strOp op a b
  | .resi k m r lo hi, .int k' c => resOp op k m r lo hi k' c
  | x, y => (P.underlying t).bind fun d => (eqOne d xo yo x y).bind fun b => match op with
    | .eql => some (.bool b)
    | .neq => some (.bool (!b))
    | _ => none

def unOpV (op : UnOp) (x : AV) : Option AV :=
  match op, x with
  | .neg, .int k n => some (.int k (k.wrap (0 - n)))
  | .xor, .int k n => intOp .xor k (if k.signed then -1 else k.max) k n
  | .not, .bool b => some (.bool !b)
  | _, _ => none

def nilCheckOp (x : AV) : Option AV :=
  match x with
  | .ref .. => some x
  | .vptr _ => some x
  | .glob .. => some x
  | .func (.func _) _ _ => some x
  | .iface .. => some x
  | _ => none

inductive OpK where
  | pure
  | load
  | mk
  | eff

/-- What kind of operation: a value alone · a load · something new · all else. -/
def opKind (P : Program) (op : Op) : OpK :=
  match op with
  | .move _ | .assign _ | .pick .. | .build .. | .nilCheck _ | .binOp .. | .unOp .. | .makeInterface .. | .makeFunc .. | .slice .. | .fieldAddr .. | .field ..
  | .indexAddr .. | .index .. | .extract .. => .pure
  | .load .. => .load
  | .alloc _ | .box .. | .buildSlice .. | .makeSlice .. => .mk
  | .convert s d _ => match P.underlying s, P.underlying d with
    | some (.slice _), _ => .eff
    | _, some (.slice _) => .mk
    | _, _ => .pure
  | .call { callee := .builtin .len, .. } => .pure
  | _ => .eff

/-- A value alone. -/
def pureOp (P : Program) (ts : List AV) (op : Op) : Option AV :=
  match op with
  | .move x | .assign x => opnd ts x
  | .pick c a b => (opnd ts c).bind fun c => match c with
    | .bool true => opnd ts a
    | .bool false => opnd ts b
    | _ => none
  | .build t ps => (parts? ts ps.toList).bind fun ps => buildOp P t ps
  | .nilCheck x => (opnd ts x).bind nilCheckOp
  | .binOp op t x y _ => (opnd ts x).bind fun a => (opnd ts y).bind fun b => binOpV P op t x y a b
  | .unOp op _ x => (opnd ts x).bind fun a => unOpV op a
  | .convert s d x => (opnd ts x).bind fun v => (P.underlying s).bind fun _ => (P.underlying d).bind fun d => convPure d v
  | .makeInterface t x => (opnd ts x).bind fun v => (P.underlying t).bind fun d => match d with
    | .interface _ => none
    | _ => some (.iface t v)
  | .makeFunc fn first cap => (opnds ts first.toList).bind fun a => (opnds ts cap.toList).bind fun b => some (.func fn a b)
  | .slice t x lo hi mx => (opnd ts x).bind fun v => (optV ts lo).bind fun lo => (optV ts hi).bind fun hi => (optV ts mx).bind fun mx => sliceOp P t v lo hi mx
  | .fieldAddr s x i => (opnd ts x).bind fun p => (fieldOf P s i).bind fun fd => (size? P fd.type).bind fun n => cond (Nat.beq n 0) none (shift p fd.offset)
  | .field s x i => (opnd ts x).bind fun v => (fieldOf P s i).bind fun fd => match v with
    | .agg cs => partOf P fd.type cs fd.offset
    | _ => none
  | .indexAddr t x i => (opnd ts x).bind fun v => (opnd ts i).bind fun i => indexAddrOp P t v i
  | .index t x i => (opnd ts x).bind fun v => (opnd ts i).bind fun i => indexOp P t v i
  | .extract x i => (opnd ts x).bind fun v => match v with
    | .tuple vs => vs[i]?
    | _ => none
  | .call { args, argTypes, .. } => (opnds ts args.toList).bind fun vs => match vs with
    | [x] => (argTypes[0]?).bind fun t => (P.underlying t).bind fun d => match d, x with
      | .string, .str s => some (.int .i64 s.length)
      | .slice _, .snil => some (.int .i64 0)
      | .slice _, .sl _ _ n _ _ _ => some (.int .i64 n)
      | .slice _, .sref _ _ n _ => some (.int .i64 n)
      | _, _ => none
    | _ => none
  | _ => none

/-- Something new: the thing, and the value by its number. -/
def mkOp (P : Program) (byref : Bool) (ts : List AV) (op : Op) : Option ((Nat → AV) × AObj) :=
  match op with
  | .alloc t => (zero? P t).bind fun z => cond (z.cells.all AV.one) (some (fun id => .ref id 0, .cells z.cells)) none
  | .box _ x => (opnd ts x).bind fun v => cond (v.cells.all AV.one) (some (fun id => .ref id 0, .cells v.cells)) none
  | .buildSlice t n ps => (parts? ts ps.toList).bind fun ps => buildSliceOp P byref t n ps
  | .makeSlice t l c => (opnd ts l).bind fun l => (opnd ts c).bind fun c => makeSliceOp P t l c
  | .convert s d x => (opnd ts x).bind fun v => (P.underlying s).bind fun s => (P.underlying d).bind fun d => match s, d, v with
    | .string, .slice e, .str s => (P.underlying e).bind fun ed => match ed with
      | .int .u8 => cond (Nat.ble s.length most) (some (fun id => .sref id 0 s.length none, .cells (s.map fun b => .int .u8 b.toNat))) none
      | _ => none
    | _, _, _ => none
  | _ => none

/-- What turns the store, or looks at much of it. -/
def effOp (P : Program) (byref : Bool) (ts : List AV) (st : St) (op : Op) : Option (AV × St) :=
  match op with
  | .store t a x => (opnd ts a).bind fun p => (opnd ts x).bind fun v => (storeAt P st t p v).bind fun st' => some (AV.undef, st')
  | .call { callee := .builtin .append, args, argTypes } => (opnds ts args.toList).bind fun vs => match vs with
    | [s, x] => appendOp P byref st argTypes s x
    | _ => none
  | .convert s d x => (opnd ts x).bind fun v => (P.underlying s).bind fun s => (P.underlying d).bind fun d => match s, d with
    | .slice e, .string => (P.underlying e).bind fun ed => match ed with
      | .int .u8 => (lenOf v).bind fun n => (sliceCells st n v 1).bind fun cs => (bytesOf cs).bind fun l => some (.str l, st)
      | _ => none
    | _, _ => none
  | _ => none

/-- An operation that makes no call: its value, the store behind it. -/
def aop (C : Cfg) (f : FuncId) (ts : List AV) (st : St) (o : Oper) : Option (AV × St) :=
  match opKind C.P o.op with
  | .pure => (pureOp C.P ts o.op).bind fun v => some (v, st)
  | .load => match o.op with
    | .load t a => (opnd ts a).bind fun p => (loadAt C.P st t p).bind fun v => some (v, st)
    | _ => none
  | .mk => (mkOp C.P (C.byref f) ts o.op).bind fun (v, x) => some (v st.next, st.push x)
  | .eff => effOp C.P (C.byref f) ts st o.op

end Go.Ev
