/- SyntaxBlanks, part 1 of 10 of its proof (what is proved: whatever the text is, the law answers true; conditions: those each theorem states). Joined and shortened by a program. In order: EvA: Abstract values and stores, and the operations over them: a deterministic reading of the m | EvB: The evaluator: operations, regions, code, calls. | EvC: The evaluator: regions, code, calls. | EvD: What an abstract value says of a value in a world; how a world may go on. | EvE: Lists of values, rows of cells, the table, what holds of a world as a whole. | EvF: Births, stores and appends, told of the whole. | EvG: The operations that yield a value alone: what they say of the model's. | EvH: The operations that yield a value alone, one by one. -/
import Derived.Calls
import Derived.Defers
import Derived.Orders
import Derived.Below
import Derived.WalkKit
import Derived.Laws.IdiomCopy
import Derived.Laws.IdiomStrings
import Derived.RangeFuncRecord
import Derived.Laws.Tables
import Derived.Laws.StructEq
section
set_option linter.all false
namespace Go.Ev
inductive AV where
 | int (k:IntKind) (n:Int)
 | bool (b:Bool)
 | str (s:List UInt8)
 | yB
 | ref (id off:Nat)
 | CX (g off:Nat)
 | rA (cells:List AV)
 | aB
 | sl (id e len sz:Nat) (cap:Option Nat) (cells:List AV)
 | nJ (id off len sz:Nat) (cap:Option Nat)
 | rW
 | AN
 | map (id:Nat)
 | func (fn:Fn) (first captured:List AV)
 | yield (id:Nat)
 | DP
 | iface (t:TypeId) (v:AV)
 | tV
 | agg (cells:List AV)
 | tuple (vs:List AV)
 | xC (k:IntKind) (m:Nat) (r lo hi:Int)
 | Ey (ws:List (List UInt8)) (lo hi:Nat)
 | any
 | Kx (b off len cap:Nat)
 deriving Inhabited
def AV.undef:AV:=.tuple []
def AV.cells:AV→List AV
 | .agg cs=>cs
 | v=>[v]
def AV.one:AV→Bool
 | .agg _=>false
 | .tuple _=>false
 | _=>true
structure MY where
 state:LoopState
 pending:Option Code
 fn:FuncId
 tmps:List AV
 params:Array Tmp
 assign:Code
 body:Code
 defers:Nat
inductive hZ where
 | cells (t:TypeId) (full:Bool) (cs:List AV)
 | oE (n:Nat)
 | map (es:List (AV×AV×Nat)) (clock:Nat)
 | iter (m:Option Nat) (since:Nat) (seen:List Nat) (last:Nat)
 | B0 (s:List UInt8) (pos:Nat)
 | loop (l:MY)
 | LU
 | dead
instance:Inhabited hZ:=⟨.dead⟩
inductive Tr (α:Type) where
 | leaf
 | node (l:Tr α) (v:Option α) (r:Tr α)
namespace Tr
variable {α:Type}
def get:Tr α→Nat→Option α
 | .leaf,_=>none
 | .node l v r,n=>cond (Nat.beq n 0) v (cond (Nat.beq (n % 2) 1) (l.get (n / 2)) (r.get (n / 2 - 1)))
def single (a:α):Nat→Nat→Tr α
 | 0,_=>.node .leaf (some a) .leaf
 | f+1,n=>cond (Nat.beq n 0) (.node .leaf (some a) .leaf) (cond (Nat.beq (n % 2) 1) (.node (single a f (n / 2)) none .leaf) (.node .leaf none (single a f (n / 2 - 1))))
def set (a:α):Tr α→Nat→Tr α
 | .leaf,n=>single a n n
 | .node l v r,n=>cond (Nat.beq n 0) (.node l (some a) r) (cond (Nat.beq (n % 2) 1) (.node (l.set a (n / 2)) v r) (.node l v (r.set a (n / 2 - 1))))
end Tr
structure St where
 aS:Tr hZ
 next:Nat
 old:Nat→Nat→Option AV:=fun _ _=>none
def St.empty:St:=⟨.leaf,0,fun _ _=>none⟩
def St.push (s:St)(o:hZ):St:=⟨s.aS.set o s.next,s.next+1,s.old⟩
def St.put (s:St)(id:Nat)(o:hZ):St:=⟨s.aS.set o id,s.next,s.old⟩
def Bk:Value→Option AV
 | .int k n=>some (.int k n)
 | .bool b=>some (.bool b)
 | .string s=>some (.str s.data.toList)
 | .pointer none=>some .yB
 | .slice none 0 0=>some .aB
 | .map none=>some .AN
 | .nilFunc=>some .DP
 | .nilIface=>some .tV
 | _=>none
def A1:List Value→Option (List AV)
 | []=>some []
 | v :: vs=>(Bk v).bind fun a=>(A1 vs).bind fun a_=>some (a :: a_)
def ofConst:Value→Option AV
 | .agg cs=>(A1 cs.toList).bind fun l=>some (.agg l)
 | .tuple ⟨[]⟩=>some (.tuple [])
 | v=>Bk v
def cP (ts:List AV):Operand→Option AV
 | .tmp t=>some (ts.getD t AV.undef)
 | .const v=>ofConst v
 | .global g=>some (.CX g 0)
 | .func f=>some (.func (.func f) [] [])
def dA (ts:List AV):List Operand→Option (List AV)
 | []=>some []
 | x :: xs=>(cP ts x).bind fun a=>(dA ts xs).bind fun a_=>some (a :: a_)
def size? (P:Program)(t:TypeId):Option Nat:=(P.info? t).bind fun i=>some i.size
def uS (P:Program)(t:TypeId):Option AV:=(P.info? t).bind fun i=>i.zero.bind ofConst
def bytes? (P:Program)(t:TypeId):Option Nat:=(P.info? t).bind fun i=>some i.bytes
def LI (P:Program)(t:TypeId):Option Bool:=(P.underlying t).bind fun d=>match d with
 | .struct _=>some true
 | .array _ _=>some true
 | _=>some false
def strLt:List UInt8→List UInt8→Bool
 | _,[]=>false
 | [],_ :: _=>true
 | a :: x,b :: y=>Nat.blt a.toNat b.toNat || (Nat.beq a.toNat b.toNat && strLt x y)
def kG:List UInt8→List UInt8→Bool
 | [],[]=>true
 | a :: x,b :: y=>Nat.beq a.toNat b.toNat && kG x y
 | _,_=>false
def A3 (op:BinOp)(x y:List UInt8):Option AV:=
 match op with
 | .add=>cond (Nat.ble (x.length+y.length) 9223372036854775807) (some (.str (x ++ y))) none
 | .eql=>some (.bool (kG x y))
 | .neq=>some (.bool (!kG x y))
 | .lss=>some (.bool (strLt x y))
 | .leq=>some (.bool (strLt x y || kG x y))
 | .gtr=>some (.bool (!(strLt x y || kG x y)))
 | .geq=>some (.bool (!strLt x y))
 | _=>none
def pD (op : BinOp) (k : IntKind) (a : Int) (k' : IntKind) (b : Int) : Option AV :=
 match op with
 | .shl=>if b<0 then none else some (.int k (k.wrap (a * 2 ^ (min b.toNat k.bits))))
 | .shr=>if b<0 then none else some (.int k (a.fdiv (2 ^ (min b.toNat k.bits))))
 | op => if k ≠ k' then none else match op with
   | .add=>some (.int k (k.wrap (a+b)))
   | .sub=>some (.int k (k.wrap (a - b)))
   | .mul=>some (.int k (k.wrap (a * b)))
   | .quo=>if b=0 then none else some (.int k (k.wrap (a.tdiv b)))
   | .rem=>if b=0 then none else some (.int k (a.tmod b))
   | .and=>some (.int k (k.wrap ((BitVec.ofInt k.bits a &&& BitVec.ofInt k.bits b).toNat)))
   | .or=>some (.int k (k.wrap ((BitVec.ofInt k.bits a ||| BitVec.ofInt k.bits b).toNat)))
   | .xor=>some (.int k (k.wrap ((BitVec.ofInt k.bits a ^^^ BitVec.ofInt k.bits b).toNat)))
   | .andNot=>some (.int k (k.wrap ((BitVec.ofInt k.bits a &&& ~~~ BitVec.ofInt k.bits b).toNat)))
   | .eql=>some (.bool (a == b))
   | .neq=>some (.bool (a != b))
   | .lss=>some (.bool (a<b))
   | .leq=>some (.bool (a≤b))
   | .gtr=>some (.bool (a>b))
   | .geq=>some (.bool (a≥b))
   | _=>none
def FV (op:BinOp)(k:IntKind)(m:Nat)(r lo hi:Int)(k':IntKind)(c:Int):Option AV:=
 match op with
 | .rem=>if k=k'∧0<c then(if m % c.toNat=0 then(if 0≤lo then some (.int k (r % c)) else some (.xC k c.toNat (r % c) (1 - c) (c - 1))) else(if 0≤lo then some (.xC k 1 0 0 (c - 1)) else some (.xC k 1 0 (1 - c) (c - 1)))) else none
 | .add=>if k=k'∧k.min≤lo+c∧hi+c≤k.max∧0<m then some (.xC k m ((r+c) % m) (lo+c) (hi+c)) else none
 | .and=>if k=k'∧0≤c∧c.toNat+1=2 ^ (c.toNat+1).log2∧(c.toNat+1).log2<31∧32≤k.bits then(if m % (c.toNat+1)=0 then some (.int k (r % (c+1))) else some (.xC k 1 0 0 c)) else none
 | .shr=>if 0≤c∧c.toNat≤k.bits∧m % 2 ^ c.toNat=0∧0<m then some (.xC k (m / 2 ^ c.toNat) (r / 2 ^ c.toNat) (lo.fdiv (2 ^ c.toNat)) (hi.fdiv (2 ^ c.toNat))) else none
 | .or=>if k=k'∧k.signed=false∧0≤c∧c≤k.max then some (.xC k 1 0 c k.max) else none
 | .sub=>if k=k'∧k.min≤lo - c∧hi - c≤k.max∧0<m then some (.xC k m ((r - c) % m) (lo - c) (hi - c)) else none
 | .lss=>if k=k' then(if hi<c then some (.bool true) else if c≤lo then some (.bool false) else none) else none
 | .leq=>if k=k' then(if hi≤c then some (.bool true) else if c<lo then some (.bool false) else none) else none
 | .gtr=>if k=k' then(if c<lo then some (.bool true) else if hi≤c then some (.bool false) else none) else none
 | .geq=>if k=k' then(if c≤lo then some (.bool true) else if hi<c then some (.bool false) else none) else none
 | .eql=>if k=k' then(if hi<c∨c<lo then some (.bool false) else none) else none
 | .neq=>if k=k' then(if hi<c∨c<lo then some (.bool true) else none) else none
 | _=>none
def J5:BinOp→Option BinOp
 | .add=>some .add
 | .and=>some .and
 | .or=>some .or
 | .eql=>some .eql
 | .neq=>some .neq
 | .lss=>some .gtr
 | .leq=>some .geq
 | .gtr=>some .lss
 | .geq=>some .leq
 | _=>none
def G7 (k:IntKind)(m:Nat)(r lo hi:Int):AV:=
 if k.min≤lo∧hi≤k.max then .xC k m r lo hi else if 2 ^ k.bits % m=0 then .xC k m r k.min k.max else .xC k 1 0 k.min k.max
def Cm (op : BinOp) (ws : List (List UInt8)) (lo hi : Nat) (s : List UInt8) : Option AV :=
 cond (ws.any (fun w=>kG w s) || Nat.blt s.length lo || Nat.blt hi s.length) (match op with
  | .eql=>some (.bool false)
  | .neq=>some (.bool true)
  | _=>none) none
def D8 (d : TypeDesc) (xo yo : Operand) (x y : AV) : Option Bool :=
 match d,x,y with
 | .bool,.bool a,.bool b=>some (a == b)
 | .pointer _,.yB,.yB=>some true
 | .pointer _,.yB,.ref _ _=>some false
 | .pointer _,.ref _ _,.yB=>some false
 | .pointer _,.yB,.rA _=>some false
 | .pointer _,.rA _,.yB=>some false
 | .slice _,.aB,.aB=>some true
 | .slice _,.aB,.sl ..=>some false
 | .slice _,.sl ..,.aB=>some false
 | .slice _,.aB,.nJ ..=>some false
 | .slice _,.nJ ..,.aB=>some false
 | .slice _,.aB,.Kx ..=>some false
 | .slice _,.Kx ..,.aB=>some false
 | .slice _,.aB,.rW=>some false
 | .slice _,.rW,.aB=>some false
 | .map _ _,.AN,.AN=>some true
 | .map _ _,.AN,.map _=>some false
 | .map _ _,.map _,.AN=>some false
 | .func _ _ _,.DP,.DP=>some true
 | .func _ _ _,.DP,.func ..=>some false
 | .func _ _ _,.func ..,.DP=>some false
 | .interface _, .tV, .tV => match xo, yo with
   | .const _,_=>some true
   | _,.const _=>some true
   | _,_=>none
 | .interface _,.tV,.iface ..=>some false
 | .interface _,.iface ..,.tV=>some false
 | _,_,_=>none
end Go.Ev
end
section
set_option linter.all false
namespace Go.Ev
structure zV where
 P:Program
 bU:FuncId→Bool
 Bi:FuncId→List AV→St→Option (AV×St)
def range? (cs:List AV)(off n:Nat):Option (List AV):=cond (Nat.ble (off+n) cs.length) (some ((cs.drop off).take n)) none
def dK (cs:List AV)(off:Nat)(vs:List AV):List AV:=cs.take off ++ vs ++ cs.drop (off+vs.length)
def v7 (o:Nat→Nat→Option AV)(b off:Nat):Nat→Option (List AV)
 | 0=>some []
 | n+1=>(o b off).bind fun a=>cond a.one ((v7 o b (off+1) n).bind fun l=>some (a :: l)) none
def tH (st : St) (p : AV) (n : Nat) : Option (List AV) :=
 match p with
 | .ref id off => match st.aS.get id with
   | some (.cells _ _ cs)=>range? cs off n
   | _=>none
 | .rA cs=>range? cs 0 n
 | .CX g off=>v7 st.old g off n
 | _=>none
def shaped (isAgg : Bool) (cs : List AV) : Option AV :=
 match isAgg with
 | true=>some (.agg cs)
 | false => match cs with
   | [c]=>some c
   | _=>none
def loadAt (P:Program)(st:St)(t:TypeId)(p:AV):Option AV:=
 (LI P t).bind fun g=>(size? P t).bind fun n=>(tH st p (cond g n 1)).bind fun cs=>shaped g cs
def iJ (st : St) (p : AV) (vs : List AV) : Option St :=
 match p with
 | .ref id off => match st.aS.get id with
   | some (.cells t u cs)=>cond (Nat.ble (off+vs.length) cs.length) (some (st.put id (.cells t u (dK cs off vs)))) none
   | _=>none
 | _=>none
def storeAt (P:Program)(st:St)(t:TypeId)(p v:AV):Option St:=
 (size? P t).bind fun n=>cond (Nat.beq v.cells.length n && v.cells.all AV.one) (iJ st p v.cells) none
def shift (p:AV)(n:Nat):Option AV:=
 match p with
 | .ref id off=>some (.ref id (off+n))
 | .rA cs=>cond (Nat.ble n cs.length) (some (.rA (cs.drop n))) none
 | .CX g off=>some (.CX g (off+n))
 | _=>none
def partOf (P : Program) (t : TypeId) (cs : List AV) (off : Nat) : Option AV :=
 (LI P t).bind fun g=>match g with
  | true=>(size? P t).bind fun n=>(range? cs off n).bind fun l=>some (.agg l)
  | false=>cs[off]?
def DX (P : Program) (s : TypeId) (i : Nat) : Option Field :=
 (P.underlying s).bind fun d=>match d with
  | .struct fs=>fs[i]?
  | _=>none
def fM (st : St) (n : Nat) (v : AV) (sz : Nat) : Option (List AV) :=
 match v with
 | .aB=>cond (Nat.beq n 0) (some []) none
 | .rW=>cond (Nat.beq n 0) (some []) none
 | .sl _ _ len sz' _ cs=>cond (Nat.ble n len && Nat.beq sz sz') (range? cs 0 (n * sz)) none
 | .nJ id off len sz' _ => match st.aS.get id with
   | some (.cells _ _ cs)=>cond (Nat.ble n len && Nat.beq sz sz') (range? cs off (n * sz)) none
   | _=>none
 | .Kx b off len _=>cond (Nat.ble n len) (v7 st.old b off (n * sz)) none
 | _=>none
def lenOf:AV→Option Nat
 | .aB=>some 0
 | .rW=>some 0
 | .sl _ _ n _ _ _=>some n
 | .nJ _ _ n _ _=>some n
 | .Kx _ _ n _=>some n
 | _=>none
def fP (bU:Bool)(t:TypeId)(len sz:Nat)(cap:Option Nat)(cs:List AV):(Nat→AV)×hZ:=
 match bU with
 | true=>(fun id=>.nJ id 0 len sz cap,.cells t (match cap with | some c=>Nat.beq c len | none=>false) cs)
 | false=>(fun id=>.sl id cs.length len sz cap cs,.oE cs.length)
def St.JM (st:St)(x:(Nat→AV)×hZ):AV×St:=(x.1 st.next,st.push x.2)
def iT:Nat:=1073741824
def sT (P : Program) (st : St) (t t' : TypeId) (n : Nat) (sz : Nat) (x : AV) : Option (List AV) :=
 match x with
 | .str s => (P.underlying t').bind fun d => match d with
   | .string=>cond (Nat.beq sz 1 && Nat.ble n s.length) (some ((s.take n).map fun b=>.int .u8 b.toNat)) none
   | _=>none
 | x=>cond (Nat.beq t t') (fM st n x sz) none
def AW:AV→Option Nat
 | .str s=>some s.length
 | x=>lenOf x
def bW (P : Program) (bU : Bool) (st : St) (argTypes : Array TypeId) (s x : AV) : Option (AV × St) :=
 match argTypes.toList with
 | [t, t'] => (P.underlying t).bind fun d => match d with
   | .slice elem => (size? P elem).bind fun sz => (bytes? P elem).bind fun bs => (uS P elem).bind fun z => (AW x).bind fun n => (sT P st t t' n sz x).bind fun new =>
     cond (!(new.all AV.one && Nat.ble n iT && Nat.ble bs 4096 && !Nat.beq sz 0 && Nat.beq z.cells.length sz)) none<|
     match s with
     | .aB=>cond (Nat.beq n 0) (some (.aB,st)) (some (st.JM (fP bU elem n sz none new)))
     | .sl id e len sz' cap cs =>
       cond (Nat.beq n 0) (some (s,st))<|cond (!(Nat.ble len iT && Nat.beq sz sz')) none<|
       cond (cap.any fun c=>Nat.blt c (len+n)) (some (st.JM (fP bU elem (len+n) sz none (cs ++ new))))<|
       match st.aS.get id with
       | some (.oE h)=>cond (Nat.beq h e && !bU) (some (.sl id (e+new.length) (len+n) sz cap (cs ++ new),st.put id (.oE (e+new.length)))) none
       | _=>none
     | .nJ id off len sz' cap =>
       cond (Nat.beq n 0) (some (s,st))<|cond (!(Nat.ble len iT && Nat.beq sz sz')) none<|
       match cap with
       | some c=>cond (Nat.ble (len+n) c)
        ((iJ st (.ref id (off+len * sz)) new).bind fun st'=>some (.nJ id off (len+n) sz cap,st'))
        ((fM st len s sz).bind fun old=>some (st.JM (fP true elem (len+n) sz none (old ++ new))))
       | none => match st.aS.get id with
         | some (.cells t0 _ cs) => cond (Nat.ble (off + (len + n) * sz) cs.length)
           ((iJ st (.ref id (off+len * sz)) new).bind fun st'=>some (.nJ id off (len+n) sz none,st'))
           (cond (Nat.beq off 0 && Nat.ble (len * sz) cs.length && Nat.beq t0 elem) (some ((st.put id .dead).JM (fP true elem (len+n) sz none (cs.take (len * sz) ++ new)))) none)
         | _=>none
     | _=>none
   | _=>none
 | _=>none
def intOf:AV→Option Int
 | .int _ n=>some n
 | _=>none
def within (x : AV) (n : Nat) : Option Nat :=
 (intOf x).bind fun i=>match i with
  | .ofNat k=>cond (Nat.ble k n) (some k) none
  | .negSucc _=>none
def DH (ts:List AV):Option Operand→Option (Option AV)
 | none=>some none
 | some x=>(cP ts x).bind fun v=>some (some v)
def Ao (cap:Nat):Option AV→Option Nat
 | some v=>within v cap
 | none=>some cap
def FO (len m:Nat):Option AV→Option AV→Option Nat
 | some v,_=>within v m
 | none,none=>some len
 | none,some _=>none
def Gn (h:Nat):Option AV→Option Nat
 | some v=>within v h
 | none=>some 0
def bounds (len cap:Nat)(low high max:Option AV):Option (Nat×Nat×Nat):=
 (Ao cap max).bind fun m=>(FO len m high max).bind fun h=>(Gn h low).bind fun l=>some (l,h,m)
def rF (P : Program) (t : TypeId) (x : AV) (low high max : Option AV) : Option AV :=
 (P.underlying t).bind fun d=>match d,x with
 | .string, .str s => match max with
   | some _=>none
   | none=>(bounds s.length s.length low high none).bind fun(l,h,_)=>some (.str ((s.take h).drop l))
 | .string, .Ey _ n _ => match max with
   | some _=>none
   | none=>(bounds n n low high none).bind fun(l,h,_)=>cond (high.isSome) (some (.Ey [] (h - l) (h - l))) none
 | .slice elem,.aB=>(size? P elem).bind fun _=>(bounds 0 0 low high max).bind fun _=>some .aB
 | .slice elem, .sl id e len sz' cap cs => (size? P elem).bind fun sz => cond (!Nat.beq sz sz') none <|
   match max with
   | none=>(bounds len len low high none).bind fun(l,h,_)=>
        some (.sl id (e - (len - h) * sz) (h - l) sz (cap.bind fun c=>some (c - l)) ((cs.take (h * sz)).drop (l * sz)))
   | some _=>(bounds len len low high max).bind fun(l,h,m)=>
        some (.sl id (e - (len - h) * sz) (h - l) sz (some (m - l)) ((cs.take (h * sz)).drop (l * sz)))
 | .slice elem, .nJ id off len sz' cap => (size? P elem).bind fun sz => cond (!Nat.beq sz sz') none <|
   match cap with
   | some c=>(bounds len c low high max).bind fun(l,h,m)=>some (.nJ id (cond (Nat.beq m l) off (off+l * sz)) (h - l) sz (some (m - l)))
   | none=>(bounds len len low high max).bind fun(l,h,m)=>
        cond (Nat.blt l m || Nat.beq l 0) (some (.nJ id (off+l * sz) (h - l) sz (max.bind fun _=>some (m - l)))) (some .rW)
 | .slice elem,.Kx b off len c=>(size? P elem).bind fun sz=>(bounds len c low high max).bind fun(l,h,m)=>some (.Kx b (cond (Nat.beq m l) off (off+l * sz)) (h - l) (m - l))
 | .array n elem,.ref id off=>(size? P elem).bind fun sz=>cond (Nat.beq sz 0) none<|(bounds n n low high max).bind fun(l,h,m)=>
  some (.nJ id (cond (Nat.beq m l) off (off+l * sz)) (h - l) sz (some (m - l)))
 | _,_=>none
def cV (P : Program) (t : TypeId) (x ix : AV) : Option AV :=
 (P.underlying t).bind fun d=>(intOf ix).bind fun i=>match i with
 | .negSucc _=>none
 | .ofNat k => match d, x with
   | .slice elem,.sl _ _ len sz' _ cs=>(size? P elem).bind fun sz=>cond (Nat.blt k len && Nat.beq sz sz') (shift (.rA cs) (k * sz)) none
   | .slice elem,.nJ id off len sz' _=>(size? P elem).bind fun sz=>cond (Nat.blt k len && Nat.beq sz sz') (some (.ref id (off+k * sz))) none
   | .slice elem,.Kx b off len _=>(size? P elem).bind fun sz=>cond (Nat.blt k len) (some (.CX b (off+k * sz))) none
   | .array n elem,p=>(size? P elem).bind fun sz=>cond (Nat.blt k n) (shift p (k * sz)) none
   | _,_=>none
def CJ (P : Program) (t : TypeId) (x ix : AV) : Option AV :=
 (P.underlying t).bind fun d=>(intOf ix).bind fun i=>match i with
 | .negSucc _=>none
 | .ofNat k => match d, x with
   | .string,.str s=>(s[k]?).bind fun b=>some (.int .u8 b.toNat)
   | .array n elem,.agg cs=>(size? P elem).bind fun sz=>cond (Nat.blt k n) (partOf P elem cs (k * sz)) none
   | _,_=>none
def p8 (place : Nat → Option (Nat × Nat)) (cells : List AV) : List (Nat × AV) → Option (List AV)
 | []=>some cells
 | (i, v) :: rest => (place i).bind fun (off, sz) =>
   cond (Nat.beq v.cells.length sz && Nat.ble (off+sz) cells.length) (p8 place (dK cells off v.cells) rest) none
def pZ (ts:List AV):List (Nat×Operand)→Option (List (Nat×AV))
 | []=>some []
 | (i,x) :: r=>(cP ts x).bind fun v=>(pZ ts r).bind fun l=>some ((i,v) :: l)
def dC (z:List AV):Nat→List AV
 | 0=>[]
 | n+1=>z ++ dC z n
def Bt (P:Program)(t:TypeId)(ps:List (Nat×AV)):Option AV:=
 (uS P t).bind fun z=>(P.underlying t).bind fun d=>match d with
 | .struct fs=>(fs.toList.mapM (fun f=>(P.info? f.type).map fun i=>(f.offset,i.size))).bind fun places=>(p8 (fun i=>places[i]?) z.cells ps).bind fun cs=>some (.agg cs)
 | .array _ elem=>(size? P elem).bind fun sz=>(p8 (fun i=>some (i * sz,sz)) z.cells ps).bind fun cs=>some (.agg cs)
 | _=>none
def aU (P : Program) (bU : Bool) (t : TypeId) (len : Nat) (ps : List (Nat × AV)) : Option ((Nat → AV) × hZ) :=
 (P.underlying t).bind fun d=>match d with
 | .slice elem => (size? P elem).bind fun sz => (uS P elem).bind fun z =>
   cond (!(Nat.ble (len * sz) 16777216 && Nat.beq z.cells.length sz && !Nat.beq sz 0)) none<|
   (p8 (fun i=>some (i * sz,sz)) (dC z.cells len) ps).bind fun cs=>cond (cs.all AV.one) (some (fP bU elem len sz (some len) cs)) none
 | _=>none
def sR (P : Program) (t : TypeId) (l c : AV) : Option ((Nat → AV) × hZ) :=
 (P.underlying t).bind fun d=>match d with
 | .slice elem => (size? P elem).bind fun sz => (bytes? P elem).bind fun bs => (uS P elem).bind fun z =>
   (intOf l).bind fun l=>(intOf c).bind fun c=>match l,c with
   | .ofNat l,.ofNat c=>cond (Nat.ble l c && Nat.ble c iT && Nat.ble bs 4096 && Nat.beq z.cells.length sz && !Nat.beq sz 0 && z.cells.all AV.one)
        (some (fun id=>.nJ id 0 l sz (some c),.cells elem true (dC z.cells c))) none
   | _,_=>none
 | _=>none
def bytesOf:List AV→Option (List UInt8)
 | []=>some []
 | .int .u8 n :: r=>(bytesOf r).bind fun l=>some (UInt8.ofNat n.toNat :: l)
 | _=>none
def EK (d:TypeDesc)(x:AV):Option AV:=
 match d,x with
 | .int k,.int _ n=>some (.int k (k.wrap n))
 | .int k,.xC _ m r lo hi=>some (G7 k m r lo hi)
 | .string,.str s=>some (.str s)
 | _,_=>none
def Cg (d : TypeDesc) (x y : AV) : Option Bool :=
 match d,x,y with
 | .int _,.int k a,.int k' b=>cond (k == k') (some (a == b)) none
 | .int _, .xC k m r lo hi, .int k' c => match FV .eql k m r lo hi k' c with
   | some (.bool b)=>some b
   | _=>none
 | .int _, .int k' c, .xC k m r lo hi => match FV .eql k m r lo hi k' c with
   | some (.bool b)=>some b
   | _=>none
 | .string,.str a,.str b=>some (kG a b)
 | .string, .Ey ws lo hi, .str s => match Cm .eql ws lo hi s with
   | some (.bool b)=>some b
   | _=>none
 | .string, .str s, .Ey ws lo hi => match Cm .eql ws lo hi s with
   | some (.bool b)=>some b
   | _=>none
 | .bool,.bool a,.bool b=>some (a == b)
 | d,x,y=>D8 d (.tmp 0) (.tmp 0) x y
def uM (P : Program) (E : TypeId → AV → AV → Option Bool) (xs ys : List AV) : List Field → Option Bool
 | []=>some true
 | f :: fs => cond (f.name == "_") (uM P E xs ys fs) ((partOf P f.type xs f.offset).bind fun a => (partOf P f.type ys f.offset).bind fun b => (E f.type a b).bind fun r => match r with
   | true=>uM P E xs ys fs
   | false=>some false)
def PV (P : Program) : Nat → TypeId → AV → AV → Option Bool
 | 0,_,_,_=>none
 | n + 1, t, x, y => (P.underlying t).bind fun d => match d, x, y with
   | .struct fs,.agg xs,.agg ys=>cond (P.stoodInHeld t) none (uM P (PV P n) xs ys fs.toList)
   | d,x,y=>Cg d x y
def Nk (P:Program)(t:TypeId)(x y:AV):Option Bool:=PV P 20 t x y
def yS (P : Program) (op : BinOp) (t : TypeId) (xo yo : Operand) (x y : AV) : Option AV :=
 match x,y with
 | .int k a,.int k' b=>pD op k a k' b
 | .str a,.str b=>A3 op a b
 | .xC k m r lo hi,.int k' c=>FV op k m r lo hi k' c
 | .int k' c,.xC k m r lo hi=>(J5 op).bind fun op'=>cond (k == k') (FV op' k m r lo hi k' c) none
 | .Ey ws lo hi,.str s=>Cm op ws lo hi s
 | .str s,.Ey ws lo hi=>Cm op ws lo hi s
 | .agg xs, .agg ys => cond (P.eqGuardType P.depth t) none ((Nk P t (.agg xs) (.agg ys)).bind fun b => match op with
   | .eql=>some (.bool b)
   | .neq=>some (.bool (!b))
   | _=>none)
 | .ref i a, .ref j b => (P.underlying t).bind fun d => match d with
   | .pointer e => (size? P e).bind fun _ => cond (Nat.beq i j && Nat.beq a b) (match op with
     | .eql=>some (.bool true)
     | .neq=>some (.bool false)
     | _=>none) none
   | _=>none
 | .iface s u, .iface s' u' => (P.underlying t).bind fun d => match d with
   | .interface _ => (cond (!Nat.beq s s') (some false) ((P.info? s).bind fun i => cond (!i.comparable) none ((P.underlying s).bind fun ds => match ds with
     | .int _=>Cg ds u u'
     | .string=>Cg ds u u'
     | .bool=>Cg ds u u'
     | _ => none))).bind fun b => match op with
       | .eql=>some (.bool b)
       | .neq=>some (.bool (!b))
       | _=>none
   | _=>none
 | x, y => (P.underlying t).bind fun d => (D8 d xo yo x y).bind fun b => match op with
   | .eql=>some (.bool b)
   | .neq=>some (.bool (!b))
   | _=>none
def LY (op:UnOp)(x:AV):Option AV:=
 match op,x with
 | .neg,.int k n=>some (.int k (k.wrap (0 - n)))
 | .xor,.int k n=>pD .xor k (if k.signed then -1 else k.max) k n
 | .not,.bool b=>some (.bool !b)
 | _,_=>none
def aZ (x:AV):Option AV:=
 match x with
 | .ref ..=>some x
 | .rA _=>some x
 | .CX ..=>some x
 | .func (.func _) _ _=>some x
 | .iface ..=>some x
 | _=>none
inductive QG where
 | pure
 | load
 | mk
 | bM
def lW (P : Program) (op : Op) : QG :=
 match op with
 | .move _ | .assign _ | .pick .. | .build .. | .nilCheck _ | .binOp .. | .unOp .. | .makeInterface .. | .makeFunc .. | .fieldAddr .. | .field ..
 | .indexAddr .. | .index .. | .extract .. | .typeAssert ..=>.pure
 | .load .. | .lookup ..=>.load
 | .slice t .. => match P.underlying t with
   | some (.slice _)=>.load
   | _=>.pure
 | .alloc _ | .box .. | .buildSlice .. | .makeSlice .. | .makeMap ..=>.mk
 | .convert s d _ => match P.underlying s, P.underlying d with
   | some (.slice _),_=>.load
   | some .unsafePointer,_=>.load
   | _,some .unsafePointer=>.load
   | _,some (.slice _)=>.mk
   | _,_=>.pure
 | .call { callee := .builtin .len, argTypes, .. } => match (argTypes[0]?).bind P.underlying with
   | some (.map _ _)=>.load
   | _=>.pure
 | .call { callee:=.builtin .min,.. } | .call { callee:=.builtin .max,.. }=>.pure
 | _=>.bM
def EB (P : Program) (t : TypeId) (ok : Bool) (v : AV) : Option AV :=
 (P.underlying t).bind fun d=>match d,v with
  | .interface _,_=>none
  | _,.iface u w=>cond (Nat.beq u t) (some (cond ok (.tuple [w,.bool true]) w)) (cond ok ((uS P t).bind fun z=>some (.tuple [z,.bool false])) none)
  | _,.tV=>cond ok ((uS P t).bind fun z=>some (.tuple [z,.bool false])) none
  | _,_=>none
def gN (P : Program) (ts : List AV) (op : Op) : Option AV :=
 match op with
 | .move x | .assign x=>cP ts x
 | .pick c a b => (cP ts c).bind fun c => match c with
   | .bool true=>cP ts a
   | .bool false=>cP ts b
   | _=>none
 | .build t ps=>(pZ ts ps.toList).bind fun ps=>Bt P t ps
 | .nilCheck x=>(cP ts x).bind aZ
 | .binOp op t x y _=>(cP ts x).bind fun a=>(cP ts y).bind fun b=>yS P op t x y a b
 | .unOp op _ x=>(cP ts x).bind fun a=>LY op a
 | .convert s d x=>(cP ts x).bind fun v=>(P.underlying s).bind fun _=>(P.underlying d).bind fun d=>EK d v
 | .makeInterface t x => (cP ts x).bind fun v => (P.underlying t).bind fun d => match d with
   | .interface _=>none
   | _=>some (.iface t v)
 | .makeFunc fn first cap=>(dA ts first.toList).bind fun a=>(dA ts cap.toList).bind fun b=>some (.func fn a b)
 | .slice t x lo hi mx=>(cP ts x).bind fun v=>(DH ts lo).bind fun lo=>(DH ts hi).bind fun hi=>(DH ts mx).bind fun mx=>rF P t v lo hi mx
 | .fieldAddr s x i=>(cP ts x).bind fun p=>(DX P s i).bind fun fd=>(size? P fd.type).bind fun n=>cond (Nat.beq n 0) none (shift p fd.offset)
 | .field s x i => (cP ts x).bind fun v => (DX P s i).bind fun fd => match v with
   | .agg cs=>partOf P fd.type cs fd.offset
   | _=>none
 | .indexAddr t x i=>(cP ts x).bind fun v=>(cP ts i).bind fun i=>cV P t v i
 | .index t x i=>(cP ts x).bind fun v=>(cP ts i).bind fun i=>CJ P t v i
 | .extract x i => (cP ts x).bind fun v => match v with
   | .tuple vs=>vs[i]?
   | _=>none
 | .typeAssert x _ t ok=>(cP ts x).bind fun v=>EB P t ok v
 | .call { callee := .builtin .min, args, .. } => (dA ts args.toList).bind fun vs => match vs with
   | [.int k x,.int k' y]=>cond (k == k') (some (.int k (if y<x then y else x))) none
   | [.str x,.str y]=>some (.str (cond (strLt x y || kG x y) x y))
   | _=>none
 | .call { callee := .builtin .max, args, .. } => (dA ts args.toList).bind fun vs => match vs with
   | [.int k x,.int k' y]=>cond (k == k') (some (.int k (if y>x then y else x))) none
   | [.str x,.str y]=>some (.str (cond (!strLt x y) x y))
   | _=>none
 | .call { args, argTypes, .. } => (dA ts args.toList).bind fun vs => match vs with
   | [x] => (argTypes[0]?).bind fun t => (P.underlying t).bind fun d => match d, x with
     | .string,.str s=>some (.int .i64 s.length)
     | .string,.Ey _ lo hi=>some (.xC .i64 1 0 lo hi)
     | .slice _,.aB=>some (.int .i64 0)
     | .slice _,.rW=>some (.int .i64 0)
     | .slice _,.sl _ _ n _ _ _=>some (.int .i64 n)
     | .slice _,.nJ _ _ n _ _=>some (.int .i64 n)
     | .slice _,.Kx _ _ n _=>some (.int .i64 n)
     | _,_=>none
   | _=>none
 | _=>none
def B4 (P : Program) (bU : Bool) (ts : List AV) (op : Op) : Option ((Nat → AV) × hZ) :=
 match op with
 | .alloc t=>(uS P t).bind fun z=>cond (z.cells.all AV.one) (some (fun id=>.ref id 0,.cells t true z.cells)) none
 | .box t x=>(cP ts x).bind fun v=>cond (v.cells.all AV.one) (some (fun id=>.ref id 0,.cells t true v.cells)) none
 | .buildSlice t n ps=>(pZ ts ps.toList).bind fun ps=>aU P bU t n ps
 | .makeSlice t l c=>(cP ts l).bind fun l=>(cP ts c).bind fun c=>sR P t l c
 | .makeMap t r => match r with
   | none=>some (fun id=>.map id,.map [] 0)
   | some x => (cP ts x).bind fun v => (intOf v).bind fun _ => (P.underlying t).bind fun d => match d with
     | .map _ _=>some (fun id=>.map id,.map [] 0)
     | _=>none
 | .convert s d x => (cP ts x).bind fun v => (P.underlying s).bind fun s => (P.underlying d).bind fun d => match s, d, v with
   | .string, .slice e, .str s => (P.underlying e).bind fun ed => match ed with
     | .int .u8=>cond (Nat.ble s.length iT) (some (fun id=>.nJ id 0 s.length 1 none,.cells e false (s.map fun b=>.int .u8 b.toNat))) none
     | _=>none
   | _,_,_=>none
 | _=>none
def Cr (P : Program) (t : TypeId) (k : AV) : List (AV × AV × Nat) → Nat → Option (Option (Nat × AV))
 | [],_=>some none
 | (k', v, _) :: es, i => (Nk P t k k').bind fun b => match b with
   | true=>some (some (i,v))
   | false=>Cr P t k es (i+1)
def DB (P : Program) : Nat → TypeId → AV → Bool
 | 0,_,_=>false
 | n + 1, t, x => match P.underlying t, x with
   | some (.int _),_=>true
   | some .string,_=>true
   | some .bool,_=>true
   | some (.struct fs), .agg xs => fs.toList.all fun f => f.name == "_" || (match partOf P f.type xs f.offset with
     | some y=>DB P n f.type y
     | none=>false)
   | _,_=>false
def setAt (es:List (AV×AV×Nat))(i:Nat)(k v:AV):List (AV×AV×Nat):=es.modify i fun e=>(k,v,e.2.2)
def DS:AV→AV→Bool
 | .int k a,.int k' b=>k == k' && a == b
 | .str a,.str b=>kG a b
 | .bool a,.bool b=>a == b
 | _,_=>false
def Af:List AV→List AV→Bool
 | [],[]=>true
 | a :: l,b :: m=>DS a b && Af l m
 | _,_=>false
def sameKey:AV→AV→Bool
 | .agg a,.agg b=>Af a b
 | x,y=>DS x y
def Fe (P:Program)(t:TypeId)(x:AV):Option (TypeId×TypeId):=(P.underlying t).bind fun d=>match d with
 | .map k e=>cond (DB P 5 k x) (some (k,e)) none
 | _=>none
def xV (P : Program) (st : St) (t : TypeId) (m k : AV) (ok : Bool) : Option AV :=
 (Fe P t k).bind fun (kt, et) => (match m with
  | .AN=>some []
  | .map id => match st.aS.get id with
    | some (.map es _)=>some es
    | _=>none
  | _ => none).bind fun es => (Cr P kt k es 0).bind fun r => match r with
    | some (_,v)=>some (cond ok (.tuple [v,.bool true]) v)
    | none=>(uS P et).bind fun z=>some (cond ok (.tuple [z,.bool false]) z)
def Eb (P : Program) (st : St) (t : TypeId) (m k v : AV) : Option St :=
 (Fe P t k).bind fun (kt, _) => match m with
  | .map id => match st.aS.get id with
    | some (.map es c) => (Cr P kt k es 0).bind fun r => match r with
      | some (i,_)=>cond ((es[i]?).any fun e=>sameKey e.1 k) (some (st.put id (.map (setAt es i k v) c))) none
      | none=>some (st.put id (.map (es ++ [(k,v,c)]) (c+1)))
    | _=>none
  | _=>none
def F7 (P : Program) (st : St) (t : TypeId) (m k : AV) : Option St :=
 (Fe P t k).bind fun (kt, _) => match m with
  | .AN=>some st
  | .map id => match st.aS.get id with
    | some (.map es c) => (Cr P kt k es 0).bind fun r => match r with
      | some (i,_)=>some (st.put id (.map (es.eraseIdx i) c))
      | none=>some (st.put id (.map es c))
    | _=>none
  | _=>none
def GJ (P : Program) (st : St) (t : TypeId) (x : AV) : Option (AV × St) :=
 (P.underlying t).bind fun d=>match d,x with
 | .string,.str s=>some (.ref st.next 0,st.push (.B0 s 0))
 | .map _ _,.AN=>some (.ref st.next 0,st.push (.iter none 0 [] 0))
 | .map _ _, .map id => match st.aS.get id with
   | some (.map _ c)=>some (.ref st.next 0,st.push (.iter (some id) c [] c))
   | _=>none
 | _,_=>none
def J3 (st : St) (it : AV) (str : Bool) : Option (List (AV × St)) :=
 match it with
 | .ref r 0 => match st.aS.get r, str with
   | some (.B0 s pos),true=>some [cond (Nat.blt pos s.length)
        ((fun(c,width)=>(.tuple [.bool true,.int .i64 pos,.int .i32 c],st.put r (.B0 s (pos+width)))) (Utf8.decode ⟨s.toArray⟩ pos))
        (.tuple [.bool false],st)]
   | some (.iter none _ _ _),false=>some [(.tuple [.bool false],st)]
   | some (.iter (some m) since seen last), false => match st.aS.get m with
     | some (.map es clock) =>
       cond (!seen.isEmpty && !es.isEmpty && es.all fun e=>Nat.ble last e.2.2) none<|some<|
       (fun left=>(fun old new=>cond old.isEmpty [(.tuple [.bool false],st)] [] ++ (old ++ new).map fun e=>(.tuple [.bool true,e.1,e.2.1],st.put r (.iter (some m) since (seen ++ [e.2.2]) clock)))
        (left.filter fun e=>Nat.blt e.2.2 since) (left.filter fun e=>Nat.ble since e.2.2))
        (es.filter fun e=>!(seen.any fun b=>Nat.beq b e.2.2))
     | _=>none
   | _,_=>none
 | _=>none
def GX (st : St) (it : AV) : Option AV :=
 match it with
 | .ref r 0 => match st.aS.get r with
   | some (.iter (some m) _ seen last) => (seen.getLast?).bind fun b => match st.aS.get m with
     | some (.map es clock)=>cond (Nat.beq clock last) ((es.find? fun e=>Nat.beq e.2.2 b).bind fun e=>some (.tuple [e.1,e.2.1])) none
     | _=>none
   | _=>none
 | _=>none
def Iw (P : Program) (st : St) (argTypes : Array TypeId) (d s : AV) : Option (AV × St) :=
 match argTypes.toList with
 | [t, t'] => (P.underlying t).bind fun td => match td with
   | .slice elem => (size? P elem).bind fun sz => (lenOf d).bind fun dn => (AW s).bind fun sn =>
     (sT P st t t' (min sn dn) sz s).bind fun cs=>match d with
        | .nJ id off _ sz' _=>cond (Nat.beq sz sz' && cs.all AV.one) ((iJ st (.ref id off) cs).bind fun st'=>some (.int .i64 (min sn dn:Nat),st')) none
        | _=>cond (Nat.beq (min sn dn) 0) (some (.int .i64 0,st)) none
   | _=>none
 | _=>none
def Gm (P : Program) (st : St) (t : TypeId) (x : AV) : Option St :=
 (P.underlying t).bind fun d=>match d,x with
 | _,.AN=>some st
 | _,.aB=>some st
 | .map _ _, .map id => match st.aS.get id with
   | some (.map _ c)=>some (st.put id (.map [] c))
   | _=>none
 | .slice elem,.nJ id off n sz _=>(size? P elem).bind fun sz'=>(uS P elem).bind fun z=>cond (Nat.beq sz sz' && Nat.beq z.cells.length sz && z.cells.all AV.one)
  (cond (Nat.beq n 0) (some st) (iJ st (.ref id off) (dC z.cells n))) none
 | .slice _,.sl _ _ n _ _ _=>cond (Nat.beq n 0) (some st) none
 | _,_=>none
def Cb (P:Program)(t:TypeId)(id off len sz' room:Nat)(low high max:Option AV):Option AV:=
 (P.underlying t).bind fun d=>match d with
 | .slice elem=>(size? P elem).bind fun sz=>cond (!Nat.beq sz sz' || !Nat.ble len room) none<|(bounds len room low high max).bind fun(l,h,m)=>
  cond (Nat.blt l m || Nat.beq l 0) (some (.nJ id (off+l * sz) (h - l) sz (max.bind fun _=>some (m - l)))) (some .rW)
 | _=>none
def Da (P : Program) (st : St) (t : TypeId) (x : AV) (low high max : Option AV) : Option AV :=
 match x with
 | .nJ id off len sz none => match st.aS.get id with
   | some (.cells _ _ cs)=>Cb P t id off len sz ((cs.length - off) / sz) low high max
   | some _=>rF P t x low high max
   | none=>none
 | _=>rF P t x low high max
def D3:Option Operand→List AV→Option (Option AV×List AV)
 | none,r=>some (none,r)
 | some _,a :: r=>some (some a,r)
 | some _,[]=>none
def tO (P : Program) (st : St) (op : Op) (vs : List AV) : Option AV :=
 match op,vs with
 | .load t _,[p]=>loadAt P st t p
 | .lookup t _ _ ok,[m,k]=>xV P st t m k ok
 | .slice t _ lo hi mx,x :: r=>(D3 lo r).bind fun a=>(D3 hi a.2).bind fun b=>(D3 mx b.2).bind fun c=>Da P st t x a.1 b.1 c.1
 | .call { callee := .builtin .len, argTypes, .. }, [m] => (argTypes[0]?).bind fun t => (P.underlying t).bind fun d => match d, m with
   | .map _ _,.AN=>some (.int .i64 0)
   | .map _ _, .map id => match st.aS.get id with
     | some (.map es _)=>some (.int .i64 es.length)
     | _=>none
   | _,_=>none
 | .convert s d _, [v] => (P.underlying s).bind fun s => (P.underlying d).bind fun d => match s, d with
   | .pointer t, .unsafePointer => match v with
     | .yB=>some .yB
     | .ref id off => match st.aS.get id with
       | some (.cells _ _ cs)=>(size? P t).bind fun n=>cond (Nat.blt off cs.length && !Nat.beq n 0) (some v) none
       | _=>none
     | _=>none
   | .unsafePointer, .pointer t => match v with
     | .yB=>some .yB
     | .ref id off => match st.aS.get id with
       | some (.cells e true cs)=>(size? P t).bind fun n=>cond (!Nat.beq n 0 && liesAt P P.depth e (cs.length / P.cellsOf e) off t 1) (some v) none
       | _=>none
     | _=>none
   | .slice e, .string => (P.underlying e).bind fun ed => match ed with
     | .int .u8=>(lenOf v).bind fun n=>(fM st n v 1).bind fun cs=>(bytesOf cs).bind fun l=>some (.str l)
     | _=>none
   | _,_=>none
 | _,_=>none
def uW (P : Program) (st : St) (argTypes : Array TypeId) (p : AV) (n : Int) : Option (AV × St) :=
 match argTypes.toList with
 | [pt, _] => cond (n == 0)
  (match p with
        | .yB=>some (.str [],st)
        | .ref ..=>some (.str [],st)
        | _=>none)
  (match p with
        | .ref id 0 => match st.aS.get id with
          | some (.cells e _ cs) => (P.underlying pt).bind fun d => match d with
            | .pointer u=>cond (Nat.beq u e && Nat.beq (P.cellsOf e) 1 && Nat.ble n.toNat cs.length && Nat.ble cs.length iT && decide (0<n)) ((bytesOf (cs.take n.toNat)).bind fun s=>cond (s.length == n.toNat) (some (.str s,st.put id .dead)) none) none
            | _=>none
          | _=>none
        | _=>none)
 | _=>none
def sW (P : Program) (bU : Bool) (ts : List AV) (st : St) (op : Op) : Option (AV × St) :=
 match op with
 | .store t a x=>(cP ts a).bind fun p=>(cP ts x).bind fun v=>(storeAt P st t p v).bind fun st'=>some (AV.undef,st')
 | .call { callee := .builtin .append, args, argTypes } => (dA ts args.toList).bind fun vs => match vs with
   | [s,x]=>bW P bU st argTypes s x
   | _=>none
 | .mapUpdate t x k v | .insert t x k v=>(cP ts x).bind fun m=>(cP ts k).bind fun k=>(cP ts v).bind fun v=>(Eb P st t m k v).bind fun st'=>some (AV.undef,st')
 | .range t x=>(cP ts x).bind fun x=>GJ P st t x
 | .entry x=>(cP ts x).bind fun x=>(GX st x).bind fun v=>some (v,st)
 | .call { callee := .builtin .delete, args, argTypes } => (dA ts args.toList).bind fun vs => match vs with
   | [m,k]=>(argTypes[0]?).bind fun t=>(F7 P st t m k).bind fun st'=>some (.tuple [],st')
   | _=>none
 | .call { callee := .builtin .clear, args, argTypes } => (dA ts args.toList).bind fun vs => match vs with
   | [x]=>(argTypes[0]?).bind fun t=>(Gm P st t x).bind fun st'=>some (.tuple [],st')
   | _=>none
 | .call { callee := .builtin .copy, args, argTypes } => (dA ts args.toList).bind fun vs => match vs with
   | [d,s]=>Iw P st argTypes d s
   | _=>none
 | .call { callee := .builtin .unsafeSliceData, args, .. } => (dA ts args.toList).bind fun vs => match vs with
   | [.aB]=>some (.yB,st)
   | [.nJ id off len _ _]=>cond (Nat.beq len 0) none (some (.ref id off,st))
   | _=>none
 | .call { callee := .builtin .unsafeString, args, argTypes } => (dA ts args.toList).bind fun vs => match vs with
   | [p,.int .i64 n]=>uW P st argTypes p n
   | _=>none
 | .call { callee := .builtin .cap, args, argTypes } => (dA ts args.toList).bind fun vs => match vs with
   | [.aB] => (argTypes[0]?).bind fun t => (P.underlying t).bind fun d => match d with
     | .slice _=>some (.int .i64 0,st)
     | _=>none
   | [.sl _ _ _ _ (some c) _] => (argTypes[0]?).bind fun t => (P.underlying t).bind fun d => match d with
     | .slice _=>some (.int .i64 c,st)
     | _=>none
   | [.nJ _ _ _ _ (some c)] => (argTypes[0]?).bind fun t => (P.underlying t).bind fun d => match d with
     | .slice _=>some (.int .i64 c,st)
     | _=>none
   | _=>none
 | _=>none
def Df (C:zV)(f:FuncId)(ts:List AV)(st:St)(o:Oper):Option (AV×St):=
 match lW C.P o.op with
 | .pure=>(gN C.P ts o.op).bind fun v=>some (v,st)
 | .load=>(dA ts o.op.operands.toList).bind fun vs=>(tO C.P st o.op vs).bind fun v=>some (v,st)
 | .mk=>(B4 C.P (C.bU f) ts o.op).bind fun(v,x)=>some (v st.next,st.push x)
 | .bM=>sW C.P (C.bU f) ts st o.op
end Go.Ev
end
section
set_option linter.all false
namespace Go.Ev
inductive nU where
 | call (fn:FuncId) (args:List AV)
 | mark (id:Nat)
structure Fr where
 ts:List AV
 ds:List nU
 st:St
inductive cZ where
 | normal
 | exit (id:Nat)
 | ret
def pU (ts:List AV)(dst:Option Tmp)(v:AV):List AV:=
 match dst with
 | some d=>ts.set d v
 | none=>ts
abbrev CK:=Bool→Nat→List AV→St→(Bool→AV→St→Bool)→Bool
def oP (ops : Array Oper) (ts : List AV) (o : Oper) : Option Bool :=
 match o.guard with
 | none=>some true
 | some (j, b) => match (ops[j]?).bind (·.dst) with
   | none=>none
   | some d => match ts.getD d AV.undef with
     | .bool c=>some (c == b)
     | .tuple _=>some false
     | _=>none
def methodOf (P : Program) (st : St) (t : TypeId) (v : AV) (name : String) : Option (FuncId × AV) :=
 (P.info? t).bind fun i=>(i.methods.find? fun m=>m.name == name).bind fun m=>cond m.path.isEmpty (m.func.bind fun(f,ptr)=>(P.underlying t).bind fun d=>match d,ptr with
  | .pointer _,true=>some (f,v)
  | .pointer e, false => (match v with
    | .ref _ _=>(loadAt P st e v).bind fun r=>some (f,r)
    | _=>none)
  | _,true=>none
  | _,false=>some (f,v)) none
def vX (C : zV) (ck : CK) (f : FuncId) (ro : Option Nat) (ts : List AV) (st : St) (o : Oper) (k : AV → List nU → St → Bool) : Bool :=
 match o.op with
 | .call { callee := .value x, args, .. } => match cP ts x, dA ts args.toList with
   | some (.func (.func g) first cap),some a_=>ck false g (first ++ a_ ++ cap) st fun _ v st'=>k v [] st'
   | some (.yield l),some a_=>ck true l a_ st fun _ v st'=>k v [] st'
   | _,_=>false
 | .call { callee := .invoke x name, args, .. } => match cP ts x, dA ts args.toList with
   | some (.iface t v), some a_ => match methodOf C.P st t v name with
     | some (g,r)=>ck false g (r :: a_) st fun _ v st'=>k v [] st'
     | none=>false
   | _,_=>false
 | .defer { callee := .value x, args, .. } => cond ro.isSome false <| match cP ts x, dA ts args.toList with
   | some (.func (.func g) first cap),some a_=>k AV.undef [.call g (first ++ a_ ++ cap)] st
   | _,_=>false
 | .next x s => match (cP ts x).bind fun x => J3 st x s with
   | some l=>l.all fun r=>k r.1 [] r.2
   | none=>false
 | _ => match Df C f ts st o with
   | some (v,st')=>k v [] st'
   | none=>false
def CM (C:zV)(ck:CK)(f:FuncId)(ro:Option Nat)(ops:Array Oper)(o:Oper)(fr:Fr)(k:Fr→Bool):Bool:=
 match oP ops fr.ts o with
 | some true=>vX C ck f ro fr.ts fr.st o fun v ds st'=>k ⟨pU fr.ts o.dst v,ds ++ fr.ds,st'⟩
 | some false=>k ⟨pU fr.ts o.dst AV.undef,fr.ds,fr.st⟩
 | none=>false
def yF (C:zV)(ck:CK)(f:FuncId)(ro:Option Nat)(ops:Array Oper):List Oper→Fr→(Fr→Bool)→Bool
 | [],fr,k=>k fr
 | o :: os,fr,k=>CM C ck f ro ops o fr fun fr'=>yF C ck f ro ops os fr' k
def effect (P:Program)(o:Oper):Bool:=
 match lW P o.op with
 | .bM=>true
 | _=>false
structure qC where
 i:Nat
 o:Oper
 bM:Bool
 Jq:Nat
def yZ (ops:List Oper)(mask:Nat)(i:Nat)(o:Oper):Bool:=
 !mask.testBit i && o.after.toList.all fun e=>!Region.binds .any e || mask.testBit e.on
def Ez (befs:List Nat)(o:Oper):Nat:=
 o.after.toList.foldl (fun s e=>if Region.binds .any e then s ||| 2 ^ e.on ||| befs.getD e.on 0 else s) 0
def Ch:List Oper→List Nat→List Nat
 | [],acc=>acc
 | o :: os,acc=>Ch os (acc ++ [Ez acc o])
def readies (ops:List Oper)(mask:Nat):List Oper→Nat→List (Nat×Oper)
 | [],_=>[]
 | o :: os,i=>cond (yZ ops mask i o) ((i,o) :: readies ops mask os (i+1)) (readies ops mask os (i+1))
def yO (P : Program) (ops : List Oper) (befs : List Nat) : Nat → Nat → Option (List qC)
 | 0, mask => match readies ops mask ops 0 with
   | []=>some []
   | _=>none
 | n + 1, mask =>
   let rs:=readies ops mask ops 0
   match rs.find? (fun r=>!effect P r.2),rs with
   | some (i,o),_=>(yO P ops befs n (mask ||| 2 ^ i)).bind fun l=>some (⟨i,o,false,befs.getD i 0⟩ :: l)
   | none,[]=>some []
   | none,[(i,o)]=>(yO P ops befs n (mask ||| 2 ^ i)).bind fun l=>some (⟨i,o,true,befs.getD i 0⟩ :: l)
   | none,_=>none
def zJ (ops:List Oper)(o:Oper):List Nat:=
 (o.op.operands.toList.filterMap fun | .tmp t=>some t | _=>none) ++
 (match o.guard with
  | some (g, _) => match (ops[g]?).bind (·.dst) with
    | some d=>[d]
    | none=>[]
  | none=>[])
def GK (l:List Nat)(n:Nat):Bool:=l.any fun m=>Nat.beq m n
def Ed (ops:List Oper)(a b:Oper):Bool:=
 (match a.dst with
  | some d=>GK (zJ ops b) d || (match b.dst with | some d'=>Nat.beq d d' | none=>false)
  | none=>false) ||
 (match b.dst with
  | some d=>GK (zJ ops a) d
  | none=>false)
def CE (ops:List Oper)(j:Nat)(oj:Oper)(Jq:Nat):List Oper→Nat→Bool
 | [],_=>true
 | o :: os,i=>(!(Nat.blt i j && Ed ops o oj) || Jq.testBit i) && CE ops j oj Jq os (i+1)
def C9 (ops:List Oper)(befs:List Nat):List Oper→Nat→Bool
 | [],_=>true
 | o :: os,j=>CE ops j o (befs.getD j 0) ops 0 && C9 ops befs os (j+1)
def KK (P:Program)(ops:Array Oper):Option (List qC):=
 let befs:=Ch ops.toList []
 cond (C9 ops.toList befs ops.toList 0) (yO P ops.toList befs ops.size 0) none
mutual
def AV.beq:AV→AV→Bool
 | .int k a,.int k' b=>k == k' && a == b
 | .bool a,.bool b=>a == b
 | .str a,.str b=>kG a b
 | .yB,.yB=>true
 | .ref i a,.ref j b=>Nat.beq i j && Nat.beq a b
 | .CX i a,.CX j b=>Nat.beq i j && Nat.beq a b
 | .rA a,.rA b=>AV.vG a b
 | .aB,.aB=>true
 | .rW,.rW=>true
 | .sl i e n z c a,.sl j d m z' c' b=>Nat.beq i j && Nat.beq e d && Nat.beq n m && Nat.beq z z' && c == c' && AV.vG a b
 | .nJ i a n z c,.nJ j b m z' c'=>Nat.beq i j && Nat.beq a b && Nat.beq n m && Nat.beq z z' && c == c'
 | .yield i,.yield j=>Nat.beq i j
 | .AN,.AN=>true
 | .map a,.map b=>Nat.beq a b
 | .func f a c,.func g b d=>f == g && AV.vG a b && AV.vG c d
 | .DP,.DP=>true
 | .iface t v,.iface u w=>Nat.beq t u && AV.beq v w
 | .tV,.tV=>true
 | .agg a,.agg b=>AV.vG a b
 | .tuple a,.tuple b=>AV.vG a b
 | _,_=>false
def AV.vG:List AV→List AV→Bool
 | [],[]=>true
 | a :: a_,b :: bs=>AV.beq a b && AV.vG a_ bs
 | _,_=>false
end
structure Rd where
 i:Nat
 op:Op
 vs:List AV
 v:AV
def NP (P : Program) (ts : List AV) (i : Nat) (o : Oper) (v : AV) : List Rd :=
 match lW P o.op with
 | .load => match dA ts o.op.operands.toList with
   | some vs=>[⟨i,o.op,vs,v⟩]
   | none=>[]
 | _=>[]
def GY (P:Program)(st:St)(r:Rd):Bool:=
 match tO P st r.op r.vs with
 | some v=>AV.beq v r.v
 | none=>false
def jP (C : zV) (ck : CK) (f : FuncId) (ro : Option Nat) (ops : Array Oper) : List qC → List Rd → Fr → (Fr → Bool) → Bool
 | [],_,fr,k=>k fr
 | s :: l, rd, fr, k => match oP ops fr.ts s.o with
   | none=>false
   | some false=>jP C ck f ro ops l rd ⟨pU fr.ts s.o.dst AV.undef,fr.ds,fr.st⟩ k
   | some true => match s.bM with
     | false => match Df C f fr.ts fr.st s.o with
       | some (v,st')=>jP C ck f ro ops l (NP C.P fr.ts s.i s.o v ++ rd) ⟨pU fr.ts s.o.dst v,fr.ds,st'⟩ k
       | none=>false
     | true => vX C ck f ro fr.ts fr.st s.o fun v ds st' =>
       let rd':=rd.filter fun r=>!s.Jq.testBit r.i
       cond (rd'.all (GY C.P st')) (jP C ck f ro ops l rd' ⟨pU fr.ts s.o.dst v,ds ++ fr.ds,st'⟩ k) false
def lO (body : Fr → (cZ → Fr → Bool) → Bool) : Nat → Fr → (cZ → Fr → Bool) → Bool
 | 0,_,_=>false
 | n + 1, fr, k => body fr fun e fr' => match e with
   | .normal=>lO body n fr' k
   | e=>k e fr'
def cZ.jump:cZ→Option Code
 | .normal=>none
 | .exit i=>some (.exit i)
 | .ret=>some .ret
def MG:Option Code→Option cZ
 | none=>some .normal
 | some (.exit i)=>some (.exit i)
 | some .ret=>some .ret
 | _=>none
def JC (f : FuncId) (ro : Option Nat) (ps : Array Tmp) (asg body : Code) (fr : Fr) : Option (Nat × List nU × St) :=
 match ro with
 | none=>some (fr.st.next+1,[.mark fr.st.next],(fr.st.push .LU).push (.loop ⟨.ready,none,f,fr.ts,ps,asg,body,fr.st.next⟩))
 | some l => match fr.st.aS.get l with
   | some (.loop r)=>some (fr.st.next,[],fr.st.push (.loop ⟨.ready,none,f,fr.ts,ps,asg,body,r.defers⟩))
   | _=>none
def Ci (st:St)(l:Nat):Option MY:=match st.aS.get l with
 | some (.loop r)=>some r
 | _=>none
def MW (st:St)(l:Nat):Option (cZ×St):=(Ci st l).bind fun r=>match r.state,MG r.pending with
 | .busy,_=>none
 | _,some x=>some (x,st.put l (.loop { r with state:=.exhausted }))
 | _,none=>none
def pR (P:Program)(g:FuncId):Bool:=match P.funcs[g]? with
 | some fn=>fn.body.isSome
 | none=>false
def bN (C : zV) (ck : CK) (f : FuncId) (rounds : Nat) (ro : Option Nat) : Code → Fr → (cZ → Fr → Bool) → Bool
 | .skip,fr,k=>k .normal fr
 | .region _ ops draw, fr, k => match draw with
   | false=>yF C ck f ro ops ops.toList fr fun fr'=>k .normal fr'
   | true => match KK C.P ops with
     | some l=>jP C ck f ro ops l [] fr fun fr'=>k .normal fr'
     | none=>false
 | .seq a b, fr, k => bN C ck f rounds ro a fr fun e fr' => match e with
   | .normal=>bN C ck f rounds ro b fr' k
   | e=>k e fr'
 | .cond c a b, fr, k => match cP fr.ts c with
   | some (.bool true)=>bN C ck f rounds ro a fr k
   | some (.bool false)=>bN C ck f rounds ro b fr k
   | _=>false
 | .block id b, fr, k => bN C ck f rounds ro b fr fun e fr' => match e with
   | .exit i=>cond (Nat.beq i id) (k .normal fr') (k (.exit i) fr')
   | e=>k e fr'
 | .loop b,fr,k=>lO (fun fr k=>bN C ck f rounds ro b fr k) rounds fr k
 | .exit id,fr,k=>k (.exit id) fr
 | .label _,fr,k=>k .normal fr
 | .scope b,fr,k=>bN C ck f rounds ro b fr k
 | .ret,fr,k=>k .ret fr
 | .rangeFunc g ps asg body, fr, k => match cP fr.ts g, JC f ro ps asg body fr with
   | some (.func (.func g) first cap), some (l, mark, st1) => cond (!pR C.P g) false <| ck false g (first ++ [.yield l] ++ cap) st1 fun _ _ st2 => match MW st2 l with
     | some (x,st3)=>k x ⟨fr.ts,mark ++ fr.ds,st3⟩
     | none=>false
   | _,_=>false
 | _,_,_=>false
def vP (P:Program)(ts:List AV)(st:St):ResultVar→Option AV
 | .tmp t=>some (ts.getD t AV.undef)
 | .cell a t=>loadAt P st t (ts.getD a AV.undef)
def oO (P:Program)(ts:List AV)(st:St):List ResultVar→Option (List AV)
 | []=>some []
 | r :: rs=>(vP P ts st r).bind fun v=>(oO P ts st rs).bind fun vs=>some (v :: vs)
def lH (ck : CK) : List nU → St → (St → Bool) → Bool
 | [],st,k=>k st
 | .mark id :: ds, st, k => match st.aS.get id with
   | some .LU=>lH ck ds (st.put id .dead) k
   | _=>false
 | .call f args :: ds,st,k=>ck false f args st fun plain _ st'=>cond plain (lH ck ds st' k) false
def IC (n:Nat)(args:List AV):List AV:=args ++ List.replicate (n - args.length) AV.undef
abbrev Ext:=FuncId→List AV→Option AV
def single:List AV→AV
 | [v]=>v
 | vs=>.tuple vs
def qY (P : Program) (ck : CK) (fn : Func) (fr : Fr) (k : Bool → AV → St → Bool) : Bool :=
 lH ck fr.ds fr.st fun st'=>match oO P fr.ts st' fn.results.toList with
  | some vs=>k fr.ds.isEmpty (single vs) st'
  | none=>false
def AH (ts:List AV):List Tmp→List AV→List AV
 | p :: ps,a :: a_=>AH (ts.set p a) ps a_
 | _,_=>ts
def JF (C : zV) (ck : CK) (rounds : Nat) (l : Nat) (args : List AV) (st : St) (k : Bool → AV → St → Bool) : Bool :=
 match Ci st l with
 | none=>false
 | some r => cond (!Nat.beq args.length r.params.size) false <|
   bN C ck r.fn rounds (some l) r.assign ⟨AH r.tmps r.params.toList args,[],st⟩ fun x fr=>match x with
   | .normal => match Ci fr.st l with
     | none=>false
     | some r1 => cond (!(r1.state == .ready) || !fr.ds.isEmpty) false <|
       bN C ck r.fn rounds (some l) r.body ⟨fr.ts,[],fr.st.put l (.loop { r1 with state:=.busy })⟩ fun x fr2=>cond (!fr2.ds.isEmpty) false<|match Ci fr2.st l with
       | none=>false
       | some r2 => match x with
         | .normal=>k false (.bool true) (fr2.st.put l (.loop { r2 with state:=.ready,pending:=none }))
         | x=>k false (.bool false) (fr2.st.put l (.loop { r2 with state:=.done,pending:=x.jump }))
   | _=>false
def aR (C : zV) (ext : Ext) (rounds : Nat) : Nat → CK
 | 0,_,_,_,_,_=>false
 | n+1,true,l,args,st,k=>JF C (aR C ext rounds n) rounds l args st k
 | n + 1, false, f, args, st, k => match ext f args with
   | some v=>k false v st
   | none => match C.Bi f args st with
     | some (v,st')=>k false v st'
     | none => match C.P.funcs[f]? with
       | none=>false
       | some fn => match fn.body with
         | none=>false
         | some c => cond (fn.name == "runtime.NumGoroutine") false <|
           bN C (aR C ext rounds n) f rounds none c ⟨IC fn.ntmps args,[],st⟩ fun e fr=>match e with
           | .exit _=>false
           | _=>qY C.P (aR C ext rounds n) fn fr k
end Go.Ev
end
section
set_option linter.all false
namespace Go.Ev
open Go.RowKit (Below)
structure Gh where
 β:Nat→Option (Nat×Nat×Nat)
 ext:Nat→Option (Nat×Nat×Nat)
mutual
def aW (G:Gh)(st:St)(w:World):AV→Value→Prop
 | .int k n,v=>v=.int k n
 | .bool b,v=>v=.bool b
 | .str s,v=>v=.string ⟨s.toArray⟩
 | .yB,v=>v=.pointer none
 | .ref id off,v=>∃ b k n,G.β id=some (b,k,n)∧v=.pointer (some ⟨b,off,none⟩)
 | .CX g off,v=>v=.pointer (some ⟨g,off,none⟩)
 | .rA cs,v=>∃ b off id m n,v=.pointer (some ⟨b,off,none⟩)∧G.ext b=some (id,m,n)∧off+cs.length≤m∧dZ G st w b off cs
 | .aB,v=>v=.slice none 0 0
 | .sl id e len sz cap cs,v=>∃ b off c m n,v=.slice (some ⟨b,off,none⟩) len c∧G.ext b=some (id,m,n)∧off+cs.length≤m ∧
  dZ G st w b off cs∧cs.length=len * sz∧0<sz∧len≤c∧(∀ k,cap=some k→c=k) ∧
  ∃ h,st.aS.get id=some (.oE h)∧e≤h∧cs.length≤e∧(h=e→len<c→off+cs.length=m∧off+c * sz≤n)
 | .nJ id off len sz cap,v=>∃ b k n c,G.β id=some (b,k,n)∧v=.slice (some ⟨b,off,none⟩) len c∧len≤c∧(∀ j,cap=some j→c=j)∧(cap=none→k≤off+c * sz∧off+c * sz≤n)∧0<sz
 | .rW,v=>∃ b off c,v=.slice (some ⟨b,off,none⟩) 0 c
 | .AN,v=>v=.map none
 | .map id,v=>∃ b k n,G.β id=some (b,k,n)∧v=.map (some b)
 | .func fn first cap,v=>∃ f c,v=.func fn f c∧aT G st w first f.toList∧aT G st w cap c.toList
 | .yield id,v=>∃ b k n,G.β id=some (b,k,n)∧v=.func (.yield b) #[] #[]
 | .DP,v=>v=.nilFunc
 | .iface t a,v=>∃ u,v=.iface t u∧aW G st w a u
 | .tV,v=>v=.nilIface
 | .agg cs,v=>∃ vs,v=.agg vs∧aT G st w cs vs.toList
 | .tuple cs,v=>∃ vs,v=.tuple vs∧aT G st w cs vs.toList
 | .xC k m r lo hi,v=>∃ n,v=.int k n∧n % (m:Int)=r∧lo≤n∧n≤hi
 | .Ey ws lo hi,v=>∃ s:List UInt8,v=.string ⟨s.toArray⟩∧(∀ x ∈ ws,s≠x)∧lo≤s.length∧s.length≤hi
 | .any,v=>v.oneCell'=true
 | .Kx b off len cap,v=>v=.slice (some ⟨b,off,none⟩) len cap∧len≤cap
def aT (G:Gh)(st:St)(w:World):List AV→List Value→Prop
 | [],l=>l=[]
 | a :: a_,l=>∃ v vs,l=v :: vs∧aW G st w a v∧aT G st w a_ vs
def dZ (G:Gh)(st:St)(w:World)(b off:Nat):List AV→Prop
 | []=>True
 | a :: a_=>(∃ v,w.cell? ⟨b,off,none⟩=some v∧aW G st w a v)∧dZ G st w b (off+1) a_
end
structure Le (G:Gh)(st:St)(w:World)(G':Gh)(st':St)(w':World):Prop where
 β:∀ id x,G.β id=some x→G'.β id=some x
 ext:∀ b id m n,G.ext b=some (id,m,n)→ ∃ m',m≤m'∧G'.ext b=some (id,m',n)
 cell:∀ b id m n off,G.ext b=some (id,m,n)→off<m→w'.cell? ⟨b,off,none⟩=w.cell? ⟨b,off,none⟩
 oE:∀ id h,st.aS.get id=some (.oE h)→(∃ b m n,G.ext b=some (id,m,n))→ ∃ h',h≤h'∧st'.aS.get id=some (.oE h') ∧
  (h'=h→ ∀ b m n,G.ext b=some (id,m,n)→G'.ext b=some (id,m,n))
 next:st.next≤st'.next
def Gh.lJ (G:Gh)(id:Nat):Prop:=G.β id=none∧ ∀ b m n,G.ext b≠some (id,m,n)
def rG (G:Gh)(st:St)(G':Gh)(st':St):Prop:=∀ id,id<st.next→G.lJ id→st'.aS.get id=st.aS.get id∧G'.lJ id
theorem rG.refl (G:Gh)(st:St):rG G st G st:=fun _ _ h=>⟨rfl,h⟩
theorem rG.trans {G G' G'':Gh}{st st' st'':St}(h:rG G st G' st')(hn:st.next≤st'.next)(k:rG G' st' G'' st''):rG G st G'' st'':=fun id hi hu=>by
 obtain⟨a1,a2⟩:=h id hi hu
 obtain⟨b1,b2⟩:=k id (Nat.lt_of_lt_of_le hi hn) a2
 exact⟨b1.trans a1,b2⟩
theorem Le.refl (G:Gh)(st:St)(w:World):Le G st w G st w:=
 ⟨fun _ _ h=>h,fun _ _ m _ h=>⟨m,Nat.le_refl _,h⟩,fun _ _ _ _ _ _ _=>rfl,fun _ h hh _=>⟨h,Nat.le_refl _,hh,fun _ _ _ _ k=>k⟩,Nat.le_refl _⟩
theorem Le.trans {G G' G'':Gh}{st st' st'':St}{w w' w'':World}(h:Le G st w G' st' w')(k:Le G' st' w' G'' st'' w''):Le G st w G'' st'' w'' where
 β id b hb:=k.β id b (h.β id b hb)
 ext b id m n he:=by
  obtain⟨m',h1,h2⟩:=h.ext b id m n he
  obtain⟨m'',h3,h4⟩:=k.ext b id m' n h2
  exact⟨m'',Nat.le_trans h1 h3,h4⟩
 cell b id m n off he ho:=by
  obtain⟨m',h1,h2⟩:=h.ext b id m n he
  rw[k.cell b id m' n off h2 (Nat.lt_of_lt_of_le ho h1),h.cell b id m n off he ho]
 oE id h0 ht hb:=by
  obtain⟨h',h1,h2,h3⟩:=h.oE id h0 ht hb
  obtain⟨b,m,n,he⟩:=hb
  obtain⟨m',_,he'⟩:=h.ext b id m n he
  obtain⟨h'',k1,k2,k3⟩:=k.oE id h' h2 ⟨b,m',n,he'⟩
  refine⟨h'',Nat.le_trans h1 k1,k2,fun e b m n hx=>?_⟩
  have e1:h'=h0:=by omega
  have e2:h''=h':=by omega
  exact k3 e2 b m n (h3 e1 b m n hx)
 next:=Nat.le_trans h.next k.next
section
variable {G G':Gh}{st st':St}{w w':World}
mutual
theorem aW.mono (L:Le G st w G' st' w'):∀(a:AV) (v:Value),aW G st w a v→aW G' st' w' a v
 | .int _ _,_,h=>by simpa only[aW] using h
 | .bool _,_,h=>by simpa only[aW] using h
 | .str _,_,h=>by simpa only[aW] using h
 | .yB,_,h=>by simpa only[aW] using h
 | .ref _ _, _, h => by
   simp only[aW] at h ⊢
   obtain⟨b,k,n,h1,h2⟩:=h
   exact⟨b,k,n,L.β _ _ h1,h2⟩
 | .CX _ _,_,h=>by simpa only[aW] using h
 | .rA cs, _, h => by
   simp only[aW] at h ⊢
   obtain⟨b,off,id,m,n,h1,h2,h3,h4⟩:=h
   obtain⟨m',k1,k2⟩:=L.ext b id m n h2
   exact⟨b,off,id,m',n,h1,k2,Nat.le_trans h3 k1,dZ.mono L b off m id n h2 cs h3 h4⟩
 | .aB,_,h=>by simpa only[aW] using h
 | .sl id e len sz cap cs, _, h => by
   simp only[aW] at h ⊢
   obtain⟨b,off,c,m,n,h1,h2,h3,h4,h5,h6,h7,h8,t,h9,h10,Mf,h12⟩:=h
   obtain⟨m',k1,k2⟩:=L.ext b id m n h2
   obtain⟨t',j1,j2,j3⟩:=L.oE id t h9 ⟨b,m,n,h2⟩
   refine⟨b,off,c,m',n,h1,k2,Nat.le_trans h3 k1,dZ.mono L b off m id n h2 cs h3 h4,h5,h6,h7,h8,t',j2,Nat.le_trans h10 j1,Mf,fun e1 e2=>?_⟩
   have e3:t'=t:=by omega
   have e4:=j3 e3 b m n h2
   rw[k2] at e4
   injection e4 with e4
   injection e4 with _ e4
   injection e4 with e4 _
   have:=h12 (by omega) e2
   omega
 | .nJ _ _ _ _ _, _, h => by
   simp only[aW] at h ⊢
   obtain⟨b,k,n,c,h1,h2⟩:=h
   exact⟨b,k,n,c,L.β _ _ h1,h2⟩
 | .rW,_,h=>by simpa only[aW] using h
 | .AN,_,h=>by simpa only[aW] using h
 | .map _, _, h => by
   simp only[aW] at h ⊢
   obtain⟨b,k,n,h1,h2⟩:=h
   exact⟨b,k,n,L.β _ _ h1,h2⟩
 | .yield _, _, h => by
   simp only[aW] at h ⊢
   obtain⟨b,k,n,h1,h2⟩:=h
   exact⟨b,k,n,L.β _ _ h1,h2⟩
 | .func _ first cap, _, h => by
   simp only[aW] at h ⊢
   obtain⟨f,c,h1,h2,h3⟩:=h
   exact⟨f,c,h1,aT.mono L first _ h2,aT.mono L cap _ h3⟩
 | .DP,_,h=>by simpa only[aW] using h
 | .iface _ a, _, h => by
   simp only[aW] at h ⊢
   obtain⟨u,h1,h2⟩:=h
   exact⟨u,h1,aW.mono L a u h2⟩
 | .tV,_,h=>by simpa only[aW] using h
 | .agg cs, _, h => by
   simp only[aW] at h ⊢
   obtain⟨u,h1,h2⟩:=h
   exact⟨u,h1,aT.mono L cs _ h2⟩
 | .tuple cs, _, h => by
   simp only[aW] at h ⊢
   obtain⟨u,h1,h2⟩:=h
   exact⟨u,h1,aT.mono L cs _ h2⟩
 | .xC ..,_,h=>by simpa only[aW] using h
 | .Ey ..,_,h=>by simpa only[aW] using h
 | .any,_,h=>by simpa only[aW] using h
 | .Kx ..,_,h=>by simpa only[aW] using h
theorem aT.mono (L:Le G st w G' st' w'):∀(a_:List AV) (vs:List Value),aT G st w a_ vs→aT G' st' w' a_ vs
 | [],_,h=>by simpa only[aT] using h
 | a :: a_, _, h => by
   simp only[aT] at h ⊢
   obtain⟨v,vs,h1,h2,h3⟩:=h
   exact⟨v,vs,h1,aW.mono L a v h2,aT.mono L a_ vs h3⟩
theorem dZ.mono (L:Le G st w G' st' w')(b off m id n:Nat)(hx:G.ext b=some (id,m,n)):∀(a_:List AV),off+a_.length≤m→dZ G st w b off a_→dZ G' st' w' b off a_
 | [],_,_=>by simp only[dZ]
 | a :: a_, hl, h => by
   simp only[dZ,List.length_cons] at h hl ⊢
   obtain⟨⟨v,h1,h2⟩,h3⟩:=h
   exact⟨⟨v,by rw[L.cell b id m n off hx (by omega)]; exact h1,aW.mono L a v h2⟩,dZ.mono L b (off+1) m id n hx a_ (by omega) h3⟩
end
end
def fX (G:Gh)(st:St)(w:World):List (AV×AV×Nat)→List MapEntry→Prop
 | [],l=>l=[]
 | (k,v,b) :: es,l=>∃ k' v' r,l=⟨k',v',b⟩ :: r∧aW G st w k k'∧aW G st w v v'∧fX G st w es r
theorem fX.mono {G G':Gh}{st st':St}{w w':World}(L:Le G st w G' st' w'):∀{es:List (AV×AV×Nat)} {l:List MapEntry},fX G st w es l→fX G' st' w' es l
 | [],_,h=>h
 | (k, v, b) :: es, _, h => by
   obtain⟨k',v',r,h1,h2,h3,h4⟩:=h
   exact⟨k',v',r,h1,aW.mono L _ _ h2,aW.mono L _ _ h3,fX.mono L h4⟩
def hZ.DD:hZ→Bool
 | .map _ _=>true
 | .iter ..=>true
 | .B0 _ _=>true
 | .loop _=>true
 | .LU=>true
 | _=>false
def oD (G:Gh)(st:St)(w:World):hZ→Obj→Prop
 | .map es c,o=>∃ es',o=.map es' c∧fX G st w es es'.toList
 | .iter none since seen last,o=>o=.mapIter none since seen.toArray last
 | .iter (some m) since seen last,o=>∃ b k n,o=.mapIter (some b) since seen.toArray last∧G.β m=some (b,k,n)
 | .B0 s pos,o=>o=.stringIter ⟨s.toArray⟩ pos
 | .loop l,o=>∃ tmps d k n g,o=.loop ⟨l.state,l.pending,g,tmps,l.params,l.assign,l.body,d⟩∧aT G st w l.tmps tmps.toList∧G.β l.defers=some (d,k,n)
 | .LU,o=>o=.deferred (some [])
 | _,_=>False
theorem oD.mono {G G':Gh}{st st':St}{w w':World}(L:Le G st w G' st' w'):∀{a:hZ} {o:Obj},oD G st w a o→oD G' st' w' a o
 | .map es c, _, h => by
   obtain⟨es',h1,h2⟩:=h
   exact⟨es',h1,fX.mono L h2⟩
 | .iter none _ _ _,_,h=>h
 | .iter (some m) _ _ _, _, h => by
   obtain⟨b,k,n,h1,h2⟩:=h
   exact⟨b,k,n,h1,L.β _ _ h2⟩
 | .B0 _ _,_,h=>h
 | .loop l, _, h => by
   obtain⟨tmps,d,k,n,g,h1,h2,h3⟩:=h
   exact⟨tmps,d,k,n,g,h1,aT.mono L _ _ h2,L.β _ _ h3⟩
 | .LU,_,h=>h
 | .cells _ _ _,_,h=>h
 | .oE _,_,h=>h
 | .dead,_,h=>h
theorem oD.DD {G:Gh}{st:St}{w:World}:∀{a:hZ} {o:Obj},oD G st w a o→a.DD=true
 | .map ..,_,_=>rfl
 | .iter none ..,_,_=>rfl
 | .iter (some _) ..,_,_=>rfl
 | .B0 ..,_,_=>rfl
 | .loop _,_,_=>rfl
 | .LU,_,_=>rfl
def Obj.JN:Obj→Prop
 | .cells ..=>False
 | _=>True
theorem oD.JN {G:Gh}{st:St}{w:World}:∀{a:hZ} {o:Obj},oD G st w a o→Obj.JN o
 | .map ..,_,h=>by obtain⟨_,rfl,_⟩:=h; trivial
 | .iter none ..,_,h=>by simp only[oD] at h; subst h; trivial
 | .iter (some _) ..,_,h=>by obtain⟨_,_,_,rfl,_⟩:=h; trivial
 | .B0 ..,_,h=>by simp only[oD] at h; subst h; trivial
 | .loop _,_,h=>by obtain⟨_,_,_,_,_,rfl,_⟩:=h; trivial
 | .LU,_,h=>by simp only[oD] at h; subst h; trivial
end Go.Ev
end
section
set_option linter.all false
namespace Go.Ev
open Go.RowKit (Below)
theorem iM {α:Type}(a b:Nat)(x y:α):cond (Nat.beq a b) x y=if a=b then x else y:=by
 by_cases h:a=b
 ·subst h; simp
 ·have:Nat.beq a b=false:=by
   cases hb:Nat.beq a b with
   | false=>rfl
   | true=>exact absurd (Nat.eq_of_beq_eq_true hb) h
  simp[this,h]
theorem El {α:Type}(a b:Nat)(x y:α):cond (Nat.ble a b) x y=if a≤b then x else y:=by
 by_cases h:a≤b
 ·simp[Nat.ble_eq_true_of_le h,h]
 ·have:Nat.ble a b=false:=by
   cases hb:Nat.ble a b with
   | false=>rfl
   | true=>exact absurd (Nat.le_of_ble_eq_true hb) h
  simp[this,h]
theorem bC {α:Type}{c:Bool}{x:Option α}{y:α}(h:cond c x none=some y):c=true∧x=some y:=by
 cases c
 ·cases h
 ·exact⟨rfl,h⟩
theorem fV {α:Type}{c:Bool}{x:Option α}{y:α}(h:cond c none x=some y):c=false∧x=some y:=by
 cases c
 ·exact⟨rfl,h⟩
 ·cases h
namespace Tr
variable {α:Type}
theorem B1 (a : α) : ∀ f n m, n ≤ f → (single a f n).get m = if m = n then some a else none
 | 0, n, m, h => by
   obtain rfl:n=0:=by omega
   simp only[single,get,iM]
   split <;> simp
 | f + 1, n, m, h => by
   simp only[single,iM]
   by_cases h0:n=0
   ·subst h0
    simp only[if_true,get,iM]
    split <;> simp
   ·rw[if_neg h0]
    by_cases h1:n % 2=1
    ·rw[if_pos h1]
     simp only[get,iM,B1 a f (n / 2) (m / 2) (by omega)]
     by_cases hm:m=0
     ·subst hm; rw[if_pos rfl,if_neg (by omega)]
     ·rw[if_neg hm]
      by_cases hm1:m % 2=1
      ·rw[if_pos hm1]
       by_cases e:m=n
       ·subst e; simp
       ·rw[if_neg e,if_neg (by omega)]
      ·rw[if_neg hm1,if_neg (by omega)]
    ·rw[if_neg h1]
     simp only[get,iM,B1 a f (n / 2 - 1) (m / 2 - 1) (by omega)]
     by_cases hm:m=0
     ·subst hm; rw[if_pos rfl,if_neg (by omega)]
     ·rw[if_neg hm]
      by_cases hm1:m % 2=1
      ·rw[if_pos hm1,if_neg (by omega)]
      ·rw[if_neg hm1]
       by_cases e:m=n
       ·subst e; simp
       ·rw[if_neg e,if_neg (by omega)]
theorem cH (a : α) : ∀ (t : Tr α) n m, (t.set a n).get m = if m = n then some a else t.get m
 | .leaf,n,m=>by simp only[set,get]; rw[B1 a n n m (Nat.le_refl _)]
 | .node l v r, n, m => by
   simp only[set,iM]
   by_cases h0:n=0
   ·subst h0
    simp only[if_true,get,iM]
    by_cases hm:m=0 <;> simp[hm]
   ·rw[if_neg h0]
    by_cases h1:n % 2=1
    ·rw[if_pos h1]
     simp only[get,iM,cH a l]
     by_cases hm:m=0
     ·subst hm; rw[if_pos rfl,if_pos rfl,if_neg (by omega)]
     ·rw[if_neg hm,if_neg hm]
      by_cases hm1:m % 2=1
      ·rw[if_pos hm1,if_pos hm1]
       by_cases e:m=n
       ·subst e; simp
       ·rw[if_neg e,if_neg (by omega)]
      ·rw[if_neg hm1,if_neg hm1,if_neg (by omega)]
    ·rw[if_neg h1]
     simp only[get,iM,cH a r]
     by_cases hm:m=0
     ·subst hm; rw[if_pos rfl,if_pos rfl,if_neg (by omega)]
     ·rw[if_neg hm,if_neg hm]
      by_cases hm1:m % 2=1
      ·rw[if_pos hm1,if_pos hm1,if_neg (by omega)]
      ·rw[if_neg hm1,if_neg hm1]
       by_cases e:m=n
       ·subst e; simp
       ·rw[if_neg e,if_neg (by omega)]
end Tr
section
variable {G:Gh}{st:St}{w:World}
theorem aT.nil:aT G st w [] []:=by simp[aT]
theorem aT.cons {a:AV}{v:Value}{a_:List AV}{vs:List Value}(h:aW G st w a v)(hs:aT G st w a_ vs):aT G st w (a :: a_) (v :: vs):=by
 simp only[aT]; exact⟨v,vs,rfl,h,hs⟩
theorem aT.cons_inv {a:AV}{a_:List AV}{vs:List Value}(h:aT G st w (a :: a_) vs):∃ v l,vs=v :: l∧aW G st w a v∧aT G st w a_ l:=by
 simpa only[aT] using h
theorem aT.gV {vs:List Value}(h:aT G st w [] vs):vs=[]:=by simpa only[aT] using h
theorem aT.length:∀{a_:List AV} {vs:List Value},aT G st w a_ vs→vs.length=a_.length
 | [],vs,h=>by rw[h.gV]; rfl
 | a :: a_, vs, h => by
   obtain⟨v,l,rfl,_,h⟩:=h.cons_inv
   simp[aT.length h]
theorem aT.get:∀{a_:List AV} {vs:List Value} {i:Nat} {a:AV},aT G st w a_ vs→a_[i]? =some a→ ∃ v,vs[i]? =some v∧aW G st w a v
 | [],vs,i,a,_,hi=>by simp at hi
 | b :: a_, vs, i, a, h, hi => by
   obtain⟨v,l,rfl,hv,h⟩:=h.cons_inv
   cases i with
   | zero=>simp at hi; subst hi; exact⟨v,by simp,hv⟩
   | succ i=>simp at hi; obtain⟨u,h1,h2⟩:=aT.get h hi; exact⟨u,by simpa using h1,h2⟩
theorem aT.drop:∀{a_:List AV} {vs:List Value} (n:Nat),aT G st w a_ vs→aT G st w (a_.drop n) (vs.drop n)
 | _,_,0,h=>by simpa using h
 | [],vs,n+1,h=>by rw[h.gV]; simpa using aT.nil
 | a :: a_, vs, n + 1, h => by
   obtain⟨v,l,rfl,_,h⟩:=h.cons_inv
   simpa using aT.drop n h
theorem aT.take:∀{a_:List AV} {vs:List Value} (n:Nat),aT G st w a_ vs→aT G st w (a_.take n) (vs.take n)
 | _,_,0,h=>by simpa using aT.nil
 | [],vs,n+1,h=>by rw[h.gV]; simpa using aT.nil
 | a :: a_, vs, n + 1, h => by
   obtain⟨v,l,rfl,hv,h⟩:=h.cons_inv
   simpa using aT.cons hv (aT.take n h)
theorem aT.append:∀{a_ bs:List AV} {vs us:List Value},aT G st w a_ vs→aT G st w bs us→aT G st w (a_ ++ bs) (vs ++ us)
 | [],_,vs,_,h,k=>by rw[h.gV]; simpa using k
 | a :: a_, _, vs, _, h, k => by
   obtain⟨v,l,rfl,hv,h⟩:=h.cons_inv
   simpa using aT.cons hv (aT.append h k)
theorem aT.set:∀{a_:List AV} {vs:List Value} (i:Nat) {a:AV} {v:Value},aT G st w a_ vs→aW G st w a v→aT G st w (a_.set i a) (vs.set i v)
 | [],vs,_,_,_,h,_=>by rw[h.gV]; simpa using aT.nil
 | b :: a_, vs, 0, _, _, h, k => by
   obtain⟨v,l,rfl,_,h⟩:=h.cons_inv
   simpa using aT.cons k h
 | b :: a_, vs, i + 1, _, _, h, k => by
   obtain⟨v,l,rfl,hv,h⟩:=h.cons_inv
   simpa using aT.cons hv (aT.set i h k)
theorem aT.replicate {a:AV}{v:Value}(h:aW G st w a v):∀ n,aT G st w (List.replicate n a) (List.replicate n v)
 | 0=>by simpa using aT.nil
 | n+1=>by simpa[List.replicate_succ] using aT.cons h (aT.replicate h n)
theorem pY {cs:List AV}{off n:Nat}{l:List AV}(h:range? cs off n=some l):off+n≤cs.length∧l=(cs.drop off).take n:=by
 unfold range? at h
 rw[El] at h
 split at h
 ·injection h with h; exact⟨by assumption,h.symm⟩
 ·cases h
theorem aW.undef:aW G st w AV.undef Go.undef:=by
 simp only[AV.undef,Go.undef,aW]
 exact⟨#[],rfl,aT.nil⟩
theorem dZ.append:∀{a_ bs:List AV} {b off:Nat},dZ G st w b off (a_ ++ bs)↔dZ G st w b off a_∧dZ G st w b (off+a_.length) bs
 | [],bs,b,off=>by simp[dZ]
 | a :: a_, bs, b, off => by
   simp only[List.cons_append,dZ,dZ.append (a_:=a_),List.length_cons,and_assoc,show off+1+a_.length=off+(a_.length+1) by omega]
theorem dZ.drop {a_:List AV}{b off:Nat}(n:Nat)(hn:n≤a_.length)(h:dZ G st w b off a_):dZ G st w b (off+n) (a_.drop n):=by
 have:=(dZ.append (a_:=a_.take n) (bs:=a_.drop n)).1 (by simpa using h)
 simpa[List.length_take,Nat.min_eq_left hn] using this.2
theorem dZ.take {a_:List AV}{b off:Nat}(n:Nat)(h:dZ G st w b off a_):dZ G st w b off (a_.take n):=
 ((dZ.append (a_:=a_.take n) (bs:=a_.drop n)).1 (by simpa using h)).1
theorem dZ.values:∀{a_:List AV} {b off:Nat},dZ G st w b off a_→ ∃ vs,aT G st w a_ vs∧vs.length=a_.length∧ ∀ j v,vs[j]? =some v→w.cell? ⟨b,off+j,none⟩=some v
 | [],_,_,_=>⟨[],aT.nil,rfl,by simp⟩
 | a :: a_, b, off, h => by
   simp only[dZ] at h
   obtain⟨⟨v,h1,h2⟩,h3⟩:=h
   obtain⟨vs,k1,k2,k3⟩:=dZ.values h3
   refine⟨v :: vs,aT.cons h2 k1,by simp[k2],fun j u hu=>?_⟩
   cases j with
   | zero=>simp at hu; subst hu; simpa using h1
   | succ j=>simp at hu; have:=k3 j u hu; rwa [show off+1+j=off+(j+1) by omega] at this
theorem dZ.mW:∀{a_:List AV} {vs:List Value} {b off:Nat},aT G st w a_ vs→(∀ j v,vs[j]? =some v→w.cell? ⟨b,off+j,none⟩=some v)→dZ G st w b off a_
 | [],_,_,_,_,_=>by simp[dZ]
 | a :: a_, vs, b, off, h, hc => by
   obtain⟨v,l,rfl,hv,h⟩:=h.cons_inv
   simp only[dZ]
   refine⟨⟨v,by simpa using hc 0 v (by simp),hv⟩,dZ.mW h fun j u hu=>?_⟩
   have:=hc (j+1) u (by simpa using hu)
   rwa [show off+1+j=off+(j+1) by omega]
theorem aW.one {a:AV}{v:Value}(h:aW G st w a v)(ho:a.one=true):v.oneCell'=true:=by
 cases a <;> simp only[aW] at h <;> simp only[AV.one] at ho <;> first | (cases ho; done) | (subst h; rfl) | skip
 all_goals first
  | (obtain⟨_,_,rfl⟩:=h; rfl)
  | (obtain⟨_,rfl,_⟩:=h; rfl)
  | (obtain⟨rfl,_⟩:=h; rfl)
  | (obtain⟨_,_,rfl,_⟩:=h; rfl)
  | (obtain⟨_,_,_,rfl,_⟩:=h; rfl)
  | (obtain⟨_,_,_,_,_,rfl,_⟩:=h; rfl)
  | exact h
theorem aT.one:∀{a_:List AV} {vs:List Value},aT G st w a_ vs→a_.all AV.one=true→ ∀ v ∈ vs,v.oneCell'=true
 | [],vs,h,_=>by rw[h.gV]; simp
 | a :: a_, vs, h, ho => by
   obtain⟨v,l,rfl,hv,h⟩:=h.cons_inv
   simp only[List.all_cons,Bool.and_eq_true] at ho
   intro u hu
   rcases List.mem_cons.1 hu with rfl | hu
   ·exact hv.one ho.1
   ·exact aT.one h ho.2 u hu
theorem aW.cells {a:AV}{v:Value}(h:aW G st w a v):aT G st w a.cells v.cells.toList:=by
 cases a
 case agg cs=>
  simp only[aW] at h
  obtain⟨vs,rfl,h⟩:=h
  exact h
 case tuple cs=>
  simp only[AV.cells]
  have h':=h
  simp only[aW] at h
  obtain⟨vs,rfl,h⟩:=h
  exact aT.cons h' aT.nil
 all_goals
  have h1:=h.one (by rfl)
  cases v <;> first | (simp[Value.oneCell'] at h1; done) | exact aT.cons h aT.nil
theorem aW.L9 {v:Value}{a:AV}(h:Bk v=some a):aW G st w a v:=by
 unfold Bk at h
 split at h <;> first | (cases h; done) | (injection h with h; subst h; simp only[aW])
theorem aT.consts:∀{vs:List Value} {a_:List AV},A1 vs=some a_→aT G st w a_ vs
 | [],a_,h=>by simp only[A1] at h; injection h with h; subst h; exact aT.nil
 | v :: vs, a_, h => by
   simp only[A1,Option.bind_eq_some_iff] at h
   obtain⟨a,h1,l,h2,h3⟩:=h
   injection h3 with h3
   subst h3
   exact aT.cons (aW.L9 h1) (aT.consts h2)
theorem aW.const {v:Value}{a:AV}(h:ofConst v=some a):aW G st w a v:=by
 unfold ofConst at h
 split at h
 ·simp only[Option.bind_eq_some_iff] at h
  obtain⟨l,h1,h2⟩:=h
  injection h2 with h2
  subst h2
  simp only[aW]
  exact⟨_,rfl,aT.consts h1⟩
 ·injection h with h; subst h; simp only[aW]; exact⟨_,rfl,aT.nil⟩
 ·exact aW.L9 h
theorem aT.tmp {ts:List AV}{tmps:Array Value}(h:aT G st w ts tmps.toList)(t:Nat):aW G st w (ts.getD t AV.undef) (tmps.getD t Go.undef):=by
 by_cases ht:t<ts.length
 ·obtain⟨v,h1,h2⟩:=h.get (i:=t) (a:=ts[t]) (by simp[ht])
  have hl:=h.length
  have ht':t<tmps.size:=by simp at hl; omega
  rw[List.getD_eq_getElem?_getD,List.getElem?_eq_getElem ht]
  simp only[Array.getElem?_toList] at h1
  rw[Array.getD_eq_getD_getElem?,h1]
  exact h2
 ·have hl:=h.length
  simp at hl
  rw[List.getD_eq_getElem?_getD,List.getElem?_eq_none (by omega),Array.getD_eq_getD_getElem?,Array.getElem?_eq_none (by omega)]
  exact aW.undef
theorem aW.cP {ts:List AV}{a:Act}(h:aT G st w ts a.tmps.toList){x:Operand}{v:AV}(hv:cP ts x=some v):aW G st w v (a.eval x):=by
 cases x with
 | tmp t=>simp only[Ev.cP] at hv; injection hv with hv; subst hv; exact h.tmp t
 | const c=>exact aW.const hv
 | global g=>simp only[Ev.cP] at hv; injection hv with hv; subst hv; simp only[aW]; rfl
 | func f=>simp only[Ev.cP] at hv; injection hv with hv; subst hv; simp only[aW]; exact⟨#[],#[],rfl,aT.nil,aT.nil⟩
theorem aT.dA {ts:List AV}{a:Act}(h:aT G st w ts a.tmps.toList):∀{xs:List Operand} {vs:List AV},dA ts xs=some vs→aT G st w vs (xs.map a.eval)
 | [],vs,hv=>by simp only[Ev.dA] at hv; injection hv with hv; subst hv; exact aT.nil
 | x :: xs, vs, hv => by
   simp only[Ev.dA,Option.bind_eq_some_iff] at hv
   obtain⟨v,h1,l,h2,h3⟩:=hv
   injection h3 with h3
   subst h3
   exact aT.cons (aW.cP h h1) (aT.dA h h2)
end
theorem wC {w w':World}{b:Nat}(h:w'.heap[b]? =w.heap[b]?):w'.shape? b=w.shape? b:=by unfold World.shape?; rw[h]
theorem FL (w:World)(a:Addr)(v:Value)(b:Nat):(w.setCell a v).shape? b=w.shape? b:=by
 unfold World.shape? World.setCell
 simp only[Array.getElem?_modify]
 by_cases h:a.block=b
 ·subst h
  simp only[if_true]
  cases w.heap[a.block]? with
  | none=>rfl
  | some o =>
    cases o <;> simp only[Option.map_some]
    split <;> simp
 ·simp[h]
theorem oH (b b':Nat):∀(vs:List Value) (o:Nat) (w:World),(w.setCells b o vs).shape? b'=w.shape? b'
 | [],_,_=>rfl
 | v :: r,o,w=>by rw[World.setCells,oH b b' r,FL]
theorem wY {w:World}{b n i:Nat}{t:TypeId}(h:w.shape? b=some (t,n))(hi:i<n):(w.cell? ⟨b,i,none⟩).isSome=true:=by
 unfold World.shape? at h
 unfold World.cell?
 split at h
 ·rename_i c e f hc
  injection h with h; injection h with h1 h2; subst h1; subst h2
  simp only[hc]
  simp[hi]
 ·cases h
theorem World.DJ (w:World)(o:Obj):(w.alloc o).heap[w.heap.size]? =some o:=by
 show(w.heap.push o)[w.heap.size]? =some o
 simp
theorem Kc {w:World}(C:Array Value)(t:TypeId)(fr:Nat×Nat):(w.alloc (.cells C t fr)).shape? w.heap.size=some (t,C.size):=by
 unfold World.shape?
 rw[World.DJ]
structure Inv (W0:World)(G:Gh)(st:St)(w:World):Prop where
 below:Below W0.heap.size W0 w
 blt:∀ id b k n,G.β id=some (b,k,n)→W0.heap.size≤b∧b<w.heap.size∧id<st.next
 zT:∀ id id' b k n k' n',G.β id=some (b,k,n)→G.β id'=some (b,k',n')→st.aS.get id≠some .dead→st.aS.get id'≠some .dead→id=id'
 u5:∀ id b k n,G.β id=some (b,k,n)→G.ext b=none
 A8:∀ b id m n,G.ext b=some (id,m,n)→W0.heap.size≤b∧b<w.heap.size∧id<st.next∧m≤n∧G.β id=none∧ ∃ h,st.aS.get id=some (.oE h)
 pK:∀ b id m n i,G.ext b=some (id,m,n)→i<n→(w.cell? ⟨b,i,none⟩).isSome=true∧w.frozen? ⟨b,i,none⟩=false
 n6:∀ id b k n t u cs,G.β id=some (b,k,n)→st.aS.get id=some (.cells t u cs)→dZ G st w b 0 cs∧cs.length=k∧k≤n∧(u=true→n=k∧w.frozen? ⟨b,n,none⟩=false)∧w.shape? b=some (t,n)∧ ∀ i,i<n→w.frozen? ⟨b,i,none⟩=false
 oR:∀ id b k n a,G.β id=some (b,k,n)→st.aS.get id=some a→a.DD=true→ ∃ o,w.heap[b]? =some o∧oD G st w a o
 fresh:∀ id,st.next≤id→st.aS.get id=none
 old:∀ b off a,st.old b off=some a→b<W0.heap.size∧(a.one=true→ ∃ v,W0.cell? ⟨b,off,none⟩=some v∧ ∀(G:Gh) (st:St) (w:World),aW G st w a v) ∧
  ∀ cs,a=.tuple cs→ ∃(vs:Array Value) (t:TypeId) (z:Nat×Nat),W0.heap[b]? =some (.cells vs t z)∧ ∀(G:Gh) (st:St) (w:World),aT G st w cs vs.toList
section
variable {W0:World}{G:Gh}{st:St}{w:World}
theorem Le.drew:Le G st w G st w.drew:=
 ⟨fun _ _ h=>h,fun _ _ m _ h=>⟨m,Nat.le_refl _,h⟩,fun _ _ _ _ _ _ _=>rfl,fun _ h hh _=>⟨h,Nat.le_refl _,hh,fun _ _ _ _ k=>k⟩,Nat.le_refl _⟩
theorem Inv.drew (I:Inv W0 G st w):Inv W0 G st w.drew where
 below:=I.below.drew
 blt:=I.blt
 zT:=I.zT
 u5:=I.u5
 A8:=I.A8
 pK:=I.pK
 n6 id b k n t u cs h1 h2:=by
  obtain⟨k1,k2⟩:=I.n6 id b k n t u cs h1 h2
  refine⟨?_,k2⟩
  obtain⟨vs,j1,_,j3⟩:=k1.values
  exact dZ.mW (aT.mono Le.drew _ _ j1) j3
 oR id b k n a h1 h2 h3:=by
  obtain⟨o,k1,k2⟩:=I.oR id b k n a h1 h2 h3
  exact⟨o,k1,k2.mono Le.drew⟩
 fresh:=I.fresh
 old:=I.old
theorem Le.push (I:Inv W0 G st w)(o:hZ):Le G st w G (st.push o) w:=
 ⟨fun _ _ h=>h,fun _ _ m _ h=>⟨m,Nat.le_refl _,h⟩,fun _ _ _ _ _ _ _=>rfl,
  fun id h hh hb=>⟨h,Nat.le_refl _,by
   obtain⟨b,m,n,hb⟩:=hb
   have:=(I.A8 b id m n hb).2.2.1
   simp only[St.push,Tr.cH]
   rw[if_neg (by omega)]
   exact hh,fun _ _ _ _ k=>k⟩,by simp[St.push]⟩
theorem Inv.push (I:Inv W0 G st w)(o:hZ):Inv W0 G (st.push o) w where
 below:=I.below
 blt id b k n h:=by obtain⟨h1,h2,h3⟩:=I.blt id b k n h; exact⟨h1,h2,by simp[St.push]; omega⟩
 zT id id' b k n k' n' h h' d d':=by
  have h1:=(I.blt _ _ _ _ h).2.2
  have h2:=(I.blt _ _ _ _ h').2.2
  simp only[St.push,Tr.cH] at d d'
  rw[if_neg (by omega)] at d d'
  exact I.zT id id' b k n k' n' h h' d d'
 u5:=I.u5
 A8 b id m n h:=by
  obtain⟨h1,h2,h3,h4,h5,t,h6⟩:=I.A8 b id m n h
  refine⟨h1,h2,by simp[St.push]; omega,h4,h5,t,?_⟩
  simp only[St.push,Tr.cH]
  rw[if_neg (by omega)]
  exact h6
 pK:=I.pK
 n6 id b k n t u cs h1 h2:=by
  have:=(I.blt id b k n h1).2.2
  simp only[St.push,Tr.cH] at h2
  rw[if_neg (by omega)] at h2
  obtain⟨k1,k2⟩:=I.n6 id b k n t u cs h1 h2
  refine⟨?_,k2⟩
  obtain⟨vs,j1,_,j3⟩:=k1.values
  exact dZ.mW (aT.mono (Le.push I o) _ _ j1) j3
 oR id b k n a h1 h2 h3:=by
  have:=(I.blt id b k n h1).2.2
  simp only[St.push,Tr.cH] at h2
  rw[if_neg (by omega)] at h2
  obtain⟨o',k1,k2⟩:=I.oR id b k n a h1 h2 h3
  exact⟨o',k1,k2.mono (Le.push I o)⟩
 fresh id h:=by
  simp only[St.push] at h ⊢
  rw[Tr.cH,if_neg (by omega)]
  exact I.fresh id (by omega)
 old:=I.old
theorem wH (I:Inv W0 G st w):G.lJ st.next:=
 ⟨by cases h : G.β st.next with
     | none=>rfl
     | some x=>obtain⟨b,k,n⟩:=x; exact absurd (I.blt _ _ _ _ h).2.2 (by omega),
  fun b m n h=>absurd (I.A8 _ _ _ _ h).2.2.1 (by omega)⟩
theorem Bn (o:hZ):(st.push o).aS.get st.next=some o:=by simp[St.push,Tr.cH]
theorem rG.push (o:hZ):rG G st G (st.push o):=fun id hi hu=>⟨by simp only[St.push,Tr.cH]; rw[if_neg (by omega)],hu⟩
def Gh.born (G:Gh)(id:Nat)(x:Nat×Nat×Nat):Gh:={ G with β:=fun i=>if i=id then some x else G.β i }
def Gh.grown (G:Gh)(b:Nat)(x:Nat×Nat×Nat):Gh:={ G with ext:=fun i=>if i=b then some x else G.ext i }
theorem Bb (C:Array Value)(t:TypeId)(fr:Nat×Nat)(i:Nat):(w.alloc (.cells C t fr)).cell? ⟨w.heap.size,i,none⟩=C[i]? :=World.cell?_alloc_mark w C t fr i
theorem xL {o:Obj}{b i:Nat}(h:b<w.heap.size):(w.alloc o).cell? ⟨b,i,none⟩=w.cell? ⟨b,i,none⟩:=World.cell?_alloc_lt _ _ _ h
theorem s8 {o:Obj}{b i:Nat}(h:b<w.heap.size):(w.alloc o).frozen? ⟨b,i,none⟩=w.frozen? ⟨b,i,none⟩:=World.frozen?_alloc_old _ _ _ (by simp; omega)
theorem Du (C:Array Value)(t:TypeId)(fr:Nat×Nat)(i:Nat)(h:fr.2≤fr.1∨C.size≤fr.1)(hi:i<C.size):(w.alloc (.cells C t fr)).frozen? ⟨w.heap.size,i,none⟩=false:=by
 obtain⟨lo,hi'⟩:=fr
 rw[World.frozen?_alloc_mark]
 simp only[Bool.and_eq_false_iff,decide_eq_false_iff_not]
 simp only at h
 omega
theorem JD (C:Array Value)(t:TypeId)(fr:Nat×Nat)(i:Nat)(h:fr.2≤fr.1):(w.alloc (.cells C t fr)).frozen? ⟨w.heap.size,i,none⟩=false:=by
 obtain⟨lo,hi'⟩:=fr
 rw[World.frozen?_alloc_mark]
 simp only[Bool.and_eq_false_iff,decide_eq_false_iff_not]
 simp only at h
 omega
end
end Go.Ev
end
section
set_option linter.all false
namespace Go.Ev
open Go.RowKit (Below)
section
variable {W0:World}{G:Gh}{st:St}{w:World}
theorem dZ.old {b off:Nat}{cs:List AV}(h:dZ G st w b off cs){G':Gh}{st':St}{w':World}(L:Le G st w G' st' w')
 (hc:∀ j,j<cs.length→w'.cell? ⟨b,off+j,none⟩=w.cell? ⟨b,off+j,none⟩):dZ G' st' w' b off cs:=by
 obtain⟨vs,h1,h2,h3⟩:=h.values
 refine dZ.mW (aT.mono L _ _ h1) fun j v hv=>?_
 have hj:j<cs.length:=by
  rw[← h2]
  exact(List.getElem?_eq_some_iff.1 hv).1
 rw[hc j hj]
 exact h3 j v hv
theorem DT {o:Obj}{b:Nat}(h:b<w.heap.size):(w.alloc o).heap[b]? =w.heap[b]? :=Below.heap_alloc w o b h
theorem Le.born {id:Nat}{x:Nat×Nat×Nat}(hu:G.lJ id)(I:Inv W0 G st w)(o:Obj):Le G st w (G.born id x) st (w.alloc o) where
 β i b hb := by
  simp only[Gh.born]
  rw[if_neg (by rintro rfl; rw[hu.1] at hb; cases hb)]
  exact hb
 ext b i m n h:=⟨m,Nat.le_refl _,h⟩
 cell b i m n off h _:=xL (I.A8 b i m n h).2.1
 oE i h hh _:=⟨h,Nat.le_refl _,hh,fun _ _ _ _ k=>k⟩
 next:=Nat.le_refl _
theorem Inv.Hw (I:Inv W0 G st w){id k n:Nat}{o:Obj}(hid:id<st.next)(hu:G.lJ id)
 (hc:∀ t u cs,st.aS.get id=some (.cells t u cs)→dZ (G.born id (w.heap.size,k,n)) st (w.alloc o) w.heap.size 0 cs∧cs.length=k∧k≤n∧(u=true→n=k∧(w.alloc o).frozen? ⟨w.heap.size,n,none⟩=false)∧(w.alloc o).shape? w.heap.size=some (t,n)∧ ∀ i,i<n→(w.alloc o).frozen? ⟨w.heap.size,i,none⟩=false)
 (ho:∀ a,st.aS.get id=some a→a.DD=true→oD (G.born id (w.heap.size,k,n)) st (w.alloc o) a o):
 Inv W0 (G.born id (w.heap.size,k,n)) st (w.alloc o):=by
 have L:=Le.born (x:=(w.heap.size,k,n)) hu I o
 refine⟨I.below.alloc I.below.size _,?_,?_,?_,?_,?_,?_,?_,I.fresh,I.old⟩
 ·intro i b k' n' hb
  simp only[Gh.born] at hb
  split at hb
  ·injection hb with hb; injection hb with e1 e2; subst e1; subst_vars; exact⟨I.below.size,by simp,hid⟩
  ·obtain⟨h1,h2,h3⟩:=I.blt i b k' n' hb; exact⟨h1,by simp; omega,h3⟩
 ·intro i j b k1 n1 k2 n2 hi hj d1 d2
  simp only[Gh.born] at hi hj
  split at hi <;> split at hj
  ·subst_vars; rfl
  ·injection hi with hi; injection hi with hi _; subst hi; exact absurd (I.blt _ _ _ _ hj).2.1 (by omega)
  ·injection hj with hj; injection hj with hj _; subst hj; exact absurd (I.blt _ _ _ _ hi).2.1 (by omega)
  ·exact I.zT i j b k1 n1 k2 n2 hi hj d1 d2
 ·intro i b k1 n1 hb
  simp only[Gh.born] at hb ⊢
  split at hb
  ·injection hb with hb
   injection hb with hb _
   subst hb
   cases he:G.ext w.heap.size with
   | none=>rfl
   | some x=>obtain⟨x1,x2,x3⟩:=x; exact absurd (I.A8 _ _ _ _ he).2.1 (by omega)
  ·exact I.u5 i b k1 n1 hb
 ·intro b i m n h
  obtain⟨h1,h2,h3,h4,h5,h6⟩:=I.A8 b i m n h
  refine⟨h1,by simp; omega,h3,h4,?_,h6⟩
  simp only[Gh.born]
  rw[if_neg (by rintro rfl; exact hu.2 _ _ _ h)]
  exact h5
 ·intro b i m n j h hj
  have hb:=(I.A8 b i m n h).2.1
  rw[xL hb,s8 hb]
  exact I.pK b i m n j h hj
 ·intro i b k1 n1 t u cs' hb hcs
  simp only[Gh.born] at hb
  split at hb
  ·injection hb with hb
   injection hb with e1 e2
   injection e2 with e2 e3
   subst e1; subst e2; subst e3
   subst_vars
   exact hc t u cs' hcs
  ·obtain⟨h1,h2,h3⟩:=I.blt i b k1 n1 hb
   obtain⟨k1,k2,k3,k4,k5,k6⟩:=I.n6 i b k1 n1 t u cs' hb hcs
   exact⟨k1.old L fun j _=>xL h2,k2,k3,fun hu=>⟨(k4 hu).1,by rw[s8 h2]; exact(k4 hu).2⟩,by rw[wC (DT h2)]; exact k5,fun j hj=>by rw[s8 h2]; exact k6 j hj⟩
 ·intro i b k1 n1 a hb ha hv
  simp only[Gh.born] at hb
  split at hb
  ·injection hb with hb
   injection hb with e1 e2
   subst e1
   subst_vars
   exact⟨o,World.alloc_heap_new w o,ho a ha hv⟩
  ·obtain⟨h1,h2,h3⟩:=I.blt i b k1 n1 hb
   obtain⟨o',j1,j2⟩:=I.oR i b k1 n1 a hb ha hv
   exact⟨o',by rw[DT h2]; exact j1,j2.mono L⟩
theorem Inv.born (I:Inv W0 G st w){id:Nat}{u:Bool}{cs:List AV}{vs:List Value}{C:Array Value}{t:TypeId}{fr:Nat×Nat}(hid:id<st.next)(hu:G.lJ id)
 (ho:st.aS.get id=some (.cells t u cs)) (huf:u=true→C.size=cs.length∧fr.2≤fr.1) (hr:aT G st w cs vs) (hC:∀(j:Nat) (v:Value),vs[j]? =some v→C[j]? =some v) (hl:cs.length≤C.size) (hfr:fr.2≤fr.1∨C.size≤fr.1):
 Inv W0 (G.born id (w.heap.size,cs.length,C.size)) st (w.alloc (.cells C t fr)):=by
 have L:=Le.born (x:=(w.heap.size,cs.length,C.size)) hu I (.cells C t fr)
 refine I.Hw hid hu ?_ ?_
 ·intro t' u' cs' hcs
  rw[ho] at hcs
  injection hcs with hcs
  injection hcs with e1 e2 e3
  subst e1; subst e2; subst e3
  refine⟨dZ.mW (aT.mono L _ _ hr) fun j v hv=>?_,rfl,hl,fun hu=>⟨(huf hu).1,JD C t fr _ (huf hu).2⟩,Kc C t fr,fun j hj=>Du C t fr j hfr hj⟩
  rw[Nat.zero_add,Bb]
  exact hC j v hv
 ·intro a ha hv
  rw[ho] at ha
  injection ha with ha
  subst ha
  cases hv
theorem Inv.JZ (I:Inv W0 G st w){id:Nat}{a:hZ}{o:Obj}(hid:id<st.next)(hu:G.lJ id)(ho:st.aS.get id=some a)(h:oD G st w a o):
 Inv W0 (G.born id (w.heap.size,0,0)) st (w.alloc o):=by
 have L:=Le.born (x:=(w.heap.size,0,0)) hu I o
 refine I.Hw hid hu ?_ ?_
 ·intro t' u' cs' hcs
  rw[ho] at hcs
  injection hcs with hcs
  subst hcs
  cases h
 ·intro a' ha hv
  rw[ho] at ha
  injection ha with ha
  subst ha
  exact h.mono L
theorem Le.yG (I:Inv W0 G st w)(x:Nat×Nat×Nat)(o:Obj):Le G st w (G.grown w.heap.size x) st (w.alloc o) where
 β i b hb:=hb
 ext b i m n h:=⟨m,Nat.le_refl _,by
  simp only[Gh.grown]
  rw[if_neg (by have:=(I.A8 b i m n h).2.1; omega)]
  exact h⟩
 cell b i m n off h _:=xL (I.A8 b i m n h).2.1
 oE i h hh _:=⟨h,Nat.le_refl _,hh,fun _ b m n k=>by
  simp only[Gh.grown]
  rw[if_neg (by have:=(I.A8 b i m n k).2.1; omega)]
  exact k⟩
 next:=Nat.le_refl _
theorem Inv.yG (I:Inv W0 G st w){id h m:Nat}{C:Array Value}{t:TypeId}(hid:id<st.next)(hb0:G.β id=none)(ho:st.aS.get id=some (.oE h))(hm:m≤C.size):
 Inv W0 (G.grown w.heap.size (id,m,C.size)) st (w.alloc (.cells C t)):=by
 have L:=Le.yG I (id,m,C.size) (.cells C t)
 refine⟨I.below.alloc I.below.size _,?_,I.zT,?_,?_,?_,?_,?_,I.fresh,I.old⟩
 ·intro i b k n hb
  obtain⟨h1,h2,h3⟩:=I.blt i b k n hb
  exact⟨h1,by simp; omega,h3⟩
 ·intro i b k n hb
  have:=(I.blt i b k n hb).2.1
  simp only[Gh.grown]
  rw[if_neg (by omega)]
  exact I.u5 i b k n hb
 ·intro b i m' n he
  simp only[Gh.grown] at he
  split at he
  ·injection he with he; injection he with e1 e2; injection e2 with e2 e3; subst_vars
   exact⟨I.below.size,by simp,hid,hm,hb0,h,ho⟩
  ·obtain⟨h1,h2,h3,h4,h5,h6⟩:=I.A8 b i m' n he
   exact⟨h1,by simp; omega,h3,h4,h5,h6⟩
 ·intro b i m' n j he hj
  simp only[Gh.grown] at he
  split at he
  ·injection he with he; injection he with e1 e2; injection e2 with e2 e3; subst_vars
   exact⟨by rw[Bb]; simp[hj],Du C t (0,0) j (.inl (by simp)) hj⟩
  ·have hb:=(I.A8 b i m' n he).2.1
   rw[xL hb,s8 hb]
   exact I.pK b i m' n j he hj
 ·intro i b k n t u cs hb hcs
  have h2:=(I.blt i b k n hb).2.1
  obtain⟨k1,k2,k3,k4,k5,k6⟩:=I.n6 i b k n t u cs hb hcs
  exact⟨k1.old L fun j _=>xL h2,k2,k3,fun hu=>⟨(k4 hu).1,by rw[s8 h2]; exact(k4 hu).2⟩,by rw[wC (DT h2)]; exact k5,fun j hj=>by rw[s8 h2]; exact k6 j hj⟩
 ·intro i b k n a hb ha hv
  have h2:=(I.blt i b k n hb).2.1
  obtain⟨o',j1,j2⟩:=I.oR i b k n a hb ha hv
  exact⟨o',by rw[DT h2]; exact j1,j2.mono L⟩
theorem nR (b:Nat):∀(vs:List Value) (o:Nat) (w:World),(w.setCells b o vs).heap.size=w.heap.size
 | [],_,_=>rfl
 | v :: r,o,w=>by rw[World.setCells,nR b r]; simp
theorem qU {B:Nat}{a:World}(b:Nat)(hb:B≤b):∀(vs:List Value) (o:Nat) (w:World),Below B a w→Below B a (w.setCells b o vs)
 | [],_,_,h=>h
 | v :: r,o,w,h=>by rw[World.setCells]; exact qU b hb r _ _ (h.setCell hb _)
theorem pE (b b':Nat)(hne:b'≠b):∀(vs:List Value) (o:Nat) (w:World),(w.setCells b o vs).heap[b']? =w.heap[b']?
 | [],_,_=>rfl
 | v :: r,o,w=>by rw[World.setCells,pE b b' hne r]; exact Below.heap_setCell _ _ _ _ hne
theorem zQ (b b':Nat):∀(vs:List Value) (o:Nat) (w:World) (j:Nat),(w.cell? ⟨b',j,none⟩).isSome=true→((w.setCells b o vs).cell? ⟨b',j,none⟩).isSome=true
 | [],_,_,_,h=>h
 | v :: r, o, w, j, h => by
   rw[World.setCells]
   refine zQ b b' r _ _ j ?_
   by_cases e:b=b'∧o=j
   ·obtain⟨rfl,rfl⟩:=e
    obtain⟨u,hu⟩:=Option.isSome_iff_exists.1 h
    simp[World.cell?_setCell_same _ _ _ hu]
   ·rw[World.cell?_setCell_other _ _ _ _ (by simpa using e)]
    exact h
theorem zN {cs vs:List AV}{off:Nat}(h:off+vs.length≤cs.length):(dK cs off vs).length=cs.length:=by
 simp[dK]
 omega
theorem Le.store (I:Inv W0 G st w){id b k n off:Nat}{vs:List Value}(hb:G.β id=some (b,k,n))(o:hZ):
 Le G st w G (st.put id o) (w.setCells b off vs) where
 β i b hb:=hb
 ext b i m n h:=⟨m,Nat.le_refl _,h⟩
 cell b' i m n j h _:=World.cell?_setCells_out b vs off w _ (fun e _=>by
  simp only at e
  subst e
  rw[I.u5 id b' _ _ hb] at h
  cases h)
 oE i h hh hx:=⟨h,Nat.le_refl _,by
  obtain⟨b',m,n,hx⟩:=hx
  simp only[St.put,Tr.cH]
  rw[if_neg (by rintro rfl; have:=(I.A8 b' i m n hx).2.2.2.2.1; rw[hb] at this; cases this)]
  exact hh,fun _ _ _ _ k=>k⟩
 next:=Nat.le_refl _
theorem Inv.IG (I:Inv W0 G st w){id b k n:Nat}{w':World}{a0:hZ}{a:hZ}(hb:G.β id=some (b,k,n))(ho:st.aS.get id=some a0)(hlive:a0≠.dead)
 (hsz:w'.heap.size=w.heap.size) (hbel:Below W0.heap.size W0 w') (hoth:∀ b',b'≠b→w'.heap[b']? =w.heap[b']?) (L:Le G st w G (st.put id a) w')
 (hc:∀ t u cs,a=.cells t u cs→dZ G (st.put id a) w' b 0 cs∧cs.length=k∧k≤n∧(u=true→n=k∧w'.frozen? ⟨b,n,none⟩=false)∧w'.shape? b=some (t,n)∧ ∀ i,i<n→w'.frozen? ⟨b,i,none⟩=false)
 (hv:a.DD=true→ ∃ o,w'.heap[b]? =some o∧oD G (st.put id a) w' a o):Inv W0 G (st.put id a) w':=by
 have cell':∀ b' i,b'≠b→w'.cell? ⟨b',i,none⟩=w.cell? ⟨b',i,none⟩:=fun b' i h=>World.cell?_of_block (w:=w) (hoth b' h)
 have froz':∀ b' i,b'≠b→w'.frozen? ⟨b',i,none⟩=w.frozen? ⟨b',i,none⟩:=fun b' i h=>World.frozen?_of_block (w:=w) (hoth b' h)
 have hbb:=I.blt id b k n hb
 have other:∀ i b' k' n',G.β i=some (b',k',n')→i≠id→st.aS.get i≠some .dead→b'≠b:=by
  rintro i b' k' n' h hne hd rfl
  exact hne (I.zT _ _ _ _ _ _ _ h hb hd (by rw[ho]; intro e; injection e with e; exact hlive e))
 refine⟨hbel,?_,?_,I.u5,?_,?_,?_,?_,?_,I.old⟩
 ·intro i b' k' n' h
  rw[hsz]
  exact I.blt i b' k' n' h
 ·intro i j b' k1 n1 k2 n2 h1 h2 d1 d2
  have live:∀ i,(st.put id a).aS.get i≠some .dead→st.aS.get i≠some .dead:=by
   intro i hi
   simp only[St.put,Tr.cH] at hi
   split at hi
   ·subst_vars; rw[ho]; intro e; injection e with e; exact hlive e
   ·exact hi
  exact I.zT i j b' k1 n1 k2 n2 h1 h2 (live i d1) (live j d2)
 ·intro b' i m n h
  obtain⟨h1,h2,h3,h4,h5,t,h6⟩:=I.A8 b' i m n h
  refine⟨h1,by rw[hsz]; exact h2,h3,h4,h5,t,?_⟩
  simp only[St.put,Tr.cH]
  rw[if_neg (by rintro rfl; rw[hb] at h5; cases h5)]
  exact h6
 ·intro b' i m n j h hj
  have hne:b'≠b:=by
   rintro rfl
   rw[I.u5 id b' _ _ hb] at h
   cases h
  rw[cell' b' j hne,froz' b' j hne]
  exact I.pK b' i m n j h hj
 ·intro i b' k' n' t u cs' h hcs
  simp only[St.put,Tr.cH] at hcs
  split at hcs
  ·subst_vars
   rw[hb] at h
   injection h with h; injection h with e1 e2; injection e2 with e2 e3
   subst e1; subst e2; subst e3
   injection hcs with hcs
   exact hc t u cs' hcs
  ·rename_i hne
   obtain⟨k1,k2,k3,k4,k5,k6⟩:=I.n6 i b' k' n' t u cs' h hcs
   have hne':=other i b' k' n' h hne (by rw[hcs]; intro e; cases e)
   exact⟨k1.old L fun j _=>cell' _ _ hne',k2,k3,fun hu=>⟨(k4 hu).1,by rw[froz' _ _ hne']; exact(k4 hu).2⟩,by rw[wC (hoth b' hne')]; exact k5,fun j hj=>by rw[froz' _ _ hne']; exact k6 j hj⟩
 ·intro i b' k' n' a' h ha hh
  simp only[St.put,Tr.cH] at ha
  split at ha
  ·subst_vars
   rw[hb] at h
   injection h with h; injection h with e1 e2
   subst e1
   injection ha with ha
   subst ha
   exact hv hh
  ·rename_i hne
   obtain⟨o,j1,j2⟩:=I.oR i b' k' n' a' h ha hh
   have hne':=other i b' k' n' h hne (by rw[ha]; intro e; injection e with e; subst e; cases hh)
   exact⟨o,by rw[hoth b' hne']; exact j1,j2.mono L⟩
 ·intro i hi
  simp only[St.put] at hi ⊢
  rw[Tr.cH,if_neg (by omega)]
  exact I.fresh i hi
theorem Inv.store (I:Inv W0 G st w){id b k n off:Nat}{t:TypeId}{u:Bool}{cs a_:List AV}{vs:List Value}(hb:G.β id=some (b,k,n))(ho:st.aS.get id=some (.cells t u cs))(hl:off+a_.length≤cs.length)
 (hr:aT G st w a_ vs):Inv W0 G (st.put id (.cells t u (dK cs off a_))) (w.setCells b off vs):=by
 have L:=Le.store (vs:=vs) (off:=off) I hb (.cells t u (dK cs off a_))
 have hlv:=hr.length
 have hbb:=I.blt id b k n hb
 obtain⟨k1,k2,k3,k4,k5,k6⟩:=I.n6 id b k n t u cs hb ho
 refine I.IG hb ho (by intro e; cases e) (nR _ _ _ _) (qU b hbb.1 _ _ _ I.below) (fun b' h=>pE b b' h _ _ _) L ?_ (fun h=>by cases h)
 intro t' u' cs' e
 injection e with e1 e2 e
 subst e1; subst e2; subst e
 refine⟨?_,by rw[zN hl]; exact k2,k3,fun hu=>⟨(k4 hu).1,by rw[World.frozen?_setCells]; exact(k4 hu).2⟩,by rw[oH]; exact k5,fun j hj=>by rw[World.frozen?_setCells]; exact k6 j hj⟩
 have e1:(cs.take off).length=off:=by simp; omega
 have hcs3:cs=cs.take off ++ ((cs.drop off).take a_.length ++ cs.drop (off+a_.length)):=by
  rw[← List.drop_drop,List.take_append_drop,List.take_append_drop]
 have k1':=k1
 rw[hcs3,dZ.append,dZ.append] at k1'
 obtain⟨p1,p2,p3⟩:=k1'
 have hsr:dK cs off a_=cs.take off ++ (a_ ++ cs.drop (off+a_.length)):=by simp[dK]
 generalize st.put id (.cells t u (dK cs off a_))=st2 at L ⊢
 rw[hsr,dZ.append,dZ.append]
 refine⟨p1.old L fun j hj=>World.cell?_setCells_out b vs off w _ (fun _ _=>by simp at hj ⊢; omega),?_,?_⟩
 ·rw[e1,Nat.zero_add]
  refine dZ.mW (aT.mono L _ _ hr) fun j v hv=>?_
  have hj:j<vs.length:=(List.getElem?_eq_some_iff.1 hv).1
  rw[World.cell?_setCells_in b vs off w (fun i hi=>wY k5 (by omega)) j hj]
  rw[List.getElem?_eq_getElem hj] at hv
  exact hv
 ·have e2:((cs.drop off).take a_.length).length=a_.length:=by simp; omega
  rw[e1,e2] at p3
  rw[e1]
  exact p3.old L fun j hj=>World.cell?_setCells_out b vs off w _ (fun _ _=>by simp; omega)
theorem Le.kill (I:Inv W0 G st w){id:Nat}{x:Nat×Nat×Nat}(hb:G.β id=some x):Le G st w G (st.put id .dead) w where
 β i b hb:=hb
 ext b i m n h:=⟨m,Nat.le_refl _,h⟩
 cell b' i m n j h _:=rfl
 oE i h hh hx:=⟨h,Nat.le_refl _,by
  obtain⟨b',m,n,hx⟩:=hx
  simp only[St.put,Tr.cH]
  rw[if_neg (by rintro rfl; have:=(I.A8 b' i m n hx).2.2.2.2.1; rw[hb] at this; cases this)]
  exact hh,fun _ _ _ _ k=>k⟩
 next:=Nat.le_refl _
theorem Inv.kill (I:Inv W0 G st w){id b k n:Nat}{a0:hZ}(hb:G.β id=some (b,k,n))(ho:st.aS.get id=some a0)(hlive:a0≠.dead):Inv W0 G (st.put id .dead) w:=
 I.IG hb ho hlive rfl I.below (fun _ _=>rfl) (Le.kill I hb) (fun t u cs e=>by cases e) (fun e=>by cases e)
theorem Le.Jj (I:Inv W0 G st w){id b k n off:Nat}{vs:List Value}{a_:List AV}{t:TypeId}(hb:G.β id=some (b,k,n)):
 Le G st w (G.born st.next (b,a_.length,n)) ((st.put id .dead).push (.cells t false a_)) (w.setCells b off vs) where
 β i x hx := by
  simp only[Gh.born]
  obtain⟨b',k',n'⟩:=x
  have:=(I.blt _ _ _ _ hx).2.2
  rw[if_neg (by omega)]
  exact hx
 ext b i m n h:=⟨m,Nat.le_refl _,h⟩
 cell b' i m n j h _:=World.cell?_setCells_out b vs off w _ (fun e _=>by
  simp only at e
  subst e
  rw[I.u5 id b' _ _ hb] at h
  cases h)
 oE i h hh hx:=⟨h,Nat.le_refl _,by
  obtain⟨b',m,n,hx⟩:=hx
  have:=(I.A8 b' i m n hx).2.2.1
  simp only[St.push,St.put,Tr.cH]
  rw[if_neg (by omega),if_neg (by rintro rfl; have:=(I.A8 b' i m n hx).2.2.2.2.1; rw[hb] at this; cases this)]
  exact hh,fun _ _ _ _ k=>k⟩
 next:=by simp[St.push,St.put]
theorem Inv.Jj (I:Inv W0 G st w){id b k n off:Nat}{t:TypeId}{u:Bool}{cs a_:List AV}{vs us:List Value}(hb:G.β id=some (b,k,n))(ho:st.aS.get id=some (.cells t u cs))
 (hr:aT G st w a_ us) (hu:∀(j:Nat) u,us[j]? =some u→(w.setCells b off vs).cell? ⟨b,j,none⟩=some u) (hk:a_.length≤n):
 Inv W0 (G.born st.next (b,a_.length,n)) ((st.put id .dead).push (.cells t false a_)) (w.setCells b off vs):=by
 have L:=Le.Jj (off:=off) (vs:=vs) (a_:=a_) (t:=t) I hb
 obtain⟨k1,k2,k3,k4,k5,k6⟩:=I.n6 id b k n t u cs hb ho
 have hbb:=I.blt id b k n hb
 have cell':∀ b' i,b'≠b→(w.setCells b off vs).cell? ⟨b',i,none⟩=w.cell? ⟨b',i,none⟩:=fun b' i h=>World.cell?_of_block (w:=w) (pE b b' h _ _ _)
 have get':∀ i,i≠id→i<st.next→((st.put id .dead).push (.cells t false a_)).aS.get i=st.aS.get i:=fun i h1 h2=>by
  simp only[St.push,St.put,Tr.cH]
  rw[if_neg (by omega),if_neg h1]
 have other:∀ i b' k' n',G.β i=some (b',k',n')→i≠id→st.aS.get i≠some .dead→b'≠b:=by
  rintro i b' k' n' h hne hd rfl
  exact hne (I.zT _ _ _ _ _ _ _ h hb hd (by rw[ho]; intro e; cases e))
 have dead':((st.put id .dead).push (.cells t false a_)).aS.get id=some .dead:=by
  simp only[St.push,St.put,Tr.cH]
  rw[if_neg (by omega)]
  exact if_pos trivial
 have β':∀ i x,(G.born st.next (b,a_.length,n)).β i=some x→(i=st.next∧x=(b,a_.length,n))∨(i≠st.next∧G.β i=some x):=by
  intro i x h
  simp only[Gh.born] at h
  split at h
  ·injection h with h; exact .inl ⟨by assumption,h.symm⟩
  ·exact .inr ⟨by assumption,h⟩
 refine⟨qU b hbb.1 _ _ _ I.below,?_,?_,?_,?_,?_,?_,?_,?_,I.old⟩
 ·intro i b' k' n' h
  rw[nR]
  rcases β' _ _ h with⟨rfl,e⟩ | ⟨_,h⟩
  ·injection e with e _; subst e; exact⟨hbb.1,hbb.2.1,by simp[St.push,St.put]⟩
  ·obtain⟨h1,h2,h3⟩:=I.blt i b' k' n' h
   exact⟨h1,h2,by simp[St.push,St.put]; omega⟩
 ·intro i j b' k1 n1 k2 n2 h1 h2 d1 d2
  rcases β' _ _ h1 with⟨rfl,e1⟩ | ⟨e1,g1⟩ <;> rcases β' _ _ h2 with⟨rfl,e2⟩ | ⟨e2,g2⟩
  ·rfl
  ·injection e1 with e1 _
   subst e1
   have hj:=(I.blt _ _ _ _ g2).2.2
   have hne:j≠id:=by rintro rfl; exact d2 dead'
   rw[get' j hne hj] at d2
   exact absurd rfl (other j _ _ _ g2 hne d2)
  ·injection e2 with e2 _
   subst e2
   have hj:=(I.blt _ _ _ _ g1).2.2
   have hne:i≠id:=by rintro rfl; exact d1 dead'
   rw[get' i hne hj] at d1
   exact absurd rfl (other i _ _ _ g1 hne d1)
  ·have hi:=(I.blt _ _ _ _ g1).2.2
   have hj:=(I.blt _ _ _ _ g2).2.2
   have n1':i≠id:=by rintro rfl; exact d1 dead'
   have n2':j≠id:=by rintro rfl; exact d2 dead'
   rw[get' i n1' hi] at d1
   rw[get' j n2' hj] at d2
   exact I.zT i j b' k1 n1 k2 n2 g1 g2 d1 d2
 ·intro i b' k' n' h
  rcases β' _ _ h with⟨rfl,e⟩ | ⟨_,h⟩
  ·injection e with e _; subst e; exact I.u5 id _ _ _ hb
  ·exact I.u5 i b' k' n' h
 ·intro b' i m n' h
  obtain⟨h1,h2,h3,h4,h5,t,h6⟩:=I.A8 b' i m n' h
  refine⟨h1,by rw[nR]; exact h2,by simp[St.push,St.put]; omega,h4,?_,t,?_⟩
  ·simp only[Gh.born]
   rw[if_neg (by omega)]
   exact h5
  ·rw[get' i (by rintro rfl; rw[hb] at h5; cases h5) h3]
   exact h6
 ·intro b' i m n' j h0 hj
  have h:G.ext b'=some (i,m,n'):=h0
  have hne:b'≠b:=by
   rintro rfl
   rw[I.u5 id b' _ _ hb] at h
   cases h
  rw[cell' b' j hne,World.frozen?_setCells]
  exact I.pK b' i m n' j h hj
 ·intro i b' k' n' t' u' cs' h hcs
  rcases β' _ _ h with⟨rfl,e⟩ | ⟨hne0,h⟩
  ·injection e with e1 e2; injection e2 with e2 e3
   subst e1; subst e2; subst e3
   simp only[St.push,St.put,Tr.cH] at hcs
   rw[if_pos trivial] at hcs
   injection hcs with hcs
   injection hcs with e1 e2 e3
   subst e1; subst e2; subst e3
   refine⟨dZ.mW (aT.mono L _ _ hr) fun j v hv=>?_,rfl,hk,(fun e=>by cases e),by rw[oH]; exact k5,fun j hj=>by rw[World.frozen?_setCells]; exact k6 j hj⟩
   rw[Nat.zero_add]
   exact hu j v hv
  ·have hi:=(I.blt _ _ _ _ h).2.2
   have hne:i≠id:=by rintro rfl; rw[dead'] at hcs; cases hcs
   rw[get' i hne hi] at hcs
   obtain⟨j1,j2,j3,j4,j5,j6⟩:=I.n6 i b' k' n' t' u' cs' h hcs
   have hne':=other i b' k' n' h hne (by rw[hcs]; intro e; cases e)
   exact⟨j1.old L fun j _=>cell' _ _ hne',j2,j3,fun hu=>⟨(j4 hu).1,by rw[World.frozen?_setCells]; exact(j4 hu).2⟩,by rw[oH]; exact j5,fun j hj=>by rw[World.frozen?_setCells]; exact j6 j hj⟩
 ·intro i b' k' n' a h ha hh
  rcases β' _ _ h with⟨rfl,e⟩ | ⟨hne0,h⟩
  ·simp only[St.push,St.put,Tr.cH] at ha
   rw[if_pos trivial] at ha
   injection ha with ha
   subst ha
   cases hh
  ·have hi:=(I.blt _ _ _ _ h).2.2
   have hne:i≠id:=by rintro rfl; rw[dead'] at ha; injection ha with ha; subst ha; cases hh
   rw[get' i hne hi] at ha
   obtain⟨o,j1,j2⟩:=I.oR i b' k' n' a h ha hh
   have hne':=other i b' k' n' h hne (by rw[ha]; intro e; injection e with e; subst e; cases hh)
   exact⟨o,by rw[pE b b' hne']; exact j1,j2.mono L⟩
 ·intro i hi
  simp only[St.push,St.put] at hi ⊢
  rw[Tr.cH,if_neg (by omega),Tr.cH,if_neg (by omega)]
  exact I.fresh i (by omega)
theorem Le.obj (I:Inv W0 G st w){id b k n:Nat}(hb:G.β id=some (b,k,n))(a:hZ)(o:Obj):Le G st w G (st.put id a) (w.putObj b o) where
 β i b hb:=hb
 ext b i m n h:=⟨m,Nat.le_refl _,h⟩
 cell b' i m n j h _:=World.cell?_of_block (w:=w) (World.putObj_heap_other (by
  rintro rfl
  rw[I.u5 id b' _ _ hb] at h
  cases h))
 oE i h hh hx:=⟨h,Nat.le_refl _,by
  obtain⟨b',m,n,hx⟩:=hx
  simp only[St.put,Tr.cH]
  rw[if_neg (by rintro rfl; have:=(I.A8 b' i m n hx).2.2.2.2.1; rw[hb] at this; cases this)]
  exact hh,fun _ _ _ _ k=>k⟩
 next:=Nat.le_refl _
theorem Bm {B:Nat}{a w:World}(h:Below B a w){b:Nat}(hb:B≤b)(o:Obj):Below B a (w.putObj b o):=
 h.trans ⟨rfl,rfl,rfl,by simp,fun k hk=>World.putObj_heap_other (by omega)⟩
theorem Inv.obj (I:Inv W0 G st w){id b k n:Nat}{a0 a:hZ}{o:Obj}(hb:G.β id=some (b,k,n))(ho:st.aS.get id=some a0)(hlive:a0.DD=true)(h:oD G st w a o):
 Inv W0 G (st.put id a) (w.putObj b o):=by
 have L:=Le.obj I hb a o
 have hbb:=I.blt id b k n hb
 refine I.IG hb ho (by rintro rfl; cases hlive) (World.putObj_size) (Bm I.below hbb.1 o) (fun b' hne=>World.putObj_heap_other hne) L ?_ ?_
 ·intro t u cs e
  subst e
  cases h
 ·intro _
  exact⟨o,World.putObj_heap_same hbb.2.1,h.mono L⟩
theorem Inv.NY (I:Inv W0 G st w){id b k n:Nat}{a0:hZ}(o:Obj)(hb:G.β id=some (b,k,n))(ho:st.aS.get id=some a0)(hlive:a0.DD=true):Inv W0 G (st.put id .dead) (w.putObj b o):=by
 have hbb:=I.blt id b k n hb
 exact I.IG hb ho (by rintro rfl; cases hlive) (World.putObj_size) (Bm I.below hbb.1 o) (fun b' hne=>World.putObj_heap_other hne) (Le.obj I hb .dead o) (fun t u cs e=>by cases e) (fun e=>by cases e)
theorem Le.grow {id b m n h k:Nat}{vs:List Value}(hx:G.ext b=some (id,m,n))(ho:st.aS.get id=some (.oE h)):
 Le G st w (G.grown b (id,m+k,n)) (st.put id (.oE (h+k))) (w.setCells b m vs) where
 β i b hb:=hb
 ext b' i m' n' he:=by
  simp only[Gh.grown]
  split
  ·subst_vars; rw[hx] at he; injection he with he; injection he with e1 e2; injection e2 with e2 e3; subst_vars; exact⟨_,Nat.le_add_right _ _,rfl⟩
  ·exact⟨m',Nat.le_refl _,he⟩
 cell b' i m' n' j he hj:=World.cell?_setCells_out b vs m w _ (fun e _=>by
  simp only at e ⊢
  subst e
  rw[hx] at he; injection he with he; injection he with e1 e2; injection e2 with e2 e3; subst_vars
  exact .inl hj)
 oE i h' hh hx':=by
  simp only[St.put,Tr.cH]
  split
  ·subst_vars
   rw[ho] at hh; injection hh with hh; injection hh with hh; subst hh
   refine⟨h+k,Nat.le_add_right _ _,rfl,fun e b' m' n' hb'=>?_⟩
   have hk:k=0:=by omega
   subst hk
   simp only[Gh.grown]
   split
   ·subst_vars; rw[hx] at hb'; exact hb'
   ·exact hb'
  ·refine⟨h',Nat.le_refl _,hh,fun _ b' m' n' hb'=>?_⟩
   simp only[Gh.grown]
   split
   ·subst_vars; rw[hx] at hb'; injection hb' with e; injection e with e _; subst e; exact absurd rfl (by assumption)
   ·exact hb'
 next:=Nat.le_refl _
theorem Inv.grow (I:Inv W0 G st w){id b m n h k:Nat}{vs:List Value}(hx:G.ext b=some (id,m,n))(ho:st.aS.get id=some (.oE h))(hk:m+k≤n):
 Inv W0 (G.grown b (id,m+k,n)) (st.put id (.oE (h+k))) (w.setCells b m vs):=by
 have L:=Le.grow (w:=w) (k:=k) (vs:=vs) hx ho
 have hbb:=I.A8 b id m n hx
 have nob:∀ i b' k' n',G.β i=some (b',k',n')→b'≠b:=by
  rintro i b' k' n' hb rfl
  rw[I.u5 i b' _ _ hb] at hx
  cases hx
 refine⟨qU b hbb.1 _ _ _ I.below,?_,?_,?_,?_,?_,?_,?_,?_,I.old⟩
 ·intro i b' k' n' h
  rw[nR]
  exact I.blt i b' k' n' h
 ·intro i j b' k1 n1 k2 n2 h1 h2 d1 d2
  have live:∀ i,(st.put id (.oE (h+k))).aS.get i≠some .dead→st.aS.get i≠some .dead:=by
   intro i hi
   simp only[St.put,Tr.cH] at hi
   split at hi
   ·subst_vars; rw[ho]; intro e; cases e
   ·exact hi
  exact I.zT i j b' k1 n1 k2 n2 h1 h2 (live i d1) (live j d2)
 ·intro i b' k' n' hb
  simp only[Gh.grown]
  rw[if_neg (nob i b' _ _ hb)]
  exact I.u5 i b' _ _ hb
 ·intro b' i m' n' he
  rw[nR]
  simp only[Gh.grown] at he
  simp only[St.put,Tr.cH]
  split at he
  ·injection he with he; injection he with e1 e2; injection e2 with e2 e3; subst_vars
   obtain⟨h1,h2,h3,h4,h5,_⟩:=hbb
   exact⟨h1,h2,h3,hk,h5,_,if_pos rfl⟩
  ·obtain⟨h1,h2,h3,h4,h5,t,h6⟩:=I.A8 b' i m' n' he
   refine⟨h1,h2,h3,h4,h5,?_⟩
   split
   ·exact⟨_,rfl⟩
   ·exact⟨t,h6⟩
 ·intro b' i m' n' j he hj
  rw[World.frozen?_setCells]
  have key:∀ b' i m' n' j,G.ext b'=some (i,m',n')→j<n'→((w.setCells b m vs).cell? ⟨b',j,none⟩).isSome=true∧w.frozen? ⟨b',j,none⟩=false:=by
   intro b' i m' n' j he hj
   obtain⟨c1,c2⟩:=I.pK b' i m' n' j he hj
   exact⟨zQ b b' vs m w j c1,c2⟩
  simp only[Gh.grown] at he
  split at he
  ·injection he with he; injection he with e1 e2; injection e2 with e2 e3; subst_vars
   exact key _ _ _ _ j hx hj
  ·exact key _ _ _ _ j he hj
 ·intro i b' k' n' t u cs hb hcs
  have hne:=nob i b' _ _ hb
  simp only[St.put,Tr.cH] at hcs
  split at hcs
  ·cases hcs
  ·obtain⟨k1,k2,k3,k4,k5,k6⟩:=I.n6 i b' k' n' t u cs hb hcs
   exact⟨k1.old L fun j hj=>World.cell?_setCells_out b vs m w _ (fun e _=>absurd e hne),k2,k3,fun hu=>⟨(k4 hu).1,by rw[World.frozen?_setCells]; exact(k4 hu).2⟩,by rw[oH]; exact k5,fun j hj=>by rw[World.frozen?_setCells]; exact k6 j hj⟩
 ·intro i b' k' n' a hb ha hv
  have hne:=nob i b' _ _ hb
  simp only[St.put,Tr.cH] at ha
  split at ha
  ·injection ha with ha; subst ha; cases hv
  ·obtain⟨o,j1,j2⟩:=I.oR i b' k' n' a hb ha hv
   exact⟨o,by rw[pE b b' hne]; exact j1,j2.mono L⟩
 ·intro i hi
  simp only[St.put] at hi ⊢
  rw[Tr.cH,if_neg (by omega)]
  exact I.fresh i hi
end
end Go.Ev
end
section
set_option linter.all false
namespace Go.Ev
open Go.RowKit (Below)
section
variable {P:Program}{G:Gh}{st:St}{w:World}
theorem uD {t:TypeId}{n:Nat}(h:size? P t=some n):∃ i,P.info? t=some i∧i.size=n:=by
 simp only[size?,Option.bind_eq_some_iff,Option.some.injEq] at h
 exact h
theorem hJ {t:TypeId}{n:Nat}(h:size? P t=some n)(w:World):(sizeOf t).run P w=.ok n w:=by
 obtain⟨i,h1,h2⟩:=uD h
 simp[sizeOf,typeInfo,h1,h2]
theorem DW {t:TypeId}{g:Bool}(h:LI P t=some g)(w:World):(isAgg t).run P w=.ok g w:=by
 simp only[LI,Option.bind_eq_some_iff] at h
 obtain⟨d,h1,h2⟩:=h
 unfold isAgg
 simp only[Sem.run_bind,run_underlying h1,Result.andThen_ok]
 cases d <;> simp_all
theorem qW {t:TypeId}{z:AV}(h:uS P t=some z)(w:World):∃ v,(zeroValue t).run P w=.ok v w∧aW G st w z v∧ ∃ i,P.info? t=some i∧i.zero=some v:=by
 simp only[uS,Option.bind_eq_some_iff] at h
 obtain⟨i,h1,v,h2,h3⟩:=h
 exact⟨v,by simp[zeroValue,typeInfo,h1,h2],aW.const h3,i,h1,h2⟩
theorem pN:∀ x y:List UInt8,kG x y=(x == y)
 | [],[]=>rfl
 | [],_ :: _=>rfl
 | _ :: _,[]=>rfl
 | a :: x, b :: y => by
   have:Nat.beq a.toNat b.toNat=(a == b):=by
    rw[Bool.eq_iff_iff,Nat.beq_eq,beq_iff_eq,UInt8.toNat_inj]
   simp only[kG,pN x y,this]
   rfl
theorem Hx:∀ x y:List UInt8,strLt x y=Op.bytesLess x y
 | [],[]=>rfl
 | [],_ :: _=>rfl
 | _ :: _,[]=>rfl
 | a :: x, b :: y => by
   have h1:Nat.beq a.toNat b.toNat=(a == b):=by
    rw[Bool.eq_iff_iff,Nat.beq_eq,beq_iff_eq,UInt8.toNat_inj]
   have h2:Nat.blt a.toNat b.toNat=decide (a<b):=by
    rw[Bool.eq_iff_iff,Nat.blt_eq,decide_eq_true_iff,UInt8.lt_iff_toNat_lt]
   simp only[strLt,Hx x y,h1,h2,Op.bytesLess]
theorem toList_mk (l:List UInt8):(⟨l.toArray⟩:ByteArray).toList=l:=by
 rw[ByteArray.toList_eq]
theorem xQ {op : BinOp} {x y : List UInt8} {v : AV} (h : A3 op x y = some v) : ∃ u, (Op.stringOp op ⟨x.toArray⟩ ⟨y.toArray⟩).run P w = .ok u w ∧ aW G st w v u := by
 cases op <;> simp only[A3] at h <;> first | (cases h; done) | skip
 case add=>
  obtain⟨h1,h2⟩:=bC h
  injection h2 with h2
  subst h2
  have h1:=Nat.le_of_ble_eq_true h1
  refine⟨.string (⟨x.toArray⟩ ++ ⟨y.toArray⟩),?_,?_⟩
  ·have:¬ (((⟨x.toArray⟩:ByteArray).size+(⟨y.toArray⟩:ByteArray).size:Nat):Int)>IntKind.i64.max:=by
    have:IntKind.i64.max=9223372036854775807:=by decide
    rw[this]
    simp only[ByteArray.size,List.size_toArray]
    omega
   simp only[Op.stringOp,this,if_false,Sem.run_pure]
  ·simp only[aW]
   congr 1
 all_goals
  injection h with h
  subst h
  simp only[Op.stringOp,toList_mk,Sem.run_pure,pN,Hx,aW]
  exact⟨_,rfl,rfl⟩
theorem Co {op:BinOp}{k k':IntKind}{a b:Int}{v:AV}{t:TypeId}(h:pD op k a k' b=some v):∃ u,(binOp op t (.int k a) (.int k' b)).run P w=.ok u w∧aW G st w v u:=by
 by_cases hk:k=k'
 ·subst hk
  cases op <;> simp only[pD,ne_eq,not_true_eq_false,if_false] at h <;> first | (cases h; done) | skip
  all_goals try(split at h <;> first | (cases h; done) | skip)
  all_goals
   injection h with h
   subst h
   simp only[aW,exists_eq_right,binOp,Op.intArith,Op.intDiv,Op.intBits,Op.shift,Op.intCmp,ne_eq,not_true_eq_false,if_false,Sem.run_pure, *]
 ·cases op <;> simp only[pD,ne_eq,hk,not_false_eq_true,if_true] at h <;> first | (cases h; done) | skip
  all_goals try(split at h <;> first | (cases h; done) | skip)
  all_goals
   injection h with h
   subst h
   simp only[aW,exists_eq_right,binOp,Op.shift,if_false,Sem.run_pure, *]
theorem DR (k:IntKind)(n:Int)(h:k.min≤n∧n≤k.max):k.wrap n=n:=by
 cases k <;> simp[IntKind.wrap,IntKind.min,IntKind.max,IntKind.signed,IntKind.bits] at h ⊢ <;> (try split) <;> omega
theorem Lm (k:IntKind)(hb:32≤k.bits)(n:Int)(h:0≤n∧n<2147483648):k.wrap n=n:=by
 cases k <;> simp[IntKind.wrap,IntKind.signed,IntKind.bits] at hb ⊢ <;> (try split) <;> omega
theorem KR {n:Int}{m:Nat}(hm:0<m):(n.tmod m) % (m:Int)=n % m∧1 - (m:Int)≤n.tmod m∧n.tmod m≤m - 1:=by
 have h0:(0:Int)<m:=by exact_mod_cast hm
 refine⟨?_,?_,?_⟩
 ·have e:=Int.mul_tdiv_add_tmod n m
  have:n.tmod m=n - m * n.tdiv m:=by omega
  rw[this,Int.sub_mul_emod_self_left]
 ·have:=Int.lt_tmod_of_pos n h0
  omega
 ·have:=Int.tmod_lt_of_pos n h0
  omega
theorem LV (k:IntKind)(n:Int)(j:Nat)(hj:j<31)(hb:32≤k.bits):k.wrap ((BitVec.ofInt k.bits n &&& BitVec.ofInt k.bits ((2 ^ j:Nat) - 1:Int)).toNat)=n % ((2 ^ j:Nat):Int):=by
 have hp:0<2 ^ j:=Nat.two_pow_pos j
 have hlt:2 ^ j<2 ^ k.bits:=Nat.pow_lt_pow_right (by omega) (by omega)
 have h31:2 ^ j<2 ^ 31:=Nat.pow_lt_pow_right (by omega) hj
 have e1:(BitVec.ofInt k.bits ((2 ^ j:Nat) - 1:Int)).toNat=2 ^ j - 1:=by
  have:((2 ^ j:Nat) - 1:Int)=((2 ^ j - 1:Nat):Int):=by omega
  rw[this,BitVec.ofInt_natCast,BitVec.toNat_ofNat,Nat.mod_eq_of_lt (by omega)]
 have e2:(BitVec.ofInt k.bits n).toNat % 2 ^ j=(n % ((2 ^ j:Nat):Int)).toNat:=by
  rw[BitVec.toNat_ofInt]
  have hd:((2 ^ j:Nat):Int) ∣ ((2 ^ k.bits:Nat):Int):=by
   exact_mod_cast Nat.pow_dvd_pow 2 (by omega)
  have hn:=Int.emod_emod_of_dvd n hd
  have hnn:0≤n % ((2 ^ k.bits:Nat):Int):=Int.emod_nonneg _ (by have:=Nat.two_pow_pos k.bits; omega)
  have:(((n % ((2 ^ k.bits:Nat):Int)).toNat % 2 ^ j:Nat):Int)=n % ((2 ^ j:Nat):Int):=by
   rw[Int.natCast_emod,Int.toNat_of_nonneg hnn,hn]
  omega
 rw[BitVec.toNat_and,e1,Nat.and_two_pow_sub_one_eq_mod,e2]
 have h0:0≤n % ((2 ^ j:Nat):Int):=Int.emod_nonneg _ (by omega)
 have h1:n % ((2 ^ j:Nat):Int)<((2 ^ j:Nat):Int):=Int.emod_lt_of_pos _ (by omega)
 rw[Int.toNat_of_nonneg h0]
 exact Lm k hb _ ⟨h0,by omega⟩
theorem MF {n r:Int}{m s:Nat}(hm:0<m)(hd:m % 2 ^ s=0)(h:n % (m:Int)=r):(n / (2 ^ s:Int)) % ((m / 2 ^ s:Nat):Int)=r / (2 ^ s:Int):=by
 have hp:(0:Int)<2 ^ s:=Int.pow_pos (by omega)
 have e:m=2 ^ s * (m / 2 ^ s):=by
  have:=Nat.div_add_mod m (2 ^ s)
  omega
 have e':(m:Int)=2 ^ s * ((m / 2 ^ s:Nat):Int):=by
  have:((2 ^ s * (m / 2 ^ s):Nat):Int)=(2 ^ s:Int) * ((m / 2 ^ s:Nat):Int):=by simp
  rw[← this,← e]
 generalize ((m / 2 ^ s:Nat):Int)=q at e' ⊢
 subst h
 have hm':(0:Int)<m:=by exact_mod_cast hm
 have hq:0<q:=by
  rcases Int.lt_or_le 0 q with h | h
  ·exact h
  ·have:=Int.mul_nonpos_of_nonneg_of_nonpos (Int.le_of_lt hp) h
   omega
 have h1:=Int.mul_ediv_add_emod n m
 generalize hr:n % (m:Int)=r at h1 ⊢
 generalize n / (m:Int)=z at h1
 have hr0:0≤r:=by rw[← hr]; exact Int.emod_nonneg _ (by omega)
 have hr1:r<m:=by rw[← hr]; exact Int.emod_lt_of_pos _ hm'
 have h2:n=r+2 ^ s * (q * z):=by rw[← h1,e',Int.mul_assoc]; omega
 rw[h2,Int.add_mul_ediv_left _ _ (by omega),Int.add_mul_emod_self_left]
 exact Int.emod_eq_of_lt (Int.ediv_nonneg hr0 (by omega)) (Int.ediv_lt_of_lt_mul hp (by rw[Int.mul_comm,← e']; exact hr1))
theorem Ky (k:IntKind)(n c:Int)(hk:k.signed=false)(h0:0≤c)(h1:c≤k.max):
 c≤k.wrap ((BitVec.ofInt k.bits n ||| BitVec.ofInt k.bits c).toNat)∧k.wrap ((BitVec.ofInt k.bits n ||| BitVec.ofInt k.bits c).toNat)≤k.max:=by
 have hlt:=(BitVec.ofInt k.bits n ||| BitVec.ofInt k.bits c).isLt
 have hmax:k.max=((2 ^ k.bits:Nat):Int) - 1:=by
  unfold IntKind.max
  rw[hk]
  simp
 have hmin:k.min=0:=by
  unfold IntKind.min
  rw[hk]
  rfl
 have hle:(BitVec.ofInt k.bits c).toNat≤(BitVec.ofInt k.bits n ||| BitVec.ofInt k.bits c).toNat:=by
  rw[BitVec.toNat_or]
  exact Nat.right_le_or
 have hc:((BitVec.ofInt k.bits c).toNat:Int)=c:=by
  rw[BitVec.toNat_ofInt]
  have:c % ((2 ^ k.bits:Nat):Int)=c:=Int.emod_eq_of_lt h0 (by omega)
  rw[this]
  exact Int.toNat_of_nonneg h0
 rw[DR k _ ⟨by rw[hmin]; omega,by rw[hmax]; omega⟩,hmax]
 omega
theorem DY {op : BinOp} {k k' : IntKind} {m : Nat} {r lo hi c n : Int} {v : AV} (h : FV op k m r lo hi k' c = some v) (h1 : n % (m : Int) = r) (h2 : lo ≤ n) (h3 : n ≤ hi) :
 ∃ v',pD op k n k' c=some v'∧ ∀ u,aW G st w v' u→aW G st w v u:=by
 unfold FV at h
 split at h
 ·split at h
  ·rename_i hc
   obtain⟨rfl,h0⟩:=hc
   obtain⟨d,rfl⟩:=Int.eq_ofNat_of_zero_le (Int.le_of_lt h0)
   have hd:0<d:=by exact_mod_cast h0
   simp only[Int.toNat_natCast] at h
   obtain⟨t1,t2,t3⟩:=KR (n:=n) hd
   refine⟨.int k (n.tmod d),?_,fun u hu=>?_⟩
   ·simp only[pD,ne_eq,not_true_eq_false,if_false]
    rw[if_neg (by omega)]
   ·split at h
    ·rename_i hm
     have hr:n % (d:Int)=r % (d:Int):=by
      rw[← h1]
      exact(Int.emod_emod_of_dvd n (by exact_mod_cast Nat.dvd_of_mod_eq_zero hm)).symm
     split at h
     ·injection h with h; subst h
      simp only[aW] at hu ⊢
      rw[hu,Int.tmod_eq_emod_of_nonneg (by omega),hr]
     ·injection h with h; subst h
      simp only[aW] at hu ⊢
      exact⟨_,hu,by rw[t1,hr],t2,t3⟩
    ·split at h
     ·injection h with h; subst h
      simp only[aW] at hu ⊢
      exact⟨_,hu,by omega,by rw[Int.tmod_eq_emod_of_nonneg (by omega)]; exact Int.emod_nonneg _ (by omega),t3⟩
     ·injection h with h; subst h
      simp only[aW] at hu ⊢
      exact⟨_,hu,by omega,t2,t3⟩
  ·cases h
 ·split at h
  ·rename_i hc
   obtain⟨rfl,c1,c2,hm⟩:=hc
   injection h with h; subst h
   refine⟨.int k (n+c),?_,fun u hu=>?_⟩
   ·simp only[pD,ne_eq,not_true_eq_false,if_false]
    rw[DR k (n+c) ⟨by omega,by omega⟩]
   ·simp only[aW] at hu ⊢
    refine⟨_,hu,?_,by omega,by omega⟩
    rw[← h1,Int.emod_add_emod]
  ·cases h
 ·split at h
  ·rename_i hc
   obtain⟨rfl,h0,c1,c2,c3⟩:=hc
   obtain⟨d,rfl⟩:=Int.eq_ofNat_of_zero_le h0
   simp only[Int.toNat_natCast] at c1 c2 h
   have:=LV k n (d+1).log2 c2 c3
   rw[← c1] at this
   have e1:(((d+1:Nat):Int) - 1)=d:=by omega
   rw[e1] at this
   refine⟨.int k (n % ((d+1:Nat):Int)),?_,fun u hu=>?_⟩
   ·simp only[pD,ne_eq,not_true_eq_false,if_false]
    rw[this]
   ·split at h
    ·rename_i hm
     injection h with h; subst h
     have hr:n % ((d+1:Nat):Int)=r % ((d+1:Nat):Int):=by
      rw[← h1]
      exact(Int.emod_emod_of_dvd n (by exact_mod_cast Nat.dvd_of_mod_eq_zero hm)).symm
     rw[hr] at hu
     exact hu
    ·injection h with h; subst h
     simp only[aW] at hu ⊢
     have h5:0≤n % ((d+1:Nat):Int):=Int.emod_nonneg _ (by omega)
     have h6:n % ((d+1:Nat):Int)<((d+1:Nat):Int):=Int.emod_lt_of_pos _ (by omega)
     exact⟨_,hu,by omega,h5,by omega⟩
  ·cases h
 ·split at h
  ·rename_i hc
   obtain⟨c0,c1,c2,hm⟩:=hc
   injection h with h; subst h
   have hp:(0:Int)<2 ^ c.toNat:=Int.pow_pos (by omega)
   refine⟨.int k (n.fdiv (2 ^ c.toNat)),?_,fun u hu=>?_⟩
   ·simp only[pD]
    rw[if_neg (by omega),Nat.min_eq_left c1]
   ·simp only[aW] at hu ⊢
    refine⟨_,hu,?_,?_,?_⟩
    ·rw[Int.fdiv_eq_ediv_of_nonneg _ (Int.le_of_lt hp)]
     exact MF hm c2 h1
    ·rw[Int.fdiv_eq_ediv_of_nonneg _ (Int.le_of_lt hp),Int.fdiv_eq_ediv_of_nonneg _ (Int.le_of_lt hp)]
     exact Int.ediv_le_ediv hp h2
    ·rw[Int.fdiv_eq_ediv_of_nonneg _ (Int.le_of_lt hp),Int.fdiv_eq_ediv_of_nonneg _ (Int.le_of_lt hp)]
     exact Int.ediv_le_ediv hp h3
  ·cases h
 ·split at h
  ·rename_i hc
   obtain⟨rfl,hk,c0,c1⟩:=hc
   injection h with h; subst h
   have ho:=Ky k n c hk c0 c1
   refine⟨.int k (k.wrap ((BitVec.ofInt k.bits n ||| BitVec.ofInt k.bits c).toNat)),by simp only[pD,ne_eq,not_true_eq_false,if_false],fun u hu=>?_⟩
   simp only[aW] at hu ⊢
   exact⟨_,hu,by omega,ho.1,ho.2⟩
  ·cases h
 ·split at h
  ·rename_i hc
   obtain⟨rfl,c1,c2,hm⟩:=hc
   injection h with h; subst h
   refine⟨.int k (n - c),?_,fun u hu=>?_⟩
   ·simp only[pD,ne_eq,not_true_eq_false,if_false]
    rw[DR k (n - c) ⟨by omega,by omega⟩]
   ·simp only[aW] at hu ⊢
    refine⟨_,hu,?_,by omega,by omega⟩
    rw[← h1,Int.emod_sub_emod]
  ·cases h
 all_goals first | (cases h; done) | skip
 all_goals
  split at h
  ·rename_i hk
   subst hk
   repeat' split at h
   all_goals first | (cases h; done) | skip
   all_goals
    injection h with h
    subst h
    refine⟨_,by simp only[pD,ne_eq,not_true_eq_false,if_false] <;> rfl,fun u hu=>?_⟩
    simp only[aW] at hu ⊢
    rw[hu]
    congr 1
    first
     | (rw[decide_eq_true_eq]; omega)
     | (rw[decide_eq_false_iff_not]; omega)
     | (rw[beq_eq_false_iff_ne]; omega)
     | (rw[bne_iff_ne]; omega)
  ·cases h
theorem Ka {op:UnOp}{x:AV}{u:Value}{v:AV}(hx:aW G st w x u)(h:LY op x=some v):∃ r,(Op.unary op u).run P w=.ok r w∧aW G st w v r:=by
 unfold LY at h
 split at h
 ·injection h with h; subst h; simp only[aW] at hx; subst hx; exact⟨_,by simp[Op.unary,Op.intArith] <;> rfl,by simp[aW]⟩
 ·simp only[aW] at hx; subst hx
  simp only[pD,ne_eq,not_true_eq_false,if_false] at h
  injection h with h; subst h
  refine⟨_,by simp only[Op.unary,Op.intBits,Sem.run_pure] <;> rfl,by simp only[aW]⟩
 ·injection h with h; subst h; simp only[aW] at hx; subst hx; exact⟨_,by simp[Op.unary] <;> rfl,by simp[aW]⟩
 ·cases h
set_option maxHeartbeats 2000000 in
theorem Fb {d:TypeDesc}{xo yo:Operand}{x y:AV}{t:TypeId}{u v:Value}{b:Bool}(D:Nat)(ht:P.underlying t=some d)(hx:aW G st w x u)(hy:aW G st w y v)
 (h:D8 d xo yo x y=some b):(Op.equalIn (D+1) t u v).run P w=.ok b w:=by
 unfold D8 at h
 split at h <;> first | (cases h; done) | skip
 all_goals simp only[aW] at hx hy
 all_goals first | subst hx | obtain⟨rfl,_⟩:=hx | obtain⟨_,_,rfl⟩:=hx | obtain⟨_,rfl,_⟩:=hx | obtain⟨_,_,rfl,_⟩:=hx | obtain⟨_,_,_,rfl,_⟩:=hx | obtain⟨_,_,_,_,_,rfl,_⟩:=hx
 all_goals first | subst hy | obtain⟨rfl,_⟩:=hy | obtain⟨_,_,rfl⟩:=hy | obtain⟨_,rfl,_⟩:=hy | obtain⟨_,_,rfl,_⟩:=hy | obtain⟨_,_,_,rfl,_⟩:=hy | obtain⟨_,_,_,_,_,rfl,_⟩:=hy
 all_goals first
  | (injection h with h; subst h; simp[Op.equalIn,run_underlying ht]; done)
  | (split at h <;> first | (cases h; done) | (injection h with h; subst h; subst_vars; simp[Op.equalIn,run_underlying ht]; done))
theorem Bp {op:BinOp}{ws:List (List UInt8)}{lo hi:Nat}{x s:List UInt8}{v:AV}(h:Cm op ws lo hi x=some v)(s1:∀ y ∈ ws,s≠y)(s2:lo≤s.length)(s3:s.length≤hi):
 A3 op s x=some v∧A3 op x s=some v:=by
 unfold Cm at h
 obtain⟨hc,h⟩:=bC h
 have hne:s≠x:=by
  simp only[Bool.or_eq_true,List.any_eq_true,Nat.blt_eq] at hc
  rintro rfl
  rcases hc with(⟨y,h1,h2⟩ | h1) | h1
  ·rw[pN,beq_iff_eq] at h2
   exact s1 y h1 h2.symm
  ·omega
  ·omega
 have e1:kG s x=false:=by rw[pN]; simpa using hne
 have e2:kG x s=false:=by rw[pN]; simpa using fun e=>hne e.symm
 split at h
 ·injection h with h; subst h
  simp only[A3,e1,e2,and_self]
 ·injection h with h; subst h
  simp only[A3,e1,e2,Bool.not_false,and_self]
 ·cases h
theorem zI {d : TypeDesc} {x y : AV} {t : TypeId} {u v : Value} {b : Bool} (D : Nat) (ht : P.underlying t = some d) (hx : aW G st w x u) (hy : aW G st w y v)
 (h:Cg d x y=some b):(Op.equalIn (D+1) t u v).run P w=.ok b w:=by
 unfold Cg at h
 split at h
 ·rename_i k0 k a k' c
  obtain⟨hk,h⟩:=bC h
  injection h with h
  simp only[aW] at hx hy
  subst hx; subst hy; subst h
  have:k=k':=by simpa using hk
  subst this
  exact run_equalIn_int w D t k k0 a c ht
 ·rename_i k0 k m r lo hi k' c
  split at h
  ·rename_i b' hr
   injection h with h; subst h
   simp only[aW] at hx hy
   obtain⟨n,rfl,n1,n2,n3⟩:=hx
   subst hy
   obtain⟨v',i1,i2⟩:=DY (G:=G) (st:=st) (w:=w) hr n1 n2 n3
   by_cases hk:k=k'
   ·subst hk
    simp only[pD,ne_eq,not_true_eq_false,if_false] at i1
    injection i1 with i1
    have:=i2 (.bool (n == c)) (by subst i1; simp only[aW])
    simp only[aW] at this
    injection this with this
    rw[← this]
    exact run_equalIn_int w D t k k0 n c ht
   ·simp[pD,hk] at i1
  ·cases h
 ·rename_i k0 k' c k m r lo hi
  split at h
  ·rename_i b' hr
   injection h with h; subst h
   simp only[aW] at hx hy
   obtain⟨n,rfl,n1,n2,n3⟩:=hy
   subst hx
   obtain⟨v',i1,i2⟩:=DY (G:=G) (st:=st) (w:=w) hr n1 n2 n3
   by_cases hk:k=k'
   ·subst hk
    simp only[pD,ne_eq,not_true_eq_false,if_false] at i1
    injection i1 with i1
    have:=i2 (.bool (n == c)) (by subst i1; simp only[aW])
    simp only[aW] at this
    injection this with this
    rw[← this,run_equalIn_int w D t k k0 c n ht]
    congr 1
    rw[Bool.eq_iff_iff,beq_iff_eq,beq_iff_eq]
    exact eq_comm
   ·simp[pD,hk] at i1
  ·cases h
 ·rename_i a c
  injection h with h; subst h
  simp only[aW] at hx hy
  subst hx; subst hy
  rw[run_equalIn_string w D t _ _ ht,toList_mk,toList_mk,pN]
 ·rename_i ws lo hi s
  split at h
  ·rename_i b' hr
   injection h with h; subst h
   simp only[aW] at hx hy
   obtain⟨x,rfl,s1,s2,s3⟩:=hx
   subst hy
   rw[run_equalIn_string w D t _ _ ht,toList_mk,toList_mk,← pN]
   have:=(Bp hr s1 s2 s3).1
   simp only[A3,Option.some.injEq,AV.bool.injEq] at this
   rw[this]
  ·cases h
 ·rename_i s ws lo hi
  split at h
  ·rename_i b' hr
   injection h with h; subst h
   simp only[aW] at hx hy
   obtain⟨x,rfl,s1,s2,s3⟩:=hy
   subst hx
   rw[run_equalIn_string w D t _ _ ht,toList_mk,toList_mk,← pN]
   have:=(Bp hr s1 s2 s3).2
   simp only[A3,Option.some.injEq,AV.bool.injEq] at this
   rw[this]
  ·cases h
 ·rename_i a c
  injection h with h; subst h
  simp only[aW] at hx hy
  subst hx; subst hy
  exact run_equalIn_bool w D t a c ht
 ·exact Fb D ht hx hy h
theorem vC {t:TypeId}{cs:List AV}{off:Nat}{v:AV}{c:Array Value}(hc:aT G st w cs c.toList)(h:partOf P t cs off=some v):∃ r,(part t c off).run P w=.ok r w∧aW G st w v r:=by
 simp only[partOf,Option.bind_eq_some_iff] at h
 obtain⟨g,hg,h⟩:=h
 split at h
 ·simp only[Option.bind_eq_some_iff] at h
  obtain⟨n,hn,l,hl,h⟩:=h
  injection h with h
  subst h
  obtain⟨h1,rfl⟩:=pY hl
  refine⟨_,by simp[part,DW hg,hJ hn] <;> rfl,?_⟩
  simp only[aW]
  refine⟨_,rfl,?_⟩
  rw[Array.toList_extract]
  have:=(hc.drop off).take n
  simpa[List.take_drop,Nat.add_comm] using this
 ·obtain⟨u,h1,h2⟩:=hc.get h
  refine⟨u,?_,h2⟩
  rw[Array.getElem?_toList] at h1
  simp[part,DW hg,h1]
theorem xJ {E : TypeId → AV → AV → Option Bool} {D : Nat} (hE : ∀ t x y b (u v : Value), aW G st w x u → aW G st w y v → E t x y = some b → (Op.equalIn D t u v).run P w = .ok b w)
 {xs ys:List AV} {us vs:Array Value} (hx:aT G st w xs us.toList) (hy:aT G st w ys vs.toList):∀{fs:List Field} {b:Bool},uM P E xs ys fs=some b→(Op.eqFields D us vs fs).run P w=.ok b w
 | [], b, h => by
   simp only[uM] at h
   injection h with h; subst h
   rfl
 | f :: fs, b, h => by
   simp only[uM] at h
   unfold Op.eqFields
   cases hn:f.name == "_" with
   | true =>
     rw[hn] at h
     have hn':¬ f.name≠ "_" :=by simpa using hn
     rw[if_neg hn']
     exact xJ hE hx hy h
   | false =>
     rw[hn] at h
     have hn':f.name≠ "_" :=by simpa using hn
     rw[if_pos hn']
     simp only[cond_false,Option.bind_eq_some_iff] at h
     obtain⟨a,ha,c,hc,r,hr,h⟩:=h
     obtain⟨u,u1,u2⟩:=vC hx ha
     obtain⟨v,v1,v2⟩:=vC hy hc
     simp only[Sem.run_bind,u1,v1,Result.andThen_ok,hE _ _ _ _ _ _ u2 v2 hr]
     cases r with
     | true =>
       simp only[Bool.not_true,Bool.false_eq_true,if_false]
       exact xJ hE hx hy h
     | false =>
       injection h with h; subst h
       simp
theorem GA (D:Nat):∀(n:Nat) {t:TypeId} {x y:AV} {b:Bool} {u v:Value},aW G st w x u→aW G st w y v→PV P n t x y=some b→(Op.equalIn (D+n) t u v).run P w=.ok b w
 | 0,t,x,y,b,u,v,_,_,h=>by simp only[PV] at h; cases h
 | n + 1, t, x, y, b, u, v, hx, hy, h => by
   simp only[PV,Option.bind_eq_some_iff] at h
   obtain⟨d,hd,h⟩:=h
   split at h
   ·rename_i fs xs ys
    obtain⟨hs,h⟩:=fV h
    simp only[aW] at hx hy
    obtain⟨us,rfl,hx⟩:=hx
    obtain⟨vs,rfl,hy⟩:=hy
    have hf:P.fieldsOf t=fs:=by simp[Program.fieldsOf,hd]
    rw[show D+(n+1)=(D+n)+1 by omega,run_equalIn_struct w (D+n) t us vs (by rw[hf]; exact hd) hs,hf]
    exact xJ (fun t x y b u v hx hy h=>GA D n hx hy h) hx hy h
   ·exact zI (D+n) hd hx hy h
end
end Go.Ev
end
section
set_option linter.all false
namespace Go.Ev
open Go.RowKit (Below)
section
variable {P:Program}{G:Gh}{st:St}{w:World}
theorem MZ {op op':BinOp}(h:J5 op=some op')(k:IntKind)(c n:Int):pD op k c k n=pD op' k n k c:=by
 cases op <;> simp only[J5] at h <;> first | (cases h; done) | skip
 all_goals(injection h with h; subst h; simp only[pD,ne_eq,not_true_eq_false,if_false])
 ·rw[Int.add_comm]
 ·rw[BitVec.and_comm]
 ·rw[BitVec.or_comm]
 ·congr 2
  rw[Bool.eq_iff_iff,beq_iff_eq,beq_iff_eq,eq_comm]
 ·congr 2
  rw[Bool.eq_iff_iff,bne_iff_ne,bne_iff_ne,ne_comm]
theorem JA (k:IntKind)(n:Int):k.min≤k.wrap n∧k.wrap n≤k.max:=by
 cases k <;> simp[IntKind.wrap,IntKind.min,IntKind.max,IntKind.signed,IntKind.bits] <;> (try split) <;> omega
theorem LS (k:IntKind)(n:Int)(m:Nat)(hm:2 ^ k.bits % m=0):k.wrap n % (m:Int)=n % m:=by
 obtain⟨q,hq⟩:=Nat.dvd_of_mod_eq_zero hm
 have hd:(m:Int) ∣ ((2 ^ k.bits:Int)):=by
  refine⟨q,?_⟩
  exact_mod_cast hq
 have e:(2 ^ k.bits:Int)=m * q:=by exact_mod_cast hq
 have h1:=Int.emod_emod_of_dvd n hd
 unfold IntKind.wrap
 simp only
 split
 ·rw[← h1]
  generalize n % (2 ^ k.bits:Int)=x
  rw[e,Int.sub_mul_emod_self_left]
 ·exact h1
theorem I4 {k:IntKind}{m:Nat}{r lo hi n:Int}(h1:n % (m:Int)=r)(h2:lo≤n)(h3:n≤hi):aW G st w (G7 k m r lo hi) (.int k (k.wrap n)):=by
 have hw:=JA k n
 unfold G7
 split
 ·rename_i hc
  simp only[aW]
  exact⟨n,by rw[DR k n ⟨by omega,by omega⟩],h1,h2,h3⟩
 ·split
  ·rename_i hm
   simp only[aW]
   exact⟨_,rfl,by rw[LS k n m hm,h1],hw.1,hw.2⟩
  ·simp only[aW]
   exact⟨_,rfl,by omega,hw.1,hw.2⟩
theorem J7 {op : BinOp} {t : TypeId} {xo yo : Operand} {x y : AV} {u u' : Value} {v : AV} (hx : aW G st w x u) (hy : aW G st w y u') (h : yS P op t xo yo x y = some v) :
 ∃ r,(do eqGuard op t xo yo u u'; binOp op t u u':Sem Value).run P w=.ok r w∧aW G st w v r:=by
 unfold yS at h
 split at h
 ·simp only[aW] at hx hy
  subst hx; subst hy
  obtain⟨r,h1,h2⟩:=Co (P:=P) (G:=G) (st:=st) (w:=w) (t:=t) h
  refine⟨r,?_,h2⟩
  have:∀ k a k' b,(eqGuard op t xo yo (.int k a) (.int k' b)).run P w=.ok () w:=fun k a k' b=>by unfold eqGuard; split <;> rfl
  simp only[Sem.run_bind,this,Result.andThen_ok,h1]
 ·simp only[aW] at hx hy
  subst hx; subst hy
  obtain⟨r,h1,h2⟩:=xQ (P:=P) (G:=G) (st:=st) (w:=w) h
  refine⟨r,?_,h2⟩
  have:∀ a b,(eqGuard op t xo yo (.string a) (.string b)).run P w=.ok () w:=fun a b=>by unfold eqGuard; split <;> rfl
  have hb:∀ a b,binOp op t (.string a) (.string b)=Op.stringOp op a b:=fun a b=>by cases op <;> rfl
  simp only[Sem.run_bind,this,Result.andThen_ok,hb,h1]
 ·simp only[aW] at hx hy
  subst hy
  obtain⟨n,rfl,n1,n2,n3⟩:=hx
  obtain⟨v',i1,i2⟩:=DY (G:=G) (st:=st) (w:=w) h n1 n2 n3
  obtain⟨r,h1,h2⟩:=Co (P:=P) (G:=G) (st:=st) (w:=w) (t:=t) i1
  refine⟨_,?_,i2 _ h2⟩
  have:∀ k a k' b,(eqGuard op t xo yo (.int k a) (.int k' b)).run P w=.ok () w:=fun k a k' b=>by unfold eqGuard; split <;> rfl
  simp only[Sem.run_bind,this,Result.andThen_ok,h1]
 ·simp only[Option.bind_eq_some_iff] at h
  obtain⟨op',ho,h⟩:=h
  obtain⟨hk,h⟩:=bC h
  simp only[aW] at hx hy
  subst hx
  obtain⟨n,rfl,n1,n2,n3⟩:=hy
  have hk':=eq_of_beq hk
  subst hk'
  obtain⟨v',i1,i2⟩:=DY (G:=G) (st:=st) (w:=w) h n1 n2 n3
  rw[← MZ ho] at i1
  obtain⟨r,h1,h2⟩:=Co (P:=P) (G:=G) (st:=st) (w:=w) (t:=t) i1
  refine⟨_,?_,i2 _ h2⟩
  have:∀ k a k' b,(eqGuard op t xo yo (.int k a) (.int k' b)).run P w=.ok () w:=fun k a k' b=>by unfold eqGuard; split <;> rfl
  simp only[Sem.run_bind,this,Result.andThen_ok,h1]
 ·simp only[aW] at hx hy
  subst hy
  obtain⟨s,rfl,s1,s2,s3⟩:=hx
  obtain⟨r,h1,h2⟩:=xQ (P:=P) (G:=G) (st:=st) (w:=w) (Bp h s1 s2 s3).1
  refine⟨r,?_,h2⟩
  have:∀ a b,(eqGuard op t xo yo (.string a) (.string b)).run P w=.ok () w:=fun a b=>by unfold eqGuard; split <;> rfl
  have hb:∀ a b,binOp op t (.string a) (.string b)=Op.stringOp op a b:=fun a b=>by cases op <;> rfl
  simp only[Sem.run_bind,this,Result.andThen_ok,hb,h1]
 ·simp only[aW] at hx hy
  subst hx
  obtain⟨s,rfl,s1,s2,s3⟩:=hy
  obtain⟨r,h1,h2⟩:=xQ (P:=P) (G:=G) (st:=st) (w:=w) (Bp h s1 s2 s3).2
  refine⟨r,?_,h2⟩
  have:∀ a b,(eqGuard op t xo yo (.string a) (.string b)).run P w=.ok () w:=fun a b=>by unfold eqGuard; split <;> rfl
  have hb:∀ a b,binOp op t (.string a) (.string b)=Op.stringOp op a b:=fun a b=>by cases op <;> rfl
  simp only[Sem.run_bind,this,Result.andThen_ok,hb,h1]
 ·rename_i xs ys
  have h0:=fV h
  clear h
  obtain⟨hg,h⟩:=h0
  simp only[Option.bind_eq_some_iff] at h
  obtain⟨b,hb,h⟩:=h
  have he:=GA (P:=P) (G:=G) (st:=st) (w:=w) 9980 20 hx hy hb
  simp only[aW] at hx hy
  obtain⟨us,rfl,_⟩:=hx
  obtain⟨vs,rfl,_⟩:=hy
  have hgd:∀ op,(eqGuard op t xo yo (.agg us) (.agg vs)).run P w=.ok () w:=fun op=>by
   cases op <;> simp[eqGuard,run_program,hg]
  rw[Sem.run_bind,hgd,Result.andThen_ok]
  split at h
  ·injection h with h; subst h
   refine⟨.bool b,?_,by simp only[aW]⟩
   rw[run_eql_struct]
   rw[he]; rfl
  ·injection h with h; subst h
   refine⟨.bool (!b),?_,by simp only[aW]⟩
   rw[run_neq_struct]
   rw[he]; rfl
  ·cases h
 ·rename_i i a j b
  simp only[Option.bind_eq_some_iff] at h
  obtain⟨d,hd,h⟩:=h
  split at h
  ·rename_i e
   simp only[Option.bind_eq_some_iff] at h
   obtain⟨n,hn,h⟩:=h
   have h0:=bC h
   clear h
   obtain⟨hq,h⟩:=h0
   simp only[Bool.and_eq_true] at hq
   have e1:=Nat.eq_of_beq_eq_true hq.1
   have e2:=Nat.eq_of_beq_eq_true hq.2
   subst e1; subst e2
   simp only[aW] at hx hy
   obtain⟨b1,k1,n1,y1,rfl⟩:=hx
   obtain⟨b2,k2,n2,y2,rfl⟩:=hy
   rw[y1] at y2
   injection y2 with y2; injection y2 with y2 _
   subst y2
   have he:(Op.equalIn 10000 t (.pointer (some ⟨b1,a,none⟩)) (.pointer (some ⟨b1,a,none⟩))).run P w=.ok true w:=by
    unfold Op.equalIn
    simp only[Sem.run_bind,run_underlying hd,Result.andThen_ok,hJ hn]
    split
    ·simp[sameAddr]
    ·simp
   have hgd:∀ op,(eqGuard op t xo yo (.pointer (some ⟨b1,a,none⟩)) (.pointer (some ⟨b1,a,none⟩))).run P w=.ok () w:=fun op=>by
    cases op <;> rfl
   rw[Sem.run_bind,hgd,Result.andThen_ok]
   split at h
   ·injection h with h; subst h
    refine⟨.bool true,?_,by simp only[aW]⟩
    show(do pure (.bool (← Op.equalIn 10000 t (.pointer (some ⟨b1,a,none⟩)) (.pointer (some ⟨b1,a,none⟩)))):Sem Value).run P w=_
    simp only[Sem.run_bind,he,Result.andThen_ok,Sem.run_pure]
   ·injection h with h; subst h
    refine⟨.bool false,?_,by simp only[aW]⟩
    show(do pure (.bool (!(← Op.equalIn 10000 t (.pointer (some ⟨b1,a,none⟩)) (.pointer (some ⟨b1,a,none⟩))))):Sem Value).run P w=_
    simp only[Sem.run_bind,he,Result.andThen_ok,Sem.run_pure,Bool.not_true]
   ·cases h
  ·cases h
 ·rename_i s u1 s' u1'
  simp only[Option.bind_eq_some_iff] at h
  obtain⟨d,hd,h⟩:=h
  split at h
  ·rename_i ms
   simp only[Option.bind_eq_some_iff] at h
   obtain⟨b,hb,h⟩:=h
   simp only[aW] at hx hy
   obtain⟨v1,rfl,hv1⟩:=hx
   obtain⟨v2,rfl,hv2⟩:=hy
   have he:(Op.equalIn 10000 t (.iface s v1) (.iface s' v2)).run P w=.ok b w:=by
    unfold Op.equalIn
    simp only[Sem.run_bind,run_underlying hd,Result.andThen_ok]
    cases hss:Nat.beq s s' with
    | false =>
      rw[hss] at hb
      injection hb with hb; subst hb
      have hne:s≠s':=by rintro rfl; simp at hss
      simp[hne]
    | true =>
      rw[hss] at hb
      simp only[Bool.not_true,cond_false,Option.bind_eq_some_iff] at hb
      obtain⟨i,hi,hb⟩:=hb
      obtain⟨hc,hb⟩:=fV hb
      have hc:i.comparable=true:=by simpa using hc
      simp only[Option.bind_eq_some_iff] at hb
      obtain⟨ds,hds,hb⟩:=hb
      have hs:s=s':=Nat.eq_of_beq_eq_true hss
      subst hs
      have hl:(Op.equalIn (9998+1) s v1 v2).run P w=.ok b w:=by
       split at hb
       ·exact zI 9998 hds hv1 hv2 hb
       ·exact zI 9998 hds hv1 hv2 hb
       ·exact zI 9998 hds hv1 hv2 hb
       ·cases hb
      simp[typeInfo,hi,hc,hl]
   have hgd:∀ op,(eqGuard op t xo yo (.iface s v1) (.iface s' v2)).run P w=.ok () w:=fun op=>by
    cases op <;> rfl
   rw[Sem.run_bind,hgd,Result.andThen_ok]
   split at h
   ·injection h with h; subst h
    refine⟨.bool b,?_,by simp only[aW]⟩
    show(do pure (.bool (← Op.equalIn 10000 t (.iface s v1) (.iface s' v2))):Sem Value).run P w=_
    simp only[Sem.run_bind,he,Result.andThen_ok,Sem.run_pure]
   ·injection h with h; subst h
    refine⟨.bool (!b),?_,by simp only[aW]⟩
    show(do pure (.bool (!(← Op.equalIn 10000 t (.iface s v1) (.iface s' v2)))):Sem Value).run P w=_
    simp only[Sem.run_bind,he,Result.andThen_ok,Sem.run_pure]
   ·cases h
  ·cases h
 ·simp only[Option.bind_eq_some_iff] at h
  obtain⟨d,hd,b,hb,h⟩:=h
  have he:=Fb (P:=P) (G:=G) (st:=st) (w:=w) 9999 hd hx hy hb
  have hg:(eqGuard op t xo yo u u').run P w=.ok () w:=by
   unfold D8 at hb
   split at hb <;> first | (cases hb; done) | skip
   all_goals simp only[aW] at hx hy
   all_goals first | subst hx | obtain⟨rfl,_⟩:=hx | obtain⟨_,_,rfl⟩:=hx | obtain⟨_,rfl,_⟩:=hx | obtain⟨_,_,rfl,_⟩:=hx | obtain⟨_,_,_,rfl,_⟩:=hx | obtain⟨_,_,_,_,_,rfl,_⟩:=hx
   all_goals first | subst hy | obtain⟨rfl,_⟩:=hy | obtain⟨_,_,rfl⟩:=hy | obtain⟨_,rfl,_⟩:=hy | obtain⟨_,_,rfl,_⟩:=hy | obtain⟨_,_,_,rfl,_⟩:=hy | obtain⟨_,_,_,_,_,rfl,_⟩:=hy
   all_goals first
    | (unfold eqGuard; split <;> rfl)
    | (split at hb <;> first | (cases hb; done) | (unfold eqGuard; split <;> simp))
  have key:∀(z:Sem Value),binOp op t u u'=z→(eqGuard op t xo yo u u' >>= fun _=>binOp op t u u').run P w=z.run P w:=fun z hz=>by
   rw[Sem.run_bind,hg,Result.andThen_ok,hz]
  have h1:∀(z:Sem Bool),z=Op.equalIn 10000 t u u'→z.run P w=.ok b w:=fun z hz=>by rw[hz]; exact he
  unfold D8 at hb
  split at h
  ·injection h with h
   subst h
   refine⟨.bool b,?_,by simp only[aW]⟩
   rw[key (do pure (.bool (← Op.equal t u u'))) ?_]
   ·simp only[Sem.run_bind,h1 _ rfl,Result.andThen_ok,Sem.run_pure,Op.equal,Op.maxDepth]
   ·split at hb <;> first | (cases hb; done) | skip
    all_goals simp only[aW] at hx hy
    all_goals first | subst hx | obtain⟨rfl,_⟩:=hx | obtain⟨_,_,rfl⟩:=hx | obtain⟨_,rfl,_⟩:=hx | obtain⟨_,_,rfl,_⟩:=hx | obtain⟨_,_,_,rfl,_⟩:=hx | obtain⟨_,_,_,_,_,rfl,_⟩:=hx
    all_goals first | subst hy | obtain⟨rfl,_⟩:=hy | obtain⟨_,_,rfl⟩:=hy | obtain⟨_,rfl,_⟩:=hy | obtain⟨_,_,rfl,_⟩:=hy | obtain⟨_,_,_,rfl,_⟩:=hy | obtain⟨_,_,_,_,_,rfl,_⟩:=hy
    all_goals first | rfl | (exfalso; simp_all; done)
  ·injection h with h
   subst h
   refine⟨.bool (!b),?_,by simp only[aW]⟩
   rw[key (do pure (.bool (!(← Op.equal t u u')))) ?_]
   ·simp only[Sem.run_bind,h1 _ rfl,Result.andThen_ok,Sem.run_pure,Op.equal,Op.maxDepth]
   ·split at hb <;> first | (cases hb; done) | skip
    all_goals simp only[aW] at hx hy
    all_goals first | subst hx | obtain⟨rfl,_⟩:=hx | obtain⟨_,_,rfl⟩:=hx | obtain⟨_,rfl,_⟩:=hx | obtain⟨_,_,rfl,_⟩:=hx | obtain⟨_,_,_,rfl,_⟩:=hx | obtain⟨_,_,_,_,_,rfl,_⟩:=hx
    all_goals first | subst hy | obtain⟨rfl,_⟩:=hy | obtain⟨_,_,rfl⟩:=hy | obtain⟨_,rfl,_⟩:=hy | obtain⟨_,_,rfl,_⟩:=hy | obtain⟨_,_,_,rfl,_⟩:=hy | obtain⟨_,_,_,_,_,rfl,_⟩:=hy
    all_goals first | rfl | (exfalso; simp_all; done)
  ·cases h
theorem G8 {s d:TypeId}{x:AV}{dd:TypeDesc}{u:Value}{v:AV}{ds:TypeDesc}(hs:P.underlying s=some ds)(hd:P.underlying d=some dd)(hx:aW G st w x u)
 (h:EK dd x=some v):∃ r,(convert s d u).run P w=.ok r w∧aW G st w v r:=by
 unfold EK at h
 split at h
 ·injection h with h; subst h; simp only[aW] at hx; subst hx
  exact⟨_,by simp[convert,run_underlying hs,run_underlying hd,Conv.intToInt] <;> rfl,by simp[aW]⟩
 ·injection h with h; subst h
  simp only[aW] at hx
  obtain⟨n,rfl,n1,n2,n3⟩:=hx
  exact⟨_,by simp[convert,run_underlying hs,run_underlying hd,Conv.intToInt] <;> rfl,I4 n1 n2 n3⟩
 ·injection h with h; subst h; simp only[aW] at hx; subst hx
  exact⟨_,by simp[convert,run_underlying hs,run_underlying hd] <;> rfl,by simp[aW]⟩
 ·cases h
theorem FW (off:Nat):∀(l:List Value) (k:Nat) (c:Array Value),off+k+l.length≤c.size →
 ((l.zipIdx k).foldl (fun cs (x:Value×Nat)=>cs.setIfInBounds (off+x.2) x.1) c).toList=c.toList.take (off+k) ++ l ++ c.toList.drop (off+k+l.length)
 | [],k,c,_=>by simp
 | v :: l, k, c, h => by
   simp only[List.length_cons] at h
   rw[List.zipIdx_cons,List.foldl_cons,FW off l (k+1) _ (by simp; omega)]
   simp only[Array.toList_setIfInBounds,List.length_cons]
   have hlt:off+k<c.toList.length:=by simp; omega
   rw[show off+(k+1)=off+k+1 by omega,List.take_succ_eq_append_getElem (by simpa using hlt),List.drop_set_of_lt (by omega),
    show off+k+1+l.length=off+k+(l.length+1) by omega]
   simp[List.take_set_of_le]
theorem Bg (place : Nat → Option (Nat × Nat)) : ∀ {ps : List (Nat × AV)} {qs : List (Nat × Value)} {cs cs' : List AV} {c : Array Value},
 aT G st w cs c.toList→qs.map (·.1)=ps.map (·.1)→aT G st w (ps.map (·.2)) (qs.map (·.2))→p8 place cs ps=some cs' →
 ∃ c',Instr.fill place c qs=some c'∧aT G st w cs' c'.toList
 | [], qs, cs, cs', c, hc, hi, hr, h => by
   simp only[List.map_nil,List.map_eq_nil_iff] at hi
   subst hi
   simp only[p8] at h
   injection h with h
   subst h
   exact⟨c,rfl,hc⟩
 | (i, v) :: ps, qs, cs, cs', c, hc, hi, hr, h => by
   cases qs with
   | nil=>simp at hi
   | cons q qs =>
     obtain⟨j,u⟩:=q
     simp only[List.map_cons,List.cons.injEq] at hi hr
     obtain⟨rfl,hi⟩:=hi
     obtain⟨u',l,e,hu,hr⟩:=hr.cons_inv
     injection e with e1 e2
     subst e1; subst e2
     simp only[p8,Option.bind_eq_some_iff] at h
     obtain⟨⟨off,sz⟩,hp,h⟩:=h
     obtain⟨hg,h⟩:=bC h
     simp only[Bool.and_eq_true] at hg
     have g1:=Nat.eq_of_beq_eq_true hg.1
     have g2:=Nat.le_of_ble_eq_true hg.2
     have hcl:=hc.length
     have hul:=hu.cells.length
     simp only[Array.length_toList] at hcl hul
     have hfold:=FW off u.cells.toList 0 c (by simp; omega)
     have hc2:aT G st w (dK cs off v.cells) (u.cells.zipIdx.foldl (fun cs (x:Value×Nat)=>cs.setIfInBounds (off+x.2) x.1) c).toList:=by
      rw[← Array.foldl_toList,Array.toList_zipIdx,hfold]
      simp only[Nat.add_zero,dK,Array.length_toList]
      rw[← hul]
      exact aT.append (aT.append (hc.take _) hu.cells) (hc.drop _)
     obtain⟨c',k1,k2⟩:=Bg place hc2 hi hr h
     refine⟨c',?_,k2⟩
     simp only[Instr.fill,hp]
     rw[if_neg (by simp; omega)]
     exact k1
theorem Cp {ts:List AV}{a:Act}(h:aT G st w ts a.tmps.toList):∀{ps:List (Nat×Operand)} {l:List (Nat×AV)},pZ ts ps=some l →
 (ps.map fun(i,x)=>(i,a.eval x)).map (·.1)=l.map (·.1)∧aT G st w (l.map (·.2)) ((ps.map fun(i,x)=>(i,a.eval x)).map (·.2))
 | [],l,hp=>by simp only[pZ] at hp; injection hp with hp; subst hp; exact⟨rfl,aT.nil⟩
 | (i, x) :: ps, l, hp => by
   simp only[pZ,Option.bind_eq_some_iff] at hp
   obtain⟨v,h1,l',h2,h3⟩:=hp
   injection h3 with h3
   subst h3
   obtain⟨k1,k2⟩:=Cp h h2
   exact⟨by simp only[List.map_cons,k1],by simpa only[List.map_cons] using aT.cons (aW.cP h h1) k2⟩
theorem Hq {t:TypeId}{ps:Array (Nat×Operand)}{l:List (Nat×AV)}{ts:List AV}{a:Act}{v:AV}(hts:aT G st w ts a.tmps.toList)(hl:pZ ts ps.toList=some l)
 (h:Bt P t l=some v):∃ r,(Instr.build t (ps.map fun(i,x)=>(i,a.eval x))).run P w=.ok r w∧aW G st w v r:=by
 obtain⟨q1,q2⟩:=Cp hts hl
 simp only[Bt,Option.bind_eq_some_iff] at h
 obtain⟨z,hz,d,hd,h⟩:=h
 obtain⟨zv,_,z2,i,hi,hi0⟩:=qW (G:=G) (st:=st) hz w
 have hzc:=z2.cells
 split at h
 ·rename_i fs
  simp only[Option.bind_eq_some_iff] at h
  obtain⟨places,hp,cs,hf,h⟩:=h
  injection h with h
  subst h
  obtain⟨c',k1,k2⟩:=Bg _ hzc q1 q2 hf
  refine⟨.agg c',run_build w t _ c' ?_,by simp only[aW]; exact⟨c',rfl,k2⟩⟩
  simp only[Program.built,hi,hd,hi0,hp]
  simpa using k1
 ·rename_i n e
  simp only[Option.bind_eq_some_iff] at h
  obtain⟨sz,hsz,cs,hf,h⟩:=h
  injection h with h
  subst h
  obtain⟨ie,hie,hies⟩:=uD hsz
  obtain⟨c',k1,k2⟩:=Bg _ hzc q1 q2 hf
  refine⟨.agg c',run_build w t _ c' ?_,by simp only[aW]; exact⟨c',rfl,k2⟩⟩
  simp only[Program.built,hi,hd,hi0,hie,hies]
  simpa using k1
 ·cases h
end
end Go.Ev
end
