/- PlanChooses, part 1 of 11 of its proof (what is proved: whatever the text is, the law answers true; conditions: those each theorem states). Joined and shortened by a program. In order: EvA: Abstract values and stores, and the operations over them: a deterministic reading of the m | EvB: The evaluator: operations, regions, code, calls. | EvC: The evaluator: regions, code, calls. | EvD: What an abstract value says of a value in a world; how a world may go on. | EvE: Lists of values, rows of cells, the table, what holds of a world as a whole. | EvF: Births, stores and appends, told of the whole. | EvG: The operations that yield a value alone: what they say of the model's. | EvH: The operations that yield a value alone, one by one. -/
import Derived.Calls
import Derived.Defers
import Derived.Orders
import Derived.Below
import Derived.WalkKit
import Derived.Laws.IdiomCopy
import Derived.Laws.IdiomStrings
import Derived.RangeFuncRecord
import Derived.Laws.Tables
import Derived.Laws.StructEq
section
set_option linter.all false
namespace Go.Ev
inductive AV where
 | int (k:IntKind) (n:Int)
 | bool (b:Bool)
 | str (s:List UInt8)
 | zE
 | ref (id off:Nat)
 | CV (g off:Nat)
 | pM (cells:List AV)
 | aF
 | sl (id e len sz:Nat) (cap:Option Nat) (cells:List AV)
 | j9 (id off len sz:Nat) (cap:Option Nat)
 | sT
 | B1
 | map (id:Nat)
 | func (fn:Fn) (first captured:List AV)
 | yield (id:Nat)
 | Dr
 | iface (t:TypeId) (v:AV)
 | B7
 | agg (cells:List AV)
 | tuple (vs:List AV)
 | wF (k:IntKind) (m:Nat) (r lo hi:Int)
 | El (ws:List (List UInt8)) (lo hi:Nat)
 | any
 | L6 (b off len cap:Nat)
 deriving Inhabited
def AV.undef:AV:=.tuple []
def AV.cells:AV→List AV
 | .agg cs=>cs
 | v=>[v]
def AV.one:AV→Bool
 | .agg _=>false
 | .tuple _=>false
 | _=>true
structure MK where
 state:LoopState
 pending:Option Code
 fn:FuncId
 tmps:List AV
 params:Array Tmp
 assign:Code
 body:Code
 defers:Nat
inductive gS where
 | cells (t:TypeId) (full:Bool) (cs:List AV)
 | nE (n:Nat)
 | map (es:List (AV×AV×Nat)) (clock:Nat)
 | iter (m:Option Nat) (since:Nat) (seen:List Nat) (last:Nat)
 | BV (s:List UInt8) (pos:Nat)
 | loop (l:MK)
 | MA
 | dead
instance:Inhabited gS:=⟨.dead⟩
inductive Tr (α:Type) where
 | leaf
 | node (l:Tr α) (v:Option α) (r:Tr α)
namespace Tr
variable {α:Type}
def get:Tr α→Nat→Option α
 | .leaf,_=>none
 | .node l v r,n=>cond (Nat.beq n 0) v (cond (Nat.beq (n % 2) 1) (l.get (n / 2)) (r.get (n / 2 - 1)))
def single (a:α):Nat→Nat→Tr α
 | 0,_=>.node .leaf (some a) .leaf
 | f+1,n=>cond (Nat.beq n 0) (.node .leaf (some a) .leaf) (cond (Nat.beq (n % 2) 1) (.node (single a f (n / 2)) none .leaf) (.node .leaf none (single a f (n / 2 - 1))))
def set (a:α):Tr α→Nat→Tr α
 | .leaf,n=>single a n n
 | .node l v r,n=>cond (Nat.beq n 0) (.node l (some a) r) (cond (Nat.beq (n % 2) 1) (.node (l.set a (n / 2)) v r) (.node l v (r.set a (n / 2 - 1))))
end Tr
structure St where
 aS:Tr gS
 next:Nat
 old:Nat→Nat→Option AV:=fun _ _=>none
def St.empty:St:=⟨.leaf,0,fun _ _=>none⟩
def St.push (s:St)(o:gS):St:=⟨s.aS.set o s.next,s.next+1,s.old⟩
def St.put (s:St)(id:Nat)(o:gS):St:=⟨s.aS.set o id,s.next,s.old⟩
def CP:Value→Option AV
 | .int k n=>some (.int k n)
 | .bool b=>some (.bool b)
 | .string s=>some (.str s.data.toList)
 | .pointer none=>some .zE
 | .slice none 0 0=>some .aF
 | .map none=>some .B1
 | .nilFunc=>some .Dr
 | .nilIface=>some .B7
 | _=>none
def AY:List Value→Option (List AV)
 | []=>some []
 | v :: vs=>(CP v).bind fun a=>(AY vs).bind fun a_=>some (a :: a_)
def ofConst:Value→Option AV
 | .agg cs=>(AY cs.toList).bind fun l=>some (.agg l)
 | .tuple ⟨[]⟩=>some (.tuple [])
 | v=>CP v
def cH (ts:List AV):Operand→Option AV
 | .tmp t=>some (ts.getD t AV.undef)
 | .const v=>ofConst v
 | .global g=>some (.CV g 0)
 | .func f=>some (.func (.func f) [] [])
def cU (ts:List AV):List Operand→Option (List AV)
 | []=>some []
 | x :: xs=>(cH ts x).bind fun a=>(cU ts xs).bind fun a_=>some (a :: a_)
def size? (P:Program)(t:TypeId):Option Nat:=(P.info? t).bind fun i=>some i.size
def v7 (P:Program)(t:TypeId):Option AV:=(P.info? t).bind fun i=>i.zero.bind ofConst
def bytes? (P:Program)(t:TypeId):Option Nat:=(P.info? t).bind fun i=>some i.bytes
def NA (P:Program)(t:TypeId):Option Bool:=(P.underlying t).bind fun d=>match d with
 | .struct _=>some true
 | .array _ _=>some true
 | _=>some false
def strLt:List UInt8→List UInt8→Bool
 | _,[]=>false
 | [],_ :: _=>true
 | a :: x,b :: y=>Nat.blt a.toNat b.toNat || (Nat.beq a.toNat b.toNat && strLt x y)
def gT:List UInt8→List UInt8→Bool
 | [],[]=>true
 | a :: x,b :: y=>Nat.beq a.toNat b.toNat && gT x y
 | _,_=>false
def Aq (op:BinOp)(x y:List UInt8):Option AV:=
 match op with
 | .add=>cond (Nat.ble (x.length+y.length) 9223372036854775807) (some (.str (x ++ y))) none
 | .eql=>some (.bool (gT x y))
 | .neq=>some (.bool (!gT x y))
 | .lss=>some (.bool (strLt x y))
 | .leq=>some (.bool (strLt x y || gT x y))
 | .gtr=>some (.bool (!(strLt x y || gT x y)))
 | .geq=>some (.bool (!strLt x y))
 | _=>none
def pA (op : BinOp) (k : IntKind) (a : Int) (k' : IntKind) (b : Int) : Option AV :=
 match op with
 | .shl=>if b<0 then none else some (.int k (k.wrap (a * 2 ^ (min b.toNat k.bits))))
 | .shr=>if b<0 then none else some (.int k (a.fdiv (2 ^ (min b.toNat k.bits))))
 | op => if k ≠ k' then none else match op with
   | .add=>some (.int k (k.wrap (a+b)))
   | .sub=>some (.int k (k.wrap (a - b)))
   | .mul=>some (.int k (k.wrap (a * b)))
   | .quo=>if b=0 then none else some (.int k (k.wrap (a.tdiv b)))
   | .rem=>if b=0 then none else some (.int k (a.tmod b))
   | .and=>some (.int k (k.wrap ((BitVec.ofInt k.bits a &&& BitVec.ofInt k.bits b).toNat)))
   | .or=>some (.int k (k.wrap ((BitVec.ofInt k.bits a ||| BitVec.ofInt k.bits b).toNat)))
   | .xor=>some (.int k (k.wrap ((BitVec.ofInt k.bits a ^^^ BitVec.ofInt k.bits b).toNat)))
   | .andNot=>some (.int k (k.wrap ((BitVec.ofInt k.bits a &&& ~~~ BitVec.ofInt k.bits b).toNat)))
   | .eql=>some (.bool (a == b))
   | .neq=>some (.bool (a != b))
   | .lss=>some (.bool (a<b))
   | .leq=>some (.bool (a≤b))
   | .gtr=>some (.bool (a>b))
   | .geq=>some (.bool (a≥b))
   | _=>none
def GS (op:BinOp)(k:IntKind)(m:Nat)(r lo hi:Int)(k':IntKind)(c:Int):Option AV:=
 match op with
 | .rem=>if k=k'∧0<c then(if m % c.toNat=0 then(if 0≤lo then some (.int k (r % c)) else some (.wF k c.toNat (r % c) (1 - c) (c - 1))) else(if 0≤lo then some (.wF k 1 0 0 (c - 1)) else some (.wF k 1 0 (1 - c) (c - 1)))) else none
 | .add=>if k=k'∧k.min≤lo+c∧hi+c≤k.max∧0<m then some (.wF k m ((r+c) % m) (lo+c) (hi+c)) else none
 | .and=>if k=k'∧0≤c∧c.toNat+1=2 ^ (c.toNat+1).log2∧(c.toNat+1).log2<31∧32≤k.bits then(if m % (c.toNat+1)=0 then some (.int k (r % (c+1))) else some (.wF k 1 0 0 c)) else none
 | .shr=>if 0≤c∧c.toNat≤k.bits∧m % 2 ^ c.toNat=0∧0<m then some (.wF k (m / 2 ^ c.toNat) (r / 2 ^ c.toNat) (lo.fdiv (2 ^ c.toNat)) (hi.fdiv (2 ^ c.toNat))) else none
 | .or=>if k=k'∧k.signed=false∧0≤c∧c≤k.max then some (.wF k 1 0 c k.max) else none
 | .sub=>if k=k'∧k.min≤lo - c∧hi - c≤k.max∧0<m then some (.wF k m ((r - c) % m) (lo - c) (hi - c)) else none
 | .lss=>if k=k' then(if hi<c then some (.bool true) else if c≤lo then some (.bool false) else none) else none
 | .leq=>if k=k' then(if hi≤c then some (.bool true) else if c<lo then some (.bool false) else none) else none
 | .gtr=>if k=k' then(if c<lo then some (.bool true) else if hi≤c then some (.bool false) else none) else none
 | .geq=>if k=k' then(if c≤lo then some (.bool true) else if hi<c then some (.bool false) else none) else none
 | .eql=>if k=k' then(if hi<c∨c<lo then some (.bool false) else none) else none
 | .neq=>if k=k' then(if hi<c∨c<lo then some (.bool true) else none) else none
 | _=>none
def Jc:BinOp→Option BinOp
 | .add=>some .add
 | .and=>some .and
 | .or=>some .or
 | .eql=>some .eql
 | .neq=>some .neq
 | .lss=>some .gtr
 | .leq=>some .geq
 | .gtr=>some .lss
 | .geq=>some .leq
 | _=>none
def Gp (k:IntKind)(m:Nat)(r lo hi:Int):AV:=
 if k.min≤lo∧hi≤k.max then .wF k m r lo hi else if 2 ^ k.bits % m=0 then .wF k m r k.min k.max else .wF k 1 0 k.min k.max
def D8 (op : BinOp) (ws : List (List UInt8)) (lo hi : Nat) (s : List UInt8) : Option AV :=
 cond (ws.any (fun w=>gT w s) || Nat.blt s.length lo || Nat.blt hi s.length) (match op with
  | .eql=>some (.bool false)
  | .neq=>some (.bool true)
  | _=>none) none
def Dh (d : TypeDesc) (xo yo : Operand) (x y : AV) : Option Bool :=
 match d,x,y with
 | .bool,.bool a,.bool b=>some (a == b)
 | .pointer _,.zE,.zE=>some true
 | .pointer _,.zE,.ref _ _=>some false
 | .pointer _,.ref _ _,.zE=>some false
 | .pointer _,.zE,.pM _=>some false
 | .pointer _,.pM _,.zE=>some false
 | .slice _,.aF,.aF=>some true
 | .slice _,.aF,.sl ..=>some false
 | .slice _,.sl ..,.aF=>some false
 | .slice _,.aF,.j9 ..=>some false
 | .slice _,.j9 ..,.aF=>some false
 | .slice _,.aF,.L6 ..=>some false
 | .slice _,.L6 ..,.aF=>some false
 | .slice _,.aF,.sT=>some false
 | .slice _,.sT,.aF=>some false
 | .map _ _,.B1,.B1=>some true
 | .map _ _,.B1,.map _=>some false
 | .map _ _,.map _,.B1=>some false
 | .func _ _ _,.Dr,.Dr=>some true
 | .func _ _ _,.Dr,.func ..=>some false
 | .func _ _ _,.func ..,.Dr=>some false
 | .interface _, .B7, .B7 => match xo, yo with
   | .const _,_=>some true
   | _,.const _=>some true
   | _,_=>none
 | .interface _,.B7,.iface ..=>some false
 | .interface _,.iface ..,.B7=>some false
 | _,_,_=>none
end Go.Ev
end
section
set_option linter.all false
namespace Go.Ev
structure AO where
 P:Program
 cQ:FuncId→Bool
 Bu:FuncId→List AV→St→Option (AV×St)
def range? (cs:List AV)(off n:Nat):Option (List AV):=cond (Nat.ble (off+n) cs.length) (some ((cs.drop off).take n)) none
def dJ (cs:List AV)(off:Nat)(vs:List AV):List AV:=cs.take off ++ vs ++ cs.drop (off+vs.length)
def tW (o:Nat→Nat→Option AV)(b off:Nat):Nat→Option (List AV)
 | 0=>some []
 | n+1=>(o b off).bind fun a=>cond a.one ((tW o b (off+1) n).bind fun l=>some (a :: l)) none
def tA (st : St) (p : AV) (n : Nat) : Option (List AV) :=
 match p with
 | .ref id off => match st.aS.get id with
   | some (.cells _ _ cs)=>range? cs off n
   | _=>none
 | .pM cs=>range? cs 0 n
 | .CV g off=>tW st.old g off n
 | _=>none
def shaped (isAgg : Bool) (cs : List AV) : Option AV :=
 match isAgg with
 | true=>some (.agg cs)
 | false => match cs with
   | [c]=>some c
   | _=>none
def loadAt (P:Program)(st:St)(t:TypeId)(p:AV):Option AV:=
 (NA P t).bind fun g=>(size? P t).bind fun n=>(tA st p (cond g n 1)).bind fun cs=>shaped g cs
def iH (st : St) (p : AV) (vs : List AV) : Option St :=
 match p with
 | .ref id off => match st.aS.get id with
   | some (.cells t u cs)=>cond (Nat.ble (off+vs.length) cs.length) (some (st.put id (.cells t u (dJ cs off vs)))) none
   | _=>none
 | _=>none
def storeAt (P:Program)(st:St)(t:TypeId)(p v:AV):Option St:=
 (size? P t).bind fun n=>cond (Nat.beq v.cells.length n && v.cells.all AV.one) (iH st p v.cells) none
def shift (p:AV)(n:Nat):Option AV:=
 match p with
 | .ref id off=>some (.ref id (off+n))
 | .pM cs=>cond (Nat.ble n cs.length) (some (.pM (cs.drop n))) none
 | .CV g off=>some (.CV g (off+n))
 | _=>none
def partOf (P : Program) (t : TypeId) (cs : List AV) (off : Nat) : Option AV :=
 (NA P t).bind fun g=>match g with
  | true=>(size? P t).bind fun n=>(range? cs off n).bind fun l=>some (.agg l)
  | false=>cs[off]?
def Dw (P : Program) (s : TypeId) (i : Nat) : Option Field :=
 (P.underlying s).bind fun d=>match d with
  | .struct fs=>fs[i]?
  | _=>none
def eD (st : St) (n : Nat) (v : AV) (sz : Nat) : Option (List AV) :=
 match v with
 | .aF=>cond (Nat.beq n 0) (some []) none
 | .sT=>cond (Nat.beq n 0) (some []) none
 | .sl _ _ len sz' _ cs=>cond (Nat.ble n len && Nat.beq sz sz') (range? cs 0 (n * sz)) none
 | .j9 id off len sz' _ => match st.aS.get id with
   | some (.cells _ _ cs)=>cond (Nat.ble n len && Nat.beq sz sz') (range? cs off (n * sz)) none
   | _=>none
 | .L6 b off len _=>cond (Nat.ble n len) (tW st.old b off (n * sz)) none
 | _=>none
def lenOf:AV→Option Nat
 | .aF=>some 0
 | .sT=>some 0
 | .sl _ _ n _ _ _=>some n
 | .j9 _ _ n _ _=>some n
 | .L6 _ _ n _=>some n
 | _=>none
def eS (cQ:Bool)(t:TypeId)(len sz:Nat)(cap:Option Nat)(cs:List AV):(Nat→AV)×gS:=
 match cQ with
 | true=>(fun id=>.j9 id 0 len sz cap,.cells t (match cap with | some c=>Nat.beq c len | none=>false) cs)
 | false=>(fun id=>.sl id cs.length len sz cap cs,.nE cs.length)
def St.Ih (st:St)(x:(Nat→AV)×gS):AV×St:=(x.1 st.next,st.push x.2)
def iL:Nat:=1073741824
def qH (P : Program) (st : St) (t t' : TypeId) (n : Nat) (sz : Nat) (x : AV) : Option (List AV) :=
 match x with
 | .str s => (P.underlying t').bind fun d => match d with
   | .string=>cond (Nat.beq sz 1 && Nat.ble n s.length) (some ((s.take n).map fun b=>.int .u8 b.toNat)) none
   | _=>none
 | x=>cond (Nat.beq t t') (eD st n x sz) none
def A4:AV→Option Nat
 | .str s=>some s.length
 | x=>lenOf x
def cX (P : Program) (cQ : Bool) (st : St) (argTypes : Array TypeId) (s x : AV) : Option (AV × St) :=
 match argTypes.toList with
 | [t, t'] => (P.underlying t).bind fun d => match d with
   | .slice elem => (size? P elem).bind fun sz => (bytes? P elem).bind fun bs => (v7 P elem).bind fun z => (A4 x).bind fun n => (qH P st t t' n sz x).bind fun new =>
     cond (!(new.all AV.one && Nat.ble n iL && Nat.ble bs 4096 && !Nat.beq sz 0 && Nat.beq z.cells.length sz)) none<|
     match s with
     | .aF=>cond (Nat.beq n 0) (some (.aF,st)) (some (st.Ih (eS cQ elem n sz none new)))
     | .sl id e len sz' cap cs =>
       cond (Nat.beq n 0) (some (s,st))<|cond (!(Nat.ble len iL && Nat.beq sz sz')) none<|
       cond (cap.any fun c=>Nat.blt c (len+n)) (some (st.Ih (eS cQ elem (len+n) sz none (cs ++ new))))<|
       match st.aS.get id with
       | some (.nE h)=>cond (Nat.beq h e && !cQ) (some (.sl id (e+new.length) (len+n) sz cap (cs ++ new),st.put id (.nE (e+new.length)))) none
       | _=>none
     | .j9 id off len sz' cap =>
       cond (Nat.beq n 0) (some (s,st))<|cond (!(Nat.ble len iL && Nat.beq sz sz')) none<|
       match cap with
       | some c=>cond (Nat.ble (len+n) c)
        ((iH st (.ref id (off+len * sz)) new).bind fun st'=>some (.j9 id off (len+n) sz cap,st'))
        ((eD st len s sz).bind fun old=>some (st.Ih (eS true elem (len+n) sz none (old ++ new))))
       | none => match st.aS.get id with
         | some (.cells t0 _ cs) => cond (Nat.ble (off + (len + n) * sz) cs.length)
           ((iH st (.ref id (off+len * sz)) new).bind fun st'=>some (.j9 id off (len+n) sz none,st'))
           (cond (Nat.beq off 0 && Nat.ble (len * sz) cs.length && Nat.beq t0 elem) (some ((st.put id .dead).Ih (eS true elem (len+n) sz none (cs.take (len * sz) ++ new)))) none)
         | _=>none
     | _=>none
   | _=>none
 | _=>none
def intOf:AV→Option Int
 | .int _ n=>some n
 | _=>none
def within (x : AV) (n : Nat) : Option Nat :=
 (intOf x).bind fun i=>match i with
  | .ofNat k=>cond (Nat.ble k n) (some k) none
  | .negSucc _=>none
def Dn (ts:List AV):Option Operand→Option (Option AV)
 | none=>some none
 | some x=>(cH ts x).bind fun v=>some (some v)
def Af (cap:Nat):Option AV→Option Nat
 | some v=>within v cap
 | none=>some cap
def FB (len m:Nat):Option AV→Option AV→Option Nat
 | some v,_=>within v m
 | none,none=>some len
 | none,some _=>none
def Fe (h:Nat):Option AV→Option Nat
 | some v=>within v h
 | none=>some 0
def bounds (len cap:Nat)(low high max:Option AV):Option (Nat×Nat×Nat):=
 (Af cap max).bind fun m=>(FB len m high max).bind fun h=>(Fe h low).bind fun l=>some (l,h,m)
def rW (P : Program) (t : TypeId) (x : AV) (low high max : Option AV) : Option AV :=
 (P.underlying t).bind fun d=>match d,x with
 | .string, .str s => match max with
   | some _=>none
   | none=>(bounds s.length s.length low high none).bind fun(l,h,_)=>some (.str ((s.take h).drop l))
 | .string, .El _ n _ => match max with
   | some _=>none
   | none=>(bounds n n low high none).bind fun(l,h,_)=>cond (high.isSome) (some (.El [] (h - l) (h - l))) none
 | .slice elem,.aF=>(size? P elem).bind fun _=>(bounds 0 0 low high max).bind fun _=>some .aF
 | .slice elem, .sl id e len sz' cap cs => (size? P elem).bind fun sz => cond (!Nat.beq sz sz') none <|
   match max with
   | none=>(bounds len len low high none).bind fun(l,h,_)=>
        some (.sl id (e - (len - h) * sz) (h - l) sz (cap.bind fun c=>some (c - l)) ((cs.take (h * sz)).drop (l * sz)))
   | some _=>(bounds len len low high max).bind fun(l,h,m)=>
        some (.sl id (e - (len - h) * sz) (h - l) sz (some (m - l)) ((cs.take (h * sz)).drop (l * sz)))
 | .slice elem, .j9 id off len sz' cap => (size? P elem).bind fun sz => cond (!Nat.beq sz sz') none <|
   match cap with
   | some c=>(bounds len c low high max).bind fun(l,h,m)=>some (.j9 id (cond (Nat.beq m l) off (off+l * sz)) (h - l) sz (some (m - l)))
   | none=>(bounds len len low high max).bind fun(l,h,m)=>
        cond (Nat.blt l m || Nat.beq l 0) (some (.j9 id (off+l * sz) (h - l) sz (max.bind fun _=>some (m - l)))) (some .sT)
 | .slice elem,.L6 b off len c=>(size? P elem).bind fun sz=>(bounds len c low high max).bind fun(l,h,m)=>some (.L6 b (cond (Nat.beq m l) off (off+l * sz)) (h - l) (m - l))
 | .array n elem,.ref id off=>(size? P elem).bind fun sz=>cond (Nat.beq sz 0) none<|(bounds n n low high max).bind fun(l,h,m)=>
  some (.j9 id (cond (Nat.beq m l) off (off+l * sz)) (h - l) sz (some (m - l)))
 | _,_=>none
def bA (P : Program) (t : TypeId) (x ix : AV) : Option AV :=
 (P.underlying t).bind fun d=>(intOf ix).bind fun i=>match i with
 | .negSucc _=>none
 | .ofNat k => match d, x with
   | .slice elem,.sl _ _ len sz' _ cs=>(size? P elem).bind fun sz=>cond (Nat.blt k len && Nat.beq sz sz') (shift (.pM cs) (k * sz)) none
   | .slice elem,.j9 id off len sz' _=>(size? P elem).bind fun sz=>cond (Nat.blt k len && Nat.beq sz sz') (some (.ref id (off+k * sz))) none
   | .slice elem,.L6 b off len _=>(size? P elem).bind fun sz=>cond (Nat.blt k len) (some (.CV b (off+k * sz))) none
   | .array n elem,p=>(size? P elem).bind fun sz=>cond (Nat.blt k n) (shift p (k * sz)) none
   | _,_=>none
def Ct (P : Program) (t : TypeId) (x ix : AV) : Option AV :=
 (P.underlying t).bind fun d=>(intOf ix).bind fun i=>match i with
 | .negSucc _=>none
 | .ofNat k => match d, x with
   | .string,.str s=>(s[k]?).bind fun b=>some (.int .u8 b.toNat)
   | .array n elem,.agg cs=>(size? P elem).bind fun sz=>cond (Nat.blt k n) (partOf P elem cs (k * sz)) none
   | _,_=>none
def pY (place : Nat → Option (Nat × Nat)) (cells : List AV) : List (Nat × AV) → Option (List AV)
 | []=>some cells
 | (i, v) :: rest => (place i).bind fun (off, sz) =>
   cond (Nat.beq v.cells.length sz && Nat.ble (off+sz) cells.length) (pY place (dJ cells off v.cells) rest) none
def qN (ts:List AV):List (Nat×Operand)→Option (List (Nat×AV))
 | []=>some []
 | (i,x) :: r=>(cH ts x).bind fun v=>(qN ts r).bind fun l=>some ((i,v) :: l)
def cW (z:List AV):Nat→List AV
 | 0=>[]
 | n+1=>z ++ cW z n
def Cq (P:Program)(t:TypeId)(ps:List (Nat×AV)):Option AV:=
 (v7 P t).bind fun z=>(P.underlying t).bind fun d=>match d with
 | .struct fs=>(fs.toList.mapM (fun f=>(P.info? f.type).map fun i=>(f.offset,i.size))).bind fun places=>(pY (fun i=>places[i]?) z.cells ps).bind fun cs=>some (.agg cs)
 | .array _ elem=>(size? P elem).bind fun sz=>(pY (fun i=>some (i * sz,sz)) z.cells ps).bind fun cs=>some (.agg cs)
 | _=>none
def aY (P : Program) (cQ : Bool) (t : TypeId) (len : Nat) (ps : List (Nat × AV)) : Option ((Nat → AV) × gS) :=
 (P.underlying t).bind fun d=>match d with
 | .slice elem => (size? P elem).bind fun sz => (v7 P elem).bind fun z =>
   cond (!(Nat.ble (len * sz) 16777216 && Nat.beq z.cells.length sz && !Nat.beq sz 0)) none<|
   (pY (fun i=>some (i * sz,sz)) (cW z.cells len) ps).bind fun cs=>cond (cs.all AV.one) (some (eS cQ elem len sz (some len) cs)) none
 | _=>none
def pB (P : Program) (t : TypeId) (l c : AV) : Option ((Nat → AV) × gS) :=
 (P.underlying t).bind fun d=>match d with
 | .slice elem => (size? P elem).bind fun sz => (bytes? P elem).bind fun bs => (v7 P elem).bind fun z =>
   (intOf l).bind fun l=>(intOf c).bind fun c=>match l,c with
   | .ofNat l,.ofNat c=>cond (Nat.ble l c && Nat.ble c iL && Nat.ble bs 4096 && Nat.beq z.cells.length sz && !Nat.beq sz 0 && z.cells.all AV.one)
        (some (fun id=>.j9 id 0 l sz (some c),.cells elem true (cW z.cells c))) none
   | _,_=>none
 | _=>none
def bytesOf:List AV→Option (List UInt8)
 | []=>some []
 | .int .u8 n :: r=>(bytesOf r).bind fun l=>some (UInt8.ofNat n.toNat :: l)
 | _=>none
def FQ (d:TypeDesc)(x:AV):Option AV:=
 match d,x with
 | .int k,.int _ n=>some (.int k (k.wrap n))
 | .int k,.wF _ m r lo hi=>some (Gp k m r lo hi)
 | .string,.str s=>some (.str s)
 | _,_=>none
def Cy (d : TypeDesc) (x y : AV) : Option Bool :=
 match d,x,y with
 | .int _,.int k a,.int k' b=>cond (k == k') (some (a == b)) none
 | .int _, .wF k m r lo hi, .int k' c => match GS .eql k m r lo hi k' c with
   | some (.bool b)=>some b
   | _=>none
 | .int _, .int k' c, .wF k m r lo hi => match GS .eql k m r lo hi k' c with
   | some (.bool b)=>some b
   | _=>none
 | .string,.str a,.str b=>some (gT a b)
 | .string, .El ws lo hi, .str s => match D8 .eql ws lo hi s with
   | some (.bool b)=>some b
   | _=>none
 | .string, .str s, .El ws lo hi => match D8 .eql ws lo hi s with
   | some (.bool b)=>some b
   | _=>none
 | .bool,.bool a,.bool b=>some (a == b)
 | d,x,y=>Dh d (.tmp 0) (.tmp 0) x y
def vY (P : Program) (E : TypeId → AV → AV → Option Bool) (xs ys : List AV) : List Field → Option Bool
 | []=>some true
 | f :: fs => cond (f.name == "_") (vY P E xs ys fs) ((partOf P f.type xs f.offset).bind fun a => (partOf P f.type ys f.offset).bind fun b => (E f.type a b).bind fun r => match r with
   | true=>vY P E xs ys fs
   | false=>some false)
def Px (P : Program) : Nat → TypeId → AV → AV → Option Bool
 | 0,_,_,_=>none
 | n + 1, t, x, y => (P.underlying t).bind fun d => match d, x, y with
   | .struct fs,.agg xs,.agg ys=>cond (P.stoodInHeld t) none (vY P (Px P n) xs ys fs.toList)
   | d,x,y=>Cy d x y
def KL (P:Program)(t:TypeId)(x y:AV):Option Bool:=Px P 20 t x y
def AB (P : Program) (op : BinOp) (t : TypeId) (xo yo : Operand) (x y : AV) : Option AV :=
 match x,y with
 | .int k a,.int k' b=>pA op k a k' b
 | .str a,.str b=>Aq op a b
 | .wF k m r lo hi,.int k' c=>GS op k m r lo hi k' c
 | .int k' c,.wF k m r lo hi=>(Jc op).bind fun op'=>cond (k == k') (GS op' k m r lo hi k' c) none
 | .El ws lo hi,.str s=>D8 op ws lo hi s
 | .str s,.El ws lo hi=>D8 op ws lo hi s
 | .agg xs, .agg ys => cond (P.eqGuardType P.depth t) none ((KL P t (.agg xs) (.agg ys)).bind fun b => match op with
   | .eql=>some (.bool b)
   | .neq=>some (.bool (!b))
   | _=>none)
 | .ref i a, .ref j b => (P.underlying t).bind fun d => match d with
   | .pointer e => (size? P e).bind fun _ => cond (Nat.beq i j && Nat.beq a b) (match op with
     | .eql=>some (.bool true)
     | .neq=>some (.bool false)
     | _=>none) none
   | _=>none
 | .iface s u, .iface s' u' => (P.underlying t).bind fun d => match d with
   | .interface _ => (cond (!Nat.beq s s') (some false) ((P.info? s).bind fun i => cond (!i.comparable) none ((P.underlying s).bind fun ds => match ds with
     | .int _=>Cy ds u u'
     | .string=>Cy ds u u'
     | .bool=>Cy ds u u'
     | _ => none))).bind fun b => match op with
       | .eql=>some (.bool b)
       | .neq=>some (.bool (!b))
       | _=>none
   | _=>none
 | x, y => (P.underlying t).bind fun d => (Dh d xo yo x y).bind fun b => match op with
   | .eql=>some (.bool b)
   | .neq=>some (.bool (!b))
   | _=>none
def MM (op:UnOp)(x:AV):Option AV:=
 match op,x with
 | .neg,.int k n=>some (.int k (k.wrap (0 - n)))
 | .xor,.int k n=>pA .xor k (if k.signed then -1 else k.max) k n
 | .not,.bool b=>some (.bool !b)
 | _,_=>none
def aZ (x:AV):Option AV:=
 match x with
 | .ref ..=>some x
 | .pM _=>some x
 | .CV ..=>some x
 | .func (.func _) _ _=>some x
 | .iface ..=>some x
 | _=>none
inductive Qs where
 | pure
 | load
 | mk
 | cA
def lZ (P : Program) (op : Op) : Qs :=
 match op with
 | .move _ | .assign _ | .pick .. | .build .. | .nilCheck _ | .binOp .. | .unOp .. | .makeInterface .. | .makeFunc .. | .fieldAddr .. | .field ..
 | .indexAddr .. | .index .. | .extract .. | .typeAssert ..=>.pure
 | .load .. | .lookup ..=>.load
 | .slice t .. => match P.underlying t with
   | some (.slice _)=>.load
   | _=>.pure
 | .alloc _ | .box .. | .buildSlice .. | .makeSlice .. | .makeMap ..=>.mk
 | .convert s d _ => match P.underlying s, P.underlying d with
   | some (.slice _),_=>.load
   | some .unsafePointer,_=>.load
   | _,some .unsafePointer=>.load
   | _,some (.slice _)=>.mk
   | _,_=>.pure
 | .call { callee := .builtin .len, argTypes, .. } => match (argTypes[0]?).bind P.underlying with
   | some (.map _ _)=>.load
   | _=>.pure
 | .call { callee:=.builtin .min,.. } | .call { callee:=.builtin .max,.. }=>.pure
 | _=>.cA
def FP (P : Program) (t : TypeId) (ok : Bool) (v : AV) : Option AV :=
 (P.underlying t).bind fun d=>match d,v with
  | .interface _,_=>none
  | _,.iface u w=>cond (Nat.beq u t) (some (cond ok (.tuple [w,.bool true]) w)) (cond ok ((v7 P t).bind fun z=>some (.tuple [z,.bool false])) none)
  | _,.B7=>cond ok ((v7 P t).bind fun z=>some (.tuple [z,.bool false])) none
  | _,_=>none
def gC (P : Program) (ts : List AV) (op : Op) : Option AV :=
 match op with
 | .move x | .assign x=>cH ts x
 | .pick c a b => (cH ts c).bind fun c => match c with
   | .bool true=>cH ts a
   | .bool false=>cH ts b
   | _=>none
 | .build t ps=>(qN ts ps.toList).bind fun ps=>Cq P t ps
 | .nilCheck x=>(cH ts x).bind aZ
 | .binOp op t x y _=>(cH ts x).bind fun a=>(cH ts y).bind fun b=>AB P op t x y a b
 | .unOp op _ x=>(cH ts x).bind fun a=>MM op a
 | .convert s d x=>(cH ts x).bind fun v=>(P.underlying s).bind fun _=>(P.underlying d).bind fun d=>FQ d v
 | .makeInterface t x => (cH ts x).bind fun v => (P.underlying t).bind fun d => match d with
   | .interface _=>none
   | _=>some (.iface t v)
 | .makeFunc fn first cap=>(cU ts first.toList).bind fun a=>(cU ts cap.toList).bind fun b=>some (.func fn a b)
 | .slice t x lo hi mx=>(cH ts x).bind fun v=>(Dn ts lo).bind fun lo=>(Dn ts hi).bind fun hi=>(Dn ts mx).bind fun mx=>rW P t v lo hi mx
 | .fieldAddr s x i=>(cH ts x).bind fun p=>(Dw P s i).bind fun fd=>(size? P fd.type).bind fun n=>cond (Nat.beq n 0) none (shift p fd.offset)
 | .field s x i => (cH ts x).bind fun v => (Dw P s i).bind fun fd => match v with
   | .agg cs=>partOf P fd.type cs fd.offset
   | _=>none
 | .indexAddr t x i=>(cH ts x).bind fun v=>(cH ts i).bind fun i=>bA P t v i
 | .index t x i=>(cH ts x).bind fun v=>(cH ts i).bind fun i=>Ct P t v i
 | .extract x i => (cH ts x).bind fun v => match v with
   | .tuple vs=>vs[i]?
   | _=>none
 | .typeAssert x _ t ok=>(cH ts x).bind fun v=>FP P t ok v
 | .call { callee := .builtin .min, args, .. } => (cU ts args.toList).bind fun vs => match vs with
   | [.int k x,.int k' y]=>cond (k == k') (some (.int k (if y<x then y else x))) none
   | [.str x,.str y]=>some (.str (cond (strLt x y || gT x y) x y))
   | _=>none
 | .call { callee := .builtin .max, args, .. } => (cU ts args.toList).bind fun vs => match vs with
   | [.int k x,.int k' y]=>cond (k == k') (some (.int k (if y>x then y else x))) none
   | [.str x,.str y]=>some (.str (cond (!strLt x y) x y))
   | _=>none
 | .call { args, argTypes, .. } => (cU ts args.toList).bind fun vs => match vs with
   | [x] => (argTypes[0]?).bind fun t => (P.underlying t).bind fun d => match d, x with
     | .string,.str s=>some (.int .i64 s.length)
     | .string,.El _ lo hi=>some (.wF .i64 1 0 lo hi)
     | .slice _,.aF=>some (.int .i64 0)
     | .slice _,.sT=>some (.int .i64 0)
     | .slice _,.sl _ _ n _ _ _=>some (.int .i64 n)
     | .slice _,.j9 _ _ n _ _=>some (.int .i64 n)
     | .slice _,.L6 _ _ n _=>some (.int .i64 n)
     | _,_=>none
   | _=>none
 | _=>none
def Bl (P : Program) (cQ : Bool) (ts : List AV) (op : Op) : Option ((Nat → AV) × gS) :=
 match op with
 | .alloc t=>(v7 P t).bind fun z=>cond (z.cells.all AV.one) (some (fun id=>.ref id 0,.cells t true z.cells)) none
 | .box t x=>(cH ts x).bind fun v=>cond (v.cells.all AV.one) (some (fun id=>.ref id 0,.cells t true v.cells)) none
 | .buildSlice t n ps=>(qN ts ps.toList).bind fun ps=>aY P cQ t n ps
 | .makeSlice t l c=>(cH ts l).bind fun l=>(cH ts c).bind fun c=>pB P t l c
 | .makeMap t r => match r with
   | none=>some (fun id=>.map id,.map [] 0)
   | some x => (cH ts x).bind fun v => (intOf v).bind fun _ => (P.underlying t).bind fun d => match d with
     | .map _ _=>some (fun id=>.map id,.map [] 0)
     | _=>none
 | .convert s d x => (cH ts x).bind fun v => (P.underlying s).bind fun s => (P.underlying d).bind fun d => match s, d, v with
   | .string, .slice e, .str s => (P.underlying e).bind fun ed => match ed with
     | .int .u8=>cond (Nat.ble s.length iL) (some (fun id=>.j9 id 0 s.length 1 none,.cells e false (s.map fun b=>.int .u8 b.toNat))) none
     | _=>none
   | _,_,_=>none
 | _=>none
def yY (P : Program) (t : TypeId) (k : AV) : List (AV × AV × Nat) → Nat → Option (Option (Nat × AV))
 | [],_=>some none
 | (k', v, _) :: es, i => (KL P t k k').bind fun b => match b with
   | true=>some (some (i,v))
   | false=>yY P t k es (i+1)
def Dg (P : Program) : Nat → TypeId → AV → Bool
 | 0,_,_=>false
 | n + 1, t, x => match P.underlying t, x with
   | some (.int _),_=>true
   | some .string,_=>true
   | some .bool,_=>true
   | some (.struct fs), .agg xs => fs.toList.all fun f => f.name == "_" || (match partOf P f.type xs f.offset with
     | some y=>Dg P n f.type y
     | none=>false)
   | _,_=>false
def setAt (es:List (AV×AV×Nat))(i:Nat)(k v:AV):List (AV×AV×Nat):=es.modify i fun e=>(k,v,e.2.2)
def Dx:AV→AV→Bool
 | .int k a,.int k' b=>k == k' && a == b
 | .str a,.str b=>gT a b
 | .bool a,.bool b=>a == b
 | _,_=>false
def BK:List AV→List AV→Bool
 | [],[]=>true
 | a :: l,b :: m=>Dx a b && BK l m
 | _,_=>false
def sameKey:AV→AV→Bool
 | .agg a,.agg b=>BK a b
 | x,y=>Dx x y
def Dc (P:Program)(t:TypeId)(x:AV):Option (TypeId×TypeId):=(P.underlying t).bind fun d=>match d with
 | .map k e=>cond (Dg P 5 k x) (some (k,e)) none
 | _=>none
def pG (P : Program) (st : St) (t : TypeId) (m k : AV) (ok : Bool) : Option AV :=
 (Dc P t k).bind fun (kt, et) => (match m with
  | .B1=>some []
  | .map id => match st.aS.get id with
    | some (.map es _)=>some es
    | _=>none
  | _ => none).bind fun es => (yY P kt k es 0).bind fun r => match r with
    | some (_,v)=>some (cond ok (.tuple [v,.bool true]) v)
    | none=>(v7 P et).bind fun z=>some (cond ok (.tuple [z,.bool false]) z)
def qJ (P : Program) (st : St) (t : TypeId) (m k v : AV) : Option St :=
 (Dc P t k).bind fun (kt, _) => match m with
  | .map id => match st.aS.get id with
    | some (.map es c) => (yY P kt k es 0).bind fun r => match r with
      | some (i,_)=>cond ((es[i]?).any fun e=>sameKey e.1 k) (some (st.put id (.map (setAt es i k v) c))) none
      | none=>some (st.put id (.map (es ++ [(k,v,c)]) (c+1)))
    | _=>none
  | _=>none
def ER (P : Program) (st : St) (t : TypeId) (m k : AV) : Option St :=
 (Dc P t k).bind fun (kt, _) => match m with
  | .B1=>some st
  | .map id => match st.aS.get id with
    | some (.map es c) => (yY P kt k es 0).bind fun r => match r with
      | some (i,_)=>some (st.put id (.map (es.eraseIdx i) c))
      | none=>some (st.put id (.map es c))
    | _=>none
  | _=>none
def HL (P : Program) (st : St) (t : TypeId) (x : AV) : Option (AV × St) :=
 (P.underlying t).bind fun d=>match d,x with
 | .string,.str s=>some (.ref st.next 0,st.push (.BV s 0))
 | .map _ _,.B1=>some (.ref st.next 0,st.push (.iter none 0 [] 0))
 | .map _ _, .map id => match st.aS.get id with
   | some (.map _ c)=>some (.ref st.next 0,st.push (.iter (some id) c [] c))
   | _=>none
 | _,_=>none
def JS (st : St) (it : AV) (str : Bool) : Option (List (AV × St)) :=
 match it with
 | .ref r 0 => match st.aS.get r, str with
   | some (.BV s pos),true=>some [cond (Nat.blt pos s.length)
        ((fun(c,width)=>(.tuple [.bool true,.int .i64 pos,.int .i32 c],st.put r (.BV s (pos+width)))) (Utf8.decode ⟨s.toArray⟩ pos))
        (.tuple [.bool false],st)]
   | some (.iter none _ _ _),false=>some [(.tuple [.bool false],st)]
   | some (.iter (some m) since seen last), false => match st.aS.get m with
     | some (.map es clock) =>
       cond (!seen.isEmpty && !es.isEmpty && es.all fun e=>Nat.ble last e.2.2) none<|some<|
       (fun left=>(fun old new=>cond old.isEmpty [(.tuple [.bool false],st)] [] ++ (old ++ new).map fun e=>(.tuple [.bool true,e.1,e.2.1],st.put r (.iter (some m) since (seen ++ [e.2.2]) clock)))
        (left.filter fun e=>Nat.blt e.2.2 since) (left.filter fun e=>Nat.ble since e.2.2))
        (es.filter fun e=>!(seen.any fun b=>Nat.beq b e.2.2))
     | _=>none
   | _,_=>none
 | _=>none
def Gt (st : St) (it : AV) : Option AV :=
 match it with
 | .ref r 0 => match st.aS.get r with
   | some (.iter (some m) _ seen last) => (seen.getLast?).bind fun b => match st.aS.get m with
     | some (.map es clock)=>cond (Nat.beq clock last) ((es.find? fun e=>Nat.beq e.2.2 b).bind fun e=>some (.tuple [e.1,e.2.1])) none
     | _=>none
   | _=>none
 | _=>none
def J7 (P : Program) (st : St) (argTypes : Array TypeId) (d s : AV) : Option (AV × St) :=
 match argTypes.toList with
 | [t, t'] => (P.underlying t).bind fun td => match td with
   | .slice elem => (size? P elem).bind fun sz => (lenOf d).bind fun dn => (A4 s).bind fun sn =>
     (qH P st t t' (min sn dn) sz s).bind fun cs=>match d with
        | .j9 id off _ sz' _=>cond (Nat.beq sz sz' && cs.all AV.one) ((iH st (.ref id off) cs).bind fun st'=>some (.int .i64 (min sn dn:Nat),st')) none
        | _=>cond (Nat.beq (min sn dn) 0) (some (.int .i64 0,st)) none
   | _=>none
 | _=>none
def H4 (P : Program) (st : St) (t : TypeId) (x : AV) : Option St :=
 (P.underlying t).bind fun d=>match d,x with
 | _,.B1=>some st
 | _,.aF=>some st
 | .map _ _, .map id => match st.aS.get id with
   | some (.map _ c)=>some (st.put id (.map [] c))
   | _=>none
 | .slice elem,.j9 id off n sz _=>(size? P elem).bind fun sz'=>(v7 P elem).bind fun z=>cond (Nat.beq sz sz' && Nat.beq z.cells.length sz && z.cells.all AV.one)
  (cond (Nat.beq n 0) (some st) (iH st (.ref id off) (cW z.cells n))) none
 | .slice _,.sl _ _ n _ _ _=>cond (Nat.beq n 0) (some st) none
 | _,_=>none
def BL (P:Program)(t:TypeId)(id off len sz' room:Nat)(low high max:Option AV):Option AV:=
 (P.underlying t).bind fun d=>match d with
 | .slice elem=>(size? P elem).bind fun sz=>cond (!Nat.beq sz sz' || !Nat.ble len room) none<|(bounds len room low high max).bind fun(l,h,m)=>
  cond (Nat.blt l m || Nat.beq l 0) (some (.j9 id (off+l * sz) (h - l) sz (max.bind fun _=>some (m - l)))) (some .sT)
 | _=>none
def y8 (P : Program) (st : St) (t : TypeId) (x : AV) (low high max : Option AV) : Option AV :=
 match x with
 | .j9 id off len sz none => match st.aS.get id with
   | some (.cells _ _ cs)=>BL P t id off len sz ((cs.length - off) / sz) low high max
   | some _=>rW P t x low high max
   | none=>none
 | _=>rW P t x low high max
def DS:Option Operand→List AV→Option (Option AV×List AV)
 | none,r=>some (none,r)
 | some _,a :: r=>some (some a,r)
 | some _,[]=>none
def vA (P : Program) (st : St) (op : Op) (vs : List AV) : Option AV :=
 match op,vs with
 | .load t _,[p]=>loadAt P st t p
 | .lookup t _ _ ok,[m,k]=>pG P st t m k ok
 | .slice t _ lo hi mx,x :: r=>(DS lo r).bind fun a=>(DS hi a.2).bind fun b=>(DS mx b.2).bind fun c=>y8 P st t x a.1 b.1 c.1
 | .call { callee := .builtin .len, argTypes, .. }, [m] => (argTypes[0]?).bind fun t => (P.underlying t).bind fun d => match d, m with
   | .map _ _,.B1=>some (.int .i64 0)
   | .map _ _, .map id => match st.aS.get id with
     | some (.map es _)=>some (.int .i64 es.length)
     | _=>none
   | _,_=>none
 | .convert s d _, [v] => (P.underlying s).bind fun s => (P.underlying d).bind fun d => match s, d with
   | .pointer t, .unsafePointer => match v with
     | .zE=>some .zE
     | .ref id off => match st.aS.get id with
       | some (.cells _ _ cs)=>(size? P t).bind fun n=>cond (Nat.blt off cs.length && !Nat.beq n 0) (some v) none
       | _=>none
     | _=>none
   | .unsafePointer, .pointer t => match v with
     | .zE=>some .zE
     | .ref id off => match st.aS.get id with
       | some (.cells e true cs)=>(size? P t).bind fun n=>cond (!Nat.beq n 0 && liesAt P P.depth e (cs.length / P.cellsOf e) off t 1) (some v) none
       | _=>none
     | _=>none
   | .slice e, .string => (P.underlying e).bind fun ed => match ed with
     | .int .u8=>(lenOf v).bind fun n=>(eD st n v 1).bind fun cs=>(bytesOf cs).bind fun l=>some (.str l)
     | _=>none
   | _,_=>none
 | _,_=>none
def xA (P : Program) (st : St) (argTypes : Array TypeId) (p : AV) (n : Int) : Option (AV × St) :=
 match argTypes.toList with
 | [pt, _] => cond (n == 0)
  (match p with
        | .zE=>some (.str [],st)
        | .ref ..=>some (.str [],st)
        | _=>none)
  (match p with
        | .ref id 0 => match st.aS.get id with
          | some (.cells e _ cs) => (P.underlying pt).bind fun d => match d with
            | .pointer u=>cond (Nat.beq u e && Nat.beq (P.cellsOf e) 1 && Nat.ble n.toNat cs.length && Nat.ble cs.length iL && decide (0<n)) ((bytesOf (cs.take n.toNat)).bind fun s=>cond (s.length == n.toNat) (some (.str s,st.put id .dead)) none) none
            | _=>none
          | _=>none
        | _=>none)
 | _=>none
def u9 (P : Program) (cQ : Bool) (ts : List AV) (st : St) (op : Op) : Option (AV × St) :=
 match op with
 | .store t a x=>(cH ts a).bind fun p=>(cH ts x).bind fun v=>(storeAt P st t p v).bind fun st'=>some (AV.undef,st')
 | .call { callee := .builtin .append, args, argTypes } => (cU ts args.toList).bind fun vs => match vs with
   | [s,x]=>cX P cQ st argTypes s x
   | _=>none
 | .mapUpdate t x k v | .insert t x k v=>(cH ts x).bind fun m=>(cH ts k).bind fun k=>(cH ts v).bind fun v=>(qJ P st t m k v).bind fun st'=>some (AV.undef,st')
 | .range t x=>(cH ts x).bind fun x=>HL P st t x
 | .entry x=>(cH ts x).bind fun x=>(Gt st x).bind fun v=>some (v,st)
 | .call { callee := .builtin .delete, args, argTypes } => (cU ts args.toList).bind fun vs => match vs with
   | [m,k]=>(argTypes[0]?).bind fun t=>(ER P st t m k).bind fun st'=>some (.tuple [],st')
   | _=>none
 | .call { callee := .builtin .clear, args, argTypes } => (cU ts args.toList).bind fun vs => match vs with
   | [x]=>(argTypes[0]?).bind fun t=>(H4 P st t x).bind fun st'=>some (.tuple [],st')
   | _=>none
 | .call { callee := .builtin .copy, args, argTypes } => (cU ts args.toList).bind fun vs => match vs with
   | [d,s]=>J7 P st argTypes d s
   | _=>none
 | .call { callee := .builtin .unsafeSliceData, args, .. } => (cU ts args.toList).bind fun vs => match vs with
   | [.aF]=>some (.zE,st)
   | [.j9 id off len _ _]=>cond (Nat.beq len 0) none (some (.ref id off,st))
   | _=>none
 | .call { callee := .builtin .unsafeString, args, argTypes } => (cU ts args.toList).bind fun vs => match vs with
   | [p,.int .i64 n]=>xA P st argTypes p n
   | _=>none
 | .call { callee := .builtin .cap, args, argTypes } => (cU ts args.toList).bind fun vs => match vs with
   | [.aF] => (argTypes[0]?).bind fun t => (P.underlying t).bind fun d => match d with
     | .slice _=>some (.int .i64 0,st)
     | _=>none
   | [.sl _ _ _ _ (some c) _] => (argTypes[0]?).bind fun t => (P.underlying t).bind fun d => match d with
     | .slice _=>some (.int .i64 c,st)
     | _=>none
   | [.j9 _ _ _ _ (some c)] => (argTypes[0]?).bind fun t => (P.underlying t).bind fun d => match d with
     | .slice _=>some (.int .i64 c,st)
     | _=>none
   | _=>none
 | _=>none
def E7 (C:AO)(f:FuncId)(ts:List AV)(st:St)(o:Oper):Option (AV×St):=
 match lZ C.P o.op with
 | .pure=>(gC C.P ts o.op).bind fun v=>some (v,st)
 | .load=>(cU ts o.op.operands.toList).bind fun vs=>(vA C.P st o.op vs).bind fun v=>some (v,st)
 | .mk=>(Bl C.P (C.cQ f) ts o.op).bind fun(v,x)=>some (v st.next,st.push x)
 | .cA=>u9 C.P (C.cQ f) ts st o.op
end Go.Ev
end
section
set_option linter.all false
namespace Go.Ev
inductive oK where
 | call (fn:FuncId) (args:List AV)
 | mark (id:Nat)
structure Fr where
 ts:List AV
 ds:List oK
 st:St
inductive cE where
 | normal
 | exit (id:Nat)
 | ret
def qR (ts:List AV)(dst:Option Tmp)(v:AV):List AV:=
 match dst with
 | some d=>ts.set d v
 | none=>ts
abbrev CK:=Bool→Nat→List AV→St→(Bool→AV→St→Bool)→Bool
def pR (ops : Array Oper) (ts : List AV) (o : Oper) : Option Bool :=
 match o.guard with
 | none=>some true
 | some (j, b) => match (ops[j]?).bind (·.dst) with
   | none=>none
   | some d => match ts.getD d AV.undef with
     | .bool c=>some (c == b)
     | .tuple _=>some false
     | _=>none
def methodOf (P : Program) (st : St) (t : TypeId) (v : AV) (name : String) : Option (FuncId × AV) :=
 (P.info? t).bind fun i=>(i.methods.find? fun m=>m.name == name).bind fun m=>cond m.path.isEmpty (m.func.bind fun(f,ptr)=>(P.underlying t).bind fun d=>match d,ptr with
  | .pointer _,true=>some (f,v)
  | .pointer e, false => (match v with
    | .ref _ _=>(loadAt P st e v).bind fun r=>some (f,r)
    | _=>none)
  | _,true=>none
  | _,false=>some (f,v)) none
def y5 (C : AO) (ck : CK) (f : FuncId) (ro : Option Nat) (ts : List AV) (st : St) (o : Oper) (k : AV → List oK → St → Bool) : Bool :=
 match o.op with
 | .call { callee := .value x, args, .. } => match cH ts x, cU ts args.toList with
   | some (.func (.func g) first cap),some a_=>ck false g (first ++ a_ ++ cap) st fun _ v st'=>k v [] st'
   | some (.yield l),some a_=>ck true l a_ st fun _ v st'=>k v [] st'
   | _,_=>false
 | .call { callee := .invoke x name, args, .. } => match cH ts x, cU ts args.toList with
   | some (.iface t v), some a_ => match methodOf C.P st t v name with
     | some (g,r)=>ck false g (r :: a_) st fun _ v st'=>k v [] st'
     | none=>false
   | _,_=>false
 | .defer { callee := .value x, args, .. } => cond ro.isSome false <| match cH ts x, cU ts args.toList with
   | some (.func (.func g) first cap),some a_=>k AV.undef [.call g (first ++ a_ ++ cap)] st
   | _,_=>false
 | .next x s => match (cH ts x).bind fun x => JS st x s with
   | some l=>l.all fun r=>k r.1 [] r.2
   | none=>false
 | _ => match E7 C f ts st o with
   | some (v,st')=>k v [] st'
   | none=>false
def Ce (C:AO)(ck:CK)(f:FuncId)(ro:Option Nat)(ops:Array Oper)(o:Oper)(fr:Fr)(k:Fr→Bool):Bool:=
 match pR ops fr.ts o with
 | some true=>y5 C ck f ro fr.ts fr.st o fun v ds st'=>k ⟨qR fr.ts o.dst v,ds ++ fr.ds,st'⟩
 | some false=>k ⟨qR fr.ts o.dst AV.undef,fr.ds,fr.st⟩
 | none=>false
def zZ (C:AO)(ck:CK)(f:FuncId)(ro:Option Nat)(ops:Array Oper):List Oper→Fr→(Fr→Bool)→Bool
 | [],fr,k=>k fr
 | o :: os,fr,k=>Ce C ck f ro ops o fr fun fr'=>zZ C ck f ro ops os fr' k
def effect (P:Program)(o:Oper):Bool:=
 match lZ P o.op with
 | .cA=>true
 | _=>false
structure rC where
 i:Nat
 o:Oper
 cA:Bool
 Jm:Nat
def AK (ops:List Oper)(mask:Nat)(i:Nat)(o:Oper):Bool:=
 !mask.testBit i && o.after.toList.all fun e=>!Region.binds .any e || mask.testBit e.on
def Ee (befs:List Nat)(o:Oper):Nat:=
 o.after.toList.foldl (fun s e=>if Region.binds .any e then s ||| 2 ^ e.on ||| befs.getD e.on 0 else s) 0
def DE:List Oper→List Nat→List Nat
 | [],acc=>acc
 | o :: os,acc=>DE os (acc ++ [Ee acc o])
def readies (ops:List Oper)(mask:Nat):List Oper→Nat→List (Nat×Oper)
 | [],_=>[]
 | o :: os,i=>cond (AK ops mask i o) ((i,o) :: readies ops mask os (i+1)) (readies ops mask os (i+1))
def zN (P : Program) (ops : List Oper) (befs : List Nat) : Nat → Nat → Option (List rC)
 | 0, mask => match readies ops mask ops 0 with
   | []=>some []
   | _=>none
 | n + 1, mask =>
   let rs:=readies ops mask ops 0
   match rs.find? (fun r=>!effect P r.2),rs with
   | some (i,o),_=>(zN P ops befs n (mask ||| 2 ^ i)).bind fun l=>some (⟨i,o,false,befs.getD i 0⟩ :: l)
   | none,[]=>some []
   | none,[(i,o)]=>(zN P ops befs n (mask ||| 2 ^ i)).bind fun l=>some (⟨i,o,true,befs.getD i 0⟩ :: l)
   | none,_=>none
def AF (ops:List Oper)(o:Oper):List Nat:=
 (o.op.operands.toList.filterMap fun | .tmp t=>some t | _=>none) ++
 (match o.guard with
  | some (g, _) => match (ops[g]?).bind (·.dst) with
    | some d=>[d]
    | none=>[]
  | none=>[])
def Gg (l:List Nat)(n:Nat):Bool:=l.any fun m=>Nat.beq m n
def EL (ops:List Oper)(a b:Oper):Bool:=
 (match a.dst with
  | some d=>Gg (AF ops b) d || (match b.dst with | some d'=>Nat.beq d d' | none=>false)
  | none=>false) ||
 (match b.dst with
  | some d=>Gg (AF ops a) d
  | none=>false)
def CL (ops:List Oper)(j:Nat)(oj:Oper)(Jm:Nat):List Oper→Nat→Bool
 | [],_=>true
 | o :: os,i=>(!(Nat.blt i j && EL ops o oj) || Jm.testBit i) && CL ops j oj Jm os (i+1)
def Ci (ops:List Oper)(befs:List Nat):List Oper→Nat→Bool
 | [],_=>true
 | o :: os,j=>CL ops j o (befs.getD j 0) ops 0 && Ci ops befs os (j+1)
def Lc (P:Program)(ops:Array Oper):Option (List rC):=
 let befs:=DE ops.toList []
 cond (Ci ops.toList befs ops.toList 0) (zN P ops.toList befs ops.size 0) none
mutual
def AV.beq:AV→AV→Bool
 | .int k a,.int k' b=>k == k' && a == b
 | .bool a,.bool b=>a == b
 | .str a,.str b=>gT a b
 | .zE,.zE=>true
 | .ref i a,.ref j b=>Nat.beq i j && Nat.beq a b
 | .CV i a,.CV j b=>Nat.beq i j && Nat.beq a b
 | .pM a,.pM b=>AV.uN a b
 | .aF,.aF=>true
 | .sT,.sT=>true
 | .sl i e n z c a,.sl j d m z' c' b=>Nat.beq i j && Nat.beq e d && Nat.beq n m && Nat.beq z z' && c == c' && AV.uN a b
 | .j9 i a n z c,.j9 j b m z' c'=>Nat.beq i j && Nat.beq a b && Nat.beq n m && Nat.beq z z' && c == c'
 | .yield i,.yield j=>Nat.beq i j
 | .B1,.B1=>true
 | .map a,.map b=>Nat.beq a b
 | .func f a c,.func g b d=>f == g && AV.uN a b && AV.uN c d
 | .Dr,.Dr=>true
 | .iface t v,.iface u w=>Nat.beq t u && AV.beq v w
 | .B7,.B7=>true
 | .agg a,.agg b=>AV.uN a b
 | .tuple a,.tuple b=>AV.uN a b
 | _,_=>false
def AV.uN:List AV→List AV→Bool
 | [],[]=>true
 | a :: a_,b :: bs=>AV.beq a b && AV.uN a_ bs
 | _,_=>false
end
structure Rd where
 i:Nat
 op:Op
 vs:List AV
 v:AV
def OC (P : Program) (ts : List AV) (i : Nat) (o : Oper) (v : AV) : List Rd :=
 match lZ P o.op with
 | .load => match cU ts o.op.operands.toList with
   | some vs=>[⟨i,o.op,vs,v⟩]
   | none=>[]
 | _=>[]
def Gn (P:Program)(st:St)(r:Rd):Bool:=
 match vA P st r.op r.vs with
 | some v=>AV.beq v r.v
 | none=>false
def jK (C : AO) (ck : CK) (f : FuncId) (ro : Option Nat) (ops : Array Oper) : List rC → List Rd → Fr → (Fr → Bool) → Bool
 | [],_,fr,k=>k fr
 | s :: l, rd, fr, k => match pR ops fr.ts s.o with
   | none=>false
   | some false=>jK C ck f ro ops l rd ⟨qR fr.ts s.o.dst AV.undef,fr.ds,fr.st⟩ k
   | some true => match s.cA with
     | false => match E7 C f fr.ts fr.st s.o with
       | some (v,st')=>jK C ck f ro ops l (OC C.P fr.ts s.i s.o v ++ rd) ⟨qR fr.ts s.o.dst v,fr.ds,st'⟩ k
       | none=>false
     | true => y5 C ck f ro fr.ts fr.st s.o fun v ds st' =>
       let rd':=rd.filter fun r=>!s.Jm.testBit r.i
       cond (rd'.all (Gn C.P st')) (jK C ck f ro ops l rd' ⟨qR fr.ts s.o.dst v,ds ++ fr.ds,st'⟩ k) false
def jA (body : Fr → (cE → Fr → Bool) → Bool) : Nat → Fr → (cE → Fr → Bool) → Bool
 | 0,_,_=>false
 | n + 1, fr, k => body fr fun e fr' => match e with
   | .normal=>jA body n fr' k
   | e=>k e fr'
def cE.jump:cE→Option Code
 | .normal=>none
 | .exit i=>some (.exit i)
 | .ret=>some .ret
def MJ:Option Code→Option cE
 | none=>some .normal
 | some (.exit i)=>some (.exit i)
 | some .ret=>some .ret
 | _=>none
def J5 (f : FuncId) (ro : Option Nat) (ps : Array Tmp) (asg body : Code) (fr : Fr) : Option (Nat × List oK × St) :=
 match ro with
 | none=>some (fr.st.next+1,[.mark fr.st.next],(fr.st.push .MA).push (.loop ⟨.ready,none,f,fr.ts,ps,asg,body,fr.st.next⟩))
 | some l => match fr.st.aS.get l with
   | some (.loop r)=>some (fr.st.next,[],fr.st.push (.loop ⟨.ready,none,f,fr.ts,ps,asg,body,r.defers⟩))
   | _=>none
def D6 (st:St)(l:Nat):Option MK:=match st.aS.get l with
 | some (.loop r)=>some r
 | _=>none
def Lv (st:St)(l:Nat):Option (cE×St):=(D6 st l).bind fun r=>match r.state,MJ r.pending with
 | .busy,_=>none
 | _,some x=>some (x,st.put l (.loop { r with state:=.exhausted }))
 | _,none=>none
def qM (P:Program)(g:FuncId):Bool:=match P.funcs[g]? with
 | some fn=>fn.body.isSome
 | none=>false
def cZ (C : AO) (ck : CK) (f : FuncId) (rounds : Nat) (ro : Option Nat) : Code → Fr → (cE → Fr → Bool) → Bool
 | .skip,fr,k=>k .normal fr
 | .region _ ops draw, fr, k => match draw with
   | false=>zZ C ck f ro ops ops.toList fr fun fr'=>k .normal fr'
   | true => match Lc C.P ops with
     | some l=>jK C ck f ro ops l [] fr fun fr'=>k .normal fr'
     | none=>false
 | .seq a b, fr, k => cZ C ck f rounds ro a fr fun e fr' => match e with
   | .normal=>cZ C ck f rounds ro b fr' k
   | e=>k e fr'
 | .cond c a b, fr, k => match cH fr.ts c with
   | some (.bool true)=>cZ C ck f rounds ro a fr k
   | some (.bool false)=>cZ C ck f rounds ro b fr k
   | _=>false
 | .block id b, fr, k => cZ C ck f rounds ro b fr fun e fr' => match e with
   | .exit i=>cond (Nat.beq i id) (k .normal fr') (k (.exit i) fr')
   | e=>k e fr'
 | .loop b,fr,k=>jA (fun fr k=>cZ C ck f rounds ro b fr k) rounds fr k
 | .exit id,fr,k=>k (.exit id) fr
 | .label _,fr,k=>k .normal fr
 | .scope b,fr,k=>cZ C ck f rounds ro b fr k
 | .ret,fr,k=>k .ret fr
 | .rangeFunc g ps asg body, fr, k => match cH fr.ts g, J5 f ro ps asg body fr with
   | some (.func (.func g) first cap), some (l, mark, st1) => cond (!qM C.P g) false <| ck false g (first ++ [.yield l] ++ cap) st1 fun _ _ st2 => match Lv st2 l with
     | some (x,st3)=>k x ⟨fr.ts,mark ++ fr.ds,st3⟩
     | none=>false
   | _,_=>false
 | _,_,_=>false
def xE (P:Program)(ts:List AV)(st:St):ResultVar→Option AV
 | .tmp t=>some (ts.getD t AV.undef)
 | .cell a t=>loadAt P st t (ts.getD a AV.undef)
def pO (P:Program)(ts:List AV)(st:St):List ResultVar→Option (List AV)
 | []=>some []
 | r :: rs=>(xE P ts st r).bind fun v=>(pO P ts st rs).bind fun vs=>some (v :: vs)
def lL (ck : CK) : List oK → St → (St → Bool) → Bool
 | [],st,k=>k st
 | .mark id :: ds, st, k => match st.aS.get id with
   | some .MA=>lL ck ds (st.put id .dead) k
   | _=>false
 | .call f args :: ds,st,k=>ck false f args st fun plain _ st'=>cond plain (lL ck ds st' k) false
def IC (n:Nat)(args:List AV):List AV:=args ++ List.replicate (n - args.length) AV.undef
abbrev Ext:=FuncId→List AV→Option AV
def single:List AV→AV
 | [v]=>v
 | vs=>.tuple vs
def rS (P : Program) (ck : CK) (fn : Func) (fr : Fr) (k : Bool → AV → St → Bool) : Bool :=
 lL ck fr.ds fr.st fun st'=>match pO P fr.ts st' fn.results.toList with
  | some vs=>k fr.ds.isEmpty (single vs) st'
  | none=>false
def Aa (ts:List AV):List Tmp→List AV→List AV
 | p :: ps,a :: a_=>Aa (ts.set p a) ps a_
 | _,_=>ts
def Iz (C : AO) (ck : CK) (rounds : Nat) (l : Nat) (args : List AV) (st : St) (k : Bool → AV → St → Bool) : Bool :=
 match D6 st l with
 | none=>false
 | some r => cond (!Nat.beq args.length r.params.size) false <|
   cZ C ck r.fn rounds (some l) r.assign ⟨Aa r.tmps r.params.toList args,[],st⟩ fun x fr=>match x with
   | .normal => match D6 fr.st l with
     | none=>false
     | some r1 => cond (!(r1.state == .ready) || !fr.ds.isEmpty) false <|
       cZ C ck r.fn rounds (some l) r.body ⟨fr.ts,[],fr.st.put l (.loop { r1 with state:=.busy })⟩ fun x fr2=>cond (!fr2.ds.isEmpty) false<|match D6 fr2.st l with
       | none=>false
       | some r2 => match x with
         | .normal=>k false (.bool true) (fr2.st.put l (.loop { r2 with state:=.ready,pending:=none }))
         | x=>k false (.bool false) (fr2.st.put l (.loop { r2 with state:=.done,pending:=x.jump }))
   | _=>false
def aW (C : AO) (ext : Ext) (rounds : Nat) : Nat → CK
 | 0,_,_,_,_,_=>false
 | n+1,true,l,args,st,k=>Iz C (aW C ext rounds n) rounds l args st k
 | n + 1, false, f, args, st, k => match ext f args with
   | some v=>k false v st
   | none => match C.Bu f args st with
     | some (v,st')=>k false v st'
     | none => match C.P.funcs[f]? with
       | none=>false
       | some fn => match fn.body with
         | none=>false
         | some c => cond (fn.name == "runtime.NumGoroutine") false <|
           cZ C (aW C ext rounds n) f rounds none c ⟨IC fn.ntmps args,[],st⟩ fun e fr=>match e with
           | .exit _=>false
           | _=>rS C.P (aW C ext rounds n) fn fr k
end Go.Ev
end
section
set_option linter.all false
namespace Go.Ev
open Go.RowKit (Below)
structure Gh where
 β:Nat→Option (Nat×Nat×Nat)
 ext:Nat→Option (Nat×Nat×Nat)
mutual
def aV (G:Gh)(st:St)(w:World):AV→Value→Prop
 | .int k n,v=>v=.int k n
 | .bool b,v=>v=.bool b
 | .str s,v=>v=.string ⟨s.toArray⟩
 | .zE,v=>v=.pointer none
 | .ref id off,v=>∃ b k n,G.β id=some (b,k,n)∧v=.pointer (some ⟨b,off,none⟩)
 | .CV g off,v=>v=.pointer (some ⟨g,off,none⟩)
 | .pM cs,v=>∃ b off id m n,v=.pointer (some ⟨b,off,none⟩)∧G.ext b=some (id,m,n)∧off+cs.length≤m∧dT G st w b off cs
 | .aF,v=>v=.slice none 0 0
 | .sl id e len sz cap cs,v=>∃ b off c m n,v=.slice (some ⟨b,off,none⟩) len c∧G.ext b=some (id,m,n)∧off+cs.length≤m ∧
  dT G st w b off cs∧cs.length=len * sz∧0<sz∧len≤c∧(∀ k,cap=some k→c=k) ∧
  ∃ h,st.aS.get id=some (.nE h)∧e≤h∧cs.length≤e∧(h=e→len<c→off+cs.length=m∧off+c * sz≤n)
 | .j9 id off len sz cap,v=>∃ b k n c,G.β id=some (b,k,n)∧v=.slice (some ⟨b,off,none⟩) len c∧len≤c∧(∀ j,cap=some j→c=j)∧(cap=none→k≤off+c * sz∧off+c * sz≤n)∧0<sz
 | .sT,v=>∃ b off c,v=.slice (some ⟨b,off,none⟩) 0 c
 | .B1,v=>v=.map none
 | .map id,v=>∃ b k n,G.β id=some (b,k,n)∧v=.map (some b)
 | .func fn first cap,v=>∃ f c,v=.func fn f c∧aT G st w first f.toList∧aT G st w cap c.toList
 | .yield id,v=>∃ b k n,G.β id=some (b,k,n)∧v=.func (.yield b) #[] #[]
 | .Dr,v=>v=.nilFunc
 | .iface t a,v=>∃ u,v=.iface t u∧aV G st w a u
 | .B7,v=>v=.nilIface
 | .agg cs,v=>∃ vs,v=.agg vs∧aT G st w cs vs.toList
 | .tuple cs,v=>∃ vs,v=.tuple vs∧aT G st w cs vs.toList
 | .wF k m r lo hi,v=>∃ n,v=.int k n∧n % (m:Int)=r∧lo≤n∧n≤hi
 | .El ws lo hi,v=>∃ s:List UInt8,v=.string ⟨s.toArray⟩∧(∀ x ∈ ws,s≠x)∧lo≤s.length∧s.length≤hi
 | .any,v=>v.oneCell'=true
 | .L6 b off len cap,v=>v=.slice (some ⟨b,off,none⟩) len cap∧len≤cap
def aT (G:Gh)(st:St)(w:World):List AV→List Value→Prop
 | [],l=>l=[]
 | a :: a_,l=>∃ v vs,l=v :: vs∧aV G st w a v∧aT G st w a_ vs
def dT (G:Gh)(st:St)(w:World)(b off:Nat):List AV→Prop
 | []=>True
 | a :: a_=>(∃ v,w.cell? ⟨b,off,none⟩=some v∧aV G st w a v)∧dT G st w b (off+1) a_
end
structure Le (G:Gh)(st:St)(w:World)(G':Gh)(st':St)(w':World):Prop where
 β:∀ id x,G.β id=some x→G'.β id=some x
 ext:∀ b id m n,G.ext b=some (id,m,n)→ ∃ m',m≤m'∧G'.ext b=some (id,m',n)
 cell:∀ b id m n off,G.ext b=some (id,m,n)→off<m→w'.cell? ⟨b,off,none⟩=w.cell? ⟨b,off,none⟩
 nE:∀ id h,st.aS.get id=some (.nE h)→(∃ b m n,G.ext b=some (id,m,n))→ ∃ h',h≤h'∧st'.aS.get id=some (.nE h') ∧
  (h'=h→ ∀ b m n,G.ext b=some (id,m,n)→G'.ext b=some (id,m,n))
 next:st.next≤st'.next
def Gh.lM (G:Gh)(id:Nat):Prop:=G.β id=none∧ ∀ b m n,G.ext b≠some (id,m,n)
def sE (G:Gh)(st:St)(G':Gh)(st':St):Prop:=∀ id,id<st.next→G.lM id→st'.aS.get id=st.aS.get id∧G'.lM id
theorem sE.refl (G:Gh)(st:St):sE G st G st:=fun _ _ h=>⟨rfl,h⟩
theorem sE.trans {G G' G'':Gh}{st st' st'':St}(h:sE G st G' st')(hn:st.next≤st'.next)(k:sE G' st' G'' st''):sE G st G'' st'':=fun id hi hu=>by
 obtain⟨a1,a2⟩:=h id hi hu
 obtain⟨b1,b2⟩:=k id (Nat.lt_of_lt_of_le hi hn) a2
 exact⟨b1.trans a1,b2⟩
theorem Le.refl (G:Gh)(st:St)(w:World):Le G st w G st w:=
 ⟨fun _ _ h=>h,fun _ _ m _ h=>⟨m,Nat.le_refl _,h⟩,fun _ _ _ _ _ _ _=>rfl,fun _ h hh _=>⟨h,Nat.le_refl _,hh,fun _ _ _ _ k=>k⟩,Nat.le_refl _⟩
theorem Le.trans {G G' G'':Gh}{st st' st'':St}{w w' w'':World}(h:Le G st w G' st' w')(k:Le G' st' w' G'' st'' w''):Le G st w G'' st'' w'' where
 β id b hb:=k.β id b (h.β id b hb)
 ext b id m n he:=by
  obtain⟨m',h1,h2⟩:=h.ext b id m n he
  obtain⟨m'',h3,h4⟩:=k.ext b id m' n h2
  exact⟨m'',Nat.le_trans h1 h3,h4⟩
 cell b id m n off he ho:=by
  obtain⟨m',h1,h2⟩:=h.ext b id m n he
  rw[k.cell b id m' n off h2 (Nat.lt_of_lt_of_le ho h1),h.cell b id m n off he ho]
 nE id h0 ht hb:=by
  obtain⟨h',h1,h2,h3⟩:=h.nE id h0 ht hb
  obtain⟨b,m,n,he⟩:=hb
  obtain⟨m',_,he'⟩:=h.ext b id m n he
  obtain⟨h'',k1,k2,k3⟩:=k.nE id h' h2 ⟨b,m',n,he'⟩
  refine⟨h'',Nat.le_trans h1 k1,k2,fun e b m n hx=>?_⟩
  have e1:h'=h0:=by omega
  have e2:h''=h':=by omega
  exact k3 e2 b m n (h3 e1 b m n hx)
 next:=Nat.le_trans h.next k.next
section
variable {G G':Gh}{st st':St}{w w':World}
mutual
theorem aV.mono (L:Le G st w G' st' w'):∀(a:AV) (v:Value),aV G st w a v→aV G' st' w' a v
 | .int _ _,_,h=>by simpa only[aV] using h
 | .bool _,_,h=>by simpa only[aV] using h
 | .str _,_,h=>by simpa only[aV] using h
 | .zE,_,h=>by simpa only[aV] using h
 | .ref _ _, _, h => by
   simp only[aV] at h ⊢
   obtain⟨b,k,n,h1,h2⟩:=h
   exact⟨b,k,n,L.β _ _ h1,h2⟩
 | .CV _ _,_,h=>by simpa only[aV] using h
 | .pM cs, _, h => by
   simp only[aV] at h ⊢
   obtain⟨b,off,id,m,n,h1,h2,h3,h4⟩:=h
   obtain⟨m',k1,k2⟩:=L.ext b id m n h2
   exact⟨b,off,id,m',n,h1,k2,Nat.le_trans h3 k1,dT.mono L b off m id n h2 cs h3 h4⟩
 | .aF,_,h=>by simpa only[aV] using h
 | .sl id e len sz cap cs, _, h => by
   simp only[aV] at h ⊢
   obtain⟨b,off,c,m,n,h1,h2,h3,h4,h5,h6,h7,h8,t,h9,h10,h11,h12⟩:=h
   obtain⟨m',k1,k2⟩:=L.ext b id m n h2
   obtain⟨t',j1,j2,j3⟩:=L.nE id t h9 ⟨b,m,n,h2⟩
   refine⟨b,off,c,m',n,h1,k2,Nat.le_trans h3 k1,dT.mono L b off m id n h2 cs h3 h4,h5,h6,h7,h8,t',j2,Nat.le_trans h10 j1,h11,fun e1 e2=>?_⟩
   have e3:t'=t:=by omega
   have e4:=j3 e3 b m n h2
   rw[k2] at e4
   injection e4 with e4
   injection e4 with _ e4
   injection e4 with e4 _
   have:=h12 (by omega) e2
   omega
 | .j9 _ _ _ _ _, _, h => by
   simp only[aV] at h ⊢
   obtain⟨b,k,n,c,h1,h2⟩:=h
   exact⟨b,k,n,c,L.β _ _ h1,h2⟩
 | .sT,_,h=>by simpa only[aV] using h
 | .B1,_,h=>by simpa only[aV] using h
 | .map _, _, h => by
   simp only[aV] at h ⊢
   obtain⟨b,k,n,h1,h2⟩:=h
   exact⟨b,k,n,L.β _ _ h1,h2⟩
 | .yield _, _, h => by
   simp only[aV] at h ⊢
   obtain⟨b,k,n,h1,h2⟩:=h
   exact⟨b,k,n,L.β _ _ h1,h2⟩
 | .func _ first cap, _, h => by
   simp only[aV] at h ⊢
   obtain⟨f,c,h1,h2,h3⟩:=h
   exact⟨f,c,h1,aT.mono L first _ h2,aT.mono L cap _ h3⟩
 | .Dr,_,h=>by simpa only[aV] using h
 | .iface _ a, _, h => by
   simp only[aV] at h ⊢
   obtain⟨u,h1,h2⟩:=h
   exact⟨u,h1,aV.mono L a u h2⟩
 | .B7,_,h=>by simpa only[aV] using h
 | .agg cs, _, h => by
   simp only[aV] at h ⊢
   obtain⟨u,h1,h2⟩:=h
   exact⟨u,h1,aT.mono L cs _ h2⟩
 | .tuple cs, _, h => by
   simp only[aV] at h ⊢
   obtain⟨u,h1,h2⟩:=h
   exact⟨u,h1,aT.mono L cs _ h2⟩
 | .wF ..,_,h=>by simpa only[aV] using h
 | .El ..,_,h=>by simpa only[aV] using h
 | .any,_,h=>by simpa only[aV] using h
 | .L6 ..,_,h=>by simpa only[aV] using h
theorem aT.mono (L:Le G st w G' st' w'):∀(a_:List AV) (vs:List Value),aT G st w a_ vs→aT G' st' w' a_ vs
 | [],_,h=>by simpa only[aT] using h
 | a :: a_, _, h => by
   simp only[aT] at h ⊢
   obtain⟨v,vs,h1,h2,h3⟩:=h
   exact⟨v,vs,h1,aV.mono L a v h2,aT.mono L a_ vs h3⟩
theorem dT.mono (L:Le G st w G' st' w')(b off m id n:Nat)(hx:G.ext b=some (id,m,n)):∀(a_:List AV),off+a_.length≤m→dT G st w b off a_→dT G' st' w' b off a_
 | [],_,_=>by simp only[dT]
 | a :: a_, hl, h => by
   simp only[dT,List.length_cons] at h hl ⊢
   obtain⟨⟨v,h1,h2⟩,h3⟩:=h
   exact⟨⟨v,by rw[L.cell b id m n off hx (by omega)]; exact h1,aV.mono L a v h2⟩,dT.mono L b (off+1) m id n hx a_ (by omega) h3⟩
end
end
def fN (G:Gh)(st:St)(w:World):List (AV×AV×Nat)→List MapEntry→Prop
 | [],l=>l=[]
 | (k,v,b) :: es,l=>∃ k' v' r,l=⟨k',v',b⟩ :: r∧aV G st w k k'∧aV G st w v v'∧fN G st w es r
theorem fN.mono {G G':Gh}{st st':St}{w w':World}(L:Le G st w G' st' w'):∀{es:List (AV×AV×Nat)} {l:List MapEntry},fN G st w es l→fN G' st' w' es l
 | [],_,h=>h
 | (k, v, b) :: es, _, h => by
   obtain⟨k',v',r,h1,h2,h3,h4⟩:=h
   exact⟨k',v',r,h1,aV.mono L _ _ h2,aV.mono L _ _ h3,fN.mono L h4⟩
def gS.DZ:gS→Bool
 | .map _ _=>true
 | .iter ..=>true
 | .BV _ _=>true
 | .loop _=>true
 | .MA=>true
 | _=>false
def oX (G:Gh)(st:St)(w:World):gS→Obj→Prop
 | .map es c,o=>∃ es',o=.map es' c∧fN G st w es es'.toList
 | .iter none since seen last,o=>o=.mapIter none since seen.toArray last
 | .iter (some m) since seen last,o=>∃ b k n,o=.mapIter (some b) since seen.toArray last∧G.β m=some (b,k,n)
 | .BV s pos,o=>o=.stringIter ⟨s.toArray⟩ pos
 | .loop l,o=>∃ tmps d k n g,o=.loop ⟨l.state,l.pending,g,tmps,l.params,l.assign,l.body,d⟩∧aT G st w l.tmps tmps.toList∧G.β l.defers=some (d,k,n)
 | .MA,o=>o=.deferred (some [])
 | _,_=>False
theorem oX.mono {G G':Gh}{st st':St}{w w':World}(L:Le G st w G' st' w'):∀{a:gS} {o:Obj},oX G st w a o→oX G' st' w' a o
 | .map es c, _, h => by
   obtain⟨es',h1,h2⟩:=h
   exact⟨es',h1,fN.mono L h2⟩
 | .iter none _ _ _,_,h=>h
 | .iter (some m) _ _ _, _, h => by
   obtain⟨b,k,n,h1,h2⟩:=h
   exact⟨b,k,n,h1,L.β _ _ h2⟩
 | .BV _ _,_,h=>h
 | .loop l, _, h => by
   obtain⟨tmps,d,k,n,g,h1,h2,h3⟩:=h
   exact⟨tmps,d,k,n,g,h1,aT.mono L _ _ h2,L.β _ _ h3⟩
 | .MA,_,h=>h
 | .cells _ _ _,_,h=>h
 | .nE _,_,h=>h
 | .dead,_,h=>h
theorem oX.DZ {G:Gh}{st:St}{w:World}:∀{a:gS} {o:Obj},oX G st w a o→a.DZ=true
 | .map ..,_,_=>rfl
 | .iter none ..,_,_=>rfl
 | .iter (some _) ..,_,_=>rfl
 | .BV ..,_,_=>rfl
 | .loop _,_,_=>rfl
 | .MA,_,_=>rfl
def Obj.Jr:Obj→Prop
 | .cells ..=>False
 | _=>True
theorem oX.Jr {G:Gh}{st:St}{w:World}:∀{a:gS} {o:Obj},oX G st w a o→Obj.Jr o
 | .map ..,_,h=>by obtain⟨_,rfl,_⟩:=h; trivial
 | .iter none ..,_,h=>by simp only[oX] at h; subst h; trivial
 | .iter (some _) ..,_,h=>by obtain⟨_,_,_,rfl,_⟩:=h; trivial
 | .BV ..,_,h=>by simp only[oX] at h; subst h; trivial
 | .loop _,_,h=>by obtain⟨_,_,_,_,_,rfl,_⟩:=h; trivial
 | .MA,_,h=>by simp only[oX] at h; subst h; trivial
end Go.Ev
end
section
set_option linter.all false
namespace Go.Ev
open Go.RowKit (Below)
theorem iN {α:Type}(a b:Nat)(x y:α):cond (Nat.beq a b) x y=if a=b then x else y:=by
 by_cases h:a=b
 ·subst h; simp
 ·have:Nat.beq a b=false:=by
   cases hb:Nat.beq a b with
   | false=>rfl
   | true=>exact absurd (Nat.eq_of_beq_eq_true hb) h
  simp[this,h]
theorem Eu {α:Type}(a b:Nat)(x y:α):cond (Nat.ble a b) x y=if a≤b then x else y:=by
 by_cases h:a≤b
 ·simp[Nat.ble_eq_true_of_le h,h]
 ·have:Nat.ble a b=false:=by
   cases hb:Nat.ble a b with
   | false=>rfl
   | true=>exact absurd (Nat.le_of_ble_eq_true hb) h
  simp[this,h]
theorem b7 {α:Type}{c:Bool}{x:Option α}{y:α}(h:cond c x none=some y):c=true∧x=some y:=by
 cases c
 ·cases h
 ·exact⟨rfl,h⟩
theorem fK {α:Type}{c:Bool}{x:Option α}{y:α}(h:cond c none x=some y):c=false∧x=some y:=by
 cases c
 ·exact⟨rfl,h⟩
 ·cases h
namespace Tr
variable {α:Type}
theorem C1 (a : α) : ∀ f n m, n ≤ f → (single a f n).get m = if m = n then some a else none
 | 0, n, m, h => by
   obtain rfl:n=0:=by omega
   simp only[single,get,iN]
   split <;> simp
 | f + 1, n, m, h => by
   simp only[single,iN]
   by_cases h0:n=0
   ·subst h0
    simp only[if_true,get,iN]
    split <;> simp
   ·rw[if_neg h0]
    by_cases h1:n % 2=1
    ·rw[if_pos h1]
     simp only[get,iN,C1 a f (n / 2) (m / 2) (by omega)]
     by_cases hm:m=0
     ·subst hm; rw[if_pos rfl,if_neg (by omega)]
     ·rw[if_neg hm]
      by_cases hm1:m % 2=1
      ·rw[if_pos hm1]
       by_cases e:m=n
       ·subst e; simp
       ·rw[if_neg e,if_neg (by omega)]
      ·rw[if_neg hm1,if_neg (by omega)]
    ·rw[if_neg h1]
     simp only[get,iN,C1 a f (n / 2 - 1) (m / 2 - 1) (by omega)]
     by_cases hm:m=0
     ·subst hm; rw[if_pos rfl,if_neg (by omega)]
     ·rw[if_neg hm]
      by_cases hm1:m % 2=1
      ·rw[if_pos hm1,if_neg (by omega)]
      ·rw[if_neg hm1]
       by_cases e:m=n
       ·subst e; simp
       ·rw[if_neg e,if_neg (by omega)]
theorem bP (a : α) : ∀ (t : Tr α) n m, (t.set a n).get m = if m = n then some a else t.get m
 | .leaf,n,m=>by simp only[set,get]; rw[C1 a n n m (Nat.le_refl _)]
 | .node l v r, n, m => by
   simp only[set,iN]
   by_cases h0:n=0
   ·subst h0
    simp only[if_true,get,iN]
    by_cases hm:m=0 <;> simp[hm]
   ·rw[if_neg h0]
    by_cases h1:n % 2=1
    ·rw[if_pos h1]
     simp only[get,iN,bP a l]
     by_cases hm:m=0
     ·subst hm; rw[if_pos rfl,if_pos rfl,if_neg (by omega)]
     ·rw[if_neg hm,if_neg hm]
      by_cases hm1:m % 2=1
      ·rw[if_pos hm1,if_pos hm1]
       by_cases e:m=n
       ·subst e; simp
       ·rw[if_neg e,if_neg (by omega)]
      ·rw[if_neg hm1,if_neg hm1,if_neg (by omega)]
    ·rw[if_neg h1]
     simp only[get,iN,bP a r]
     by_cases hm:m=0
     ·subst hm; rw[if_pos rfl,if_pos rfl,if_neg (by omega)]
     ·rw[if_neg hm,if_neg hm]
      by_cases hm1:m % 2=1
      ·rw[if_pos hm1,if_pos hm1,if_neg (by omega)]
      ·rw[if_neg hm1,if_neg hm1]
       by_cases e:m=n
       ·subst e; simp
       ·rw[if_neg e,if_neg (by omega)]
end Tr
section
variable {G:Gh}{st:St}{w:World}
theorem aT.nil:aT G st w [] []:=by simp[aT]
theorem aT.cons {a:AV}{v:Value}{a_:List AV}{vs:List Value}(h:aV G st w a v)(hs:aT G st w a_ vs):aT G st w (a :: a_) (v :: vs):=by
 simp only[aT]; exact⟨v,vs,rfl,h,hs⟩
theorem aT.cons_inv {a:AV}{a_:List AV}{vs:List Value}(h:aT G st w (a :: a_) vs):∃ v l,vs=v :: l∧aV G st w a v∧aT G st w a_ l:=by
 simpa only[aT] using h
theorem aT.hT {vs:List Value}(h:aT G st w [] vs):vs=[]:=by simpa only[aT] using h
theorem aT.length:∀{a_:List AV} {vs:List Value},aT G st w a_ vs→vs.length=a_.length
 | [],vs,h=>by rw[h.hT]; rfl
 | a :: a_, vs, h => by
   obtain⟨v,l,rfl,_,h⟩:=h.cons_inv
   simp[aT.length h]
theorem aT.get:∀{a_:List AV} {vs:List Value} {i:Nat} {a:AV},aT G st w a_ vs→a_[i]? =some a→ ∃ v,vs[i]? =some v∧aV G st w a v
 | [],vs,i,a,_,hi=>by simp at hi
 | b :: a_, vs, i, a, h, hi => by
   obtain⟨v,l,rfl,hv,h⟩:=h.cons_inv
   cases i with
   | zero=>simp at hi; subst hi; exact⟨v,by simp,hv⟩
   | succ i=>simp at hi; obtain⟨u,h1,h2⟩:=aT.get h hi; exact⟨u,by simpa using h1,h2⟩
theorem aT.drop:∀{a_:List AV} {vs:List Value} (n:Nat),aT G st w a_ vs→aT G st w (a_.drop n) (vs.drop n)
 | _,_,0,h=>by simpa using h
 | [],vs,n+1,h=>by rw[h.hT]; simpa using aT.nil
 | a :: a_, vs, n + 1, h => by
   obtain⟨v,l,rfl,_,h⟩:=h.cons_inv
   simpa using aT.drop n h
theorem aT.take:∀{a_:List AV} {vs:List Value} (n:Nat),aT G st w a_ vs→aT G st w (a_.take n) (vs.take n)
 | _,_,0,h=>by simpa using aT.nil
 | [],vs,n+1,h=>by rw[h.hT]; simpa using aT.nil
 | a :: a_, vs, n + 1, h => by
   obtain⟨v,l,rfl,hv,h⟩:=h.cons_inv
   simpa using aT.cons hv (aT.take n h)
theorem aT.append:∀{a_ bs:List AV} {vs us:List Value},aT G st w a_ vs→aT G st w bs us→aT G st w (a_ ++ bs) (vs ++ us)
 | [],_,vs,_,h,k=>by rw[h.hT]; simpa using k
 | a :: a_, _, vs, _, h, k => by
   obtain⟨v,l,rfl,hv,h⟩:=h.cons_inv
   simpa using aT.cons hv (aT.append h k)
theorem aT.set:∀{a_:List AV} {vs:List Value} (i:Nat) {a:AV} {v:Value},aT G st w a_ vs→aV G st w a v→aT G st w (a_.set i a) (vs.set i v)
 | [],vs,_,_,_,h,_=>by rw[h.hT]; simpa using aT.nil
 | b :: a_, vs, 0, _, _, h, k => by
   obtain⟨v,l,rfl,_,h⟩:=h.cons_inv
   simpa using aT.cons k h
 | b :: a_, vs, i + 1, _, _, h, k => by
   obtain⟨v,l,rfl,hv,h⟩:=h.cons_inv
   simpa using aT.cons hv (aT.set i h k)
theorem aT.replicate {a:AV}{v:Value}(h:aV G st w a v):∀ n,aT G st w (List.replicate n a) (List.replicate n v)
 | 0=>by simpa using aT.nil
 | n+1=>by simpa[List.replicate_succ] using aT.cons h (aT.replicate h n)
theorem qX {cs:List AV}{off n:Nat}{l:List AV}(h:range? cs off n=some l):off+n≤cs.length∧l=(cs.drop off).take n:=by
 unfold range? at h
 rw[Eu] at h
 split at h
 ·injection h with h; exact⟨by assumption,h.symm⟩
 ·cases h
theorem aV.undef:aV G st w AV.undef Go.undef:=by
 simp only[AV.undef,Go.undef,aV]
 exact⟨#[],rfl,aT.nil⟩
theorem dT.append:∀{a_ bs:List AV} {b off:Nat},dT G st w b off (a_ ++ bs)↔dT G st w b off a_∧dT G st w b (off+a_.length) bs
 | [],bs,b,off=>by simp[dT]
 | a :: a_, bs, b, off => by
   simp only[List.cons_append,dT,dT.append (a_:=a_),List.length_cons,and_assoc,show off+1+a_.length=off+(a_.length+1) by omega]
theorem dT.drop {a_:List AV}{b off:Nat}(n:Nat)(hn:n≤a_.length)(h:dT G st w b off a_):dT G st w b (off+n) (a_.drop n):=by
 have:=(dT.append (a_:=a_.take n) (bs:=a_.drop n)).1 (by simpa using h)
 simpa[List.length_take,Nat.min_eq_left hn] using this.2
theorem dT.take {a_:List AV}{b off:Nat}(n:Nat)(h:dT G st w b off a_):dT G st w b off (a_.take n):=
 ((dT.append (a_:=a_.take n) (bs:=a_.drop n)).1 (by simpa using h)).1
theorem dT.values:∀{a_:List AV} {b off:Nat},dT G st w b off a_→ ∃ vs,aT G st w a_ vs∧vs.length=a_.length∧ ∀ j v,vs[j]? =some v→w.cell? ⟨b,off+j,none⟩=some v
 | [],_,_,_=>⟨[],aT.nil,rfl,by simp⟩
 | a :: a_, b, off, h => by
   simp only[dT] at h
   obtain⟨⟨v,h1,h2⟩,h3⟩:=h
   obtain⟨vs,k1,k2,k3⟩:=dT.values h3
   refine⟨v :: vs,aT.cons h2 k1,by simp[k2],fun j u hu=>?_⟩
   cases j with
   | zero=>simp at hu; subst hu; simpa using h1
   | succ j=>simp at hu; have:=k3 j u hu; rwa [show off+1+j=off+(j+1) by omega] at this
theorem dT.n6:∀{a_:List AV} {vs:List Value} {b off:Nat},aT G st w a_ vs→(∀ j v,vs[j]? =some v→w.cell? ⟨b,off+j,none⟩=some v)→dT G st w b off a_
 | [],_,_,_,_,_=>by simp[dT]
 | a :: a_, vs, b, off, h, hc => by
   obtain⟨v,l,rfl,hv,h⟩:=h.cons_inv
   simp only[dT]
   refine⟨⟨v,by simpa using hc 0 v (by simp),hv⟩,dT.n6 h fun j u hu=>?_⟩
   have:=hc (j+1) u (by simpa using hu)
   rwa [show off+1+j=off+(j+1) by omega]
theorem aV.one {a:AV}{v:Value}(h:aV G st w a v)(ho:a.one=true):v.oneCell'=true:=by
 cases a <;> simp only[aV] at h <;> simp only[AV.one] at ho <;> first | (cases ho; done) | (subst h; rfl) | skip
 all_goals first
  | (obtain⟨_,_,rfl⟩:=h; rfl)
  | (obtain⟨_,rfl,_⟩:=h; rfl)
  | (obtain⟨rfl,_⟩:=h; rfl)
  | (obtain⟨_,_,rfl,_⟩:=h; rfl)
  | (obtain⟨_,_,_,rfl,_⟩:=h; rfl)
  | (obtain⟨_,_,_,_,_,rfl,_⟩:=h; rfl)
  | exact h
theorem aT.one:∀{a_:List AV} {vs:List Value},aT G st w a_ vs→a_.all AV.one=true→ ∀ v ∈ vs,v.oneCell'=true
 | [],vs,h,_=>by rw[h.hT]; simp
 | a :: a_, vs, h, ho => by
   obtain⟨v,l,rfl,hv,h⟩:=h.cons_inv
   simp only[List.all_cons,Bool.and_eq_true] at ho
   intro u hu
   rcases List.mem_cons.1 hu with rfl | hu
   ·exact hv.one ho.1
   ·exact aT.one h ho.2 u hu
theorem aV.cells {a:AV}{v:Value}(h:aV G st w a v):aT G st w a.cells v.cells.toList:=by
 cases a
 case agg cs=>
  simp only[aV] at h
  obtain⟨vs,rfl,h⟩:=h
  exact h
 case tuple cs=>
  simp only[AV.cells]
  have h':=h
  simp only[aV] at h
  obtain⟨vs,rfl,h⟩:=h
  exact aT.cons h' aT.nil
 all_goals
  have h1:=h.one (by rfl)
  cases v <;> first | (simp[Value.oneCell'] at h1; done) | exact aT.cons h aT.nil
theorem aV.MB {v:Value}{a:AV}(h:CP v=some a):aV G st w a v:=by
 unfold CP at h
 split at h <;> first | (cases h; done) | (injection h with h; subst h; simp only[aV])
theorem aT.consts:∀{vs:List Value} {a_:List AV},AY vs=some a_→aT G st w a_ vs
 | [],a_,h=>by simp only[AY] at h; injection h with h; subst h; exact aT.nil
 | v :: vs, a_, h => by
   simp only[AY,Option.bind_eq_some_iff] at h
   obtain⟨a,h1,l,h2,h3⟩:=h
   injection h3 with h3
   subst h3
   exact aT.cons (aV.MB h1) (aT.consts h2)
theorem aV.const {v:Value}{a:AV}(h:ofConst v=some a):aV G st w a v:=by
 unfold ofConst at h
 split at h
 ·simp only[Option.bind_eq_some_iff] at h
  obtain⟨l,h1,h2⟩:=h
  injection h2 with h2
  subst h2
  simp only[aV]
  exact⟨_,rfl,aT.consts h1⟩
 ·injection h with h; subst h; simp only[aV]; exact⟨_,rfl,aT.nil⟩
 ·exact aV.MB h
theorem aT.tmp {ts:List AV}{tmps:Array Value}(h:aT G st w ts tmps.toList)(t:Nat):aV G st w (ts.getD t AV.undef) (tmps.getD t Go.undef):=by
 by_cases ht:t<ts.length
 ·obtain⟨v,h1,h2⟩:=h.get (i:=t) (a:=ts[t]) (by simp[ht])
  have hl:=h.length
  have ht':t<tmps.size:=by simp at hl; omega
  rw[List.getD_eq_getElem?_getD,List.getElem?_eq_getElem ht]
  simp only[Array.getElem?_toList] at h1
  rw[Array.getD_eq_getD_getElem?,h1]
  exact h2
 ·have hl:=h.length
  simp at hl
  rw[List.getD_eq_getElem?_getD,List.getElem?_eq_none (by omega),Array.getD_eq_getD_getElem?,Array.getElem?_eq_none (by omega)]
  exact aV.undef
theorem aV.cH {ts:List AV}{a:Act}(h:aT G st w ts a.tmps.toList){x:Operand}{v:AV}(hv:cH ts x=some v):aV G st w v (a.eval x):=by
 cases x with
 | tmp t=>simp only[Ev.cH] at hv; injection hv with hv; subst hv; exact h.tmp t
 | const c=>exact aV.const hv
 | global g=>simp only[Ev.cH] at hv; injection hv with hv; subst hv; simp only[aV]; rfl
 | func f=>simp only[Ev.cH] at hv; injection hv with hv; subst hv; simp only[aV]; exact⟨#[],#[],rfl,aT.nil,aT.nil⟩
theorem aT.cU {ts:List AV}{a:Act}(h:aT G st w ts a.tmps.toList):∀{xs:List Operand} {vs:List AV},cU ts xs=some vs→aT G st w vs (xs.map a.eval)
 | [],vs,hv=>by simp only[Ev.cU] at hv; injection hv with hv; subst hv; exact aT.nil
 | x :: xs, vs, hv => by
   simp only[Ev.cU,Option.bind_eq_some_iff] at hv
   obtain⟨v,h1,l,h2,h3⟩:=hv
   injection h3 with h3
   subst h3
   exact aT.cons (aV.cH h h1) (aT.cU h h2)
end
theorem yC {w w':World}{b:Nat}(h:w'.heap[b]? =w.heap[b]?):w'.shape? b=w.shape? b:=by unfold World.shape?; rw[h]
theorem Fx (w:World)(a:Addr)(v:Value)(b:Nat):(w.setCell a v).shape? b=w.shape? b:=by
 unfold World.shape? World.setCell
 simp only[Array.getElem?_modify]
 by_cases h:a.block=b
 ·subst h
  simp only[if_true]
  cases w.heap[a.block]? with
  | none=>rfl
  | some o =>
    cases o <;> simp only[Option.map_some]
    split <;> simp
 ·simp[h]
theorem pH (b b':Nat):∀(vs:List Value) (o:Nat) (w:World),(w.setCells b o vs).shape? b'=w.shape? b'
 | [],_,_=>rfl
 | v :: r,o,w=>by rw[World.setCells,pH b b' r,Fx]
theorem yN {w:World}{b n i:Nat}{t:TypeId}(h:w.shape? b=some (t,n))(hi:i<n):(w.cell? ⟨b,i,none⟩).isSome=true:=by
 unfold World.shape? at h
 unfold World.cell?
 split at h
 ·rename_i c e f hc
  injection h with h; injection h with h1 h2; subst h1; subst h2
  simp only[hc]
  simp[hi]
 ·cases h
theorem World.Dj (w:World)(o:Obj):(w.alloc o).heap[w.heap.size]? =some o:=by
 show(w.heap.push o)[w.heap.size]? =some o
 simp
theorem L7 {w:World}(C:Array Value)(t:TypeId)(fr:Nat×Nat):(w.alloc (.cells C t fr)).shape? w.heap.size=some (t,C.size):=by
 unfold World.shape?
 rw[World.Dj]
structure Inv (W0:World)(G:Gh)(st:St)(w:World):Prop where
 below:Below W0.heap.size W0 w
 blt:∀ id b k n,G.β id=some (b,k,n)→W0.heap.size≤b∧b<w.heap.size∧id<st.next
 AW:∀ id id' b k n k' n',G.β id=some (b,k,n)→G.β id'=some (b,k',n')→st.aS.get id≠some .dead→st.aS.get id'≠some .dead→id=id'
 vJ:∀ id b k n,G.β id=some (b,k,n)→G.ext b=none
 Ac:∀ b id m n,G.ext b=some (id,m,n)→W0.heap.size≤b∧b<w.heap.size∧id<st.next∧m≤n∧G.β id=none∧ ∃ h,st.aS.get id=some (.nE h)
 qK:∀ b id m n i,G.ext b=some (id,m,n)→i<n→(w.cell? ⟨b,i,none⟩).isSome=true∧w.frozen? ⟨b,i,none⟩=false
 nI:∀ id b k n t u cs,G.β id=some (b,k,n)→st.aS.get id=some (.cells t u cs)→dT G st w b 0 cs∧cs.length=k∧k≤n∧(u=true→n=k∧w.frozen? ⟨b,n,none⟩=false)∧w.shape? b=some (t,n)∧ ∀ i,i<n→w.frozen? ⟨b,i,none⟩=false
 pL:∀ id b k n a,G.β id=some (b,k,n)→st.aS.get id=some a→a.DZ=true→ ∃ o,w.heap[b]? =some o∧oX G st w a o
 fresh:∀ id,st.next≤id→st.aS.get id=none
 old:∀ b off a,st.old b off=some a→b<W0.heap.size∧(a.one=true→ ∃ v,W0.cell? ⟨b,off,none⟩=some v∧ ∀(G:Gh) (st:St) (w:World),aV G st w a v) ∧
  ∀ cs,a=.tuple cs→ ∃(vs:Array Value) (t:TypeId) (z:Nat×Nat),W0.heap[b]? =some (.cells vs t z)∧ ∀(G:Gh) (st:St) (w:World),aT G st w cs vs.toList
section
variable {W0:World}{G:Gh}{st:St}{w:World}
theorem Le.drew:Le G st w G st w.drew:=
 ⟨fun _ _ h=>h,fun _ _ m _ h=>⟨m,Nat.le_refl _,h⟩,fun _ _ _ _ _ _ _=>rfl,fun _ h hh _=>⟨h,Nat.le_refl _,hh,fun _ _ _ _ k=>k⟩,Nat.le_refl _⟩
theorem Inv.drew (I:Inv W0 G st w):Inv W0 G st w.drew where
 below:=I.below.drew
 blt:=I.blt
 AW:=I.AW
 vJ:=I.vJ
 Ac:=I.Ac
 qK:=I.qK
 nI id b k n t u cs h1 h2:=by
  obtain⟨k1,k2⟩:=I.nI id b k n t u cs h1 h2
  refine⟨?_,k2⟩
  obtain⟨vs,j1,_,j3⟩:=k1.values
  exact dT.n6 (aT.mono Le.drew _ _ j1) j3
 pL id b k n a h1 h2 h3:=by
  obtain⟨o,k1,k2⟩:=I.pL id b k n a h1 h2 h3
  exact⟨o,k1,k2.mono Le.drew⟩
 fresh:=I.fresh
 old:=I.old
theorem Le.push (I:Inv W0 G st w)(o:gS):Le G st w G (st.push o) w:=
 ⟨fun _ _ h=>h,fun _ _ m _ h=>⟨m,Nat.le_refl _,h⟩,fun _ _ _ _ _ _ _=>rfl,
  fun id h hh hb=>⟨h,Nat.le_refl _,by
   obtain⟨b,m,n,hb⟩:=hb
   have:=(I.Ac b id m n hb).2.2.1
   simp only[St.push,Tr.bP]
   rw[if_neg (by omega)]
   exact hh,fun _ _ _ _ k=>k⟩,by simp[St.push]⟩
theorem Inv.push (I:Inv W0 G st w)(o:gS):Inv W0 G (st.push o) w where
 below:=I.below
 blt id b k n h:=by obtain⟨h1,h2,h3⟩:=I.blt id b k n h; exact⟨h1,h2,by simp[St.push]; omega⟩
 AW id id' b k n k' n' h h' d d':=by
  have h1:=(I.blt _ _ _ _ h).2.2
  have h2:=(I.blt _ _ _ _ h').2.2
  simp only[St.push,Tr.bP] at d d'
  rw[if_neg (by omega)] at d d'
  exact I.AW id id' b k n k' n' h h' d d'
 vJ:=I.vJ
 Ac b id m n h:=by
  obtain⟨h1,h2,h3,h4,h5,t,h6⟩:=I.Ac b id m n h
  refine⟨h1,h2,by simp[St.push]; omega,h4,h5,t,?_⟩
  simp only[St.push,Tr.bP]
  rw[if_neg (by omega)]
  exact h6
 qK:=I.qK
 nI id b k n t u cs h1 h2:=by
  have:=(I.blt id b k n h1).2.2
  simp only[St.push,Tr.bP] at h2
  rw[if_neg (by omega)] at h2
  obtain⟨k1,k2⟩:=I.nI id b k n t u cs h1 h2
  refine⟨?_,k2⟩
  obtain⟨vs,j1,_,j3⟩:=k1.values
  exact dT.n6 (aT.mono (Le.push I o) _ _ j1) j3
 pL id b k n a h1 h2 h3:=by
  have:=(I.blt id b k n h1).2.2
  simp only[St.push,Tr.bP] at h2
  rw[if_neg (by omega)] at h2
  obtain⟨o',k1,k2⟩:=I.pL id b k n a h1 h2 h3
  exact⟨o',k1,k2.mono (Le.push I o)⟩
 fresh id h:=by
  simp only[St.push] at h ⊢
  rw[Tr.bP,if_neg (by omega)]
  exact I.fresh id (by omega)
 old:=I.old
theorem xX (I:Inv W0 G st w):G.lM st.next:=
 ⟨by cases h : G.β st.next with
     | none=>rfl
     | some x=>obtain⟨b,k,n⟩:=x; exact absurd (I.blt _ _ _ _ h).2.2 (by omega),
  fun b m n h=>absurd (I.Ac _ _ _ _ h).2.2.1 (by omega)⟩
theorem CC (o:gS):(st.push o).aS.get st.next=some o:=by simp[St.push,Tr.bP]
theorem sE.push (o:gS):sE G st G (st.push o):=fun id hi hu=>⟨by simp only[St.push,Tr.bP]; rw[if_neg (by omega)],hu⟩
def Gh.born (G:Gh)(id:Nat)(x:Nat×Nat×Nat):Gh:={ G with β:=fun i=>if i=id then some x else G.β i }
def Gh.grown (G:Gh)(b:Nat)(x:Nat×Nat×Nat):Gh:={ G with ext:=fun i=>if i=b then some x else G.ext i }
theorem Co (C:Array Value)(t:TypeId)(fr:Nat×Nat)(i:Nat):(w.alloc (.cells C t fr)).cell? ⟨w.heap.size,i,none⟩=C[i]? :=World.cell?_alloc_mark w C t fr i
theorem z8 {o:Obj}{b i:Nat}(h:b<w.heap.size):(w.alloc o).cell? ⟨b,i,none⟩=w.cell? ⟨b,i,none⟩:=World.cell?_alloc_lt _ _ _ h
theorem sX {o:Obj}{b i:Nat}(h:b<w.heap.size):(w.alloc o).frozen? ⟨b,i,none⟩=w.frozen? ⟨b,i,none⟩:=World.frozen?_alloc_old _ _ _ (by simp; omega)
theorem F6 (C:Array Value)(t:TypeId)(fr:Nat×Nat)(i:Nat)(h:fr.2≤fr.1∨C.size≤fr.1)(hi:i<C.size):(w.alloc (.cells C t fr)).frozen? ⟨w.heap.size,i,none⟩=false:=by
 obtain⟨lo,hi'⟩:=fr
 rw[World.frozen?_alloc_mark]
 simp only[Bool.and_eq_false_iff,decide_eq_false_iff_not]
 simp only at h
 omega
theorem J6 (C:Array Value)(t:TypeId)(fr:Nat×Nat)(i:Nat)(h:fr.2≤fr.1):(w.alloc (.cells C t fr)).frozen? ⟨w.heap.size,i,none⟩=false:=by
 obtain⟨lo,hi'⟩:=fr
 rw[World.frozen?_alloc_mark]
 simp only[Bool.and_eq_false_iff,decide_eq_false_iff_not]
 simp only at h
 omega
end
end Go.Ev
end
section
set_option linter.all false
namespace Go.Ev
open Go.RowKit (Below)
section
variable {W0:World}{G:Gh}{st:St}{w:World}
theorem dT.old {b off:Nat}{cs:List AV}(h:dT G st w b off cs){G':Gh}{st':St}{w':World}(L:Le G st w G' st' w')
 (hc:∀ j,j<cs.length→w'.cell? ⟨b,off+j,none⟩=w.cell? ⟨b,off+j,none⟩):dT G' st' w' b off cs:=by
 obtain⟨vs,h1,h2,h3⟩:=h.values
 refine dT.n6 (aT.mono L _ _ h1) fun j v hv=>?_
 have hj:j<cs.length:=by
  rw[← h2]
  exact(List.getElem?_eq_some_iff.1 hv).1
 rw[hc j hj]
 exact h3 j v hv
theorem E6 {o:Obj}{b:Nat}(h:b<w.heap.size):(w.alloc o).heap[b]? =w.heap[b]? :=Below.heap_alloc w o b h
theorem Le.born {id:Nat}{x:Nat×Nat×Nat}(hu:G.lM id)(I:Inv W0 G st w)(o:Obj):Le G st w (G.born id x) st (w.alloc o) where
 β i b hb := by
  simp only[Gh.born]
  rw[if_neg (by rintro rfl; rw[hu.1] at hb; cases hb)]
  exact hb
 ext b i m n h:=⟨m,Nat.le_refl _,h⟩
 cell b i m n off h _:=z8 (I.Ac b i m n h).2.1
 nE i h hh _:=⟨h,Nat.le_refl _,hh,fun _ _ _ _ k=>k⟩
 next:=Nat.le_refl _
theorem Inv.Hd (I:Inv W0 G st w){id k n:Nat}{o:Obj}(hid:id<st.next)(hu:G.lM id)
 (hc:∀ t u cs,st.aS.get id=some (.cells t u cs)→dT (G.born id (w.heap.size,k,n)) st (w.alloc o) w.heap.size 0 cs∧cs.length=k∧k≤n∧(u=true→n=k∧(w.alloc o).frozen? ⟨w.heap.size,n,none⟩=false)∧(w.alloc o).shape? w.heap.size=some (t,n)∧ ∀ i,i<n→(w.alloc o).frozen? ⟨w.heap.size,i,none⟩=false)
 (ho:∀ a,st.aS.get id=some a→a.DZ=true→oX (G.born id (w.heap.size,k,n)) st (w.alloc o) a o):
 Inv W0 (G.born id (w.heap.size,k,n)) st (w.alloc o):=by
 have L:=Le.born (x:=(w.heap.size,k,n)) hu I o
 refine⟨I.below.alloc I.below.size _,?_,?_,?_,?_,?_,?_,?_,I.fresh,I.old⟩
 ·intro i b k' n' hb
  simp only[Gh.born] at hb
  split at hb
  ·injection hb with hb; injection hb with e1 e2; subst e1; subst_vars; exact⟨I.below.size,by simp,hid⟩
  ·obtain⟨h1,h2,h3⟩:=I.blt i b k' n' hb; exact⟨h1,by simp; omega,h3⟩
 ·intro i j b k1 n1 k2 n2 hi hj d1 d2
  simp only[Gh.born] at hi hj
  split at hi <;> split at hj
  ·subst_vars; rfl
  ·injection hi with hi; injection hi with hi _; subst hi; exact absurd (I.blt _ _ _ _ hj).2.1 (by omega)
  ·injection hj with hj; injection hj with hj _; subst hj; exact absurd (I.blt _ _ _ _ hi).2.1 (by omega)
  ·exact I.AW i j b k1 n1 k2 n2 hi hj d1 d2
 ·intro i b k1 n1 hb
  simp only[Gh.born] at hb ⊢
  split at hb
  ·injection hb with hb
   injection hb with hb _
   subst hb
   cases he:G.ext w.heap.size with
   | none=>rfl
   | some x=>obtain⟨x1,x2,x3⟩:=x; exact absurd (I.Ac _ _ _ _ he).2.1 (by omega)
  ·exact I.vJ i b k1 n1 hb
 ·intro b i m n h
  obtain⟨h1,h2,h3,h4,h5,h6⟩:=I.Ac b i m n h
  refine⟨h1,by simp; omega,h3,h4,?_,h6⟩
  simp only[Gh.born]
  rw[if_neg (by rintro rfl; exact hu.2 _ _ _ h)]
  exact h5
 ·intro b i m n j h hj
  have hb:=(I.Ac b i m n h).2.1
  rw[z8 hb,sX hb]
  exact I.qK b i m n j h hj
 ·intro i b k1 n1 t u cs' hb hcs
  simp only[Gh.born] at hb
  split at hb
  ·injection hb with hb
   injection hb with e1 e2
   injection e2 with e2 e3
   subst e1; subst e2; subst e3
   subst_vars
   exact hc t u cs' hcs
  ·obtain⟨h1,h2,h3⟩:=I.blt i b k1 n1 hb
   obtain⟨k1,k2,k3,k4,k5,k6⟩:=I.nI i b k1 n1 t u cs' hb hcs
   exact⟨k1.old L fun j _=>z8 h2,k2,k3,fun hu=>⟨(k4 hu).1,by rw[sX h2]; exact(k4 hu).2⟩,by rw[yC (E6 h2)]; exact k5,fun j hj=>by rw[sX h2]; exact k6 j hj⟩
 ·intro i b k1 n1 a hb ha hv
  simp only[Gh.born] at hb
  split at hb
  ·injection hb with hb
   injection hb with e1 e2
   subst e1
   subst_vars
   exact⟨o,World.alloc_heap_new w o,ho a ha hv⟩
  ·obtain⟨h1,h2,h3⟩:=I.blt i b k1 n1 hb
   obtain⟨o',j1,j2⟩:=I.pL i b k1 n1 a hb ha hv
   exact⟨o',by rw[E6 h2]; exact j1,j2.mono L⟩
theorem Inv.born (I:Inv W0 G st w){id:Nat}{u:Bool}{cs:List AV}{vs:List Value}{C:Array Value}{t:TypeId}{fr:Nat×Nat}(hid:id<st.next)(hu:G.lM id)
 (ho:st.aS.get id=some (.cells t u cs)) (huf:u=true→C.size=cs.length∧fr.2≤fr.1) (hr:aT G st w cs vs) (hC:∀(j:Nat) (v:Value),vs[j]? =some v→C[j]? =some v) (hl:cs.length≤C.size) (hfr:fr.2≤fr.1∨C.size≤fr.1):
 Inv W0 (G.born id (w.heap.size,cs.length,C.size)) st (w.alloc (.cells C t fr)):=by
 have L:=Le.born (x:=(w.heap.size,cs.length,C.size)) hu I (.cells C t fr)
 refine I.Hd hid hu ?_ ?_
 ·intro t' u' cs' hcs
  rw[ho] at hcs
  injection hcs with hcs
  injection hcs with e1 e2 e3
  subst e1; subst e2; subst e3
  refine⟨dT.n6 (aT.mono L _ _ hr) fun j v hv=>?_,rfl,hl,fun hu=>⟨(huf hu).1,J6 C t fr _ (huf hu).2⟩,L7 C t fr,fun j hj=>F6 C t fr j hfr hj⟩
  rw[Nat.zero_add,Co]
  exact hC j v hv
 ·intro a ha hv
  rw[ho] at ha
  injection ha with ha
  subst ha
  cases hv
theorem Inv.KJ (I:Inv W0 G st w){id:Nat}{a:gS}{o:Obj}(hid:id<st.next)(hu:G.lM id)(ho:st.aS.get id=some a)(h:oX G st w a o):
 Inv W0 (G.born id (w.heap.size,0,0)) st (w.alloc o):=by
 have L:=Le.born (x:=(w.heap.size,0,0)) hu I o
 refine I.Hd hid hu ?_ ?_
 ·intro t' u' cs' hcs
  rw[ho] at hcs
  injection hcs with hcs
  subst hcs
  cases h
 ·intro a' ha hv
  rw[ho] at ha
  injection ha with ha
  subst ha
  exact h.mono L
theorem Le.AA (I:Inv W0 G st w)(x:Nat×Nat×Nat)(o:Obj):Le G st w (G.grown w.heap.size x) st (w.alloc o) where
 β i b hb:=hb
 ext b i m n h:=⟨m,Nat.le_refl _,by
  simp only[Gh.grown]
  rw[if_neg (by have:=(I.Ac b i m n h).2.1; omega)]
  exact h⟩
 cell b i m n off h _:=z8 (I.Ac b i m n h).2.1
 nE i h hh _:=⟨h,Nat.le_refl _,hh,fun _ b m n k=>by
  simp only[Gh.grown]
  rw[if_neg (by have:=(I.Ac b i m n k).2.1; omega)]
  exact k⟩
 next:=Nat.le_refl _
theorem Inv.AA (I:Inv W0 G st w){id h m:Nat}{C:Array Value}{t:TypeId}(hid:id<st.next)(hb0:G.β id=none)(ho:st.aS.get id=some (.nE h))(hm:m≤C.size):
 Inv W0 (G.grown w.heap.size (id,m,C.size)) st (w.alloc (.cells C t)):=by
 have L:=Le.AA I (id,m,C.size) (.cells C t)
 refine⟨I.below.alloc I.below.size _,?_,I.AW,?_,?_,?_,?_,?_,I.fresh,I.old⟩
 ·intro i b k n hb
  obtain⟨h1,h2,h3⟩:=I.blt i b k n hb
  exact⟨h1,by simp; omega,h3⟩
 ·intro i b k n hb
  have:=(I.blt i b k n hb).2.1
  simp only[Gh.grown]
  rw[if_neg (by omega)]
  exact I.vJ i b k n hb
 ·intro b i m' n he
  simp only[Gh.grown] at he
  split at he
  ·injection he with he; injection he with e1 e2; injection e2 with e2 e3; subst_vars
   exact⟨I.below.size,by simp,hid,hm,hb0,h,ho⟩
  ·obtain⟨h1,h2,h3,h4,h5,h6⟩:=I.Ac b i m' n he
   exact⟨h1,by simp; omega,h3,h4,h5,h6⟩
 ·intro b i m' n j he hj
  simp only[Gh.grown] at he
  split at he
  ·injection he with he; injection he with e1 e2; injection e2 with e2 e3; subst_vars
   exact⟨by rw[Co]; simp[hj],F6 C t (0,0) j (.inl (by simp)) hj⟩
  ·have hb:=(I.Ac b i m' n he).2.1
   rw[z8 hb,sX hb]
   exact I.qK b i m' n j he hj
 ·intro i b k n t u cs hb hcs
  have h2:=(I.blt i b k n hb).2.1
  obtain⟨k1,k2,k3,k4,k5,k6⟩:=I.nI i b k n t u cs hb hcs
  exact⟨k1.old L fun j _=>z8 h2,k2,k3,fun hu=>⟨(k4 hu).1,by rw[sX h2]; exact(k4 hu).2⟩,by rw[yC (E6 h2)]; exact k5,fun j hj=>by rw[sX h2]; exact k6 j hj⟩
 ·intro i b k n a hb ha hv
  have h2:=(I.blt i b k n hb).2.1
  obtain⟨o',j1,j2⟩:=I.pL i b k n a hb ha hv
  exact⟨o',by rw[E6 h2]; exact j1,j2.mono L⟩
theorem oF (b:Nat):∀(vs:List Value) (o:Nat) (w:World),(w.setCells b o vs).heap.size=w.heap.size
 | [],_,_=>rfl
 | v :: r,o,w=>by rw[World.setCells,oF b r]; simp
theorem rX {B:Nat}{a:World}(b:Nat)(hb:B≤b):∀(vs:List Value) (o:Nat) (w:World),Below B a w→Below B a (w.setCells b o vs)
 | [],_,_,h=>h
 | v :: r,o,w,h=>by rw[World.setCells]; exact rX b hb r _ _ (h.setCell hb _)
theorem qF (b b':Nat)(hne:b'≠b):∀(vs:List Value) (o:Nat) (w:World),(w.setCells b o vs).heap[b']? =w.heap[b']?
 | [],_,_=>rfl
 | v :: r,o,w=>by rw[World.setCells,qF b b' hne r]; exact Below.heap_setCell _ _ _ _ hne
theorem AR (b b':Nat):∀(vs:List Value) (o:Nat) (w:World) (j:Nat),(w.cell? ⟨b',j,none⟩).isSome=true→((w.setCells b o vs).cell? ⟨b',j,none⟩).isSome=true
 | [],_,_,_,h=>h
 | v :: r, o, w, j, h => by
   rw[World.setCells]
   refine AR b b' r _ _ j ?_
   by_cases e:b=b'∧o=j
   ·obtain⟨rfl,rfl⟩:=e
    obtain⟨u,hu⟩:=Option.isSome_iff_exists.1 h
    simp[World.cell?_setCell_same _ _ _ hu]
   ·rw[World.cell?_setCell_other _ _ _ _ (by simpa using e)]
    exact h
theorem AN {cs vs:List AV}{off:Nat}(h:off+vs.length≤cs.length):(dJ cs off vs).length=cs.length:=by
 simp[dJ]
 omega
theorem Le.store (I:Inv W0 G st w){id b k n off:Nat}{vs:List Value}(hb:G.β id=some (b,k,n))(o:gS):
 Le G st w G (st.put id o) (w.setCells b off vs) where
 β i b hb:=hb
 ext b i m n h:=⟨m,Nat.le_refl _,h⟩
 cell b' i m n j h _:=World.cell?_setCells_out b vs off w _ (fun e _=>by
  simp only at e
  subst e
  rw[I.vJ id b' _ _ hb] at h
  cases h)
 nE i h hh hx:=⟨h,Nat.le_refl _,by
  obtain⟨b',m,n,hx⟩:=hx
  simp only[St.put,Tr.bP]
  rw[if_neg (by rintro rfl; have:=(I.Ac b' i m n hx).2.2.2.2.1; rw[hb] at this; cases this)]
  exact hh,fun _ _ _ _ k=>k⟩
 next:=Nat.le_refl _
theorem Inv.JO (I:Inv W0 G st w){id b k n:Nat}{w':World}{a0:gS}{a:gS}(hb:G.β id=some (b,k,n))(ho:st.aS.get id=some a0)(hlive:a0≠.dead)
 (hsz:w'.heap.size=w.heap.size) (hbel:Below W0.heap.size W0 w') (hoth:∀ b',b'≠b→w'.heap[b']? =w.heap[b']?) (L:Le G st w G (st.put id a) w')
 (hc:∀ t u cs,a=.cells t u cs→dT G (st.put id a) w' b 0 cs∧cs.length=k∧k≤n∧(u=true→n=k∧w'.frozen? ⟨b,n,none⟩=false)∧w'.shape? b=some (t,n)∧ ∀ i,i<n→w'.frozen? ⟨b,i,none⟩=false)
 (hv:a.DZ=true→ ∃ o,w'.heap[b]? =some o∧oX G (st.put id a) w' a o):Inv W0 G (st.put id a) w':=by
 have cell':∀ b' i,b'≠b→w'.cell? ⟨b',i,none⟩=w.cell? ⟨b',i,none⟩:=fun b' i h=>World.cell?_of_block (w:=w) (hoth b' h)
 have froz':∀ b' i,b'≠b→w'.frozen? ⟨b',i,none⟩=w.frozen? ⟨b',i,none⟩:=fun b' i h=>World.frozen?_of_block (w:=w) (hoth b' h)
 have hbb:=I.blt id b k n hb
 have other:∀ i b' k' n',G.β i=some (b',k',n')→i≠id→st.aS.get i≠some .dead→b'≠b:=by
  rintro i b' k' n' h hne hd rfl
  exact hne (I.AW _ _ _ _ _ _ _ h hb hd (by rw[ho]; intro e; injection e with e; exact hlive e))
 refine⟨hbel,?_,?_,I.vJ,?_,?_,?_,?_,?_,I.old⟩
 ·intro i b' k' n' h
  rw[hsz]
  exact I.blt i b' k' n' h
 ·intro i j b' k1 n1 k2 n2 h1 h2 d1 d2
  have live:∀ i,(st.put id a).aS.get i≠some .dead→st.aS.get i≠some .dead:=by
   intro i hi
   simp only[St.put,Tr.bP] at hi
   split at hi
   ·subst_vars; rw[ho]; intro e; injection e with e; exact hlive e
   ·exact hi
  exact I.AW i j b' k1 n1 k2 n2 h1 h2 (live i d1) (live j d2)
 ·intro b' i m n h
  obtain⟨h1,h2,h3,h4,h5,t,h6⟩:=I.Ac b' i m n h
  refine⟨h1,by rw[hsz]; exact h2,h3,h4,h5,t,?_⟩
  simp only[St.put,Tr.bP]
  rw[if_neg (by rintro rfl; rw[hb] at h5; cases h5)]
  exact h6
 ·intro b' i m n j h hj
  have hne:b'≠b:=by
   rintro rfl
   rw[I.vJ id b' _ _ hb] at h
   cases h
  rw[cell' b' j hne,froz' b' j hne]
  exact I.qK b' i m n j h hj
 ·intro i b' k' n' t u cs' h hcs
  simp only[St.put,Tr.bP] at hcs
  split at hcs
  ·subst_vars
   rw[hb] at h
   injection h with h; injection h with e1 e2; injection e2 with e2 e3
   subst e1; subst e2; subst e3
   injection hcs with hcs
   exact hc t u cs' hcs
  ·rename_i hne
   obtain⟨k1,k2,k3,k4,k5,k6⟩:=I.nI i b' k' n' t u cs' h hcs
   have hne':=other i b' k' n' h hne (by rw[hcs]; intro e; cases e)
   exact⟨k1.old L fun j _=>cell' _ _ hne',k2,k3,fun hu=>⟨(k4 hu).1,by rw[froz' _ _ hne']; exact(k4 hu).2⟩,by rw[yC (hoth b' hne')]; exact k5,fun j hj=>by rw[froz' _ _ hne']; exact k6 j hj⟩
 ·intro i b' k' n' a' h ha hh
  simp only[St.put,Tr.bP] at ha
  split at ha
  ·subst_vars
   rw[hb] at h
   injection h with h; injection h with e1 e2
   subst e1
   injection ha with ha
   subst ha
   exact hv hh
  ·rename_i hne
   obtain⟨o,j1,j2⟩:=I.pL i b' k' n' a' h ha hh
   have hne':=other i b' k' n' h hne (by rw[ha]; intro e; injection e with e; subst e; cases hh)
   exact⟨o,by rw[hoth b' hne']; exact j1,j2.mono L⟩
 ·intro i hi
  simp only[St.put] at hi ⊢
  rw[Tr.bP,if_neg (by omega)]
  exact I.fresh i hi
theorem Inv.store (I:Inv W0 G st w){id b k n off:Nat}{t:TypeId}{u:Bool}{cs a_:List AV}{vs:List Value}(hb:G.β id=some (b,k,n))(ho:st.aS.get id=some (.cells t u cs))(hl:off+a_.length≤cs.length)
 (hr:aT G st w a_ vs):Inv W0 G (st.put id (.cells t u (dJ cs off a_))) (w.setCells b off vs):=by
 have L:=Le.store (vs:=vs) (off:=off) I hb (.cells t u (dJ cs off a_))
 have hlv:=hr.length
 have hbb:=I.blt id b k n hb
 obtain⟨k1,k2,k3,k4,k5,k6⟩:=I.nI id b k n t u cs hb ho
 refine I.JO hb ho (by intro e; cases e) (oF _ _ _ _) (rX b hbb.1 _ _ _ I.below) (fun b' h=>qF b b' h _ _ _) L ?_ (fun h=>by cases h)
 intro t' u' cs' e
 injection e with e1 e2 e
 subst e1; subst e2; subst e
 refine⟨?_,by rw[AN hl]; exact k2,k3,fun hu=>⟨(k4 hu).1,by rw[World.frozen?_setCells]; exact(k4 hu).2⟩,by rw[pH]; exact k5,fun j hj=>by rw[World.frozen?_setCells]; exact k6 j hj⟩
 have e1:(cs.take off).length=off:=by simp; omega
 have hcs3:cs=cs.take off ++ ((cs.drop off).take a_.length ++ cs.drop (off+a_.length)):=by
  rw[← List.drop_drop,List.take_append_drop,List.take_append_drop]
 have k1':=k1
 rw[hcs3,dT.append,dT.append] at k1'
 obtain⟨p1,p2,p3⟩:=k1'
 have hsr:dJ cs off a_=cs.take off ++ (a_ ++ cs.drop (off+a_.length)):=by simp[dJ]
 generalize st.put id (.cells t u (dJ cs off a_))=st2 at L ⊢
 rw[hsr,dT.append,dT.append]
 refine⟨p1.old L fun j hj=>World.cell?_setCells_out b vs off w _ (fun _ _=>by simp at hj ⊢; omega),?_,?_⟩
 ·rw[e1,Nat.zero_add]
  refine dT.n6 (aT.mono L _ _ hr) fun j v hv=>?_
  have hj:j<vs.length:=(List.getElem?_eq_some_iff.1 hv).1
  rw[World.cell?_setCells_in b vs off w (fun i hi=>yN k5 (by omega)) j hj]
  rw[List.getElem?_eq_getElem hj] at hv
  exact hv
 ·have e2:((cs.drop off).take a_.length).length=a_.length:=by simp; omega
  rw[e1,e2] at p3
  rw[e1]
  exact p3.old L fun j hj=>World.cell?_setCells_out b vs off w _ (fun _ _=>by simp; omega)
theorem Le.kill (I:Inv W0 G st w){id:Nat}{x:Nat×Nat×Nat}(hb:G.β id=some x):Le G st w G (st.put id .dead) w where
 β i b hb:=hb
 ext b i m n h:=⟨m,Nat.le_refl _,h⟩
 cell b' i m n j h _:=rfl
 nE i h hh hx:=⟨h,Nat.le_refl _,by
  obtain⟨b',m,n,hx⟩:=hx
  simp only[St.put,Tr.bP]
  rw[if_neg (by rintro rfl; have:=(I.Ac b' i m n hx).2.2.2.2.1; rw[hb] at this; cases this)]
  exact hh,fun _ _ _ _ k=>k⟩
 next:=Nat.le_refl _
theorem Inv.kill (I:Inv W0 G st w){id b k n:Nat}{a0:gS}(hb:G.β id=some (b,k,n))(ho:st.aS.get id=some a0)(hlive:a0≠.dead):Inv W0 G (st.put id .dead) w:=
 I.JO hb ho hlive rfl I.below (fun _ _=>rfl) (Le.kill I hb) (fun t u cs e=>by cases e) (fun e=>by cases e)
theorem Le.Ju (I:Inv W0 G st w){id b k n off:Nat}{vs:List Value}{a_:List AV}{t:TypeId}(hb:G.β id=some (b,k,n)):
 Le G st w (G.born st.next (b,a_.length,n)) ((st.put id .dead).push (.cells t false a_)) (w.setCells b off vs) where
 β i x hx := by
  simp only[Gh.born]
  obtain⟨b',k',n'⟩:=x
  have:=(I.blt _ _ _ _ hx).2.2
  rw[if_neg (by omega)]
  exact hx
 ext b i m n h:=⟨m,Nat.le_refl _,h⟩
 cell b' i m n j h _:=World.cell?_setCells_out b vs off w _ (fun e _=>by
  simp only at e
  subst e
  rw[I.vJ id b' _ _ hb] at h
  cases h)
 nE i h hh hx:=⟨h,Nat.le_refl _,by
  obtain⟨b',m,n,hx⟩:=hx
  have:=(I.Ac b' i m n hx).2.2.1
  simp only[St.push,St.put,Tr.bP]
  rw[if_neg (by omega),if_neg (by rintro rfl; have:=(I.Ac b' i m n hx).2.2.2.2.1; rw[hb] at this; cases this)]
  exact hh,fun _ _ _ _ k=>k⟩
 next:=by simp[St.push,St.put]
theorem Inv.Ju (I:Inv W0 G st w){id b k n off:Nat}{t:TypeId}{u:Bool}{cs a_:List AV}{vs us:List Value}(hb:G.β id=some (b,k,n))(ho:st.aS.get id=some (.cells t u cs))
 (hr:aT G st w a_ us) (hu:∀(j:Nat) u,us[j]? =some u→(w.setCells b off vs).cell? ⟨b,j,none⟩=some u) (hk:a_.length≤n):
 Inv W0 (G.born st.next (b,a_.length,n)) ((st.put id .dead).push (.cells t false a_)) (w.setCells b off vs):=by
 have L:=Le.Ju (off:=off) (vs:=vs) (a_:=a_) (t:=t) I hb
 obtain⟨k1,k2,k3,k4,k5,k6⟩:=I.nI id b k n t u cs hb ho
 have hbb:=I.blt id b k n hb
 have cell':∀ b' i,b'≠b→(w.setCells b off vs).cell? ⟨b',i,none⟩=w.cell? ⟨b',i,none⟩:=fun b' i h=>World.cell?_of_block (w:=w) (qF b b' h _ _ _)
 have get':∀ i,i≠id→i<st.next→((st.put id .dead).push (.cells t false a_)).aS.get i=st.aS.get i:=fun i h1 h2=>by
  simp only[St.push,St.put,Tr.bP]
  rw[if_neg (by omega),if_neg h1]
 have other:∀ i b' k' n',G.β i=some (b',k',n')→i≠id→st.aS.get i≠some .dead→b'≠b:=by
  rintro i b' k' n' h hne hd rfl
  exact hne (I.AW _ _ _ _ _ _ _ h hb hd (by rw[ho]; intro e; cases e))
 have dead':((st.put id .dead).push (.cells t false a_)).aS.get id=some .dead:=by
  simp only[St.push,St.put,Tr.bP]
  rw[if_neg (by omega)]
  exact if_pos trivial
 have β':∀ i x,(G.born st.next (b,a_.length,n)).β i=some x→(i=st.next∧x=(b,a_.length,n))∨(i≠st.next∧G.β i=some x):=by
  intro i x h
  simp only[Gh.born] at h
  split at h
  ·injection h with h; exact .inl ⟨by assumption,h.symm⟩
  ·exact .inr ⟨by assumption,h⟩
 refine⟨rX b hbb.1 _ _ _ I.below,?_,?_,?_,?_,?_,?_,?_,?_,I.old⟩
 ·intro i b' k' n' h
  rw[oF]
  rcases β' _ _ h with⟨rfl,e⟩ | ⟨_,h⟩
  ·injection e with e _; subst e; exact⟨hbb.1,hbb.2.1,by simp[St.push,St.put]⟩
  ·obtain⟨h1,h2,h3⟩:=I.blt i b' k' n' h
   exact⟨h1,h2,by simp[St.push,St.put]; omega⟩
 ·intro i j b' k1 n1 k2 n2 h1 h2 d1 d2
  rcases β' _ _ h1 with⟨rfl,e1⟩ | ⟨e1,g1⟩ <;> rcases β' _ _ h2 with⟨rfl,e2⟩ | ⟨e2,g2⟩
  ·rfl
  ·injection e1 with e1 _
   subst e1
   have hj:=(I.blt _ _ _ _ g2).2.2
   have hne:j≠id:=by rintro rfl; exact d2 dead'
   rw[get' j hne hj] at d2
   exact absurd rfl (other j _ _ _ g2 hne d2)
  ·injection e2 with e2 _
   subst e2
   have hj:=(I.blt _ _ _ _ g1).2.2
   have hne:i≠id:=by rintro rfl; exact d1 dead'
   rw[get' i hne hj] at d1
   exact absurd rfl (other i _ _ _ g1 hne d1)
  ·have hi:=(I.blt _ _ _ _ g1).2.2
   have hj:=(I.blt _ _ _ _ g2).2.2
   have n1':i≠id:=by rintro rfl; exact d1 dead'
   have n2':j≠id:=by rintro rfl; exact d2 dead'
   rw[get' i n1' hi] at d1
   rw[get' j n2' hj] at d2
   exact I.AW i j b' k1 n1 k2 n2 g1 g2 d1 d2
 ·intro i b' k' n' h
  rcases β' _ _ h with⟨rfl,e⟩ | ⟨_,h⟩
  ·injection e with e _; subst e; exact I.vJ id _ _ _ hb
  ·exact I.vJ i b' k' n' h
 ·intro b' i m n' h
  obtain⟨h1,h2,h3,h4,h5,t,h6⟩:=I.Ac b' i m n' h
  refine⟨h1,by rw[oF]; exact h2,by simp[St.push,St.put]; omega,h4,?_,t,?_⟩
  ·simp only[Gh.born]
   rw[if_neg (by omega)]
   exact h5
  ·rw[get' i (by rintro rfl; rw[hb] at h5; cases h5) h3]
   exact h6
 ·intro b' i m n' j h0 hj
  have h:G.ext b'=some (i,m,n'):=h0
  have hne:b'≠b:=by
   rintro rfl
   rw[I.vJ id b' _ _ hb] at h
   cases h
  rw[cell' b' j hne,World.frozen?_setCells]
  exact I.qK b' i m n' j h hj
 ·intro i b' k' n' t' u' cs' h hcs
  rcases β' _ _ h with⟨rfl,e⟩ | ⟨hne0,h⟩
  ·injection e with e1 e2; injection e2 with e2 e3
   subst e1; subst e2; subst e3
   simp only[St.push,St.put,Tr.bP] at hcs
   rw[if_pos trivial] at hcs
   injection hcs with hcs
   injection hcs with e1 e2 e3
   subst e1; subst e2; subst e3
   refine⟨dT.n6 (aT.mono L _ _ hr) fun j v hv=>?_,rfl,hk,(fun e=>by cases e),by rw[pH]; exact k5,fun j hj=>by rw[World.frozen?_setCells]; exact k6 j hj⟩
   rw[Nat.zero_add]
   exact hu j v hv
  ·have hi:=(I.blt _ _ _ _ h).2.2
   have hne:i≠id:=by rintro rfl; rw[dead'] at hcs; cases hcs
   rw[get' i hne hi] at hcs
   obtain⟨j1,j2,j3,j4,j5,j6⟩:=I.nI i b' k' n' t' u' cs' h hcs
   have hne':=other i b' k' n' h hne (by rw[hcs]; intro e; cases e)
   exact⟨j1.old L fun j _=>cell' _ _ hne',j2,j3,fun hu=>⟨(j4 hu).1,by rw[World.frozen?_setCells]; exact(j4 hu).2⟩,by rw[pH]; exact j5,fun j hj=>by rw[World.frozen?_setCells]; exact j6 j hj⟩
 ·intro i b' k' n' a h ha hh
  rcases β' _ _ h with⟨rfl,e⟩ | ⟨hne0,h⟩
  ·simp only[St.push,St.put,Tr.bP] at ha
   rw[if_pos trivial] at ha
   injection ha with ha
   subst ha
   cases hh
  ·have hi:=(I.blt _ _ _ _ h).2.2
   have hne:i≠id:=by rintro rfl; rw[dead'] at ha; injection ha with ha; subst ha; cases hh
   rw[get' i hne hi] at ha
   obtain⟨o,j1,j2⟩:=I.pL i b' k' n' a h ha hh
   have hne':=other i b' k' n' h hne (by rw[ha]; intro e; injection e with e; subst e; cases hh)
   exact⟨o,by rw[qF b b' hne']; exact j1,j2.mono L⟩
 ·intro i hi
  simp only[St.push,St.put] at hi ⊢
  rw[Tr.bP,if_neg (by omega),Tr.bP,if_neg (by omega)]
  exact I.fresh i (by omega)
theorem Le.obj (I:Inv W0 G st w){id b k n:Nat}(hb:G.β id=some (b,k,n))(a:gS)(o:Obj):Le G st w G (st.put id a) (w.putObj b o) where
 β i b hb:=hb
 ext b i m n h:=⟨m,Nat.le_refl _,h⟩
 cell b' i m n j h _:=World.cell?_of_block (w:=w) (World.putObj_heap_other (by
  rintro rfl
  rw[I.vJ id b' _ _ hb] at h
  cases h))
 nE i h hh hx:=⟨h,Nat.le_refl _,by
  obtain⟨b',m,n,hx⟩:=hx
  simp only[St.put,Tr.bP]
  rw[if_neg (by rintro rfl; have:=(I.Ac b' i m n hx).2.2.2.2.1; rw[hb] at this; cases this)]
  exact hh,fun _ _ _ _ k=>k⟩
 next:=Nat.le_refl _
theorem CI {B:Nat}{a w:World}(h:Below B a w){b:Nat}(hb:B≤b)(o:Obj):Below B a (w.putObj b o):=
 h.trans ⟨rfl,rfl,rfl,by simp,fun k hk=>World.putObj_heap_other (by omega)⟩
theorem Inv.obj (I:Inv W0 G st w){id b k n:Nat}{a0 a:gS}{o:Obj}(hb:G.β id=some (b,k,n))(ho:st.aS.get id=some a0)(hlive:a0.DZ=true)(h:oX G st w a o):
 Inv W0 G (st.put id a) (w.putObj b o):=by
 have L:=Le.obj I hb a o
 have hbb:=I.blt id b k n hb
 refine I.JO hb ho (by rintro rfl; cases hlive) (World.putObj_size) (CI I.below hbb.1 o) (fun b' hne=>World.putObj_heap_other hne) L ?_ ?_
 ·intro t u cs e
  subst e
  cases h
 ·intro _
  exact⟨o,World.putObj_heap_same hbb.2.1,h.mono L⟩
theorem Inv.NN (I:Inv W0 G st w){id b k n:Nat}{a0:gS}(o:Obj)(hb:G.β id=some (b,k,n))(ho:st.aS.get id=some a0)(hlive:a0.DZ=true):Inv W0 G (st.put id .dead) (w.putObj b o):=by
 have hbb:=I.blt id b k n hb
 exact I.JO hb ho (by rintro rfl; cases hlive) (World.putObj_size) (CI I.below hbb.1 o) (fun b' hne=>World.putObj_heap_other hne) (Le.obj I hb .dead o) (fun t u cs e=>by cases e) (fun e=>by cases e)
theorem Le.grow {id b m n h k:Nat}{vs:List Value}(hx:G.ext b=some (id,m,n))(ho:st.aS.get id=some (.nE h)):
 Le G st w (G.grown b (id,m+k,n)) (st.put id (.nE (h+k))) (w.setCells b m vs) where
 β i b hb:=hb
 ext b' i m' n' he:=by
  simp only[Gh.grown]
  split
  ·subst_vars; rw[hx] at he; injection he with he; injection he with e1 e2; injection e2 with e2 e3; subst_vars; exact⟨_,Nat.le_add_right _ _,rfl⟩
  ·exact⟨m',Nat.le_refl _,he⟩
 cell b' i m' n' j he hj:=World.cell?_setCells_out b vs m w _ (fun e _=>by
  simp only at e ⊢
  subst e
  rw[hx] at he; injection he with he; injection he with e1 e2; injection e2 with e2 e3; subst_vars
  exact .inl hj)
 nE i h' hh hx':=by
  simp only[St.put,Tr.bP]
  split
  ·subst_vars
   rw[ho] at hh; injection hh with hh; injection hh with hh; subst hh
   refine⟨h+k,Nat.le_add_right _ _,rfl,fun e b' m' n' hb'=>?_⟩
   have hk:k=0:=by omega
   subst hk
   simp only[Gh.grown]
   split
   ·subst_vars; rw[hx] at hb'; exact hb'
   ·exact hb'
  ·refine⟨h',Nat.le_refl _,hh,fun _ b' m' n' hb'=>?_⟩
   simp only[Gh.grown]
   split
   ·subst_vars; rw[hx] at hb'; injection hb' with e; injection e with e _; subst e; exact absurd rfl (by assumption)
   ·exact hb'
 next:=Nat.le_refl _
theorem Inv.grow (I:Inv W0 G st w){id b m n h k:Nat}{vs:List Value}(hx:G.ext b=some (id,m,n))(ho:st.aS.get id=some (.nE h))(hk:m+k≤n):
 Inv W0 (G.grown b (id,m+k,n)) (st.put id (.nE (h+k))) (w.setCells b m vs):=by
 have L:=Le.grow (w:=w) (k:=k) (vs:=vs) hx ho
 have hbb:=I.Ac b id m n hx
 have nob:∀ i b' k' n',G.β i=some (b',k',n')→b'≠b:=by
  rintro i b' k' n' hb rfl
  rw[I.vJ i b' _ _ hb] at hx
  cases hx
 refine⟨rX b hbb.1 _ _ _ I.below,?_,?_,?_,?_,?_,?_,?_,?_,I.old⟩
 ·intro i b' k' n' h
  rw[oF]
  exact I.blt i b' k' n' h
 ·intro i j b' k1 n1 k2 n2 h1 h2 d1 d2
  have live:∀ i,(st.put id (.nE (h+k))).aS.get i≠some .dead→st.aS.get i≠some .dead:=by
   intro i hi
   simp only[St.put,Tr.bP] at hi
   split at hi
   ·subst_vars; rw[ho]; intro e; cases e
   ·exact hi
  exact I.AW i j b' k1 n1 k2 n2 h1 h2 (live i d1) (live j d2)
 ·intro i b' k' n' hb
  simp only[Gh.grown]
  rw[if_neg (nob i b' _ _ hb)]
  exact I.vJ i b' _ _ hb
 ·intro b' i m' n' he
  rw[oF]
  simp only[Gh.grown] at he
  simp only[St.put,Tr.bP]
  split at he
  ·injection he with he; injection he with e1 e2; injection e2 with e2 e3; subst_vars
   obtain⟨h1,h2,h3,h4,h5,_⟩:=hbb
   exact⟨h1,h2,h3,hk,h5,_,if_pos rfl⟩
  ·obtain⟨h1,h2,h3,h4,h5,t,h6⟩:=I.Ac b' i m' n' he
   refine⟨h1,h2,h3,h4,h5,?_⟩
   split
   ·exact⟨_,rfl⟩
   ·exact⟨t,h6⟩
 ·intro b' i m' n' j he hj
  rw[World.frozen?_setCells]
  have key:∀ b' i m' n' j,G.ext b'=some (i,m',n')→j<n'→((w.setCells b m vs).cell? ⟨b',j,none⟩).isSome=true∧w.frozen? ⟨b',j,none⟩=false:=by
   intro b' i m' n' j he hj
   obtain⟨c1,c2⟩:=I.qK b' i m' n' j he hj
   exact⟨AR b b' vs m w j c1,c2⟩
  simp only[Gh.grown] at he
  split at he
  ·injection he with he; injection he with e1 e2; injection e2 with e2 e3; subst_vars
   exact key _ _ _ _ j hx hj
  ·exact key _ _ _ _ j he hj
 ·intro i b' k' n' t u cs hb hcs
  have hne:=nob i b' _ _ hb
  simp only[St.put,Tr.bP] at hcs
  split at hcs
  ·cases hcs
  ·obtain⟨k1,k2,k3,k4,k5,k6⟩:=I.nI i b' k' n' t u cs hb hcs
   exact⟨k1.old L fun j hj=>World.cell?_setCells_out b vs m w _ (fun e _=>absurd e hne),k2,k3,fun hu=>⟨(k4 hu).1,by rw[World.frozen?_setCells]; exact(k4 hu).2⟩,by rw[pH]; exact k5,fun j hj=>by rw[World.frozen?_setCells]; exact k6 j hj⟩
 ·intro i b' k' n' a hb ha hv
  have hne:=nob i b' _ _ hb
  simp only[St.put,Tr.bP] at ha
  split at ha
  ·injection ha with ha; subst ha; cases hv
  ·obtain⟨o,j1,j2⟩:=I.pL i b' k' n' a hb ha hv
   exact⟨o,by rw[qF b b' hne]; exact j1,j2.mono L⟩
 ·intro i hi
  simp only[St.put] at hi ⊢
  rw[Tr.bP,if_neg (by omega)]
  exact I.fresh i hi
end
end Go.Ev
end
section
set_option linter.all false
namespace Go.Ev
open Go.RowKit (Below)
section
variable {P:Program}{G:Gh}{st:St}{w:World}
theorem vU {t:TypeId}{n:Nat}(h:size? P t=some n):∃ i,P.info? t=some i∧i.size=n:=by
 simp only[size?,Option.bind_eq_some_iff,Option.some.injEq] at h
 exact h
theorem gQ {t:TypeId}{n:Nat}(h:size? P t=some n)(w:World):(sizeOf t).run P w=.ok n w:=by
 obtain⟨i,h1,h2⟩:=vU h
 simp[sizeOf,typeInfo,h1,h2]
theorem E2 {t:TypeId}{g:Bool}(h:NA P t=some g)(w:World):(isAgg t).run P w=.ok g w:=by
 simp only[NA,Option.bind_eq_some_iff] at h
 obtain⟨d,h1,h2⟩:=h
 unfold isAgg
 simp only[Sem.run_bind,run_underlying h1,Result.andThen_ok]
 cases d <;> simp_all
theorem rT {t:TypeId}{z:AV}(h:v7 P t=some z)(w:World):∃ v,(zeroValue t).run P w=.ok v w∧aV G st w z v∧ ∃ i,P.info? t=some i∧i.zero=some v:=by
 simp only[v7,Option.bind_eq_some_iff] at h
 obtain⟨i,h1,v,h2,h3⟩:=h
 exact⟨v,by simp[zeroValue,typeInfo,h1,h2],aV.const h3,i,h1,h2⟩
theorem qC:∀ x y:List UInt8,gT x y=(x == y)
 | [],[]=>rfl
 | [],_ :: _=>rfl
 | _ :: _,[]=>rfl
 | a :: x, b :: y => by
   have:Nat.beq a.toNat b.toNat=(a == b):=by
    rw[Bool.eq_iff_iff,Nat.beq_eq,beq_iff_eq,UInt8.toNat_inj]
   simp only[gT,qC x y,this]
   rfl
theorem I9:∀ x y:List UInt8,strLt x y=Op.bytesLess x y
 | [],[]=>rfl
 | [],_ :: _=>rfl
 | _ :: _,[]=>rfl
 | a :: x, b :: y => by
   have h1:Nat.beq a.toNat b.toNat=(a == b):=by
    rw[Bool.eq_iff_iff,Nat.beq_eq,beq_iff_eq,UInt8.toNat_inj]
   have h2:Nat.blt a.toNat b.toNat=decide (a<b):=by
    rw[Bool.eq_iff_iff,Nat.blt_eq,decide_eq_true_iff,UInt8.lt_iff_toNat_lt]
   simp only[strLt,I9 x y,h1,h2,Op.bytesLess]
theorem toList_mk (l:List UInt8):(⟨l.toArray⟩:ByteArray).toList=l:=by
 rw[ByteArray.toList_eq]
theorem yT {op : BinOp} {x y : List UInt8} {v : AV} (h : Aq op x y = some v) : ∃ u, (Op.stringOp op ⟨x.toArray⟩ ⟨y.toArray⟩).run P w = .ok u w ∧ aV G st w v u := by
 cases op <;> simp only[Aq] at h <;> first | (cases h; done) | skip
 case add=>
  obtain⟨h1,h2⟩:=b7 h
  injection h2 with h2
  subst h2
  have h1:=Nat.le_of_ble_eq_true h1
  refine⟨.string (⟨x.toArray⟩ ++ ⟨y.toArray⟩),?_,?_⟩
  ·have:¬ (((⟨x.toArray⟩:ByteArray).size+(⟨y.toArray⟩:ByteArray).size:Nat):Int)>IntKind.i64.max:=by
    have:IntKind.i64.max=9223372036854775807:=by decide
    rw[this]
    simp only[ByteArray.size,List.size_toArray]
    omega
   simp only[Op.stringOp,this,if_false,Sem.run_pure]
  ·simp only[aV]
   congr 1
 all_goals
  injection h with h
  subst h
  simp only[Op.stringOp,toList_mk,Sem.run_pure,qC,I9,aV]
  exact⟨_,rfl,rfl⟩
theorem D2 {op:BinOp}{k k':IntKind}{a b:Int}{v:AV}{t:TypeId}(h:pA op k a k' b=some v):∃ u,(binOp op t (.int k a) (.int k' b)).run P w=.ok u w∧aV G st w v u:=by
 by_cases hk:k=k'
 ·subst hk
  cases op <;> simp only[pA,ne_eq,not_true_eq_false,if_false] at h <;> first | (cases h; done) | skip
  all_goals try(split at h <;> first | (cases h; done) | skip)
  all_goals
   injection h with h
   subst h
   simp only[aV,exists_eq_right,binOp,Op.intArith,Op.intDiv,Op.intBits,Op.shift,Op.intCmp,ne_eq,not_true_eq_false,if_false,Sem.run_pure, *]
 ·cases op <;> simp only[pA,ne_eq,hk,not_false_eq_true,if_true] at h <;> first | (cases h; done) | skip
  all_goals try(split at h <;> first | (cases h; done) | skip)
  all_goals
   injection h with h
   subst h
   simp only[aV,exists_eq_right,binOp,Op.shift,if_false,Sem.run_pure, *]
theorem E9 (k:IntKind)(n:Int)(h:k.min≤n∧n≤k.max):k.wrap n=n:=by
 cases k <;> simp[IntKind.wrap,IntKind.min,IntKind.max,IntKind.signed,IntKind.bits] at h ⊢ <;> (try split) <;> omega
theorem Ml (k:IntKind)(hb:32≤k.bits)(n:Int)(h:0≤n∧n<2147483648):k.wrap n=n:=by
 cases k <;> simp[IntKind.wrap,IntKind.signed,IntKind.bits] at hb ⊢ <;> (try split) <;> omega
theorem Lg {n:Int}{m:Nat}(hm:0<m):(n.tmod m) % (m:Int)=n % m∧1 - (m:Int)≤n.tmod m∧n.tmod m≤m - 1:=by
 have h0:(0:Int)<m:=by exact_mod_cast hm
 refine⟨?_,?_,?_⟩
 ·have e:=Int.mul_tdiv_add_tmod n m
  have:n.tmod m=n - m * n.tdiv m:=by omega
  rw[this,Int.sub_mul_emod_self_left]
 ·have:=Int.lt_tmod_of_pos n h0
  omega
 ·have:=Int.tmod_lt_of_pos n h0
  omega
theorem Mr (k:IntKind)(n:Int)(j:Nat)(hj:j<31)(hb:32≤k.bits):k.wrap ((BitVec.ofInt k.bits n &&& BitVec.ofInt k.bits ((2 ^ j:Nat) - 1:Int)).toNat)=n % ((2 ^ j:Nat):Int):=by
 have hp:0<2 ^ j:=Nat.two_pow_pos j
 have hlt:2 ^ j<2 ^ k.bits:=Nat.pow_lt_pow_right (by omega) (by omega)
 have h31:2 ^ j<2 ^ 31:=Nat.pow_lt_pow_right (by omega) hj
 have e1:(BitVec.ofInt k.bits ((2 ^ j:Nat) - 1:Int)).toNat=2 ^ j - 1:=by
  have:((2 ^ j:Nat) - 1:Int)=((2 ^ j - 1:Nat):Int):=by omega
  rw[this,BitVec.ofInt_natCast,BitVec.toNat_ofNat,Nat.mod_eq_of_lt (by omega)]
 have e2:(BitVec.ofInt k.bits n).toNat % 2 ^ j=(n % ((2 ^ j:Nat):Int)).toNat:=by
  rw[BitVec.toNat_ofInt]
  have hd:((2 ^ j:Nat):Int) ∣ ((2 ^ k.bits:Nat):Int):=by
   exact_mod_cast Nat.pow_dvd_pow 2 (by omega)
  have hn:=Int.emod_emod_of_dvd n hd
  have hnn:0≤n % ((2 ^ k.bits:Nat):Int):=Int.emod_nonneg _ (by have:=Nat.two_pow_pos k.bits; omega)
  have:(((n % ((2 ^ k.bits:Nat):Int)).toNat % 2 ^ j:Nat):Int)=n % ((2 ^ j:Nat):Int):=by
   rw[Int.natCast_emod,Int.toNat_of_nonneg hnn,hn]
  omega
 rw[BitVec.toNat_and,e1,Nat.and_two_pow_sub_one_eq_mod,e2]
 have h0:0≤n % ((2 ^ j:Nat):Int):=Int.emod_nonneg _ (by omega)
 have h1:n % ((2 ^ j:Nat):Int)<((2 ^ j:Nat):Int):=Int.emod_lt_of_pos _ (by omega)
 rw[Int.toNat_of_nonneg h0]
 exact Ml k hb _ ⟨h0,by omega⟩
theorem Ly {n r:Int}{m s:Nat}(hm:0<m)(hd:m % 2 ^ s=0)(h:n % (m:Int)=r):(n / (2 ^ s:Int)) % ((m / 2 ^ s:Nat):Int)=r / (2 ^ s:Int):=by
 have hp:(0:Int)<2 ^ s:=Int.pow_pos (by omega)
 have e:m=2 ^ s * (m / 2 ^ s):=by
  have:=Nat.div_add_mod m (2 ^ s)
  omega
 have e':(m:Int)=2 ^ s * ((m / 2 ^ s:Nat):Int):=by
  have:((2 ^ s * (m / 2 ^ s):Nat):Int)=(2 ^ s:Int) * ((m / 2 ^ s:Nat):Int):=by simp
  rw[← this,← e]
 generalize ((m / 2 ^ s:Nat):Int)=q at e' ⊢
 subst h
 have hm':(0:Int)<m:=by exact_mod_cast hm
 have hq:0<q:=by
  rcases Int.lt_or_le 0 q with h | h
  ·exact h
  ·have:=Int.mul_nonpos_of_nonneg_of_nonpos (Int.le_of_lt hp) h
   omega
 have h1:=Int.mul_ediv_add_emod n m
 generalize hr:n % (m:Int)=r at h1 ⊢
 generalize n / (m:Int)=z at h1
 have hr0:0≤r:=by rw[← hr]; exact Int.emod_nonneg _ (by omega)
 have hr1:r<m:=by rw[← hr]; exact Int.emod_lt_of_pos _ hm'
 have h2:n=r+2 ^ s * (q * z):=by rw[← h1,e',Int.mul_assoc]; omega
 rw[h2,Int.add_mul_ediv_left _ _ (by omega),Int.add_mul_emod_self_left]
 exact Int.emod_eq_of_lt (Int.ediv_nonneg hr0 (by omega)) (Int.ediv_lt_of_lt_mul hp (by rw[Int.mul_comm,← e']; exact hr1))
theorem N2 (k:IntKind)(n c:Int)(hk:k.signed=false)(h0:0≤c)(h1:c≤k.max):
 c≤k.wrap ((BitVec.ofInt k.bits n ||| BitVec.ofInt k.bits c).toNat)∧k.wrap ((BitVec.ofInt k.bits n ||| BitVec.ofInt k.bits c).toNat)≤k.max:=by
 have hlt:=(BitVec.ofInt k.bits n ||| BitVec.ofInt k.bits c).isLt
 have hmax:k.max=((2 ^ k.bits:Nat):Int) - 1:=by
  unfold IntKind.max
  rw[hk]
  simp
 have hmin:k.min=0:=by
  unfold IntKind.min
  rw[hk]
  rfl
 have hle:(BitVec.ofInt k.bits c).toNat≤(BitVec.ofInt k.bits n ||| BitVec.ofInt k.bits c).toNat:=by
  rw[BitVec.toNat_or]
  exact Nat.right_le_or
 have hc:((BitVec.ofInt k.bits c).toNat:Int)=c:=by
  rw[BitVec.toNat_ofInt]
  have:c % ((2 ^ k.bits:Nat):Int)=c:=Int.emod_eq_of_lt h0 (by omega)
  rw[this]
  exact Int.toNat_of_nonneg h0
 rw[E9 k _ ⟨by rw[hmin]; omega,by rw[hmax]; omega⟩,hmax]
 omega
theorem E5 {op : BinOp} {k k' : IntKind} {m : Nat} {r lo hi c n : Int} {v : AV} (h : GS op k m r lo hi k' c = some v) (h1 : n % (m : Int) = r) (h2 : lo ≤ n) (h3 : n ≤ hi) :
 ∃ v',pA op k n k' c=some v'∧ ∀ u,aV G st w v' u→aV G st w v u:=by
 unfold GS at h
 split at h
 ·split at h
  ·rename_i hc
   obtain⟨rfl,h0⟩:=hc
   obtain⟨d,rfl⟩:=Int.eq_ofNat_of_zero_le (Int.le_of_lt h0)
   have hd:0<d:=by exact_mod_cast h0
   simp only[Int.toNat_natCast] at h
   obtain⟨t1,t2,t3⟩:=Lg (n:=n) hd
   refine⟨.int k (n.tmod d),?_,fun u hu=>?_⟩
   ·simp only[pA,ne_eq,not_true_eq_false,if_false]
    rw[if_neg (by omega)]
   ·split at h
    ·rename_i hm
     have hr:n % (d:Int)=r % (d:Int):=by
      rw[← h1]
      exact(Int.emod_emod_of_dvd n (by exact_mod_cast Nat.dvd_of_mod_eq_zero hm)).symm
     split at h
     ·injection h with h; subst h
      simp only[aV] at hu ⊢
      rw[hu,Int.tmod_eq_emod_of_nonneg (by omega),hr]
     ·injection h with h; subst h
      simp only[aV] at hu ⊢
      exact⟨_,hu,by rw[t1,hr],t2,t3⟩
    ·split at h
     ·injection h with h; subst h
      simp only[aV] at hu ⊢
      exact⟨_,hu,by omega,by rw[Int.tmod_eq_emod_of_nonneg (by omega)]; exact Int.emod_nonneg _ (by omega),t3⟩
     ·injection h with h; subst h
      simp only[aV] at hu ⊢
      exact⟨_,hu,by omega,t2,t3⟩
  ·cases h
 ·split at h
  ·rename_i hc
   obtain⟨rfl,c1,c2,hm⟩:=hc
   injection h with h; subst h
   refine⟨.int k (n+c),?_,fun u hu=>?_⟩
   ·simp only[pA,ne_eq,not_true_eq_false,if_false]
    rw[E9 k (n+c) ⟨by omega,by omega⟩]
   ·simp only[aV] at hu ⊢
    refine⟨_,hu,?_,by omega,by omega⟩
    rw[← h1,Int.emod_add_emod]
  ·cases h
 ·split at h
  ·rename_i hc
   obtain⟨rfl,h0,c1,c2,c3⟩:=hc
   obtain⟨d,rfl⟩:=Int.eq_ofNat_of_zero_le h0
   simp only[Int.toNat_natCast] at c1 c2 h
   have:=Mr k n (d+1).log2 c2 c3
   rw[← c1] at this
   have e1:(((d+1:Nat):Int) - 1)=d:=by omega
   rw[e1] at this
   refine⟨.int k (n % ((d+1:Nat):Int)),?_,fun u hu=>?_⟩
   ·simp only[pA,ne_eq,not_true_eq_false,if_false]
    rw[this]
   ·split at h
    ·rename_i hm
     injection h with h; subst h
     have hr:n % ((d+1:Nat):Int)=r % ((d+1:Nat):Int):=by
      rw[← h1]
      exact(Int.emod_emod_of_dvd n (by exact_mod_cast Nat.dvd_of_mod_eq_zero hm)).symm
     rw[hr] at hu
     exact hu
    ·injection h with h; subst h
     simp only[aV] at hu ⊢
     have h5:0≤n % ((d+1:Nat):Int):=Int.emod_nonneg _ (by omega)
     have h6:n % ((d+1:Nat):Int)<((d+1:Nat):Int):=Int.emod_lt_of_pos _ (by omega)
     exact⟨_,hu,by omega,h5,by omega⟩
  ·cases h
 ·split at h
  ·rename_i hc
   obtain⟨c0,c1,c2,hm⟩:=hc
   injection h with h; subst h
   have hp:(0:Int)<2 ^ c.toNat:=Int.pow_pos (by omega)
   refine⟨.int k (n.fdiv (2 ^ c.toNat)),?_,fun u hu=>?_⟩
   ·simp only[pA]
    rw[if_neg (by omega),Nat.min_eq_left c1]
   ·simp only[aV] at hu ⊢
    refine⟨_,hu,?_,?_,?_⟩
    ·rw[Int.fdiv_eq_ediv_of_nonneg _ (Int.le_of_lt hp)]
     exact Ly hm c2 h1
    ·rw[Int.fdiv_eq_ediv_of_nonneg _ (Int.le_of_lt hp),Int.fdiv_eq_ediv_of_nonneg _ (Int.le_of_lt hp)]
     exact Int.ediv_le_ediv hp h2
    ·rw[Int.fdiv_eq_ediv_of_nonneg _ (Int.le_of_lt hp),Int.fdiv_eq_ediv_of_nonneg _ (Int.le_of_lt hp)]
     exact Int.ediv_le_ediv hp h3
  ·cases h
 ·split at h
  ·rename_i hc
   obtain⟨rfl,hk,c0,c1⟩:=hc
   injection h with h; subst h
   have ho:=N2 k n c hk c0 c1
   refine⟨.int k (k.wrap ((BitVec.ofInt k.bits n ||| BitVec.ofInt k.bits c).toNat)),by simp only[pA,ne_eq,not_true_eq_false,if_false],fun u hu=>?_⟩
   simp only[aV] at hu ⊢
   exact⟨_,hu,by omega,ho.1,ho.2⟩
  ·cases h
 ·split at h
  ·rename_i hc
   obtain⟨rfl,c1,c2,hm⟩:=hc
   injection h with h; subst h
   refine⟨.int k (n - c),?_,fun u hu=>?_⟩
   ·simp only[pA,ne_eq,not_true_eq_false,if_false]
    rw[E9 k (n - c) ⟨by omega,by omega⟩]
   ·simp only[aV] at hu ⊢
    refine⟨_,hu,?_,by omega,by omega⟩
    rw[← h1,Int.emod_sub_emod]
  ·cases h
 all_goals first | (cases h; done) | skip
 all_goals
  split at h
  ·rename_i hk
   subst hk
   repeat' split at h
   all_goals first | (cases h; done) | skip
   all_goals
    injection h with h
    subst h
    refine⟨_,by simp only[pA,ne_eq,not_true_eq_false,if_false] <;> rfl,fun u hu=>?_⟩
    simp only[aV] at hu ⊢
    rw[hu]
    congr 1
    first
     | (rw[decide_eq_true_eq]; omega)
     | (rw[decide_eq_false_iff_not]; omega)
     | (rw[beq_eq_false_iff_ne]; omega)
     | (rw[bne_iff_ne]; omega)
  ·cases h
theorem L3 {op:UnOp}{x:AV}{u:Value}{v:AV}(hx:aV G st w x u)(h:MM op x=some v):∃ r,(Op.unary op u).run P w=.ok r w∧aV G st w v r:=by
 unfold MM at h
 split at h
 ·injection h with h; subst h; simp only[aV] at hx; subst hx; exact⟨_,by simp[Op.unary,Op.intArith] <;> rfl,by simp[aV]⟩
 ·simp only[aV] at hx; subst hx
  simp only[pA,ne_eq,not_true_eq_false,if_false] at h
  injection h with h; subst h
  refine⟨_,by simp only[Op.unary,Op.intBits,Sem.run_pure] <;> rfl,by simp only[aV]⟩
 ·injection h with h; subst h; simp only[aV] at hx; subst hx; exact⟨_,by simp[Op.unary] <;> rfl,by simp[aV]⟩
 ·cases h
set_option maxHeartbeats 2000000 in
theorem GL {d:TypeDesc}{xo yo:Operand}{x y:AV}{t:TypeId}{u v:Value}{b:Bool}(D:Nat)(ht:P.underlying t=some d)(hx:aV G st w x u)(hy:aV G st w y v)
 (h:Dh d xo yo x y=some b):(Op.equalIn (D+1) t u v).run P w=.ok b w:=by
 unfold Dh at h
 split at h <;> first | (cases h; done) | skip
 all_goals simp only[aV] at hx hy
 all_goals first | subst hx | obtain⟨rfl,_⟩:=hx | obtain⟨_,_,rfl⟩:=hx | obtain⟨_,rfl,_⟩:=hx | obtain⟨_,_,rfl,_⟩:=hx | obtain⟨_,_,_,rfl,_⟩:=hx | obtain⟨_,_,_,_,_,rfl,_⟩:=hx
 all_goals first | subst hy | obtain⟨rfl,_⟩:=hy | obtain⟨_,_,rfl⟩:=hy | obtain⟨_,rfl,_⟩:=hy | obtain⟨_,_,rfl,_⟩:=hy | obtain⟨_,_,_,rfl,_⟩:=hy | obtain⟨_,_,_,_,_,rfl,_⟩:=hy
 all_goals first
  | (injection h with h; subst h; simp[Op.equalIn,run_underlying ht]; done)
  | (split at h <;> first | (cases h; done) | (injection h with h; subst h; subst_vars; simp[Op.equalIn,run_underlying ht]; done))
theorem Ch {op:BinOp}{ws:List (List UInt8)}{lo hi:Nat}{x s:List UInt8}{v:AV}(h:D8 op ws lo hi x=some v)(s1:∀ y ∈ ws,s≠y)(s2:lo≤s.length)(s3:s.length≤hi):
 Aq op s x=some v∧Aq op x s=some v:=by
 unfold D8 at h
 obtain⟨hc,h⟩:=b7 h
 have hne:s≠x:=by
  simp only[Bool.or_eq_true,List.any_eq_true,Nat.blt_eq] at hc
  rintro rfl
  rcases hc with(⟨y,h1,h2⟩ | h1) | h1
  ·rw[qC,beq_iff_eq] at h2
   exact s1 y h1 h2.symm
  ·omega
  ·omega
 have e1:gT s x=false:=by rw[qC]; simpa using hne
 have e2:gT x s=false:=by rw[qC]; simpa using fun e=>hne e.symm
 split at h
 ·injection h with h; subst h
  simp only[Aq,e1,e2,and_self]
 ·injection h with h; subst h
  simp only[Aq,e1,e2,Bool.not_false,and_self]
 ·cases h
theorem AL {d : TypeDesc} {x y : AV} {t : TypeId} {u v : Value} {b : Bool} (D : Nat) (ht : P.underlying t = some d) (hx : aV G st w x u) (hy : aV G st w y v)
 (h:Cy d x y=some b):(Op.equalIn (D+1) t u v).run P w=.ok b w:=by
 unfold Cy at h
 split at h
 ·rename_i k0 k a k' c
  obtain⟨hk,h⟩:=b7 h
  injection h with h
  simp only[aV] at hx hy
  subst hx; subst hy; subst h
  have:k=k':=by simpa using hk
  subst this
  exact run_equalIn_int w D t k k0 a c ht
 ·rename_i k0 k m r lo hi k' c
  split at h
  ·rename_i b' hr
   injection h with h; subst h
   simp only[aV] at hx hy
   obtain⟨n,rfl,n1,n2,n3⟩:=hx
   subst hy
   obtain⟨v',i1,i2⟩:=E5 (G:=G) (st:=st) (w:=w) hr n1 n2 n3
   by_cases hk:k=k'
   ·subst hk
    simp only[pA,ne_eq,not_true_eq_false,if_false] at i1
    injection i1 with i1
    have:=i2 (.bool (n == c)) (by subst i1; simp only[aV])
    simp only[aV] at this
    injection this with this
    rw[← this]
    exact run_equalIn_int w D t k k0 n c ht
   ·simp[pA,hk] at i1
  ·cases h
 ·rename_i k0 k' c k m r lo hi
  split at h
  ·rename_i b' hr
   injection h with h; subst h
   simp only[aV] at hx hy
   obtain⟨n,rfl,n1,n2,n3⟩:=hy
   subst hx
   obtain⟨v',i1,i2⟩:=E5 (G:=G) (st:=st) (w:=w) hr n1 n2 n3
   by_cases hk:k=k'
   ·subst hk
    simp only[pA,ne_eq,not_true_eq_false,if_false] at i1
    injection i1 with i1
    have:=i2 (.bool (n == c)) (by subst i1; simp only[aV])
    simp only[aV] at this
    injection this with this
    rw[← this,run_equalIn_int w D t k k0 c n ht]
    congr 1
    rw[Bool.eq_iff_iff,beq_iff_eq,beq_iff_eq]
    exact eq_comm
   ·simp[pA,hk] at i1
  ·cases h
 ·rename_i a c
  injection h with h; subst h
  simp only[aV] at hx hy
  subst hx; subst hy
  rw[run_equalIn_string w D t _ _ ht,toList_mk,toList_mk,qC]
 ·rename_i ws lo hi s
  split at h
  ·rename_i b' hr
   injection h with h; subst h
   simp only[aV] at hx hy
   obtain⟨x,rfl,s1,s2,s3⟩:=hx
   subst hy
   rw[run_equalIn_string w D t _ _ ht,toList_mk,toList_mk,← qC]
   have:=(Ch hr s1 s2 s3).1
   simp only[Aq,Option.some.injEq,AV.bool.injEq] at this
   rw[this]
  ·cases h
 ·rename_i s ws lo hi
  split at h
  ·rename_i b' hr
   injection h with h; subst h
   simp only[aV] at hx hy
   obtain⟨x,rfl,s1,s2,s3⟩:=hy
   subst hx
   rw[run_equalIn_string w D t _ _ ht,toList_mk,toList_mk,← qC]
   have:=(Ch hr s1 s2 s3).2
   simp only[Aq,Option.some.injEq,AV.bool.injEq] at this
   rw[this]
  ·cases h
 ·rename_i a c
  injection h with h; subst h
  simp only[aV] at hx hy
  subst hx; subst hy
  exact run_equalIn_bool w D t a c ht
 ·exact GL D ht hx hy h
theorem wE {t:TypeId}{cs:List AV}{off:Nat}{v:AV}{c:Array Value}(hc:aT G st w cs c.toList)(h:partOf P t cs off=some v):∃ r,(part t c off).run P w=.ok r w∧aV G st w v r:=by
 simp only[partOf,Option.bind_eq_some_iff] at h
 obtain⟨g,hg,h⟩:=h
 split at h
 ·simp only[Option.bind_eq_some_iff] at h
  obtain⟨n,hn,l,hl,h⟩:=h
  injection h with h
  subst h
  obtain⟨h1,rfl⟩:=qX hl
  refine⟨_,by simp[part,E2 hg,gQ hn] <;> rfl,?_⟩
  simp only[aV]
  refine⟨_,rfl,?_⟩
  rw[Array.toList_extract]
  have:=(hc.drop off).take n
  simpa[List.take_drop,Nat.add_comm] using this
 ·obtain⟨u,h1,h2⟩:=hc.get h
  refine⟨u,?_,h2⟩
  rw[Array.getElem?_toList] at h1
  simp[part,E2 hg,h1]
theorem yI {E : TypeId → AV → AV → Option Bool} {D : Nat} (hE : ∀ t x y b (u v : Value), aV G st w x u → aV G st w y v → E t x y = some b → (Op.equalIn D t u v).run P w = .ok b w)
 {xs ys:List AV} {us vs:Array Value} (hx:aT G st w xs us.toList) (hy:aT G st w ys vs.toList):∀{fs:List Field} {b:Bool},vY P E xs ys fs=some b→(Op.eqFields D us vs fs).run P w=.ok b w
 | [], b, h => by
   simp only[vY] at h
   injection h with h; subst h
   rfl
 | f :: fs, b, h => by
   simp only[vY] at h
   unfold Op.eqFields
   cases hn:f.name == "_" with
   | true =>
     rw[hn] at h
     have hn':¬ f.name≠ "_" :=by simpa using hn
     rw[if_neg hn']
     exact yI hE hx hy h
   | false =>
     rw[hn] at h
     have hn':f.name≠ "_" :=by simpa using hn
     rw[if_pos hn']
     simp only[cond_false,Option.bind_eq_some_iff] at h
     obtain⟨a,ha,c,hc,r,hr,h⟩:=h
     obtain⟨u,u1,u2⟩:=wE hx ha
     obtain⟨v,v1,v2⟩:=wE hy hc
     simp only[Sem.run_bind,u1,v1,Result.andThen_ok,hE _ _ _ _ _ _ u2 v2 hr]
     cases r with
     | true =>
       simp only[Bool.not_true,Bool.false_eq_true,if_false]
       exact yI hE hx hy h
     | false =>
       injection h with h; subst h
       simp
theorem Gc (D:Nat):∀(n:Nat) {t:TypeId} {x y:AV} {b:Bool} {u v:Value},aV G st w x u→aV G st w y v→Px P n t x y=some b→(Op.equalIn (D+n) t u v).run P w=.ok b w
 | 0,t,x,y,b,u,v,_,_,h=>by simp only[Px] at h; cases h
 | n + 1, t, x, y, b, u, v, hx, hy, h => by
   simp only[Px,Option.bind_eq_some_iff] at h
   obtain⟨d,hd,h⟩:=h
   split at h
   ·rename_i fs xs ys
    obtain⟨hs,h⟩:=fK h
    simp only[aV] at hx hy
    obtain⟨us,rfl,hx⟩:=hx
    obtain⟨vs,rfl,hy⟩:=hy
    have hf:P.fieldsOf t=fs:=by simp[Program.fieldsOf,hd]
    rw[show D+(n+1)=(D+n)+1 by omega,run_equalIn_struct w (D+n) t us vs (by rw[hf]; exact hd) hs,hf]
    exact yI (fun t x y b u v hx hy h=>Gc D n hx hy h) hx hy h
   ·exact AL (D+n) hd hx hy h
end
end Go.Ev
end
section
set_option linter.all false
namespace Go.Ev
open Go.RowKit (Below)
section
variable {P:Program}{G:Gh}{st:St}{w:World}
theorem N6 {op op':BinOp}(h:Jc op=some op')(k:IntKind)(c n:Int):pA op k c k n=pA op' k n k c:=by
 cases op <;> simp only[Jc] at h <;> first | (cases h; done) | skip
 all_goals(injection h with h; subst h; simp only[pA,ne_eq,not_true_eq_false,if_false])
 ·rw[Int.add_comm]
 ·rw[BitVec.and_comm]
 ·rw[BitVec.or_comm]
 ·congr 2
  rw[Bool.eq_iff_iff,beq_iff_eq,beq_iff_eq,eq_comm]
 ·congr 2
  rw[Bool.eq_iff_iff,bne_iff_ne,bne_iff_ne,ne_comm]
theorem Ip (k:IntKind)(n:Int):k.min≤k.wrap n∧k.wrap n≤k.max:=by
 cases k <;> simp[IntKind.wrap,IntKind.min,IntKind.max,IntKind.signed,IntKind.bits] <;> (try split) <;> omega
theorem Ms (k:IntKind)(n:Int)(m:Nat)(hm:2 ^ k.bits % m=0):k.wrap n % (m:Int)=n % m:=by
 obtain⟨q,hq⟩:=Nat.dvd_of_mod_eq_zero hm
 have hd:(m:Int) ∣ ((2 ^ k.bits:Int)):=by
  refine⟨q,?_⟩
  exact_mod_cast hq
 have e:(2 ^ k.bits:Int)=m * q:=by exact_mod_cast hq
 have h1:=Int.emod_emod_of_dvd n hd
 unfold IntKind.wrap
 simp only
 split
 ·rw[← h1]
  generalize n % (2 ^ k.bits:Int)=x
  rw[e,Int.sub_mul_emod_self_left]
 ·exact h1
theorem IM {k:IntKind}{m:Nat}{r lo hi n:Int}(h1:n % (m:Int)=r)(h2:lo≤n)(h3:n≤hi):aV G st w (Gp k m r lo hi) (.int k (k.wrap n)):=by
 have hw:=Ip k n
 unfold Gp
 split
 ·rename_i hc
  simp only[aV]
  exact⟨n,by rw[E9 k n ⟨by omega,by omega⟩],h1,h2,h3⟩
 ·split
  ·rename_i hm
   simp only[aV]
   exact⟨_,rfl,by rw[Ms k n m hm,h1],hw.1,hw.2⟩
  ·simp only[aV]
   exact⟨_,rfl,by omega,hw.1,hw.2⟩
theorem JU {op : BinOp} {t : TypeId} {xo yo : Operand} {x y : AV} {u u' : Value} {v : AV} (hx : aV G st w x u) (hy : aV G st w y u') (h : AB P op t xo yo x y = some v) :
 ∃ r,(do eqGuard op t xo yo u u'; binOp op t u u':Sem Value).run P w=.ok r w∧aV G st w v r:=by
 unfold AB at h
 split at h
 ·simp only[aV] at hx hy
  subst hx; subst hy
  obtain⟨r,h1,h2⟩:=D2 (P:=P) (G:=G) (st:=st) (w:=w) (t:=t) h
  refine⟨r,?_,h2⟩
  have:∀ k a k' b,(eqGuard op t xo yo (.int k a) (.int k' b)).run P w=.ok () w:=fun k a k' b=>by unfold eqGuard; split <;> rfl
  simp only[Sem.run_bind,this,Result.andThen_ok,h1]
 ·simp only[aV] at hx hy
  subst hx; subst hy
  obtain⟨r,h1,h2⟩:=yT (P:=P) (G:=G) (st:=st) (w:=w) h
  refine⟨r,?_,h2⟩
  have:∀ a b,(eqGuard op t xo yo (.string a) (.string b)).run P w=.ok () w:=fun a b=>by unfold eqGuard; split <;> rfl
  have hb:∀ a b,binOp op t (.string a) (.string b)=Op.stringOp op a b:=fun a b=>by cases op <;> rfl
  simp only[Sem.run_bind,this,Result.andThen_ok,hb,h1]
 ·simp only[aV] at hx hy
  subst hy
  obtain⟨n,rfl,n1,n2,n3⟩:=hx
  obtain⟨v',i1,i2⟩:=E5 (G:=G) (st:=st) (w:=w) h n1 n2 n3
  obtain⟨r,h1,h2⟩:=D2 (P:=P) (G:=G) (st:=st) (w:=w) (t:=t) i1
  refine⟨_,?_,i2 _ h2⟩
  have:∀ k a k' b,(eqGuard op t xo yo (.int k a) (.int k' b)).run P w=.ok () w:=fun k a k' b=>by unfold eqGuard; split <;> rfl
  simp only[Sem.run_bind,this,Result.andThen_ok,h1]
 ·simp only[Option.bind_eq_some_iff] at h
  obtain⟨op',ho,h⟩:=h
  obtain⟨hk,h⟩:=b7 h
  simp only[aV] at hx hy
  subst hx
  obtain⟨n,rfl,n1,n2,n3⟩:=hy
  have hk':=eq_of_beq hk
  subst hk'
  obtain⟨v',i1,i2⟩:=E5 (G:=G) (st:=st) (w:=w) h n1 n2 n3
  rw[← N6 ho] at i1
  obtain⟨r,h1,h2⟩:=D2 (P:=P) (G:=G) (st:=st) (w:=w) (t:=t) i1
  refine⟨_,?_,i2 _ h2⟩
  have:∀ k a k' b,(eqGuard op t xo yo (.int k a) (.int k' b)).run P w=.ok () w:=fun k a k' b=>by unfold eqGuard; split <;> rfl
  simp only[Sem.run_bind,this,Result.andThen_ok,h1]
 ·simp only[aV] at hx hy
  subst hy
  obtain⟨s,rfl,s1,s2,s3⟩:=hx
  obtain⟨r,h1,h2⟩:=yT (P:=P) (G:=G) (st:=st) (w:=w) (Ch h s1 s2 s3).1
  refine⟨r,?_,h2⟩
  have:∀ a b,(eqGuard op t xo yo (.string a) (.string b)).run P w=.ok () w:=fun a b=>by unfold eqGuard; split <;> rfl
  have hb:∀ a b,binOp op t (.string a) (.string b)=Op.stringOp op a b:=fun a b=>by cases op <;> rfl
  simp only[Sem.run_bind,this,Result.andThen_ok,hb,h1]
 ·simp only[aV] at hx hy
  subst hx
  obtain⟨s,rfl,s1,s2,s3⟩:=hy
  obtain⟨r,h1,h2⟩:=yT (P:=P) (G:=G) (st:=st) (w:=w) (Ch h s1 s2 s3).2
  refine⟨r,?_,h2⟩
  have:∀ a b,(eqGuard op t xo yo (.string a) (.string b)).run P w=.ok () w:=fun a b=>by unfold eqGuard; split <;> rfl
  have hb:∀ a b,binOp op t (.string a) (.string b)=Op.stringOp op a b:=fun a b=>by cases op <;> rfl
  simp only[Sem.run_bind,this,Result.andThen_ok,hb,h1]
 ·rename_i xs ys
  have h0:=fK h
  clear h
  obtain⟨hg,h⟩:=h0
  simp only[Option.bind_eq_some_iff] at h
  obtain⟨b,hb,h⟩:=h
  have he:=Gc (P:=P) (G:=G) (st:=st) (w:=w) 9980 20 hx hy hb
  simp only[aV] at hx hy
  obtain⟨us,rfl,_⟩:=hx
  obtain⟨vs,rfl,_⟩:=hy
  have hgd:∀ op,(eqGuard op t xo yo (.agg us) (.agg vs)).run P w=.ok () w:=fun op=>by
   cases op <;> simp[eqGuard,run_program,hg]
  rw[Sem.run_bind,hgd,Result.andThen_ok]
  split at h
  ·injection h with h; subst h
   refine⟨.bool b,?_,by simp only[aV]⟩
   rw[run_eql_struct]
   rw[he]; rfl
  ·injection h with h; subst h
   refine⟨.bool (!b),?_,by simp only[aV]⟩
   rw[run_neq_struct]
   rw[he]; rfl
  ·cases h
 ·rename_i i a j b
  simp only[Option.bind_eq_some_iff] at h
  obtain⟨d,hd,h⟩:=h
  split at h
  ·rename_i e
   simp only[Option.bind_eq_some_iff] at h
   obtain⟨n,hn,h⟩:=h
   have h0:=b7 h
   clear h
   obtain⟨hq,h⟩:=h0
   simp only[Bool.and_eq_true] at hq
   have e1:=Nat.eq_of_beq_eq_true hq.1
   have e2:=Nat.eq_of_beq_eq_true hq.2
   subst e1; subst e2
   simp only[aV] at hx hy
   obtain⟨b1,k1,n1,y1,rfl⟩:=hx
   obtain⟨b2,k2,n2,y2,rfl⟩:=hy
   rw[y1] at y2
   injection y2 with y2; injection y2 with y2 _
   subst y2
   have he:(Op.equalIn 10000 t (.pointer (some ⟨b1,a,none⟩)) (.pointer (some ⟨b1,a,none⟩))).run P w=.ok true w:=by
    unfold Op.equalIn
    simp only[Sem.run_bind,run_underlying hd,Result.andThen_ok,gQ hn]
    split
    ·simp[sameAddr]
    ·simp
   have hgd:∀ op,(eqGuard op t xo yo (.pointer (some ⟨b1,a,none⟩)) (.pointer (some ⟨b1,a,none⟩))).run P w=.ok () w:=fun op=>by
    cases op <;> rfl
   rw[Sem.run_bind,hgd,Result.andThen_ok]
   split at h
   ·injection h with h; subst h
    refine⟨.bool true,?_,by simp only[aV]⟩
    show(do pure (.bool (← Op.equalIn 10000 t (.pointer (some ⟨b1,a,none⟩)) (.pointer (some ⟨b1,a,none⟩)))):Sem Value).run P w=_
    simp only[Sem.run_bind,he,Result.andThen_ok,Sem.run_pure]
   ·injection h with h; subst h
    refine⟨.bool false,?_,by simp only[aV]⟩
    show(do pure (.bool (!(← Op.equalIn 10000 t (.pointer (some ⟨b1,a,none⟩)) (.pointer (some ⟨b1,a,none⟩))))):Sem Value).run P w=_
    simp only[Sem.run_bind,he,Result.andThen_ok,Sem.run_pure,Bool.not_true]
   ·cases h
  ·cases h
 ·rename_i s u1 s' u1'
  simp only[Option.bind_eq_some_iff] at h
  obtain⟨d,hd,h⟩:=h
  split at h
  ·rename_i ms
   simp only[Option.bind_eq_some_iff] at h
   obtain⟨b,hb,h⟩:=h
   simp only[aV] at hx hy
   obtain⟨v1,rfl,hv1⟩:=hx
   obtain⟨v2,rfl,hv2⟩:=hy
   have he:(Op.equalIn 10000 t (.iface s v1) (.iface s' v2)).run P w=.ok b w:=by
    unfold Op.equalIn
    simp only[Sem.run_bind,run_underlying hd,Result.andThen_ok]
    cases hss:Nat.beq s s' with
    | false =>
      rw[hss] at hb
      injection hb with hb; subst hb
      have hne:s≠s':=by rintro rfl; simp at hss
      simp[hne]
    | true =>
      rw[hss] at hb
      simp only[Bool.not_true,cond_false,Option.bind_eq_some_iff] at hb
      obtain⟨i,hi,hb⟩:=hb
      obtain⟨hc,hb⟩:=fK hb
      have hc:i.comparable=true:=by simpa using hc
      simp only[Option.bind_eq_some_iff] at hb
      obtain⟨ds,hds,hb⟩:=hb
      have hs:s=s':=Nat.eq_of_beq_eq_true hss
      subst hs
      have hl:(Op.equalIn (9998+1) s v1 v2).run P w=.ok b w:=by
       split at hb
       ·exact AL 9998 hds hv1 hv2 hb
       ·exact AL 9998 hds hv1 hv2 hb
       ·exact AL 9998 hds hv1 hv2 hb
       ·cases hb
      simp[typeInfo,hi,hc,hl]
   have hgd:∀ op,(eqGuard op t xo yo (.iface s v1) (.iface s' v2)).run P w=.ok () w:=fun op=>by
    cases op <;> rfl
   rw[Sem.run_bind,hgd,Result.andThen_ok]
   split at h
   ·injection h with h; subst h
    refine⟨.bool b,?_,by simp only[aV]⟩
    show(do pure (.bool (← Op.equalIn 10000 t (.iface s v1) (.iface s' v2))):Sem Value).run P w=_
    simp only[Sem.run_bind,he,Result.andThen_ok,Sem.run_pure]
   ·injection h with h; subst h
    refine⟨.bool (!b),?_,by simp only[aV]⟩
    show(do pure (.bool (!(← Op.equalIn 10000 t (.iface s v1) (.iface s' v2)))):Sem Value).run P w=_
    simp only[Sem.run_bind,he,Result.andThen_ok,Sem.run_pure]
   ·cases h
  ·cases h
 ·simp only[Option.bind_eq_some_iff] at h
  obtain⟨d,hd,b,hb,h⟩:=h
  have he:=GL (P:=P) (G:=G) (st:=st) (w:=w) 9999 hd hx hy hb
  have hg:(eqGuard op t xo yo u u').run P w=.ok () w:=by
   unfold Dh at hb
   split at hb <;> first | (cases hb; done) | skip
   all_goals simp only[aV] at hx hy
   all_goals first | subst hx | obtain⟨rfl,_⟩:=hx | obtain⟨_,_,rfl⟩:=hx | obtain⟨_,rfl,_⟩:=hx | obtain⟨_,_,rfl,_⟩:=hx | obtain⟨_,_,_,rfl,_⟩:=hx | obtain⟨_,_,_,_,_,rfl,_⟩:=hx
   all_goals first | subst hy | obtain⟨rfl,_⟩:=hy | obtain⟨_,_,rfl⟩:=hy | obtain⟨_,rfl,_⟩:=hy | obtain⟨_,_,rfl,_⟩:=hy | obtain⟨_,_,_,rfl,_⟩:=hy | obtain⟨_,_,_,_,_,rfl,_⟩:=hy
   all_goals first
    | (unfold eqGuard; split <;> rfl)
    | (split at hb <;> first | (cases hb; done) | (unfold eqGuard; split <;> simp))
  have key:∀(z:Sem Value),binOp op t u u'=z→(eqGuard op t xo yo u u' >>= fun _=>binOp op t u u').run P w=z.run P w:=fun z hz=>by
   rw[Sem.run_bind,hg,Result.andThen_ok,hz]
  have h1:∀(z:Sem Bool),z=Op.equalIn 10000 t u u'→z.run P w=.ok b w:=fun z hz=>by rw[hz]; exact he
  unfold Dh at hb
  split at h
  ·injection h with h
   subst h
   refine⟨.bool b,?_,by simp only[aV]⟩
   rw[key (do pure (.bool (← Op.equal t u u'))) ?_]
   ·simp only[Sem.run_bind,h1 _ rfl,Result.andThen_ok,Sem.run_pure,Op.equal,Op.maxDepth]
   ·split at hb <;> first | (cases hb; done) | skip
    all_goals simp only[aV] at hx hy
    all_goals first | subst hx | obtain⟨rfl,_⟩:=hx | obtain⟨_,_,rfl⟩:=hx | obtain⟨_,rfl,_⟩:=hx | obtain⟨_,_,rfl,_⟩:=hx | obtain⟨_,_,_,rfl,_⟩:=hx | obtain⟨_,_,_,_,_,rfl,_⟩:=hx
    all_goals first | subst hy | obtain⟨rfl,_⟩:=hy | obtain⟨_,_,rfl⟩:=hy | obtain⟨_,rfl,_⟩:=hy | obtain⟨_,_,rfl,_⟩:=hy | obtain⟨_,_,_,rfl,_⟩:=hy | obtain⟨_,_,_,_,_,rfl,_⟩:=hy
    all_goals first | rfl | (exfalso; simp_all; done)
  ·injection h with h
   subst h
   refine⟨.bool (!b),?_,by simp only[aV]⟩
   rw[key (do pure (.bool (!(← Op.equal t u u')))) ?_]
   ·simp only[Sem.run_bind,h1 _ rfl,Result.andThen_ok,Sem.run_pure,Op.equal,Op.maxDepth]
   ·split at hb <;> first | (cases hb; done) | skip
    all_goals simp only[aV] at hx hy
    all_goals first | subst hx | obtain⟨rfl,_⟩:=hx | obtain⟨_,_,rfl⟩:=hx | obtain⟨_,rfl,_⟩:=hx | obtain⟨_,_,rfl,_⟩:=hx | obtain⟨_,_,_,rfl,_⟩:=hx | obtain⟨_,_,_,_,_,rfl,_⟩:=hx
    all_goals first | subst hy | obtain⟨rfl,_⟩:=hy | obtain⟨_,_,rfl⟩:=hy | obtain⟨_,rfl,_⟩:=hy | obtain⟨_,_,rfl,_⟩:=hy | obtain⟨_,_,_,rfl,_⟩:=hy | obtain⟨_,_,_,_,_,rfl,_⟩:=hy
    all_goals first | rfl | (exfalso; simp_all; done)
  ·cases h
theorem HF {s d:TypeId}{x:AV}{dd:TypeDesc}{u:Value}{v:AV}{ds:TypeDesc}(hs:P.underlying s=some ds)(hd:P.underlying d=some dd)(hx:aV G st w x u)
 (h:FQ dd x=some v):∃ r,(convert s d u).run P w=.ok r w∧aV G st w v r:=by
 unfold FQ at h
 split at h
 ·injection h with h; subst h; simp only[aV] at hx; subst hx
  exact⟨_,by simp[convert,run_underlying hs,run_underlying hd,Conv.intToInt] <;> rfl,by simp[aV]⟩
 ·injection h with h; subst h
  simp only[aV] at hx
  obtain⟨n,rfl,n1,n2,n3⟩:=hx
  exact⟨_,by simp[convert,run_underlying hs,run_underlying hd,Conv.intToInt] <;> rfl,IM n1 n2 n3⟩
 ·injection h with h; subst h; simp only[aV] at hx; subst hx
  exact⟨_,by simp[convert,run_underlying hs,run_underlying hd] <;> rfl,by simp[aV]⟩
 ·cases h
theorem GP (off:Nat):∀(l:List Value) (k:Nat) (c:Array Value),off+k+l.length≤c.size →
 ((l.zipIdx k).foldl (fun cs (x:Value×Nat)=>cs.setIfInBounds (off+x.2) x.1) c).toList=c.toList.take (off+k) ++ l ++ c.toList.drop (off+k+l.length)
 | [],k,c,_=>by simp
 | v :: l, k, c, h => by
   simp only[List.length_cons] at h
   rw[List.zipIdx_cons,List.foldl_cons,GP off l (k+1) _ (by simp; omega)]
   simp only[Array.toList_setIfInBounds,List.length_cons]
   have hlt:off+k<c.toList.length:=by simp; omega
   rw[show off+(k+1)=off+k+1 by omega,List.take_succ_eq_append_getElem (by simpa using hlt),List.drop_set_of_lt (by omega),
    show off+k+1+l.length=off+k+(l.length+1) by omega]
   simp[List.take_set_of_le]
theorem Cc (place : Nat → Option (Nat × Nat)) : ∀ {ps : List (Nat × AV)} {qs : List (Nat × Value)} {cs cs' : List AV} {c : Array Value},
 aT G st w cs c.toList→qs.map (·.1)=ps.map (·.1)→aT G st w (ps.map (·.2)) (qs.map (·.2))→pY place cs ps=some cs' →
 ∃ c',Instr.fill place c qs=some c'∧aT G st w cs' c'.toList
 | [], qs, cs, cs', c, hc, hi, hr, h => by
   simp only[List.map_nil,List.map_eq_nil_iff] at hi
   subst hi
   simp only[pY] at h
   injection h with h
   subst h
   exact⟨c,rfl,hc⟩
 | (i, v) :: ps, qs, cs, cs', c, hc, hi, hr, h => by
   cases qs with
   | nil=>simp at hi
   | cons q qs =>
     obtain⟨j,u⟩:=q
     simp only[List.map_cons,List.cons.injEq] at hi hr
     obtain⟨rfl,hi⟩:=hi
     obtain⟨u',l,e,hu,hr⟩:=hr.cons_inv
     injection e with e1 e2
     subst e1; subst e2
     simp only[pY,Option.bind_eq_some_iff] at h
     obtain⟨⟨off,sz⟩,hp,h⟩:=h
     obtain⟨hg,h⟩:=b7 h
     simp only[Bool.and_eq_true] at hg
     have g1:=Nat.eq_of_beq_eq_true hg.1
     have g2:=Nat.le_of_ble_eq_true hg.2
     have hcl:=hc.length
     have hul:=hu.cells.length
     simp only[Array.length_toList] at hcl hul
     have hfold:=GP off u.cells.toList 0 c (by simp; omega)
     have hc2:aT G st w (dJ cs off v.cells) (u.cells.zipIdx.foldl (fun cs (x:Value×Nat)=>cs.setIfInBounds (off+x.2) x.1) c).toList:=by
      rw[← Array.foldl_toList,Array.toList_zipIdx,hfold]
      simp only[Nat.add_zero,dJ,Array.length_toList]
      rw[← hul]
      exact aT.append (aT.append (hc.take _) hu.cells) (hc.drop _)
     obtain⟨c',k1,k2⟩:=Cc place hc2 hi hr h
     refine⟨c',?_,k2⟩
     simp only[Instr.fill,hp]
     rw[if_neg (by simp; omega)]
     exact k1
theorem Cw {ts:List AV}{a:Act}(h:aT G st w ts a.tmps.toList):∀{ps:List (Nat×Operand)} {l:List (Nat×AV)},qN ts ps=some l →
 (ps.map fun(i,x)=>(i,a.eval x)).map (·.1)=l.map (·.1)∧aT G st w (l.map (·.2)) ((ps.map fun(i,x)=>(i,a.eval x)).map (·.2))
 | [],l,hp=>by simp only[qN] at hp; injection hp with hp; subst hp; exact⟨rfl,aT.nil⟩
 | (i, x) :: ps, l, hp => by
   simp only[qN,Option.bind_eq_some_iff] at hp
   obtain⟨v,h1,l',h2,h3⟩:=hp
   injection h3 with h3
   subst h3
   obtain⟨k1,k2⟩:=Cw h h2
   exact⟨by simp only[List.map_cons,k1],by simpa only[List.map_cons] using aT.cons (aV.cH h h1) k2⟩
theorem Ia {t:TypeId}{ps:Array (Nat×Operand)}{l:List (Nat×AV)}{ts:List AV}{a:Act}{v:AV}(hts:aT G st w ts a.tmps.toList)(hl:qN ts ps.toList=some l)
 (h:Cq P t l=some v):∃ r,(Instr.build t (ps.map fun(i,x)=>(i,a.eval x))).run P w=.ok r w∧aV G st w v r:=by
 obtain⟨q1,q2⟩:=Cw hts hl
 simp only[Cq,Option.bind_eq_some_iff] at h
 obtain⟨z,hz,d,hd,h⟩:=h
 obtain⟨zv,_,z2,i,hi,hi0⟩:=rT (G:=G) (st:=st) hz w
 have hzc:=z2.cells
 split at h
 ·rename_i fs
  simp only[Option.bind_eq_some_iff] at h
  obtain⟨places,hp,cs,hf,h⟩:=h
  injection h with h
  subst h
  obtain⟨c',k1,k2⟩:=Cc _ hzc q1 q2 hf
  refine⟨.agg c',run_build w t _ c' ?_,by simp only[aV]; exact⟨c',rfl,k2⟩⟩
  simp only[Program.built,hi,hd,hi0,hp]
  simpa using k1
 ·rename_i n e
  simp only[Option.bind_eq_some_iff] at h
  obtain⟨sz,hsz,cs,hf,h⟩:=h
  injection h with h
  subst h
  obtain⟨ie,hie,hies⟩:=vU hsz
  obtain⟨c',k1,k2⟩:=Cc _ hzc q1 q2 hf
  refine⟨.agg c',run_build w t _ c' ?_,by simp only[aV]; exact⟨c',rfl,k2⟩⟩
  simp only[Program.built,hi,hd,hi0,hie,hies]
  simpa using k1
 ·cases h
end
end Go.Ev
end
