/- The evaluator: regions, code, calls. -/
import Derived.Test.YtgmhnpfpmcccnaaGreatDoorEvB
set_option linter.all false
namespace Go.Ev

/-- What is deferred: a call; the mark of a range over a function. -/
inductive ADefer where
  | call (fn : FuncId) (args : List AV)
  | mark (id : Nat)

structure Fr where
  ts : List AV
  ds : List ADefer
  st : St

inductive AExit where
  | normal
  | exit (id : Nat)
  | ret

def putT (ts : List AV) (dst : Option Tmp) (v : AV) : List AV :=
  match dst with
  | some d => ts.set d v
  | none => ts

/-- A call (of a yield? of which function, or loop), and what is to come behind it: did it defer nothing · its value · the store behind it. -/
abbrev CK := Bool → Nat → List AV → St → (Bool → AV → St → Bool) → Bool

/-- Is an operation wanted? (its guard) -/
def wantedA (ops : Array Oper) (ts : List AV) (o : Oper) : Option Bool :=
  match o.guard with
  | none => some true
  | some (j, b) => match (ops[j]?).bind (·.dst) with
    | none => none
    | some d => match ts.getD d AV.undef with
      | .bool c => some (c == b)
      | .tuple _ => some false
      | _ => none

/-- The method that a name means of a value in an interface: its function, the receiver. -/
def methodOf (P : Program) (st : St) (t : TypeId) (v : AV) (name : String) : Option (FuncId × AV) :=
  (P.info? t).bind fun i => (i.methods.find? fun m => m.name == name).bind fun m => cond m.path.isEmpty (m.func.bind fun (f, ptr) => (P.underlying t).bind fun d => match d, ptr with
    | .pointer _, true => some (f, v)
    | .pointer e, false => (match v with
      | .ref _ _ => (loadAt P st e v).bind fun r => some (f, r)
      | _ => none)
    | _, true => none
    | _, false => some (f, v)) none

/-- One operation, a call among them: its value, what it defers, the store behind it; all that it may come to. (ro: is this a round's frame?) -/
def doOpK (C : Cfg) (ck : CK) (f : FuncId) (ro : Option Nat) (ts : List AV) (st : St) (o : Oper) (k : AV → List ADefer → St → Bool) : Bool :=
  match o.op with
  | .call { callee := .value x, args, .. } => match opnd ts x, opnds ts args.toList with
    | some (.func (.func g) first cap), some as => ck false g (first ++ as ++ cap) st fun _ v st' => k v [] st'
    | some (.yield l), some as => ck true l as st fun _ v st' => k v [] st'
    | _, _ => false
  | .call { callee := .invoke x name, args, .. } => match opnd ts x, opnds ts args.toList with
    | some (.iface t v), some as => match methodOf C.P st t v name with
      | some (g, r) => ck false g (r :: as) st fun _ v st' => k v [] st'
      | none => false
    | _, _ => false
  | .defer { callee := .value x, args, .. } => cond ro.isSome false <| match opnd ts x, opnds ts args.toList with
    | some (.func (.func g) first cap), some as => k AV.undef [.call g (first ++ as ++ cap)] st
    | _, _ => false
  | .next x s => match (opnd ts x).bind fun x => nextOp st x s with
    | some l => l.all fun r => k r.1 [] r.2
    | none => false
  | _ => match aop C f ts st o with
    | some (v, st') => k v [] st'
    | none => false

def opStepK (C : Cfg) (ck : CK) (f : FuncId) (ro : Option Nat) (ops : Array Oper) (o : Oper) (fr : Fr) (k : Fr → Bool) : Bool :=
  match wantedA ops fr.ts o with
  | some true => doOpK C ck f ro fr.ts fr.st o fun v ds st' => k ⟨putT fr.ts o.dst v, ds ++ fr.ds, st'⟩
  | some false => k ⟨putT fr.ts o.dst AV.undef, fr.ds, fr.st⟩
  | none => false

def opsSeqK (C : Cfg) (ck : CK) (f : FuncId) (ro : Option Nat) (ops : Array Oper) : List Oper → Fr → (Fr → Bool) → Bool
  | [], fr, k => k fr
  | o :: os, fr, k => opStepK C ck f ro ops o fr fun fr' => opsSeqK C ck f ro ops os fr' k

/-! ### A region that draws its order -/

/-- Does an operation more than look, or make what is new? -/
def effect (P : Program) (o : Oper) : Bool :=
  match opKind P o.op with
  | .eff => true
  | _ => false

structure PStep where
  i : Nat
  o : Oper
  eff : Bool
  bef : Nat

def readyA (ops : List Oper) (mask : Nat) (i : Nat) (o : Oper) : Bool :=
  !mask.testBit i && o.after.toList.all fun e => !Region.binds .any e || mask.testBit e.on

def befOf (befs : List Nat) (o : Oper) : Nat :=
  o.after.toList.foldl (fun s e => if Region.binds .any e then s ||| 2 ^ e.on ||| befs.getD e.on 0 else s) 0
def befAll : List Oper → List Nat → List Nat
  | [], acc => acc
  | o :: os, acc => befAll os (acc ++ [befOf acc o])

def readies (ops : List Oper) (mask : Nat) : List Oper → Nat → List (Nat × Oper)
  | [], _ => []
  | o :: os, i => cond (readyA ops mask i o) ((i, o) :: readies ops mask os (i + 1)) (readies ops mask os (i + 1))

def planGo (P : Program) (ops : List Oper) (befs : List Nat) : Nat → Nat → Option (List PStep)
  | 0, mask => match readies ops mask ops 0 with
    | [] => some []
    | _ => none
  | n + 1, mask =>
    let rs := readies ops mask ops 0
    match rs.find? (fun r => !effect P r.2), rs with
    | some (i, o), _ => (planGo P ops befs n (mask ||| 2 ^ i)).bind fun l => some (⟨i, o, false, befs.getD i 0⟩ :: l)
    | none, [] => some []
    | none, [(i, o)] => (planGo P ops befs n (mask ||| 2 ^ i)).bind fun l => some (⟨i, o, true, befs.getD i 0⟩ :: l)
    | none, _ => none

/-- The temporaries that an operation names. -/
def namesOf (ops : List Oper) (o : Oper) : List Nat :=
  (o.op.operands.toList.filterMap fun | .tmp t => some t | _ => none) ++
  (match o.guard with
   | some (g, _) => match (ops[g]?).bind (·.dst) with
     | some d => [d]
     | none => []
   | none => [])
def hasN (l : List Nat) (n : Nat) : Bool := l.any fun m => Nat.beq m n
def clash (ops : List Oper) (a b : Oper) : Bool :=
  (match a.dst with
   | some d => hasN (namesOf ops b) d || (match b.dst with | some d' => Nat.beq d d' | none => false)
   | none => false) ||
  (match b.dst with
   | some d => hasN (namesOf ops a) d
   | none => false)
/-- Whoever writes a temporary waits, or is waited for, by whoever names it. -/
def tempsGo (ops : List Oper) (j : Nat) (oj : Oper) (bef : Nat) : List Oper → Nat → Bool
  | [], _ => true
  | o :: os, i => (!(Nat.blt i j && clash ops o oj) || bef.testBit i) && tempsGo ops j oj bef os (i + 1)
def tempsOk (ops : List Oper) (befs : List Nat) : List Oper → Nat → Bool
  | [], _ => true
  | o :: os, j => tempsGo ops j o (befs.getD j 0) ops 0 && tempsOk ops befs os (j + 1)

def plan (P : Program) (ops : Array Oper) : Option (List PStep) :=
  let befs := befAll ops.toList []
  cond (tempsOk ops.toList befs ops.toList 0) (planGo P ops.toList befs ops.size 0) none

mutual
def AV.beq : AV → AV → Bool
  | .int k a, .int k' b => k == k' && a == b
  | .bool a, .bool b => a == b
  | .str a, .str b => strEq a b
  | .nilp, .nilp => true
  | .ref i a, .ref j b => Nat.beq i j && Nat.beq a b
  | .glob i a, .glob j b => Nat.beq i j && Nat.beq a b
  | .vptr a, .vptr b => AV.beqs a b
  | .snil, .snil => true
  | .sempty, .sempty => true
  | .sl i e n z c a, .sl j d m z' c' b => Nat.beq i j && Nat.beq e d && Nat.beq n m && Nat.beq z z' && c == c' && AV.beqs a b
  | .sref i a n z c, .sref j b m z' c' => Nat.beq i j && Nat.beq a b && Nat.beq n m && Nat.beq z z' && c == c'
  | .yield i, .yield j => Nat.beq i j
  | .mnil, .mnil => true
  | .map a, .map b => Nat.beq a b
  | .func f a c, .func g b d => f == g && AV.beqs a b && AV.beqs c d
  | .nilf, .nilf => true
  | .iface t v, .iface u w => Nat.beq t u && AV.beq v w
  | .nili, .nili => true
  | .agg a, .agg b => AV.beqs a b
  | .tuple a, .tuple b => AV.beqs a b
  | _, _ => false
def AV.beqs : List AV → List AV → Bool
  | [], [] => true
  | a :: as, b :: bs => AV.beq a b && AV.beqs as bs
  | _, _ => false
end

/-- A look that may still come: its number, what it is, its operands' values, what it finds. -/
structure Rd where
  i : Nat
  op : Op
  vs : List AV
  v : AV

def rdOf (P : Program) (ts : List AV) (i : Nat) (o : Oper) (v : AV) : List Rd :=
  match opKind P o.op with
  | .load => match opnds ts o.op.operands.toList with
    | some vs => [⟨i, o.op, vs, v⟩]
    | none => []
  | _ => []

def sameRd (P : Program) (st : St) (r : Rd) : Bool :=
  match readV P st r.op r.vs with
  | some v => AV.beq v r.v
  | none => false

def runPlanK (C : Cfg) (ck : CK) (f : FuncId) (ro : Option Nat) (ops : Array Oper) : List PStep → List Rd → Fr → (Fr → Bool) → Bool
  | [], _, fr, k => k fr
  | s :: l, rd, fr, k => match wantedA ops fr.ts s.o with
    | none => false
    | some false => runPlanK C ck f ro ops l rd ⟨putT fr.ts s.o.dst AV.undef, fr.ds, fr.st⟩ k
    | some true => match s.eff with
      | false => match aop C f fr.ts fr.st s.o with
        | some (v, st') => runPlanK C ck f ro ops l (rdOf C.P fr.ts s.i s.o v ++ rd) ⟨putT fr.ts s.o.dst v, fr.ds, st'⟩ k
        | none => false
      | true => doOpK C ck f ro fr.ts fr.st s.o fun v ds st' =>
        let rd' := rd.filter fun r => !s.bef.testBit r.i
        cond (rd'.all (sameRd C.P st')) (runPlanK C ck f ro ops l rd' ⟨putT fr.ts s.o.dst v, ds ++ fr.ds, st'⟩ k) false

/-! ### Code -/
def loopK (body : Fr → (AExit → Fr → Bool) → Bool) : Nat → Fr → (AExit → Fr → Bool) → Bool
  | 0, _, _ => false
  | n + 1, fr, k => body fr fun e fr' => match e with
    | .normal => loopK body n fr' k
    | e => k e fr'

/-- A jump that a round leaves behind. -/
def AExit.jump : AExit → Option Code
  | .normal => none
  | .exit i => some (.exit i)
  | .ret => some .ret
def unjump : Option Code → Option AExit
  | none => some .normal
  | some (.exit i) => some (.exit i)
  | some .ret => some .ret
  | _ => none

/-- A range over a function begins: its record; what it defers; the store. -/
def enterL (f : FuncId) (ro : Option Nat) (ps : Array Tmp) (asg body : Code) (fr : Fr) : Option (Nat × List ADefer × St) :=
  match ro with
  | none => some (fr.st.next + 1, [.mark fr.st.next], (fr.st.push .dfd).push (.loop ⟨.ready, none, f, fr.ts, ps, asg, body, fr.st.next⟩))
  | some l => match fr.st.objs.get l with
    | some (.loop r) => some (fr.st.next, [], fr.st.push (.loop ⟨.ready, none, f, fr.ts, ps, asg, body, r.defers⟩))
    | _ => none

def loopAt (st : St) (l : Nat) : Option ALoop := match st.objs.get l with
  | some (.loop r) => some r
  | _ => none
/-- How a range over a function goes on behind it. -/
def leaveL (st : St) (l : Nat) : Option (AExit × St) := (loopAt st l).bind fun r => match r.state, unjump r.pending with
  | .busy, _ => none
  | _, some x => some (x, st.put l (.loop { r with state := .exhausted }))
  | _, none => none

/-- Has the function code of its own? -/
def hasBody (P : Program) (g : FuncId) : Bool := match P.funcs[g]? with
  | some fn => fn.body.isSome
  | none => false

def execK (C : Cfg) (ck : CK) (f : FuncId) (rounds : Nat) (ro : Option Nat) : Code → Fr → (AExit → Fr → Bool) → Bool
  | .skip, fr, k => k .normal fr
  | .region _ ops draw, fr, k => match draw with
    | false => opsSeqK C ck f ro ops ops.toList fr fun fr' => k .normal fr'
    | true => match plan C.P ops with
      | some l => runPlanK C ck f ro ops l [] fr fun fr' => k .normal fr'
      | none => false
  | .seq a b, fr, k => execK C ck f rounds ro a fr fun e fr' => match e with
    | .normal => execK C ck f rounds ro b fr' k
    | e => k e fr'
  | .cond c a b, fr, k => match opnd fr.ts c with
    | some (.bool true) => execK C ck f rounds ro a fr k
    | some (.bool false) => execK C ck f rounds ro b fr k
    | _ => false
  | .block id b, fr, k => execK C ck f rounds ro b fr fun e fr' => match e with
    | .exit i => cond (Nat.beq i id) (k .normal fr') (k (.exit i) fr')
    | e => k e fr'
  | .loop b, fr, k => loopK (fun fr k => execK C ck f rounds ro b fr k) rounds fr k
  | .exit id, fr, k => k (.exit id) fr
  | .label _, fr, k => k .normal fr
  | .scope b, fr, k => execK C ck f rounds ro b fr k
  | .ret, fr, k => k .ret fr
  | .rangeFunc g ps asg body, fr, k => match opnd fr.ts g, enterL f ro ps asg body fr with
    | some (.func (.func g) first cap), some (l, mark, st1) => cond (!hasBody C.P g) false <| ck false g (first ++ [.yield l] ++ cap) st1 fun _ _ st2 => match leaveL st2 l with
      | some (x, st3) => k x ⟨fr.ts, mark ++ fr.ds, st3⟩
      | none => false
    | _, _ => false
  | _, _, _ => false

def resultOf (P : Program) (ts : List AV) (st : St) : ResultVar → Option AV
  | .tmp t => some (ts.getD t AV.undef)
  | .cell a t => loadAt P st t (ts.getD a AV.undef)
def resultsOf (P : Program) (ts : List AV) (st : St) : List ResultVar → Option (List AV)
  | [] => some []
  | r :: rs => (resultOf P ts st r).bind fun v => (resultsOf P ts st rs).bind fun vs => some (v :: vs)

def runDefersK (ck : CK) : List ADefer → St → (St → Bool) → Bool
  | [], st, k => k st
  | .mark id :: ds, st, k => match st.objs.get id with
    | some .dfd => runDefersK ck ds (st.put id .dead) k
    | _ => false
  | .call f args :: ds, st, k => ck false f args st fun plain _ st' => cond plain (runDefersK ck ds st' k) false

def padTo (n : Nat) (args : List AV) : List AV := args ++ List.replicate (n - args.length) AV.undef

/-- What the library's functions without a body answer. -/
abbrev Ext := FuncId → List AV → Option AV

/-- The results as one value. -/
def single : List AV → AV
  | [v] => v
  | vs => .tuple vs

def finishK (P : Program) (ck : CK) (fn : Func) (fr : Fr) (k : Bool → AV → St → Bool) : Bool :=
  runDefersK ck fr.ds fr.st fun st' => match resultsOf P fr.ts st' fn.results.toList with
    | some vs => k fr.ds.isEmpty (single vs) st'
    | none => false

def setAll (ts : List AV) : List Tmp → List AV → List AV
  | p :: ps, a :: as => setAll (ts.set p a) ps as
  | _, _ => ts

/-- A round of a range over a function: a call of its yield. -/
def roundK (C : Cfg) (ck : CK) (rounds : Nat) (l : Nat) (args : List AV) (st : St) (k : Bool → AV → St → Bool) : Bool :=
  match loopAt st l with
  | none => false
  | some r => cond (!Nat.beq args.length r.params.size) false <|
    execK C ck r.fn rounds (some l) r.assign ⟨setAll r.tmps r.params.toList args, [], st⟩ fun x fr => match x with
    | .normal => match loopAt fr.st l with
      | none => false
      | some r1 => cond (!(r1.state == .ready) || !fr.ds.isEmpty) false <|
        execK C ck r.fn rounds (some l) r.body ⟨fr.ts, [], fr.st.put l (.loop { r1 with state := .busy })⟩ fun x fr2 => cond (!fr2.ds.isEmpty) false <| match loopAt fr2.st l with
        | none => false
        | some r2 => match x with
          | .normal => k false (.bool true) (fr2.st.put l (.loop { r2 with state := .ready, pending := none }))
          | x => k false (.bool false) (fr2.st.put l (.loop { r2 with state := .done, pending := x.jump }))
    | _ => false

def callK (C : Cfg) (ext : Ext) (rounds : Nat) : Nat → CK
  | 0, _, _, _, _, _ => false
  | n + 1, true, l, args, st, k => roundK C (callK C ext rounds n) rounds l args st k
  | n + 1, false, f, args, st, k => match ext f args with
    | some v => k false v st
    | none => match C.mext f args st with
      | some (v, st') => k false v st'
      | none => match C.P.funcs[f]? with
        | none => false
        | some fn => match fn.body with
          | none => false
          | some c => cond (fn.name == "runtime.NumGoroutine") false <|
            execK C (callK C ext rounds n) f rounds none c ⟨padTo fn.ntmps args, [], st⟩ fun e fr => match e with
            | .exit _ => false
            | _ => finishK C.P (callK C ext rounds n) fn fr k

end Go.Ev
