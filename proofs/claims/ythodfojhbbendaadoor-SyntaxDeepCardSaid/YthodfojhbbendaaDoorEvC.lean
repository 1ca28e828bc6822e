/- The evaluator: regions, code, calls. -/
import Derived.Test.YthodfojhbbendaaDoorEvB
set_option linter.all false
namespace Go.Ev

structure ADefer where
  fn : FuncId
  args : List AV

structure Fr where
  ts : List AV
  ds : List ADefer
  st : St

inductive AExit where
  | normal
  | exit (id : Nat)
  | ret

def putT (ts : List AV) (dst : Option Tmp) (v : AV) : List AV :=
  match dst with
  | some d => ts.set d v
  | none => ts

/-- A call: did it defer nothing · its value · the store behind it. -/
abbrev CallF := FuncId → List AV → St → Option (Bool × AV × St)

/-- Is an operation wanted? (its guard) -/
def wantedA (ops : Array Oper) (ts : List AV) (o : Oper) : Option Bool :=
  match o.guard with
  | none => some true
  | some (j, b) => match (ops[j]?).bind (·.dst) with
    | none => none
    | some d => match ts.getD d AV.undef with
      | .bool c => some (c == b)
      | .tuple _ => some false
      | _ => none

/-- One operation, a call among them: its value, what it defers, the store behind it. -/
def doOp (C : Cfg) (callf : CallF) (f : FuncId) (ts : List AV) (st : St) (o : Oper) : Option (AV × List ADefer × St) :=
  match o.op with
  | .call { callee := .value x, args, .. } => (opnd ts x).bind fun fv => (opnds ts args.toList).bind fun as => match fv with
    | .func (.func g) first cap => (callf g (first ++ as ++ cap) st).bind fun (_, v, st') => some (v, [], st')
    | _ => none
  | .defer { callee := .value x, args, .. } => (opnd ts x).bind fun fv => (opnds ts args.toList).bind fun as => match fv with
    | .func (.func g) first cap => some (AV.undef, [⟨g, first ++ as ++ cap⟩], st)
    | _ => none
  | _ => (aop C f ts st o).bind fun (v, st') => some (v, [], st')

def opStep (C : Cfg) (callf : CallF) (f : FuncId) (ops : Array Oper) (o : Oper) (fr : Fr) : Option Fr :=
  (wantedA ops fr.ts o).bind fun w => match w with
  | true => (doOp C callf f fr.ts fr.st o).bind fun (v, ds, st') => some ⟨putT fr.ts o.dst v, ds ++ fr.ds, st'⟩
  | false => some ⟨putT fr.ts o.dst AV.undef, fr.ds, fr.st⟩

def opsSeq (C : Cfg) (callf : CallF) (f : FuncId) (ops : Array Oper) : List Oper → Fr → Option Fr
  | [], fr => some fr
  | o :: os, fr => (opStep C callf f ops o fr).bind (opsSeq C callf f ops os)

/-! ### A region that draws its order -/

/-- Does an operation more than look, or make what is new? -/
def effect (P : Program) (o : Oper) : Bool :=
  match opKind P o.op with
  | .eff => true
  | _ => false

structure PStep where
  i : Nat
  o : Oper
  eff : Bool
  bef : Nat

def readyA (ops : List Oper) (mask : Nat) (i : Nat) (o : Oper) : Bool :=
  !mask.testBit i && o.after.toList.all fun e => !Region.binds .any e || mask.testBit e.on

def befOf (befs : List Nat) (o : Oper) : Nat :=
  o.after.toList.foldl (fun s e => if Region.binds .any e then s ||| 2 ^ e.on ||| befs.getD e.on 0 else s) 0
def befAll : List Oper → List Nat → List Nat
  | [], acc => acc
  | o :: os, acc => befAll os (acc ++ [befOf acc o])

def readies (ops : List Oper) (mask : Nat) : List Oper → Nat → List (Nat × Oper)
  | [], _ => []
  | o :: os, i => cond (readyA ops mask i o) ((i, o) :: readies ops mask os (i + 1)) (readies ops mask os (i + 1))

def planGo (P : Program) (ops : List Oper) (befs : List Nat) : Nat → Nat → Option (List PStep)
  | 0, mask => match readies ops mask ops 0 with
    | [] => some []
    | _ => none
  | n + 1, mask =>
    let rs := readies ops mask ops 0
    match rs.find? (fun r => !effect P r.2), rs with
    | some (i, o), _ => (planGo P ops befs n (mask ||| 2 ^ i)).bind fun l => some (⟨i, o, false, befs.getD i 0⟩ :: l)
    | none, [] => some []
    | none, [(i, o)] => (planGo P ops befs n (mask ||| 2 ^ i)).bind fun l => some (⟨i, o, true, befs.getD i 0⟩ :: l)
    | none, _ => none

/-- The temporaries that an operation names. -/
def namesOf (ops : List Oper) (o : Oper) : List Nat :=
  (o.op.operands.toList.filterMap fun | .tmp t => some t | _ => none) ++
  (match o.guard with
   | some (g, _) => match (ops[g]?).bind (·.dst) with
     | some d => [d]
     | none => []
   | none => [])
def hasN (l : List Nat) (n : Nat) : Bool := l.any fun m => Nat.beq m n
def clash (ops : List Oper) (a b : Oper) : Bool :=
  (match a.dst with
   | some d => hasN (namesOf ops b) d || (match b.dst with | some d' => Nat.beq d d' | none => false)
   | none => false) ||
  (match b.dst with
   | some d => hasN (namesOf ops a) d
   | none => false)
/-- Whoever writes a temporary waits, or is waited for, by whoever names it. -/
def tempsGo (ops : List Oper) (j : Nat) (oj : Oper) (bef : Nat) : List Oper → Nat → Bool
  | [], _ => true
  | o :: os, i => (!(Nat.blt i j && clash ops o oj) || bef.testBit i) && tempsGo ops j oj bef os (i + 1)
def tempsOk (ops : List Oper) (befs : List Nat) : List Oper → Nat → Bool
  | [], _ => true
  | o :: os, j => tempsGo ops j o (befs.getD j 0) ops 0 && tempsOk ops befs os (j + 1)

def plan (P : Program) (ops : Array Oper) : Option (List PStep) :=
  let befs := befAll ops.toList []
  cond (tempsOk ops.toList befs ops.toList 0) (planGo P ops.toList befs ops.size 0) none

mutual
def AV.beq : AV → AV → Bool
  | .int k a, .int k' b => k == k' && a == b
  | .bool a, .bool b => a == b
  | .str a, .str b => strEq a b
  | .nilp, .nilp => true
  | .ref i a, .ref j b => Nat.beq i j && Nat.beq a b
  | .glob i a, .glob j b => Nat.beq i j && Nat.beq a b
  | .vptr a, .vptr b => AV.beqs a b
  | .snil, .snil => true
  | .sl i e n z c a, .sl j d m z' c' b => Nat.beq i j && Nat.beq e d && Nat.beq n m && Nat.beq z z' && c == c' && AV.beqs a b
  | .sref i a n c, .sref j b m c' => Nat.beq i j && Nat.beq a b && Nat.beq n m && c == c'
  | .mnil, .mnil => true
  | .map a, .map b => Nat.beq a b
  | .func f a c, .func g b d => f == g && AV.beqs a b && AV.beqs c d
  | .nilf, .nilf => true
  | .iface t v, .iface u w => Nat.beq t u && AV.beq v w
  | .nili, .nili => true
  | .agg a, .agg b => AV.beqs a b
  | .tuple a, .tuple b => AV.beqs a b
  | _, _ => false
def AV.beqs : List AV → List AV → Bool
  | [], [] => true
  | a :: as, b :: bs => AV.beq a b && AV.beqs as bs
  | _, _ => false
end

/-- A load that may still come: its number, its type, its address, what it finds. -/
structure Rd where
  i : Nat
  t : TypeId
  p : AV
  v : AV

def rdOf (ts : List AV) (i : Nat) (o : Oper) (v : AV) : List Rd :=
  match o.op with
  | .load t a => match opnd ts a with
    | some p => [⟨i, t, p, v⟩]
    | none => []
  | _ => []

def sameRd (P : Program) (st : St) (r : Rd) : Bool :=
  match loadAt P st r.t r.p with
  | some v => AV.beq v r.v
  | none => false

def runPlan (C : Cfg) (callf : CallF) (f : FuncId) (ops : Array Oper) : List PStep → List Rd → Fr → Option Fr
  | [], _, fr => some fr
  | s :: l, rd, fr => (wantedA ops fr.ts s.o).bind fun w => match w with
    | false => runPlan C callf f ops l rd ⟨putT fr.ts s.o.dst AV.undef, fr.ds, fr.st⟩
    | true => (doOp C callf f fr.ts fr.st s.o).bind fun (v, ds, st') => match s.eff with
      | false => runPlan C callf f ops l (rdOf fr.ts s.i s.o v ++ rd) ⟨putT fr.ts s.o.dst v, ds ++ fr.ds, st'⟩
      | true =>
        let rd' := rd.filter fun r => !s.bef.testBit r.i
        cond (rd'.all (sameRd C.P st')) (runPlan C callf f ops l rd' ⟨putT fr.ts s.o.dst v, ds ++ fr.ds, st'⟩) none

/-! ### Code -/
def loopN (body : Fr → Option (AExit × Fr)) : Nat → Fr → Option (AExit × Fr)
  | 0, _ => none
  | n + 1, fr => (body fr).bind fun (e, fr') => match e with
    | .normal => loopN body n fr'
    | e => some (e, fr')

def exec (C : Cfg) (callf : CallF) (f : FuncId) (rounds : Nat) : Code → Fr → Option (AExit × Fr)
  | .skip, fr => some (.normal, fr)
  | .region _ ops draw, fr => match draw with
    | false => (opsSeq C callf f ops ops.toList fr).bind fun fr' => some (.normal, fr')
    | true => (plan C.P ops).bind fun l => (runPlan C callf f ops l [] fr).bind fun fr' => some (.normal, fr')
  | .seq a b, fr => (exec C callf f rounds a fr).bind fun (e, fr') => match e with
    | .normal => exec C callf f rounds b fr'
    | e => some (e, fr')
  | .cond c a b, fr => (opnd fr.ts c).bind fun v => match v with
    | .bool true => exec C callf f rounds a fr
    | .bool false => exec C callf f rounds b fr
    | _ => none
  | .block id b, fr => (exec C callf f rounds b fr).bind fun (e, fr') => match e with
    | .exit i => cond (Nat.beq i id) (some (.normal, fr')) (some (.exit i, fr'))
    | e => some (e, fr')
  | .loop b, fr => loopN (fun fr => exec C callf f rounds b fr) rounds fr
  | .exit id, fr => some (.exit id, fr)
  | .label _, fr => some (.normal, fr)
  | .scope b, fr => exec C callf f rounds b fr
  | .ret, fr => some (.ret, fr)
  | _, _ => none

def resultOf (P : Program) (ts : List AV) (st : St) : ResultVar → Option AV
  | .tmp t => some (ts.getD t AV.undef)
  | .cell a t => loadAt P st t (ts.getD a AV.undef)
def resultsOf (P : Program) (ts : List AV) (st : St) : List ResultVar → Option (List AV)
  | [] => some []
  | r :: rs => (resultOf P ts st r).bind fun v => (resultsOf P ts st rs).bind fun vs => some (v :: vs)

def runDefers (callf : CallF) : List ADefer → St → Option St
  | [], st => some st
  | d :: ds, st => (callf d.fn d.args st).bind fun (plain, _, st') => match plain with
    | true => runDefers callf ds st'
    | false => none

def padTo (n : Nat) (args : List AV) : List AV := args ++ List.replicate (n - args.length) AV.undef

/-- What the library's functions without a body answer. -/
abbrev Ext := FuncId → List AV → Option AV

/-- The results as one value. -/
def single (b : Bool) (st : St) : List AV → Bool × AV × St
  | [v] => (b, v, st)
  | vs => (b, .tuple vs, st)

def finish (P : Program) (callf : CallF) (fn : Func) (fr : Fr) : Option (Bool × AV × St) :=
  (runDefers callf fr.ds fr.st).bind fun st' => (resultsOf P fr.ts st' fn.results.toList).bind fun vs => some (single fr.ds.isEmpty st' vs)

def call (C : Cfg) (ext : Ext) (rounds : Nat) : Nat → CallF
  | 0, _, _, _ => none
  | n + 1, f, args, st => match ext f args with
    | some v => some (false, v, st)
    | none => (C.P.funcs[f]?).bind fun fn => fn.body.bind fun c => cond (fn.name == "runtime.NumGoroutine") none <|
      (exec C (call C ext rounds n) f rounds c ⟨padTo fn.ntmps args, [], st⟩).bind fun (e, fr) => match e with
      | .exit _ => none
      | _ => finish C.P (call C ext rounds n) fn fr

end Go.Ev
