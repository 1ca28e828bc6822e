/- Symbolic walks: the evaluator, led by hints. -/
import Derived.Test.YthodfojhbbendaaGreatDoorEvHb
set_option linter.all false
namespace Go.Ev

/-- What is known of a frame: so many temporaries; these values. -/
def Has (N : Nat) (l : List (Nat × AV)) (ts : List AV) : Prop := ts.length = N ∧ ∀ p ∈ l, ts.getD p.1 AV.undef = p.2
def HasT (N : Nat) (ov : Tr AV) (ts : List AV) : Prop := ts.length = N ∧ ∀ t v, ov.get t = some v → ts.getD t AV.undef = v

/-- A call that defers nothing comes to this value and this store, whatever comes behind it. -/
def CallsP (ck : CK) (g : Nat) (as : List AV) (st : St) (v : AV) (st' : St) : Prop := ∀ k, ck false g as st k = k true v st'
/-- A call comes to this value and this store, whatever comes behind it. -/
def CallsTo (ck : CK) (y : Bool) (g : Nat) (as : List AV) (st : St) (v : AV) (st' : St) : Prop := ∃ p, ∀ k, ck y g as st k = k p v st'

/-- Code leads to such a frame, by such a way out. -/
def Leads (N : Nat) (run : Fr → (AExit → Fr → Bool) → Bool) (mods : List Nat) (ins : List (Nat × AV)) (st : St) (e : AExit) (outs : List (Nat × AV)) (st' : St) : Prop :=
  ∀ ts ds, Has N ins ts → ∃ ts', Has N outs ts' ∧ (∀ t, hasN mods t = false → ts'.getD t AV.undef = ts.getD t AV.undef) ∧ ∀ k, run ⟨ts, ds, st⟩ k = k e ⟨ts', ds, st'⟩

inductive Hint where
  /-- So many operations as they are. -/
  | run (n : Nat)
  /-- The next operation's truth is this. -/
  | dec (d : Bool)
  /-- The next operation looks alone: its value. -/
  | val (v : AV)
  /-- The next operation's value, the store behind it. -/
  | eff (v : AV) (st : St)
  /-- The next operation is a call: its value, the store behind it. -/
  | call (v : AV) (st : St)
  /-- The next operation builds a value: the cells of its parts. -/
  | cel (css : List (List AV))
  /-- The code here, taken as a whole: what it needs, its way out, what it leaves. -/
  | abs (ins : List Nat) (e : AExit) (outs : List (Nat × AV)) (st : St)
  /-- The same, of a choice. -/
  | absC (ins : List Nat) (e : AExit) (outs : List (Nat × AV)) (st : St)
  /-- The same, of a region. -/
  | absG (ins : List Nat) (e : AExit) (outs : List (Nat × AV)) (st : St)
  /-- The same, of a block. -/
  | absB (ins : List Nat) (e : AExit) (outs : List (Nat × AV)) (st : St)
  /-- Not here: further in. -/
  | into

inductive AllP : List Prop → Prop where
  | nil : AllP []
  | cons {p : Prop} {l : List Prop} (h : p) (t : AllP l) : AllP (p :: l)
theorem AllP.head {p : Prop} {l : List Prop} (h : AllP (p :: l)) : p := by cases h; assumption
theorem AllP.tail {p : Prop} {l : List Prop} (h : AllP (p :: l)) : AllP l := by cases h; assumption

/-- A walk under way: what is known, the store, the hints to come, what was asked. -/
structure OS where
  ov : Tr AV
  st : St
  hs : List Hint
  cs : List Prop
  ds : List ADefer := []

def getO (ov : Tr AV) : Operand → Option AV
  | .tmp t => ov.get t
  | x => opnd [] x
def getOs (ov : Tr AV) : List Operand → Option (List AV)
  | [] => some []
  | x :: xs => (getO ov x).bind fun a => (getOs ov xs).bind fun as => some (a :: as)
def putO (N : Nat) (ov : Tr AV) (dst : Option Tmp) (v : AV) : Option (Tr AV) := match dst with
  | none => some ov
  | some d => cond (Nat.blt d N) (some (ov.set v d)) none
def wantedO (ops : Array Oper) (ov : Tr AV) (o : Oper) : Option Bool :=
  match o.guard with
  | none => some true
  | some (j, b) => match (ops[j]?).bind (·.dst) with
    | none => none
    | some d => match ov.get d with
      | some (.bool c) => some (c == b)
      | some (.tuple _) => some false
      | _ => none

/-- A value built of parts whose cells are told. -/
def fillC (place : Nat → Option (Nat × Nat)) (cells : List AV) : List (Nat × List AV) → Option (List AV)
  | [] => some cells
  | (i, v) :: rest => (place i).bind fun (off, sz) =>
    cond (Nat.beq v.length sz && Nat.ble (off + sz) cells.length) (fillC place (setRange cells off v) rest) none
def zipC : List (Nat × Operand) → List (List AV) → List (Nat × List AV)
  | (i, _) :: ps, c :: cs => (i, c) :: zipC ps cs
  | _, _ => []
def buildC (P : Program) (t : TypeId) (ps : List (Nat × List AV)) : Option AV :=
  (zero? P t).bind fun z => (P.underlying t).bind fun d => match d with
  | .struct fs => (fs.toList.mapM (fun f => (P.info? f.type).map fun i => (f.offset, i.size))).bind fun places => (fillC (fun i => places[i]?) z.cells ps).bind fun cs => some (.agg cs)
  | .array _ elem => (size? P elem).bind fun sz => (fillC (fun i => some (i * sz, sz)) z.cells ps).bind fun cs => some (.agg cs)
  | _ => none
/-- One more operation as it is. -/
def lessRun (n : Nat) (hs : List Hint) : List Hint := match n with
  | 0 => hs
  | n => .run n :: hs

/-- A plain operation. -/
def plainO (C : Cfg) (f : FuncId) (o : Oper) (s : OS) : Option (AV × OS) :=
  cond (!rnOk o.op) none <| (getOs s.ov o.op.operands.toList).bind fun vs => match s.hs with
    | .run (n + 1) :: hs => (aop C f vs s.st { o with op := rnOp o.op }).bind fun r => some (r.1, { s with st := r.2, hs := lessRun n hs })
    | .dec d :: hs => (aop C f vs s.st { o with op := rnOp o.op }).bind fun r => match r.1 with
      | .bool b => some (.bool d, { s with st := r.2, hs := hs, cs := (b = d) :: s.cs })
      | _ => none
    | .val v :: hs => match opKind C.P o.op with
      | .pure => some (v, { s with hs := hs, cs := (pureOp C.P vs (rnOp o.op) = some v) :: s.cs })
      | .load => some (v, { s with hs := hs, cs := (readV C.P s.st (rnOp o.op) vs = some v) :: s.cs })
      | _ => none
    | .cel css :: hs => match o.op with
      | .build t ps => (buildC C.P t (zipC ps.toList css)).bind fun v => some (v, { s with hs := hs, cs := (vs.map AV.cells = css) :: s.cs })
      | _ => none
    | .eff v st' :: hs => match opKind C.P o.op with
      | .eff => some (v, { s with st := st', hs := hs, cs := (effOp C.P (C.byref f) vs s.st (rnOp o.op) = some (v, st')) :: s.cs })
      | .mk => some (v, { s with st := st', hs := hs, cs := ((mkOp C.P (C.byref f) vs (rnOp o.op)).bind (fun x => some (x.1 s.st.next, s.st.push x.2)) = some (v, st')) :: s.cs })
      | _ => none
    | _ => none

def doO (C : Cfg) (ck : CK) (f : FuncId) (ro : Option Nat) (o : Oper) (s : OS) : Option (AV × OS) :=
  match o.op with
  | .call { callee := .value x, args, .. } => match s.hs with
    | .call v st' :: hs => (getO s.ov x).bind fun fv => (getOs s.ov args.toList).bind fun as => match fv with
      | .func (.func g) first cap => some (v, { s with st := st', hs := hs, cs := CallsTo ck false g (first ++ as ++ cap) s.st v st' :: s.cs })
      | .yield l => some (v, { s with st := st', hs := hs, cs := CallsTo ck true l as s.st v st' :: s.cs })
      | _ => none
    | _ => none
  | .call { callee := .invoke x name, args, .. } => match s.hs with
    | .call v st' :: hs => (getO s.ov x).bind fun fv => (getOs s.ov args.toList).bind fun as => match fv with
      | .iface t u => (methodOf C.P s.st t u name).bind fun (g, r) => some (v, { s with st := st', hs := hs, cs := CallsTo ck false g (r :: as) s.st v st' :: s.cs })
      | _ => none
    | _ => none
  | .defer { callee := .value x, args, .. } => cond ro.isSome none <| (getO s.ov x).bind fun fv => (getOs s.ov args.toList).bind fun as => match fv with
    | .func (.func g) first cap => some (AV.undef, { s with ds := .call g (first ++ as ++ cap) :: s.ds })
    | _ => none
  | .defer _ => none
  | .next _ _ => none
  | _ => plainO C f o s

def stepO (C : Cfg) (ck : CK) (f : FuncId) (ro : Option Nat) (N : Nat) (ops : Array Oper) (o : Oper) (s : OS) : Option OS :=
  (wantedO ops s.ov o).bind fun w => match w with
    | true => (doO C ck f ro o s).bind fun r => (putO N r.2.ov o.dst r.1).bind fun ov => some { r.2 with ov := ov }
    | false => (putO N s.ov o.dst AV.undef).bind fun ov => some { s with ov := ov }

def opsO (C : Cfg) (ck : CK) (f : FuncId) (ro : Option Nat) (N : Nat) (ops : Array Oper) : List Oper → OS → Option OS
  | [], s => some s
  | o :: os, s => (stepO C ck f ro N ops o s).bind fun s' => opsO C ck f ro N ops os s'

/-- The looks that may still come are as they were: asked. -/
def askRds (P : Program) (st : St) (rd : List Rd) (cs : List Prop) : List Prop :=
  match rd with
  | [] => cs
  | r :: rd => (readV P st r.op r.vs = some r.v ∧ AV.beq r.v r.v = true) :: askRds P st rd cs

/-- A look that is remembered: by its operands' values. -/
def rdO (P : Program) (ov : Tr AV) (i : Nat) (o : Oper) (v : AV) : List Rd :=
  match opKind P o.op with
  | .load => match getOs ov o.op.operands.toList with
    | some vs => [⟨i, o.op, vs, v⟩]
    | none => []
  | _ => []

def planO (C : Cfg) (ck : CK) (f : FuncId) (ro : Option Nat) (N : Nat) (ops : Array Oper) : List PStep → List Rd → OS → Option OS
  | [], _, s => some s
  | p :: l, rd, s => (wantedO ops s.ov p.o).bind fun w => match w with
    | false => (putO N s.ov p.o.dst AV.undef).bind fun ov => planO C ck f ro N ops l rd { s with ov := ov }
    | true => match p.eff with
      | false => (plainO C f p.o s).bind fun r => (putO N r.2.ov p.o.dst r.1).bind fun ov => planO C ck f ro N ops l (rdO C.P s.ov p.i p.o r.1 ++ rd) { r.2 with ov := ov }
      | true => (doO C ck f ro p.o s).bind fun r => (putO N r.2.ov p.o.dst r.1).bind fun ov =>
        planO C ck f ro N ops l (rd.filter fun r => !p.bef.testBit r.i) { r.2 with ov := ov, cs := askRds C.P r.2.st (rd.filter fun r => !p.bef.testBit r.i) r.2.cs }

/-- Which temporaries code may write. -/
def modsOps : List Oper → List Nat
  | [] => []
  | o :: os => match o.dst with
    | some d => d :: modsOps os
    | none => modsOps os
def modsOf : Code → List Nat
  | .region _ ops _ => modsOps ops.toList
  | .seq a b => modsOf a ++ modsOf b
  | .cond _ a b => modsOf a ++ modsOf b
  | .block _ b => modsOf b
  | .loop b => modsOf b
  | .scope b => modsOf b
  | _ => []

/-- What is known of these temporaries. -/
def pickO (ov : Tr AV) : List Nat → Option (List (Nat × AV))
  | [] => some []
  | t :: ts => (ov.get t).bind fun v => (pickO ov ts).bind fun l => some ((t, v) :: l)
def delT : Tr AV → Nat → Tr AV
  | .leaf, _ => .leaf
  | .node l v r, n => cond (Nat.beq n 0) (.node l none r) (cond (Nat.beq (n % 2) 1) (.node (delT l (n / 2)) v r) (.node l v (delT r (n / 2 - 1))))
def delTs (ov : Tr AV) : List Nat → Tr AV
  | [] => ov
  | t :: ts => delTs (delT ov t) ts
def setTs (N : Nat) (ov : Tr AV) : List (Nat × AV) → Option (Tr AV)
  | [] => some ov
  | (t, v) :: l => cond (Nat.blt t N) (setTs N (ov.set v t) l) none

/-- Code, taken as a whole. -/
def absO (N : Nat) (run : Fr → (AExit → Fr → Bool) → Bool) (mods : List Nat) (ins : List Nat) (e : AExit) (outs : List (Nat × AV)) (st' : St) (hs : List Hint) (s : OS) : Option (AExit × OS) :=
  (pickO s.ov ins).bind fun l => (setTs N (delTs s.ov mods) outs).bind fun ov => some (e, ⟨ov, st', hs, Leads N run mods l s.st e outs st' :: s.cs, s.ds⟩)

def regO (C : Cfg) (ck : CK) (f : FuncId) (ro : Option Nat) (N : Nat) (ops : Array Oper) (draw : Bool) (s : OS) : Option (AExit × OS) := match draw with
  | false => (opsO C ck f ro N ops ops.toList s).bind fun s' => some (.normal, s')
  | true => (plan C.P ops).bind fun l => (planO C ck f ro N ops l [] s).bind fun s' => some (.normal, s')
def execO (C : Cfg) (ck : CK) (f : FuncId) (rounds : Nat) (ro : Option Nat) (N : Nat) : Code → OS → Option (AExit × OS)
  | .skip, s => some (.normal, s)
  | .region id ops draw, s => match s.hs with
    | .absG ins e outs st' :: hs => absO N (execK C ck f rounds ro (.region id ops draw)) (modsOf (.region id ops draw)) ins e outs st' hs s
    | _ => regO C ck f ro N ops draw s
  | .seq a b, s => (execO C ck f rounds ro N a s).bind fun r => match r.1 with
    | .normal => execO C ck f rounds ro N b r.2
    | e => some (e, r.2)
  | .cond c a b, s => match s.hs with
    | .absC ins e outs st' :: hs => absO N (execK C ck f rounds ro (.cond c a b)) (modsOf (.cond c a b)) ins e outs st' hs s
    | .into :: hs => match getO s.ov c with
      | some (.bool true) => execO C ck f rounds ro N a { s with hs := hs }
      | some (.bool false) => execO C ck f rounds ro N b { s with hs := hs }
      | _ => none
    | _ => match getO s.ov c with
      | some (.bool true) => execO C ck f rounds ro N a s
      | some (.bool false) => execO C ck f rounds ro N b s
      | _ => none
  | .block id b, s => match s.hs with
    | .absB ins e outs st' :: hs => absO N (execK C ck f rounds ro (.block id b)) (modsOf (.block id b)) ins e outs st' hs s
    | .into :: hs => (execO C ck f rounds ro N b { s with hs := hs }).bind fun r => match r.1 with
      | .exit i => some (cond (Nat.beq i id) .normal (.exit i), r.2)
      | e => some (e, r.2)
    | _ => (execO C ck f rounds ro N b s).bind fun r => match r.1 with
      | .exit i => some (cond (Nat.beq i id) .normal (.exit i), r.2)
      | e => some (e, r.2)
  | .loop b, s => match s.hs with
    | .abs ins e outs st' :: hs => absO N (execK C ck f rounds ro (.loop b)) (modsOf (.loop b)) ins e outs st' hs s
    | _ => none
  | .exit id, s => some (.exit id, s)
  | .label _, s => some (.normal, s)
  | .scope b, s => execO C ck f rounds ro N b s
  | .ret, s => some (.ret, s)
  | _, _ => none

/-- A walk from what is known to what is wanted. -/
def runO (C : Cfg) (ck : CK) (f : FuncId) (rounds : Nat) (ro : Option Nat) (N : Nat) (c : Code) (hs : List Hint) (ins : List (Nat × AV)) (st : St) (want : List Nat) : Option (List Prop × AExit × List (Nat × AV) × St) :=
  (setTs N .leaf ins).bind fun ov => (execO C ck f rounds ro N c ⟨ov, st, hs, [], []⟩).bind fun r => cond (!r.2.ds.isEmpty) none <| (pickO r.2.ov want).bind fun outs => some (r.2.cs, r.1, outs, r.2.st)

/-- A call's results. -/
def resO (P : Program) (s : OS) : ResultVar → Option (AV × OS)
  | .tmp t => (s.ov.get t).bind fun v => some (v, s)
  | .cell a t => (s.ov.get a).bind fun p => match s.hs with
    | .val v :: hs => some (v, { s with hs := hs, cs := (loadAt P s.st t p = some v) :: s.cs })
    | _ => (loadAt P s.st t p).bind fun v => some (v, s)
def ressO (P : Program) (s : OS) : List ResultVar → Option (List AV × OS)
  | [] => some ([], s)
  | r :: rs => (resO P s r).bind fun v => (ressO P v.2 rs).bind fun vs => some (v.1 :: vs.1, vs.2)
/-- A whole call. -/
def argsO : Nat → List AV → List (Nat × AV)
  | _, [] => []
  | i, a :: as => (i, a) :: argsO (i + 1) as
def undefs : Nat → Nat → List (Nat × AV)
  | _, 0 => []
  | i, n + 1 => (i, AV.undef) :: undefs (i + 1) n
/-- What was deferred is called. -/
def defO (ck : CK) : List ADefer → OS → Option OS
  | [], s => some s
  | .call g as :: ds, s => match s.hs with
    | .call v st' :: hs => defO ck ds { s with st := st', hs := hs, cs := CallsP ck g as s.st v st' :: s.cs }
    | _ => none
  | _, _ => none
def callO (C : Cfg) (ck : CK) (f : FuncId) (rounds : Nat) (hs : List Hint) (args : List AV) (st : St) : Option (List Prop × AV × St) :=
  (C.P.funcs[f]?).bind fun fn => cond (fn.name == "runtime.NumGoroutine" || Nat.blt fn.ntmps args.length) none <| (fn.body).bind fun c =>
    (setTs fn.ntmps .leaf (argsO 0 args)).bind fun ov => (execO C ck f rounds none fn.ntmps c ⟨ov, st, hs, [], []⟩).bind fun r => match r.1 with
      | .exit _ => none
      | _ => (defO ck r.2.ds r.2).bind fun s => (ressO C.P s fn.results.toList).bind fun vs => some (vs.2.cs, single vs.1, vs.2.st)
/-- The same of a function that defers nothing. -/
def callOP (C : Cfg) (ck : CK) (f : FuncId) (rounds : Nat) (hs : List Hint) (args : List AV) (st : St) : Option (List Prop × AV × St) :=
  (C.P.funcs[f]?).bind fun fn => cond (fn.name == "runtime.NumGoroutine" || Nat.blt fn.ntmps args.length) none <| (fn.body).bind fun c =>
    (setTs fn.ntmps .leaf (argsO 0 args)).bind fun ov => (execO C ck f rounds none fn.ntmps c ⟨ov, st, hs, [], []⟩).bind fun r => match r.1 with
      | .exit _ => none
      | _ => cond (!r.2.ds.isEmpty) none <| (ressO C.P r.2 fn.results.toList).bind fun vs => some (vs.2.cs, single vs.1, vs.2.st)

end Go.Ev
