/- The evaluator, made ready: each operation is turned once into a step that is then taken often. -/
import Derived.Test.YtgmhnpfpmcccnaaGreatDoorEvYa
set_option linter.all false
namespace Go.Ev

abbrev Get := E2 → (AV → Bool) → Bool
abbrev Put := E2 → AV → (E2 → Bool) → Bool
abbrev Ends := E2 → List ADefer → St → Bool
abbrev Sem := CK → E2 → List ADefer → St → Ends → Bool

/-! ### Where a temporary lies -/
def gg (f : E2 → (E1 → Bool) → Bool) (g : E1 → (AV → Bool) → Bool) : Get := fun e k => f e fun r => g r k
def ss (f : E2 → (E1 → (E1 → Bool) → Bool) → (E2 → Bool) → Bool) (g : E1 → AV → (E1 → Bool) → Bool) : Put := fun e v k => f e (fun r k' => g r v k') k
noncomputable def getT (i : Nat) : Option Get := (E2.gs[i / 16]?).bind fun f => (E1.gs[i % 16]?).bind fun g => some (gg f g)
noncomputable def putN (i : Nat) : Option Put := (E2.ss[i / 16]?).bind fun f => (E1.ss[i % 16]?).bind fun g => some (ss f g)
def gc (v : AV) : Get := fun _ k => k v
def p0 : Put := fun e _ k => k e

noncomputable def getX : Operand → Option Get
  | .tmp t => getT t
  | .const v => (ofConst v).bind fun a => some (gc a)
  | .global g => some (gc (.glob g 0))
  | .func f => some (gc (.func (.func f) [] []))
noncomputable def getXs : List Operand → Option (List Get)
  | [] => some []
  | x :: xs => (getX x).bind fun g => (getXs xs).bind fun gs => some (g :: gs)
/-- Where a result goes: below the bound. -/
noncomputable def putX (n : Nat) : Option Tmp → Option Put
  | none => some p0
  | some d => cond (Nat.blt d n) (putN d) none

noncomputable def gather (gs : List Get) (e : E2) (k : List AV → Bool) : Bool :=
  List.rec (motive := fun _ => (List AV → Bool) → Bool) (fun k => k []) (fun g _ ih k => g e fun a => ih fun as => k (a :: as)) gs k

noncomputable def optK {α : Type} (o : Option α) (k : α → Bool) : Bool := Option.rec false k o

/-! ### The store -/
noncomputable def trGet {α : Type} (t : Tr α) : Nat → (Option α → Bool) → Bool :=
  Tr.rec (motive := fun _ => Nat → (Option α → Bool) → Bool) (fun _ k => k none)
    (fun _ v _ ihl ihr n k => cond (Nat.beq n 0) (k v) (cond (Nat.beq (Nat.mod n 2) 1) (ihl (Nat.div n 2) k) (ihr (Nat.sub (Nat.div n 2) 1) k))) t
noncomputable def trSet {α : Type} (a : α) (t : Tr α) : Nat → (Tr α → Bool) → Bool :=
  Tr.rec (motive := fun _ => Nat → (Tr α → Bool) → Bool) (fun n k => k (Tr.single a n n))
    (fun l v r ihl ihr n k => cond (Nat.beq n 0) (k (.node l (some a) r)) (cond (Nat.beq (Nat.mod n 2) 1) (ihl (Nat.div n 2) fun l' => k (.node l' v r)) (ihr (Nat.sub (Nat.div n 2) 1) fun r' => k (.node l v r')))) t
noncomputable def stK (s : St) (k : Tr AObj → Nat → Bool) : Bool := St.rec k s
noncomputable def pushK (s : St) (o : AObj) (k : Nat → St → Bool) : Bool := stK s fun t n => trSet o t n fun t' => k n ⟨t', n + 1⟩
noncomputable def cellsK (o : Option AObj) (k : TypeId → Bool → List AV → Bool) : Bool :=
  Option.rec false (fun o => AObj.casesOn o k (fun _ => false) (fun _ _ => false) (fun _ _ _ _ => false) (fun _ _ => false) (fun _ => false) false false) o
noncomputable def nthK (cs : List AV) : Nat → (AV → Bool) → Bool :=
  List.rec (motive := fun _ => Nat → (AV → Bool) → Bool) (fun _ _ => false) (fun a _ ih n k => cond (Nat.beq n 0) (k a) (ih (Nat.sub n 1) k)) cs
/-- What is left behind so many cells; so many cells. -/
noncomputable def dropK (n : Nat) : List AV → (List AV → Bool) → Bool :=
  Nat.rec (motive := fun _ => List AV → (List AV → Bool) → Bool) (fun cs k => k cs) (fun _ ih cs k => List.casesOn cs false fun _ t => ih t k) n
noncomputable def takeK (n : Nat) : List AV → (List AV → Bool) → Bool :=
  Nat.rec (motive := fun _ => List AV → (List AV → Bool) → Bool) (fun _ k => k []) (fun _ ih cs k => List.casesOn cs false fun a t => ih t fun l => k (a :: l)) n
noncomputable def headK (cs : List AV) (k : AV → Bool) : Bool := List.casesOn cs false fun a _ => k a
noncomputable def setK (v : AV) (cs : List AV) : Nat → (List AV → Bool) → Bool :=
  List.rec (motive := fun _ => Nat → (List AV → Bool) → Bool) (fun _ _ => false) (fun a l ih n k => cond (Nat.beq n 0) (k (v :: l)) (ih (Nat.sub n 1) fun l' => k (a :: l'))) cs

/-! ### Values alone -/
noncomputable def binK (P : Program) (op : BinOp) (t : TypeId) (xo yo : Operand) (a b : AV) (k : AV → Bool) : Bool := optK (binOpV P op t xo yo a b) k
noncomputable def shiftK (p : AV) (n : Nat) (k : AV → Bool) : Bool := ptrK p (fun id off => k (.ref id (Nat.add off n))) (fun cs => dropK n cs fun l => k (.vptr l)) (optK (shift p n) k)
noncomputable def indexAddrK (P : Program) (t : TypeId) (v i : AV) (elem : Option Nat) (k : AV → Bool) : Bool :=
  Option.rec (optK (indexAddrOp P t v i) k) (fun sz => slK v (fun n sz' cs => natK i fun j => cond (Nat.blt j n && Nat.beq sz sz') (dropK (Nat.mul j sz) cs fun l => k (.vptr l)) false)
    (fun id off n sz' => natK i fun j => cond (Nat.blt j n && Nat.beq sz sz') (k (.ref id (Nat.add off (Nat.mul j sz)))) false) (optK (indexAddrOp P t v i) k)) elem
/-- The size of a slice's elements. -/
def elemSize (P : Program) (t : TypeId) : Option Nat := (P.underlying t).bind fun d => match d with
  | .slice elem => size? P elem
  | _ => none
noncomputable def optG : Option Operand → Option (E2 → (Option AV → Bool) → Bool)
  | none => some fun _ k => k none
  | some x => (getX x).bind fun g => some fun e k => g e fun a => k (some a)
def zipParts : List (Nat × Operand) → List AV → List (Nat × AV)
  | (i, _) :: r, a :: as => (i, a) :: zipParts r as
  | _, _ => []
/-- So many temporaries, in a row. -/
def tmpsUpTo : Nat → Nat → List Operand
  | _, 0 => []
  | i, m + 1 => .tmp i :: tmpsUpTo (i + 1) m
/-- A builtin's call, its arguments in a row of temporaries. -/
def builtinOf (b : Builtin) (n : Nat) (ats : Array TypeId) : Op := .call ⟨.builtin b, (tmpsUpTo 0 n).toArray, ats⟩

noncomputable def pureG (P : Program) (op : Op) : Option Get :=
  match op with
  | .move x | .assign x => getX x
  | .pick c a b => (getX c).bind fun gc => (getX a).bind fun ga => (getX b).bind fun gb => some fun e k => gc e fun c => boolK c fun b => cond b (ga e k) (gb e k)
  | .build t ps => (getXs (ps.toList.map (·.2))).bind fun gs => some fun e k => gather gs e fun as => optK (buildOp P t (zipParts ps.toList as)) k
  | .nilCheck x => (getX x).bind fun gx => some fun e k => gx e fun p => optK (nilCheckOp p) k
  | .binOp op t x y _ => (getX x).bind fun gx => (getX y).bind fun gy => some fun e k => gx e fun a => gy e fun b => binK P op t x y a b k
  | .unOp op _ x => (getX x).bind fun gx => some fun e k => gx e fun a => optK (unOpV op a) k
  | .convert s d x => (getX x).bind fun gx => (P.underlying s).bind fun _ => (P.underlying d).bind fun d => some fun e k => gx e fun a => optK (convPure d a) k
  | .makeInterface t x => (getX x).bind fun gx => (P.underlying t).bind fun d => match d with
    | .interface _ => none
    | _ => some fun e k => gx e fun a => k (.iface t a)
  | .makeFunc fn first cap => (getXs first.toList).bind fun as => (getXs cap.toList).bind fun bs => some fun e k => gather as e fun a => gather bs e fun b => k (.func fn a b)
  | .slice t x lo hi mx => (getX x).bind fun gx => (optG lo).bind fun gl => (optG hi).bind fun gh => (optG mx).bind fun gm => some fun e k => gx e fun v => gl e fun lo => gh e fun hi => gm e fun mx => optK (sliceOp P t v lo hi mx) k
  | .fieldAddr s x i => (getX x).bind fun gx => (fieldOf P s i).bind fun fd => (size? P fd.type).bind fun n => cond (Nat.beq n 0) none (some fun e k => gx e fun p => shiftK p fd.offset k)
  | .field s x i => (getX x).bind fun gx => (fieldOf P s i).bind fun fd => some fun e k => gx e fun v => optK (match v with
    | .agg cs => partOf P fd.type cs fd.offset
    | _ => none) k
  | .indexAddr t x i => (getX x).bind fun gx => (getX i).bind fun gi => some fun e k => gx e fun v => gi e fun i => indexAddrK P t v i (elemSize P t) k
  | .index t x i => (getX x).bind fun gx => (getX i).bind fun gi => some fun e k => gx e fun v => gi e fun i => optK (indexOp P t v i) k
  | .extract x i => (getX x).bind fun gx => some fun e k => gx e fun v => optK (match v with
    | .tuple vs => vs[i]?
    | _ => none) k
  | .typeAssert x _ t ok => (getX x).bind fun gx => some fun e k => gx e fun v => optK (assertOp P t ok v) k
  | .call { callee := .builtin b, args, argTypes } => (getXs args.toList).bind fun gs => some fun e k => gather gs e fun vs => optK (pureOp P vs (builtinOf b args.size argTypes)) k
  | _ => none

/-- What is new: the thing, and the value by its number. -/
noncomputable def mkG (P : Program) (byref : Bool) (op : Op) : Option (E2 → ((Nat → AV) → AObj → Bool) → Bool) :=
  match op with
  | .alloc t => (zero? P t).bind fun z => cond (z.cells.all AV.one) (some fun _ k => k (fun id => .ref id 0) (.cells t true z.cells)) none
  | .box t x => (getX x).bind fun gx => some fun e k => gx e fun v => cond (v.cells.all AV.one) (k (fun id => .ref id 0) (.cells t true v.cells)) false
  | .buildSlice t n ps => (getXs (ps.toList.map (·.2))).bind fun gs => some fun e k => gather gs e fun as => optK (buildSliceOp P byref t n (zipParts ps.toList as)) fun (f, x) => k f x
  | .makeSlice t l c => (getX l).bind fun gl => (getX c).bind fun gc => some fun e k => gl e fun l => gc e fun c => optK (makeSliceOp P t l c) fun (f, x) => k f x
  | .makeMap t none => some fun _ k => k (fun id => .map id) (.map [] 0)
  | .makeMap t (some x) => (getX x).bind fun gx => some fun e k => gx e fun v => optK (mkOp P byref [v] (.makeMap t (some (.tmp 0)))) fun (f, x) => k f x
  | .convert s d x => (getX x).bind fun gx => some fun e k => gx e fun v => optK (mkOp P byref [v] (.convert s d (.tmp 0))) fun (f, x) => k f x
  | _ => none

noncomputable def loadG (P : Program) (t : TypeId) (a : Operand) : Option (E2 → St → (AV → Bool) → Bool) :=
  (getX a).bind fun ga => (agg? P t).bind fun g => (size? P t).bind fun n => match g with
  | false => some fun e st k => ga e fun p => ptrK p (fun id off => stK st fun t _ => trGet t id fun o => cellsK o fun _ _ cs => nthK cs off k) (fun cs => headK cs k) false
  | true => some fun e st k => ga e fun p => ptrK p (fun id off => stK st fun t _ => trGet t id fun o => cellsK o fun _ _ cs => dropK off cs fun r => takeK n r fun l => k (.agg l)) (fun cs => takeK n cs fun l => k (.agg l)) false
/-- A look, of whatever kind. -/
noncomputable def lookG (P : Program) (op : Op) : Option (E2 → St → (AV → Bool) → Bool) :=
  match op with
  | .load t a => loadG P t a
  | op => (getXs op.operands.toList).bind fun gs => some fun e st k => gather gs e fun vs => optK (readV P st op vs) k

noncomputable def storeG (P : Program) (t : TypeId) (a x : Operand) : Option (E2 → St → (St → Bool) → Bool) :=
  (getX a).bind fun ga => (getX x).bind fun gx => (agg? P t).bind fun g => (size? P t).bind fun n => match g, n with
  | false, 1 => some fun e st k => ga e fun p => gx e fun v => cond v.one (refK p (fun id off => stK st fun t n => trGet t id fun o => cellsK o fun ty u cs => setK v cs off fun cs' => trSet (.cells ty u cs') t id fun t' => k ⟨t', n⟩) (optK (storeAt P st t p v) k)) false
  | _, _ => some fun e st k => ga e fun p => gx e fun v => optK (storeAt P st t p v) k

/-- What turns the store. -/
noncomputable def effG (P : Program) (byref : Bool) (op : Op) : Option (E2 → St → (AV → St → Bool) → Bool) :=
  match op with
  | .store t a x => (storeG P t a x).bind fun s => some fun e st k => s e st fun st' => k AV.undef st'
  | .mapUpdate t x k v => (getX x).bind fun gx => (getX k).bind fun gk => (getX v).bind fun gv => some fun e st c => gx e fun m => gk e fun k => gv e fun v => optK (updateOp P st t m k v) fun st' => c AV.undef st'
  | .insert t x k v => (getX x).bind fun gx => (getX k).bind fun gk => (getX v).bind fun gv => some fun e st c => gx e fun m => gk e fun k => gv e fun v => optK (updateOp P st t m k v) fun st' => c AV.undef st'
  | .range t x => (getX x).bind fun gx => some fun e st k => gx e fun x => optK (rangeOp P st t x) fun (v, st') => k v st'
  | .entry x => (getX x).bind fun gx => some fun e st k => gx e fun x => optK (entryOp st x) fun v => k v st
  | .call { callee := .builtin b, args, argTypes } => (getXs args.toList).bind fun gs => some fun e st k => gather gs e fun vs => optK (effOp P byref vs st (builtinOf b args.size argTypes)) fun (v, st') => k v st'
  | _ => none

/-! ### Operations -/
/-- (inr: in a round's frame?) -/
noncomputable def opG (C : Cfg) (f : FuncId) (inr : Bool) (n : Nat) (o : Oper) : Option Sem :=
  (putX n o.dst).bind fun put => match o.op with
  | .call { callee := .value x, args, .. } => (getXs args.toList).bind fun gs => match x with
    | .func g => some fun ck e ds st k => gather gs e fun as => ck false g as st fun _ v st' => put e v fun e' => k e' ds st'
    | x => (getX x).bind fun gx => some fun ck e ds st k => gx e fun fv => callK2 fv (fun fn first cap => match fn with
      | .func g => gather gs e fun as => ck false g (first ++ as ++ cap) st fun _ v st' => put e v fun e' => k e' ds st'
      | _ => false) fun l => gather gs e fun as => ck true l as st fun _ v st' => put e v fun e' => k e' ds st'
  | .call { callee := .invoke x name, args, .. } => (getXs args.toList).bind fun gs => (getX x).bind fun gx => some fun ck e ds st k => gx e fun fv => ifaceK fv fun t v => optK (methodOf C.P st t v name) fun (g, r) =>
      gather gs e fun as => ck false g (r :: as) st fun _ v st' => put e v fun e' => k e' ds st'
  | .defer { callee := .value x, args, .. } => cond inr none <| (getXs args.toList).bind fun gs => (getX x).bind fun gx => some fun _ e ds st k => gx e fun fv => callK2 fv (fun fn first cap => match fn with
      | .func g => gather gs e fun as => put e AV.undef fun e' => k e' (.call g (first ++ as ++ cap) :: ds) st
      | _ => false) fun _ => false
  | .next x s => (getX x).bind fun gx => some fun _ e ds st k => gx e fun x => optK (nextOp st x s) fun l => l.all fun r => put e r.1 fun e' => k e' ds r.2
  | op => match opKind C.P op with
    | .pure => (pureG C.P op).bind fun g => some fun _ e ds st k => g e fun v => put e v fun e' => k e' ds st
    | .load => (lookG C.P op).bind fun g => some fun _ e ds st k => g e st fun v => put e v fun e' => k e' ds st
    | .mk => (mkG C.P (C.byref f) op).bind fun g => some fun _ e ds st k => g e fun h x => pushK st x fun id st' => put e (h id) fun e' => k e' ds st'
    | .eff => (effG C.P (C.byref f) op).bind fun g => some fun _ e ds st k => g e st fun v st' => put e v fun e' => k e' ds st'

/-- What an operation's guard says. -/
noncomputable def guardG (ops : Array Oper) (o : Oper) : Option (Option (Get × Bool)) :=
  match o.guard with
  | none => some none
  | some (j, b) => ((ops[j]?).bind (·.dst)).bind fun d => (getT d).bind fun g => some (some (g, b))
noncomputable def stepG (C : Cfg) (f : FuncId) (inr : Bool) (n : Nat) (ops : Array Oper) (o : Oper) : Option Sem :=
  (opG C f inr n o).bind fun s => (guardG ops o).bind fun g => match g with
  | none => some s
  | some (g, b) => (putX n o.dst).bind fun put => some fun ck e ds st k => g e fun v => wantK v b (s ck e ds st k) (put e AV.undef fun e' => k e' ds st)
noncomputable def seqG (C : Cfg) (f : FuncId) (inr : Bool) (n : Nat) (ops : Array Oper) : List Oper → Option Sem
  | [] => some fun _ e ds st k => k e ds st
  | o :: os => (stepG C f inr n ops o).bind fun s => (seqG C f inr n ops os).bind fun r => some fun ck e ds st k => s ck e ds st fun e ds st => r ck e ds st k

/-- Is no look left that an effect may turn? -/
def calm (P : Program) : List PStep → List Nat → Bool
  | [], _ => true
  | s :: l, is => match s.eff with
    | true => match is.filter fun i => !s.bef.testBit i with
      | [] => match s.o.guard with
        | none => calm P l []
        | some _ => calm P l is
      | _ => false
    | false => match opKind P s.o.op with
      | .load => calm P l (s.i :: is)
      | _ => calm P l is

abbrev RSem := CK → List Rd → E2 → List ADefer → St → (List Rd → Ends) → Bool
noncomputable def wildStep (C : Cfg) (f : FuncId) (inr : Bool) (n : Nat) (ops : Array Oper) (s : PStep) : Option RSem :=
  match s.eff with
  | true => (guardG ops s.o).bind fun g => (opG C f inr n s.o).bind fun r => (putX n s.o.dst).bind fun put =>
    let yes : RSem := fun ck rd e ds st k => r ck e ds st fun e' ds' st' => (fun rd' => cond (rd'.all (sameRd C.P st')) (k rd' e' ds' st') false) (rd.filter fun r => !s.bef.testBit r.i)
    match g with
    | none => some yes
    | some (g, b) => some fun ck rd e ds st k => g e fun v => wantK v b (yes ck rd e ds st k) (put e AV.undef fun e' => k rd e' ds st)
  | false => (guardG ops s.o).bind fun g => (putX n s.o.dst).bind fun put =>
    (match opKind C.P s.o.op with
      | .load => (getXs s.o.op.operands.toList).bind fun gs => some (fun _ rd e ds st k => gather gs e fun vs => optK (readV C.P st s.o.op vs) fun v => put e v fun e' => k (⟨s.i, s.o.op, vs, v⟩ :: rd) e' ds st : RSem)
      | _ => (opG C f inr n s.o).bind fun r => some (fun ck rd e ds st k => r ck e ds st fun e' ds' st' => k rd e' ds' st')).bind fun yes =>
    match g with
    | none => some yes
    | some (g, b) => some fun ck rd e ds st k => g e fun v => wantK v b (yes ck rd e ds st k) (put e AV.undef fun e' => k rd e' ds st)
noncomputable def wildG (C : Cfg) (f : FuncId) (inr : Bool) (n : Nat) (ops : Array Oper) : List PStep → Option RSem
  | [] => some fun _ rd e ds st k => k rd e ds st
  | s :: l => (wildStep C f inr n ops s).bind fun s => (wildG C f inr n ops l).bind fun r => some fun ck rd e ds st k => s ck rd e ds st fun rd e ds st => r ck rd e ds st k

/-! ### Code -/
abbrev CEnds := AExit → Ends
abbrev CSem := CK → Option Nat → E2 → List ADefer → St → CEnds → Bool
noncomputable def exitK (x : AExit) (n : Bool) (ex : Nat → Bool) (r : Bool) : Bool := AExit.casesOn x n ex r
noncomputable def loopG (body : CSem) (ck : CK) (ro : Option Nat) (rounds : Nat) : E2 → List ADefer → St → CEnds → Bool :=
  Nat.rec (motive := fun _ => E2 → List ADefer → St → CEnds → Bool) (fun _ _ _ _ => false)
    (fun _ ih e ds st k => body ck ro e ds st fun x e ds st => exitK x (ih e ds st k) (fun i => k (.exit i) e ds st) (k .ret e ds st)) rounds

noncomputable def codeG (C : Cfg) (f : FuncId) (inr : Bool) (n rounds : Nat) : Code → Option CSem
  | .skip => some fun _ _ e ds st k => k .normal e ds st
  | .region _ ops draw => match draw with
    | false => (seqG C f inr n ops ops.toList).bind fun s => some fun ck _ e ds st k => s ck e ds st fun e ds st => k .normal e ds st
    | true => (plan C.P ops).bind fun l => cond (calm C.P l [])
        ((seqG C f inr n ops (l.map (·.o))).bind fun s => some fun ck _ e ds st k => s ck e ds st fun e ds st => k .normal e ds st)
        ((wildG C f inr n ops l).bind fun s => some fun ck _ e ds st k => s ck [] e ds st fun _ e ds st => k .normal e ds st)
  | .seq a b => (codeG C f inr n rounds a).bind fun a => (codeG C f inr n rounds b).bind fun b =>
      some fun ck ro e ds st k => a ck ro e ds st fun x e ds st => exitK x (b ck ro e ds st k) (fun i => k (.exit i) e ds st) (k .ret e ds st)
  | .cond c a b => (getX c).bind fun gc => (codeG C f inr n rounds a).bind fun a => (codeG C f inr n rounds b).bind fun b =>
      some fun ck ro e ds st k => gc e fun v => boolK v fun c => cond c (a ck ro e ds st k) (b ck ro e ds st k)
  | .block id b => (codeG C f inr n rounds b).bind fun b =>
      some fun ck ro e ds st k => b ck ro e ds st fun x e ds st => exitK x (k .normal e ds st) (fun i => cond (Nat.beq i id) (k .normal e ds st) (k (.exit i) e ds st)) (k .ret e ds st)
  | .loop b => (codeG C f inr n rounds b).bind fun b => some fun ck ro e ds st k => loopG b ck ro rounds e ds st k
  | .exit id => some fun _ _ e ds st k => k (.exit id) e ds st
  | .label _ => some fun _ _ e ds st k => k .normal e ds st
  | .scope b => codeG C f inr n rounds b
  | .ret => some fun _ _ e ds st k => k .ret e ds st
  | .rangeFunc g ps asg body => (getX g).bind fun gg => (getXs (tmpsUpTo 0 n)).bind fun gs => some fun ck ro e ds st k => gg e fun fv => callK2 fv (fun fn first cap => match fn with
      | .func h => cond (!hasBody C.P h) false (gather gs e fun ts => optK (enterL f ro ps asg body ⟨ts, [], st⟩) fun r => ck false h (first ++ [.yield r.1] ++ cap) r.2.2 fun _ _ st2 => optK (leaveL st2 r.1) fun z => k z.1 e (r.2.1 ++ ds) z.2)
      | _ => false) fun _ => false
  | .goto _ => some fun _ _ _ _ _ _ => false
  | .refuse _ => some fun _ _ _ _ _ _ => false

noncomputable def argG : List Put → List AV → E2 → (E2 → Bool) → Bool
  | _, [], e, k => k e
  | [], _ :: _, _, _ => false
  | p :: ps, a :: as, e, k => p e a fun e' => argG ps as e' k
noncomputable def putsUpTo : Nat → Nat → Option (List Put)
  | _, 0 => some []
  | i, m + 1 => (putN i).bind fun p => (putsUpTo (i + 1) m).bind fun l => some (p :: l)
noncomputable def putsOf (n : Nat) : List Tmp → Option (List Put)
  | [] => some []
  | t :: ts => (putX n (some t)).bind fun p => (putsOf n ts).bind fun l => some (p :: l)

noncomputable def resG (P : Program) : List ResultVar → Option (E2 → St → (List AV → Bool) → Bool)
  | [] => some fun _ _ k => k []
  | .tmp t :: rs => (getT t).bind fun g => (resG P rs).bind fun r => some fun e st k => g e fun v => r e st fun vs => k (v :: vs)
  | .cell a t :: rs => (getT a).bind fun g => (resG P rs).bind fun r => some fun e st k => g e fun p => optK (loadAt P st t p) fun v => r e st fun vs => k (v :: vs)
def dfdAt (st : St) (id : Nat) : Option St := match st.objs.get id with
  | some .dfd => some (st.put id .dead)
  | _ => none
noncomputable def defersK (ck : CK) (ds : List ADefer) : St → (St → Bool) → Bool :=
  List.rec (motive := fun _ => St → (St → Bool) → Bool) (fun st k => k st) (fun d _ ih st k => ADefer.casesOn d
    (fun f args => ck false f args st fun plain _ st' => cond plain (ih st' k) false)
    (fun id => optK (dfdAt st id) fun st' => ih st' k)) ds
noncomputable def emptyK (ds : List ADefer) : Bool := List.casesOn ds true (fun _ _ => false)

abbrev FSem := CK → List AV → St → (Bool → AV → St → Bool) → Bool
noncomputable def oneK (vs : List AV) (k : AV → Bool) : Bool := List.casesOn vs (k (.tuple [])) fun v t => List.casesOn t (k v) fun _ _ => k (.tuple vs)
noncomputable def funG (C : Cfg) (rounds : Nat) (f : FuncId) : Option FSem :=
  (C.P.funcs[f]?).bind fun fn => fn.body.bind fun c => cond (fn.name == "runtime.NumGoroutine" || Nat.blt 256 fn.ntmps) none <|
  (codeG C f false fn.ntmps rounds c).bind fun cs => (putsUpTo 0 fn.ntmps).bind fun ps => (resG C.P fn.results.toList).bind fun rs =>
  some fun ck args st k => argG ps args E2.none fun e => cs ck none e [] st fun x e ds st =>
    exitK x (defersK ck ds st fun st' => rs e st' fun vs => oneK vs fun v => k (emptyK ds) v st') (fun _ => false) (defersK ck ds st fun st' => rs e st' fun vs => oneK vs fun v => k (emptyK ds) v st')

/-- What a round takes: how its temporaries are laid; its two pieces of code. -/
noncomputable def roundOf (C : Cfg) (rounds : Nat) (f : FuncId) (ps : Array Tmp) (asg body : Code) : Option (Nat × List Put × List Put × CSem × CSem) :=
  (C.P.funcs[f]?).bind fun fn => cond (Nat.blt 256 fn.ntmps) none <| (putsUpTo 0 fn.ntmps).bind fun ts => (putsOf fn.ntmps ps.toList).bind fun qs =>
  (codeG C f true fn.ntmps rounds asg).bind fun a => (codeG C f true fn.ntmps rounds body).bind fun b => some (fn.ntmps, ts, qs, a, b)
noncomputable def roundG (C : Cfg) (rounds : Nat) (ck : CK) (l : Nat) (args : List AV) (st : St) (k : Bool → AV → St → Bool) : Bool :=
  optK (loopAt st l) fun r => optK (roundOf C rounds r.fn r.params r.assign r.body) fun q => cond (Nat.beq r.tmps.length q.1 && Nat.beq args.length r.params.size)
    (argG q.2.1 r.tmps E2.none fun e => argG q.2.2.1 args e fun e => q.2.2.2.1 ck (some l) e [] st fun x e ds st => exitK x
      (optK (loopAt st l) fun r1 => cond (r1.state == .ready && emptyK ds)
        (q.2.2.2.2 ck (some l) e [] (st.put l (.loop { r1 with state := .busy })) fun x _ ds st => cond (emptyK ds) (optK (loopAt st l) fun r2 =>
          exitK x (k false (.bool true) (st.put l (.loop { r2 with state := .ready, pending := none })))
            (fun i => k false (.bool false) (st.put l (.loop { r2 with state := .done, pending := some (.exit i) })))
            (k false (.bool false) (st.put l (.loop { r2 with state := .done, pending := some .ret }))) ) false) false)
      (fun _ => false) false) false

noncomputable def callG (C : Cfg) (ext : Ext) (rounds : Nat) (n : Nat) : CK :=
  Nat.rec (motive := fun _ => CK) (fun _ _ _ _ _ => false)
    (fun _ ih y f args st k => Bool.rec (Option.rec (Option.rec (optK (funG C rounds f) fun s => s ih args st k) (fun r => k false r.1 r.2) (C.mext f args st)) (fun v => k false v st) (ext f args))
      (roundG C rounds ih f args st k) y) n
end Go.Ev
