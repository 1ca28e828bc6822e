/- PlanChooses, part 6 of 11 of its proof (what is proved: whatever the text is, the law answers true; conditions: those each theorem states). Joined and shortened by a program. In order: SynA | SynB -/
import Derived.Test.YthodfojhbbendaaGreatDoorPe
section
set_option linter.all false
set_option maxRecDepth 100000
namespace Go.Proofs.YthodfojhbbendaaGreatDoor
open Go Go.Ev
noncomputable section
def aD (v:AV):Option (Int×List UInt8×Int×Bool×Int×List UInt8×AV×AV×AV×AV):=match v with
 | .agg [.int .i64 a0,.str a1,.int .i64 a2,.bool a3,.int .i64 a4,.str a5,a6,a7,a8,a9]=>some (a0,a1,a2,a3,a4,a5,a6,a7,a8,a9)
 | _=>none
theorem aC {v:AV}{a0:Int}{a1:List UInt8}{a2:Int}{a3:Bool}{a4:Int}{a5:List UInt8}{a6:AV}{a7:AV}{a8:AV}{a9:AV}(h:aD v=some (a0,a1,a2,a3,a4,a5,a6,a7,a8,a9)):v=.agg [.int .i64 a0,.str a1,.int .i64 a2,.bool a3,.int .i64 a4,.str a5,a6,a7,a8,a9]:=by
 unfold aD at h
 split at h
 ·cases h; rfl
 ·cases h
def aQ (v:AV):Option (Int×Bool×Int×List UInt8×AV×AV):=match v with
 | .agg [.int .i64 a0,.bool a1,.int .i64 a2,.str a3,a4,a5]=>some (a0,a1,a2,a3,a4,a5)
 | _=>none
theorem aO {v:AV}{a0:Int}{a1:Bool}{a2:Int}{a3:List UInt8}{a4:AV}{a5:AV}(h:aQ v=some (a0,a1,a2,a3,a4,a5)):v=.agg [.int .i64 a0,.bool a1,.int .i64 a2,.str a3,a4,a5]:=by
 unfold aQ at h
 split at h
 ·cases h; rfl
 ·cases h
def aH (v:AV):Option (Int×List UInt8×List UInt8×Int×List UInt8×Int×Bool×Int×List UInt8×AV×AV×AV×AV×AV×AV×Int×List UInt8×Int×Bool×Int×List UInt8×AV×AV×AV×AV×AV×Bool×Bool×List UInt8×Bool×Int):=match v with
 | .agg [.int .i64 a0,.str a1,.str a2,.int .i64 a3,.str a4,.int .i64 a5,.bool a6,.int .i64 a7,.str a8,a9,a,b,c,d,e,.int .i64 f,.str g,.int .i64 h,.bool i,.int .i64 j,.str k,l,m,n,o,p,.bool q,.bool r,.str s,.bool t,.int .i64 u]=>some (a0,a1,a2,a3,a4,a5,a6,a7,a8,a9,a,b,c,d,e,f,g,h,i,j,k,l,m,n,o,p,q,r,s,t,u)
 | _=>none
theorem aI {v:AV}{a0:Int}{a1:List UInt8}{a2:List UInt8}{a3:Int}{a4:List UInt8}{a5:Int}{a6:Bool}{a7:Int}{a8:List UInt8}{a9:AV}{a:AV}{b:AV}{c:AV}{d:AV}{e:AV}{f:Int}{g:List UInt8}{i:Int}{j:Bool}{k:Int}{l:List UInt8}{m:AV}{n:AV}{o:AV}{p:AV}{q:AV}{r:Bool}{s:Bool}{t:List UInt8}{u:Bool}{w:Int}(h:aH v=some (a0,a1,a2,a3,a4,a5,a6,a7,a8,a9,a,b,c,d,e,f,g,i,j,k,l,m,n,o,p,q,r,s,t,u,w)):v=.agg [.int .i64 a0,.str a1,.str a2,.int .i64 a3,.str a4,.int .i64 a5,.bool a6,.int .i64 a7,.str a8,a9,a,b,c,d,e,.int .i64 f,.str g,.int .i64 i,.bool j,.int .i64 k,.str l,m,n,o,p,q,.bool r,.bool s,.str t,.bool u,.int .i64 w]:=by
 unfold aH at h
 split at h
 ·cases h; rfl
 ·cases h
def gU (v:AV):Option (List UInt8×List UInt8):=match v with
 | .agg [.str a0,.str a1]=>some (a0,a1)
 | _=>none
theorem eJ {v:AV}{a0:List UInt8}{a1:List UInt8}(h:gU v=some (a0,a1)):v=.agg [.str a0,.str a1]:=by
 unfold gU at h
 split at h
 ·cases h; rfl
 ·cases h
def qT (v:AV):Option (List UInt8×List UInt8×List UInt8):=match v with
 | .agg [.str a0,.str a1,.str a2]=>some (a0,a1,a2)
 | _=>none
theorem tD {v:AV}{a0:List UInt8}{a1:List UInt8}{a2:List UInt8}(h:qT v=some (a0,a1,a2)):v=.agg [.str a0,.str a1,.str a2]:=by
 unfold qT at h
 split at h
 ·cases h; rfl
 ·cases h
def bV (R:Nat)(x2:AV)(i3:Int)(st4:St):Option (St):=
 (aZ x2).bind fun _=>
 (shift x2 5).bind fun x7=>
 (loadAt C0.P st4 42 x7).bind fun x9=>
 (dN .i64 x9).bind fun a=>
 if(a=0) then
  (aZ x2).bind fun _=>
  (shift x2 0).bind fun b=>
  (loadAt C0.P st4 121 b).bind fun c=>
  (aZ x2).bind fun _=>
  (shift x2 1).bind fun d=>
  (loadAt C0.P st4 3 d).bind fun e=>
  (dN .i64 e).bind fun f=>
  (bA C0.P 121 c (.int .i64 f)).bind fun g=>
  (shift g 2).bind fun h=>
  (loadAt C0.P st4 3 h).bind fun i=>
  (dN .i64 i).bind fun j=>
  (aZ x2).bind fun _=>
  (storeAt C0.P st4 42 x7 (.int .i64 i3)).bind fun k=>
  (aZ x2).bind fun _=>
  (shift x2 4).bind fun l=>
  (storeAt C0.P k 3 l (.int .i64 j)).bind fun m=>
  some m
 else
  some st4
theorem cK {R:Nat}(n:Nat){x2:AV}{i3:Int}{st4:St}{r:St}(h:bV R x2 i3 st4=some r):
 aR (aW C0 bK R (n+1)) false 78 [x2,(.int .i64 i3)] st4 (.tuple []) r:=by
 revert h;unfold bV;refine aA fun _o h5=>aA fun x7 h6=>aA fun x9 h8=>aA fun b c=>?_
 obtain rfl:=bE c;refine aU (fun a=>?_) (fun a=>?_)
 ·refine aA fun _o QJ=>aA fun d QM=>aA fun e f=>aA fun _o g=>aA fun i Qf=>aA fun D j=>aA fun k l=>?_
  obtain rfl:=bE l;refine aA fun m o=>aA fun p q=>aA fun E s=>aA fun t u=>?_
  obtain rfl:=bE u;refine aA fun _o v=>aA fun w x=>aA fun _o y=>aA fun z A=>aA fun B C=>?_
  intro h;obtain rfl:=b9 h;exact dE (hs:=[.run 1,.val x2,.val x7,.val (.int .i64 b),.dec true,.aM,.run 4,.val x2,.val d,.val e,.run 1,.val x2,.val i,.val (.int .i64 k),.val m,.val p,.val (.int .i64 t),.val x2,.val x7,.cA AV.undef w,.val x2,.val z,.cA AV.undef B]) (by kernel_rfl) (aG (aN C)<|aG A<|aG (cB y)<|aG (aN x)<|aG h6<|aG (cB v)<|aG s<|aG q<|aG o<|aG j<|aG Qf<|aG (cB g)<|aG f<|aG QM<|aG (cB QJ)<|aG (eG a)<|aG h8<|aG h6<|aG (cB h5) eE)
 ·intro h;obtain rfl:=b9 h;exact dE (hs:=[.run 1,.val x2,.val x7,.val (.int .i64 b),.dec false,.aM]) (by kernel_rfl) (aG (dP a)<|aG h8<|aG h6<|aG (cB h5) eE)
def kN (R : Nat) (c : AV) (d : Int) (e : List UInt8) (a : St) : Option (Bool × St) :=
 (aZ c).bind fun _=>
 (shift c 0).bind fun f=>
 (loadAt C0.P a 121 f).bind fun g=>
 (aZ c).bind fun _=>
 (shift c 1).bind fun h=>
 (loadAt C0.P a 3 h).bind fun i=>
 (dN .i64 i).bind fun j=>
 (bA C0.P 121 g (.int .i64 j)).bind fun k=>
 (loadAt C0.P a 129 k).bind fun l=>
 (bU l).bind fun(i64,m,n)=>
 (storeAt C0.P (St.push a (.cells 129 true [(.int .i64 0),(.str []),(.int .i64 0)])) 129 (.ref (St.next a) 0) (.agg [(.int .i64 i64),(.str m),(.int .i64 n)])).bind fun b=>
 (aZ c).bind fun _=>
 (shift c 5).bind fun o=>
 (loadAt C0.P b 42 o).bind fun p=>
 (dN .i64 p).bind fun q=>
 if (q = 0) then
  (loadAt C0.P b 3 (.ref (St.next a) 0)).bind fun r=>
  (dN .i64 r).bind fun s=>
  if(s=d) then
   (loadAt C0.P b 9 (.ref (St.next a) 1)).bind fun t=>
   (eY t).bind fun u=>
   if(u=e) then
    some (true,b)
   else
    some (false,b)
  else
   some (false,b)
 else
  some (false,b)
theorem mJ {R : Nat} (n : Nat) {a : AV} {f : Int} {g : List UInt8} {i : St} {r : Bool × St} (h : kN R a f g i = some r):
 aR (aW C0 bK R (n+1)) false 150 [a,(.int .i64 f),(.str g)] i (.bool r.1) r.2:=by
 revert h;unfold kN;refine aA fun _o l=>aA fun m p=>aA fun q s=>aA fun _o t=>aA fun u v=>aA fun P Lj=>aA fun w x=>?_
 obtain rfl:=bE x;refine aA fun y z=>aA fun Q A=>aA fun o B=>?_
 obtain⟨i64,C,D⟩:=o;obtain rfl:=bR B;refine aA fun E F=>aA fun _o G=>aA fun H I=>aA fun S J=>aA fun K L=>?_
 obtain rfl:=bE L;have q9001:=aG J<|aG I<|aG (cB G)<|aG (aN F)<|aG A<|aG z<|aG Lj<|aG v<|aG (cB t)<|aG s<|aG p<|aG (cB l) eE
 let q8001:List Hint:=[.run 2,.val a,.val m,.val q,.run 1,.val a,.val u,.val (.int .i64 w),.val y,.val (nU i64 C D),.run 1,.cA AV.undef E,.run 1,.val a,.val H,.val (.int .i64 K)]
 refine aU (fun b=>?_) (fun b=>?_)
 ·refine aA fun T d=>aA fun M N=>?_
  obtain rfl:=bE N;let q8002:List Hint:=q8001 ++ [.dec true,.run 2,.val (.int .i64 M),.run 1]
  refine aU (fun c=>?_) (fun c=>?_)
  ·refine aA fun U j=>aA fun k O=>?_
   obtain rfl:=cC O;refine aU (fun e=>?_) (fun e=>?_)
   ·intro h;obtain rfl:=b9 h;exact dE (hs:=q8002 ++ [.dec true,.run 3,.val (.str k),.run 1,.dec true,.run 2]) (by kernel_rfl) (aG (dM e)<|aG j<|aG (eG c)<|aG d<|aG (eG b) q9001)
   ·intro h;obtain rfl:=b9 h;exact dE (hs:=q8002 ++ [.dec true,.run 3,.val (.str k),.run 1,.dec false,.run 2]) (by kernel_rfl) (aG (cL e)<|aG j<|aG (eG c)<|aG d<|aG (eG b) q9001)
  ·intro h;obtain rfl:=b9 h;exact dE (hs:=q8002 ++ [.dec false,.run 4]) (by kernel_rfl) (aG (dP c)<|aG d<|aG (eG b) q9001)
 ·intro h;obtain rfl:=b9 h;exact dE (hs:=q8001 ++ [.dec false,.run 5]) (by kernel_rfl) (aG (dP b) q9001)
def bW (R:Nat)(a:AV)(d:List UInt8)(e:St):Option (Bool×St):=
 (kN R a 2 d e).bind fun(f,b)=>
 if f=true then
  (aZ a).bind fun _=>
  (shift a 1).bind fun c=>
  (loadAt C0.P b 3 c).bind fun g=>
  (dN .i64 g).bind fun h=>
  (aZ a).bind fun _=>
  (storeAt C0.P b 3 c (.int .i64 (IntKind.wrap .i64 (h+1)))).bind fun i=>
  some (true,i)
 else
  some (false,b)
theorem bM {R:Nat}(n:Nat){a:AV}{c:List UInt8}{d:St}{r:Bool×St}(h:bW R a c d=some r):
 aR (aW C0 bK R (n+2)) false 120 [a,(.str c)] d (.bool r.1) r.2:=by
 revert h;unfold bW;refine aA fun o e=>?_;obtain⟨t,f⟩:=o;refine aU (fun b=>?_) (fun b=>?_)
 ·subst b;refine aA fun _o j=>aA fun g i=>aA fun u k=>aA fun l m=>?_
  obtain rfl:=bE m;refine aA fun _o p=>aA fun q s=>?_
  intro h;obtain rfl:=b9 h;exact dE (hs:=[.run 3,.call (.bool true) f,.run 1,.aM,.run 1,.val a,.val g,.val (.int .i64 l),.run 1,.val a,.val g,.cA AV.undef q,.run 1]) (by kernel_rfl) (aG (aN s)<|aG i<|aG (cB p)<|aG k<|aG i<|aG (cB j)<|aG (mJ n e) eE)
 ·obtain rfl:=bF b;intro h;obtain rfl:=b9 h;exact dE (hs:=[.run 3,.call (.bool false) f,.run 1,.aM,.run 1]) (by kernel_rfl) (aG (mJ n e) eE)
def dD (R:Nat)(a:AV)(d:List UInt8)(e:St):Option (Bool×St):=
 (kN R a 6 d e).bind fun(f,b)=>
 if f=true then
  (aZ a).bind fun _=>
  (shift a 1).bind fun c=>
  (loadAt C0.P b 3 c).bind fun g=>
  (dN .i64 g).bind fun h=>
  (aZ a).bind fun _=>
  (storeAt C0.P b 3 c (.int .i64 (IntKind.wrap .i64 (h+1)))).bind fun i=>
  some (true,i)
 else
  some (false,b)
theorem bN {R:Nat}(n:Nat){a:AV}{c:List UInt8}{d:St}{r:Bool×St}(h:dD R a c d=some r):
 aR (aW C0 bK R (n+2)) false 151 [a,(.str c)] d (.bool r.1) r.2:=by
 revert h;unfold dD;refine aA fun o e=>?_;obtain⟨s,f⟩:=o;refine aU (fun b=>?_) (fun b=>?_)
 ·subst b;refine aA fun _o j=>aA fun g i=>aA fun t k=>aA fun l m=>?_
  obtain rfl:=bE m;refine aA fun _o p=>aA fun q DM=>?_
  intro h;obtain rfl:=b9 h;exact dE (hs:=[.run 3,.call (.bool true) f,.run 1,.aM,.run 1,.val a,.val g,.val (.int .i64 l),.run 1,.val a,.val g,.cA AV.undef q,.run 1]) (by kernel_rfl) (aG (aN DM)<|aG i<|aG (cB p)<|aG k<|aG i<|aG (cB j)<|aG (mJ n e) eE)
 ·obtain rfl:=bF b;intro h;obtain rfl:=b9 h;exact dE (hs:=[.run 3,.call (.bool false) f,.run 1,.aM,.run 1]) (by kernel_rfl) (aG (mJ n e) eE)
def eC (R : Nat) (a : AV) (b : St) : Option (List UInt8 × St) :=
 (aZ a).bind fun _=>
 (shift a 0).bind fun f=>
 (loadAt C0.P b 121 f).bind fun g=>
 (aZ a).bind fun _=>
 (shift a 1).bind fun d=>
 (loadAt C0.P b 3 d).bind fun h=>
 (dN .i64 h).bind fun i=>
 (bA C0.P 121 g (.int .i64 i)).bind fun j=>
 (loadAt C0.P b 129 j).bind fun k=>
 (bU k).bind fun(l,m,n)=>
 (storeAt C0.P (St.push b (.cells 129 true [(.int .i64 0),(.str []),(.int .i64 0)])) 129 (.ref (St.next b) 0) (.agg [(.int .i64 l),(.str m),(.int .i64 n)])).bind fun c=>
 (aZ a).bind fun _=>
 (shift a 5).bind fun o=>
 (loadAt C0.P c 42 o).bind fun p=>
 (dN .i64 p).bind fun q=>
 if(q=0) then
  (loadAt C0.P c 3 (.ref (St.next b) 0)).bind fun r=>
  (dN .i64 r).bind fun s=>
  if(s=1) then
   (aZ a).bind fun _=>
   (loadAt C0.P c 3 d).bind fun t=>
   (dN .i64 t).bind fun u=>
   (aZ a).bind fun _=>
   (storeAt C0.P c 3 d (.int .i64 (IntKind.wrap .i64 (u+1)))).bind fun e=>
   (loadAt C0.P e 9 (.ref (St.next b) 1)).bind fun v=>
   (eY v).bind fun w=>
   some (w,e)
  else
   (bV R a 120 c).bind fun x=>
   some ([],x)
 else
  (bV R a 120 c).bind fun y=>
  some ([],y)
theorem iT {R:Nat}(n:Nat){a:AV}{f:St}{r:List UInt8×St}(h:eC R a f=some r):
 aR (aW C0 bK R (n+2)) false 123 [a] f (.str r.1) r.2:=by
 revert h;unfold eC;refine aA fun _o j=>aA fun k l=>aA fun m p=>aA fun _o q=>aA fun c d=>aA fun Z s=>aA fun t u=>?_
 obtain rfl:=bE u;refine aA fun v w=>aA fun a0 x=>aA fun o y=>?_
 obtain⟨z,A,B⟩:=o;obtain rfl:=bR y;refine aA fun C D=>aA fun _o E=>aA fun F DI=>aA fun a1 G=>aA fun H I=>?_
 obtain rfl:=bE I;have q9002:=aG G<|aG DI<|aG (cB E)<|aG (aN D)<|aG x<|aG w<|aG s<|aG d<|aG (cB q)<|aG p<|aG l<|aG (cB j) eE
 let q8003:List Hint:=[.run 2,.val a,.val k,.val m,.run 1,.val a,.val c,.val (.int .i64 t),.val v,.val (nU z A B),.run 1,.cA AV.undef C,.run 1,.val a,.val F,.val (.int .i64 H)]
 refine aU (fun b=>?_) (fun b=>?_)
 ·refine aA fun a2 g=>aA fun i J=>?_
  obtain rfl:=bE J;refine aU (fun e=>?_) (fun e=>?_)
  ·refine aA fun _o K=>aA fun a3 L=>aA fun M N=>?_
   obtain rfl:=bE N;refine aA fun _o O=>aA fun P Q=>aA fun a4 S=>aA fun T U=>?_
   obtain rfl:=cC U;intro h;obtain rfl:=b9 h;exact dE (hs:=q8003 ++ [.dec false,.run 2,.val (.int .i64 i),.dec false,.run 1,.aM,.run 1,.val a,.val c,.val (.int .i64 M),.run 1,.val a,.val c,.cA AV.undef P,.run 1,.val (.str T),.run 1]) (by kernel_rfl) (aG S<|aG (aN Q)<|aG d<|aG (cB O)<|aG L<|aG d<|aG (cB K)<|aG (Ax e)<|aG g<|aG (Ax b) q9002)
  ·refine aA fun V W=>?_;intro h;obtain rfl:=b9 h;exact dE (hs:=q8003 ++ [.dec false,.run 2,.val (.int .i64 i),.dec true,.run 1,.aM,.run 1,.call (.tuple []) V,.run 1]) (by kernel_rfl) (aG (cK n W)<|aG (D5 e)<|aG g<|aG (Ax b) q9002)
 ·refine aA fun X Y=>?_;intro h;obtain rfl:=b9 h;exact dE (hs:=q8003 ++ [.dec true,.run 2,.aM,.run 1,.call (.tuple []) X,.run 1]) (by kernel_rfl) (aG (cK n Y)<|aG (D5 b) q9002)
def fD (R : Nat) (a : AV) : Nat → List UInt8 → St → Option ((List UInt8 × St))
 | 0,_,_=>none
 | r + 1, b, d =>
   (dD R a [46] d).bind fun(e,c)=>
   if e=true then
    (eC R a c).bind fun(f,g)=>
    (lB [46] f).bind fun h=>
    (lB b h).bind fun i=>
    fD R a r i g
   else
    some (b,c)
def lH (o:(List UInt8×St)):cE×List (Nat×AV)×St:=match o with
 | (a0,a1)=>((.exit 0),[(3,.str a0)],a1)
theorem uR (R n:Nat)(d:AV):∀(r:Nat) (a:List UInt8) (b:St) (o:(List UInt8×St)),fD R d r a b=some o →
 jL 14 (jA (fun fr k=>cZ C0 (aW C0 bK R (n+2)) 156 R none (dA C0.P 156 [1,1,0,0,0]) fr k) r) (dI (dA C0.P 156 [1,1,0,0,0])) [(0,d),(3,(.str a))] b (lH o).1 (lH o).2.1 (lH o).2.2:=by
 intro r
 induction r with
 | zero=>intro a b o h; exact nomatch h
 | succ r ih =>
   intro a b o
   unfold fD;refine aA fun o e=>?_;obtain⟨s,f⟩:=o;refine aU (fun c=>?_) (fun c=>?_)
   ·subst c;refine aA fun o j=>?_;obtain⟨l,g⟩:=o;refine aA fun m p=>aA fun i q=>?_
    intro h;exact cS (aK (hs:=[.run 1,.call (.bool true) f,.aM,.aM,.run 2,.call (.str l) g,.val (.str m),.val (.str i),.run 1]) (want:=[0,3]) (by kernel_rfl) (.cons (fV q)<|.cons (fV p)<|.cons (iT n j)<|.cons (bN n e) .nil)) (ih i g _ h)
   ·obtain rfl:=bF c;intro h;obtain rfl:=b9 h;exact bI (aK (hs:=[.run 1,.call (.bool false) f,.aM]) (want:=[3]) (by kernel_rfl) (.cons (bN n e) .nil)) (by kernel_rfl)
def jY (R:Nat)(a:AV)(b:List UInt8)(c:St):Option (List UInt8×St):=
 (fD R a R b c).bind fun(d,e)=>
 some (d,e)
theorem vE {R:Nat}(n:Nat){a:AV}{b:List UInt8}{c:St}{r:List UInt8×St}(h:jY R a b c=some r):
 oE 14 bK R (n+2) 156 [1,1,0] [(0,a),(3,(.str b))] c .normal [(3,.str r.1)] r.2:=by
 revert h;unfold jY;refine aA fun o d=>?_;obtain⟨e,f⟩:=o;intro h;obtain rfl:=b9 h;exact aK (hs:=[.aM,.abs [0,3] (.exit 0) [(3,(.str e))] f]) (want:=[3]) (by kernel_rfl) (aG (bY (uR R n a R b c _ d)) eE)
def kT (R:Nat)(a:AV)(b:St):Option (List UInt8×St):=
 (eC R a b).bind fun(c,d)=>
 (jY R a c d).bind fun(e,f)=>
 some (e,f)
theorem zI {R:Nat}(n:Nat){a:AV}{b:St}{r:List UInt8×St}(h:kT R a b=some r):
 aR (aW C0 bK R (n+3)) false 156 [a] b (.str r.1) r.2:=by
 revert h;unfold kT;refine aA fun o c=>?_;obtain⟨d,e⟩:=o;refine aA fun o f=>?_;obtain⟨g,i⟩:=o;intro h;obtain rfl:=b9 h;exact dE (hs:=[.run 2,.call (.str d) e,.run 1,.nW [0,3] .normal [(3,(.str g))] i,.run 2]) (by kernel_rfl) (aG (vE n f)<|aG (iT n c) eE)
def iU (R:Nat)(a:AV)(d:AV)(e:Nat)(b:St):Option (St):=
 (bV R a 3 b).bind fun c=>
 some c
theorem tP {R:Nat}(n:Nat){a:AV}{b:AV}{c:Nat}{d:St}{r:St}(h:iU R a b c d=some r):
 oE 20 bK R (n+1) 155 [1,0,1,1] [(0,a),(3,b),(4,(.ref c 0)),(16,(.bool true))] d .normal [] r:=by
 revert h;unfold iU;refine aA fun e f=>?_;intro h;obtain rfl:=b9 h;exact aK (hs:=[.aM,.run 1,.call (.tuple []) e]) (want:=[]) (by kernel_rfl) (aG (cK n f) eE)
def iG (R:Nat)(a:AV)(b:AV)(c:Nat):Option (Unit):=
 some ()
theorem sH {R:Nat}(n:Nat){a:AV}{b:AV}{c:Nat}(d:St){r:Unit}(h:iG R a b c=some r):
 oE 20 bK R (n+1) 155 [1,0,1,1] [(0,a),(3,b),(4,(.ref c 0)),(16,(.bool false))] d .normal [] d:=by
 revert h;unfold iG;intro h;obtain rfl:=b9 h;exact aK (hs:=[.aM]) (want:=[]) (by kernel_rfl) .nil
def bL (R:Nat)(b:AV)(i:Int)(j:List UInt8)(k:Int)(l:Bool)(m:Int)(n:List UInt8)(o:AV)(p:AV)(q:AV)(r:AV)(s:St):Option (Int×List UInt8×Int×Bool×Int×List UInt8×AV×AV×AV×AV×St):=
 (oQ 28 (.agg [(.int .i64 i),(.str j),(.int .i64 k),(.bool l),(.int .i64 m),(.str n),o,p,q,r]) s).bind fun(c,a)=>
 (aZ b).bind fun _=>
 (shift b 3).bind fun e=>
 (loadAt C0.P (St.push a (.cells 28 true [(.int .i64 0),(.str []),(.int .i64 0),(.bool false),(.int .i64 0),(.str []),AV.aF,AV.aF,AV.aF,AV.aF])) 3 e).bind fun t=>
 (dN .i64 t).bind fun u=>
 (aZ b).bind fun _=>
 (storeAt C0.P (St.push a (.cells 28 true [(.int .i64 0),(.str []),(.int .i64 0),(.bool false),(.int .i64 0),(.str []),AV.aF,AV.aF,AV.aF,AV.aF])) 3 e (.int .i64 (IntKind.wrap .i64 (u+1)))).bind fun d=>
 (aZ b).bind fun _=>
 (loadAt C0.P d 3 e).bind fun v=>
 (dN .i64 v).bind fun w=>
 if(w>200) then
  (iU R b c (St.next a) d).bind fun f=>
  (loadAt C0.P f 28 c).bind fun x=>
  (aD x).bind fun(y,z,A,B,C,D,E,F,G,H)=>
  (storeAt C0.P f 28 (.ref (St.next a) 0) (.agg [(.int .i64 y),(.str z),(.int .i64 A),(.bool B),(.int .i64 C),(.str D),E,F,G,H])).bind fun g=>
  (loadAt C0.P g 28 (.ref (St.next a) 0)).bind fun I=>
  (aD I).bind fun(J,K,L,M,N,O,Q,S,T,U)=>
  some (J,K,L,M,N,O,Q,S,T,U,g)
 else
  (iG R b c (St.next a)).bind fun _=>
  (loadAt C0.P d 28 c).bind fun V=>
  (aD V).bind fun(W,X,Y,Z,a0,a1,a2,a3,a4,a5)=>
  (storeAt C0.P d 28 (.ref (St.next a) 0) (.agg [(.int .i64 W),(.str X),(.int .i64 Y),(.bool Z),(.int .i64 a0),(.str a1),a2,a3,a4,a5])).bind fun h=>
  (loadAt C0.P h 28 (.ref (St.next a) 0)).bind fun a6=>
  (aD a6).bind fun(a7,a8,a9,b0,b1,b2,b3,b4,b5,b6)=>
  some (a7,a8,a9,b0,b1,b2,b3,b4,b5,b6,h)
theorem bO {R:Nat}(n:Nat){a:AV}{f:Int}{g:List UInt8}{i:Int}{j:Bool}{k:Int}{l:List UInt8}{m:AV}{p:AV}{q:AV}{s:AV}{t:St}{r:Int×List UInt8×Int×Bool×Int×List UInt8×AV×AV×AV×AV×St}(h:bL R a f g i j k l m p q s t=some r):
 aR (aW C0 bK R (n+2)) false 155 [a,(.agg [(.int .i64 f),(.str g),(.int .i64 i),(.bool j),(.int .i64 k),(.str l),m,p,q,s])] t (.agg [.int .i64 r.1,.str r.2.1,.int .i64 r.2.2.1,.bool r.2.2.2.1,.int .i64 r.2.2.2.2.1,.str r.2.2.2.2.2.1,r.2.2.2.2.2.2.1,r.2.2.2.2.2.2.2.1,r.2.2.2.2.2.2.2.2.1,r.2.2.2.2.2.2.2.2.2.1]) r.2.2.2.2.2.2.2.2.2.2:=by
 revert h;unfold bL;refine aA fun o u=>?_;obtain⟨v,w⟩:=o;refine aA fun _o x=>aA fun b c=>aA fun d8 y=>aA fun z A=>?_
 obtain rfl:=bE A;refine aA fun _o B=>aA fun d C=>aA fun _o D=>aA fun d9 E=>aA fun F G=>?_
 obtain rfl:=bE G;have q9003:=aG E<|aG c<|aG (cB D)<|aG (aN C)<|aG c<|aG (cB B)<|aG y<|aG c<|aG (cB x)<|aG (pE u) eE
 let q8004:List Hint:=[.cA v w,.run 2,.val a,.val b,.val (.int .i64 z),.run 1,.val a,.val b,.cA AV.undef d,.run 1,.val a,.val b,.val (.int .i64 F)]
 refine aU (fun e=>?_) (fun e=>?_)
 ·refine aA fun H I=>aA fun e0 J=>aA fun o K=>?_
  obtain⟨L,M,N,O,P,Q,S,T,U,V⟩:=o;obtain rfl:=aC K;refine aA fun W X=>aA fun e1 Y=>aA fun o Z=>?_
  obtain⟨a0,a1,a2,a3,a4,a5,a6,a7,a8,a9⟩:=o;obtain rfl:=aC Z;intro h;obtain rfl:=b9 h;exact dE (hs:=q8004 ++ [.dec true,.fT [0,3,4,16] .normal [] H,.val (aJ L M N O P Q S T U V),.cA AV.undef W,.val (aJ a0 a1 a2 a3 a4 a5 a6 a7 a8 a9)]) (by kernel_rfl) (aG Y<|aG (aN X)<|aG J<|aG (tP n I)<|aG (decide_eq_true e) q9003)
 ·refine aA fun _o b0=>aA fun e2 b1=>aA fun o b2=>?_
  obtain⟨b3,b4,b5,b6,b7,b8,c0,c1,c2,c3⟩:=o;obtain rfl:=aC b2;refine aA fun c4 c5=>aA fun e3 c6=>aA fun o c7=>?_
  obtain⟨c8,c9,d0,d1,d2,d3,d4,d5,d6,d7⟩:=o;obtain rfl:=aC c7;intro h;obtain rfl:=b9 h;exact dE (hs:=q8004 ++ [.dec false,.fT [0,3,4,16] .normal [] d,.val (aJ b3 b4 b5 b6 b7 b8 c0 c1 c2 c3),.cA AV.undef c4,.val (aJ c8 c9 d0 d1 d2 d3 d4 d5 d6 d7)]) (by kernel_rfl) (aG c6<|aG (aN c5)<|aG b1<|aG (sH n d b0)<|aG (decide_eq_false e) q9003)
def jE (R:Nat)(b:AV)(a:St):Option (St):=
 (loadAt C0.P a 124 b).bind fun c=>
 (bV R c 3 a).bind fun d=>
 some d
theorem uX {R:Nat}(n:Nat){a:AV}{b:St}{r:St}(h:jE R a b=some r):
 oE 18 bK R (n+1) 175 [1,0,1,1] [(1,a),(14,(.bool true))] b .normal [] r:=by
 revert h;unfold jE;refine aA fun c d=>aA fun e f=>?_
 intro h;obtain rfl:=b9 h;exact aK (hs:=[.aM,.val c,.call (.tuple []) e]) (want:=[]) (by kernel_rfl) (aG (cK n f)<|aG d eE)
def iR (R:Nat)(a:AV):Option (Unit):=
 some ()
theorem tC {R:Nat}(n:Nat){a:AV}(b:St){r:Unit}(h:iR R a=some r):
 oE 18 bK R (n+1) 175 [1,0,1,1] [(1,a),(14,(.bool false))] b .normal [] b:=by
 revert h;unfold iR;intro h;obtain rfl:=b9 h;exact aK (hs:=[.aM]) (want:=[]) (by kernel_rfl) .nil
def j8 (R:Nat)(g:AV)(h:St):Option (AV×St):=
 (oQ 124 g h).bind fun(a,c)=>
 (loadAt C0.P c 124 a).bind fun d=>
 (aZ d).bind fun _=>
 (shift d 2).bind fun e=>
 (loadAt C0.P c 3 e).bind fun i=>
 (dN .i64 i).bind fun j=>
 (aZ d).bind fun _=>
 (storeAt C0.P c 3 e (.int .i64 (IntKind.wrap .i64 (j+1)))).bind fun b=>
 (loadAt C0.P b 124 a).bind fun f=>
 (aZ f).bind fun _=>
 (shift f 2).bind fun k=>
 (loadAt C0.P b 3 k).bind fun l=>
 (dN .i64 l).bind fun m=>
 if(m>24) then
  (jE R a b).bind fun n=>
  some (a,n)
 else
  (iR R a).bind fun _=>
  some (a,b)
theorem s8 {R:Nat}(n:Nat){d:AV}{e:St}{r:AV×St}(h:j8 R d e=some r):
 aR (aW C0 bK R (n+2)) false 175 [d] e (.func (.func 201) [] [r.1]) r.2:=by
 revert h;unfold j8;refine aA fun o j=>?_;obtain⟨k,l⟩:=o;refine aA fun a m=>aA fun _o p=>aA fun f g=>aA fun G q=>aA fun s t=>?_
 obtain rfl:=bE t;refine aA fun _o u=>aA fun b v=>aA fun i w=>aA fun _o x=>aA fun y z=>aA fun H A=>aA fun B C=>?_
 obtain rfl:=bE C;have q9004:=aG A<|aG z<|aG (cB x)<|aG w<|aG (aN v)<|aG g<|aG (cB u)<|aG q<|aG g<|aG (cB p)<|aG m<|aG (pE j) eE
 let q8005:List Hint:=[.cA k l,.run 1,.val a,.val a,.val f,.val (.int .i64 s),.run 1,.val a,.val f,.cA AV.undef b,.val i,.val i,.val y,.val (.int .i64 B)]
 refine aU (fun c=>?_) (fun c=>?_)
 ·refine aA fun D E=>?_;intro h;obtain rfl:=b9 h;exact dE (hs:=q8005 ++ [.dec true,.fT [1,14] .normal [] D,.run 2]) (by kernel_rfl) (aG (uX n E)<|aG (decide_eq_true c) q9004)
 ·refine aA fun _o F=>?_;intro h;obtain rfl:=b9 h;exact dE (hs:=q8005 ++ [.dec false,.fT [1,14] .normal [] b,.run 2]) (by kernel_rfl) (aG (tC n b F)<|aG (decide_eq_false c) q9004)
def lE (R:Nat)(a:List UInt8):Option (Bool):=
 some true
theorem xK {R:Nat}(n:Nat){a:List UInt8}(b:St){r:Bool}(h:lE R a=some r):
 oE 29 bK R n 154 [1,1,0,1,0,1,0,0,1] [(16,(.str a)),(17,(.bool true))] b .normal [(17,.bool r)] b:=by
 revert h;unfold lE;intro h;obtain rfl:=b9 h;exact aK (hs:=[.aM]) (want:=[17]) (by kernel_rfl) .nil
def iB (R:Nat)(a:List UInt8):Option (Bool):=
 some true
theorem oN {R:Nat}(n:Nat){a:List UInt8}(b:St){r:Bool}(h:iB R a=some r):
 oE 29 bK R n 154 [1,1,0,1,0,1,0,1,1,0,1] [(16,(.str a)),(24,(.bool true))] b .normal [(24,.bool r)] b:=by
 revert h;unfold iB;intro h;obtain rfl:=b9 h;exact aK (hs:=[.aM]) (want:=[24]) (by kernel_rfl) .nil
def gD (R:Nat)(a:List UInt8):Option (Bool):=
 if(a=[45]) then
  some true
 else
  some false
theorem nF {R:Nat}(n:Nat){b:List UInt8}(c:St){r:Bool}(h:gD R b=some r):
 oE 29 bK R n 154 [1,1,0,1,0,1,0,1,1,0,1] [(16,(.str b)),(24,(.bool false))] c .normal [(24,.bool r)] c:=by
 revert h;unfold gD;refine aU (fun a=>?_) (fun a=>?_)
 ·intro h;obtain rfl:=b9 h;exact aK (hs:=[.aM,.dec true,.run 1]) (want:=[24]) (by kernel_rfl) (aG (dM a) eE)
 ·intro h;obtain rfl:=b9 h;exact aK (hs:=[.aM,.dec false,.run 1]) (want:=[24]) (by kernel_rfl) (aG (cL a) eE)
def kD (R : Nat) (a : List UInt8) : Option (Bool) :=
 if(a=[60,62]) then
  some true
 else
  if(a=[60]) then
   some true
  else
   if(a=[60,61]) then
    some true
   else
    if(a=[62]) then
     some true
    else
     if(a=[62,61]) then
      some true
     else
      some false
theorem vC {R : Nat} (n : Nat) {f : List UInt8} (g : St) {r : Bool} (h : kD R f = some r):
 oE 29 bK R n 154 [1,1,0,1,0,1,0,0,1] [(16,(.str f)),(17,(.bool false))] g .normal [(17,.bool r)] g:=by
 revert h;unfold kD;refine aU (fun c=>?_) (fun c=>?_)
 ·intro h;obtain rfl:=b9 h;exact aK (hs:=[.aM,.dec true,.run 1,.aM]) (want:=[17]) (by kernel_rfl) (aG (dM c) eE)
 ·have q9005:=aG (cL c) eE
  let q8006:List Hint:=[.aM,.dec false,.run 1,.aM]
  refine aU (fun a=>?_) (fun a=>?_)
  ·intro h;obtain rfl:=b9 h;exact aK (hs:=q8006 ++ [.dec true,.run 1,.aM]) (want:=[17]) (by kernel_rfl) (aG (dM a) q9005)
  ·let q8007 : List Hint := q8006 ++ [.dec false, .run 1, .aM]
   refine aU (fun d=>?_) (fun d=>?_)
   ·intro h;obtain rfl:=b9 h;exact aK (hs:=q8007 ++ [.dec true,.run 1,.aM]) (want:=[17]) (by kernel_rfl) (aG (dM d)<|aG (cL a) q9005)
   ·have q9006:=aG (cL d)<|aG (cL a) q9005
    refine aU (fun b=>?_) (fun b=>?_)
    ·intro h;obtain rfl:=b9 h;exact aK (hs:=q8007 ++ [.dec false,.run 1,.aM,.dec true,.run 1,.aM]) (want:=[17]) (by kernel_rfl) (aG (dM b) q9006)
    ·refine aU (fun e=>?_) (fun e=>?_)
     ·intro h;obtain rfl:=b9 h;exact aK (hs:=q8007 ++ [.dec false,.run 1,.aM,.dec false,.run 1,.aM,.dec true,.run 1]) (want:=[17]) (by kernel_rfl) (aG (dM e)<|aG (cL b) q9006)
     ·intro h;obtain rfl:=b9 h;exact aK (hs:=q8007 ++ [.dec false,.run 1,.aM,.dec false,.run 1,.aM,.dec false,.run 1]) (want:=[17]) (by kernel_rfl) (aG (cL e)<|aG (cL b) q9006)
def tY (R : Nat) (b : Int) (c : List UInt8) (d : Int) (a : St) : Option (Int × St) :=
 (loadAt C0.P (St.push a (.cells 129 true [(.int .i64 b),(.str c),(.int .i64 d)])) 3 (.ref (St.next a) 0)).bind fun h=>
 (dN .i64 h).bind fun f=>
 if (f = 2) then
  (loadAt C0.P (St.push a (.cells 129 true [(.int .i64 b),(.str c),(.int .i64 d)])) 9 (.ref (St.next a) 1)).bind fun i=>
  (eY i).bind fun g=>
  if(g=[79,82]) then
   some (0,(St.push a (.cells 129 true [(.int .i64 b),(.str c),(.int .i64 d)])))
  else
   if(g=[65,78,68]) then
    some (1,(St.push a (.cells 129 true [(.int .i64 b),(.str c),(.int .i64 d)])))
   else
    some ((-1),(St.push a (.cells 129 true [(.int .i64 b),(.str c),(.int .i64 d)])))
 else
  if (f = 6) then
   (loadAt C0.P (St.push a (.cells 129 true [(.int .i64 b),(.str c),(.int .i64 d)])) 9 (.ref (St.next a) 1)).bind fun j=>
   (eY j).bind fun e=>
   if (e = [61]) then
    (lE R e).bind fun k=>
    if k=true then
     some (3,(St.push a (.cells 129 true [(.int .i64 b),(.str c),(.int .i64 d)])))
    else
     if (e = [43]) then
      (iB R e).bind fun l=>
      if l=true then
       some (4,(St.push a (.cells 129 true [(.int .i64 b),(.str c),(.int .i64 d)])))
      else
       if(e=[42]) then
        some (5,(St.push a (.cells 129 true [(.int .i64 b),(.str c),(.int .i64 d)])))
       else
        some ((-1),(St.push a (.cells 129 true [(.int .i64 b),(.str c),(.int .i64 d)])))
     else
      (gD R e).bind fun m=>
      if m=true then
       some (4,(St.push a (.cells 129 true [(.int .i64 b),(.str c),(.int .i64 d)])))
      else
       if(e=[42]) then
        some (5,(St.push a (.cells 129 true [(.int .i64 b),(.str c),(.int .i64 d)])))
       else
        some ((-1),(St.push a (.cells 129 true [(.int .i64 b),(.str c),(.int .i64 d)])))
   else
    (kD R e).bind fun n=>
    if n=true then
     some (3,(St.push a (.cells 129 true [(.int .i64 b),(.str c),(.int .i64 d)])))
    else
     if (e = [43]) then
      (iB R e).bind fun o=>
      if o=true then
        some (4,(St.push a (.cells 129 true [(.int .i64 b),(.str c),(.int .i64 d)])))
      else
        if(e=[42]) then
         some (5,(St.push a (.cells 129 true [(.int .i64 b),(.str c),(.int .i64 d)])))
        else
         some ((-1),(St.push a (.cells 129 true [(.int .i64 b),(.str c),(.int .i64 d)])))
     else
      (gD R e).bind fun p=>
      if p=true then
        some (4,(St.push a (.cells 129 true [(.int .i64 b),(.str c),(.int .i64 d)])))
      else
        if(e=[42]) then
         some (5,(St.push a (.cells 129 true [(.int .i64 b),(.str c),(.int .i64 d)])))
        else
         some ((-1),(St.push a (.cells 129 true [(.int .i64 b),(.str c),(.int .i64 d)])))
  else
   some ((-1),(St.push a (.cells 129 true [(.int .i64 b),(.str c),(.int .i64 d)])))
theorem wU {R : Nat} (n : Nat) {a : Int} {b : List UInt8} {c : Int} {d : St} {r : Int × St} (h : tY R a b c d = some r):
 aR (aW C0 bK R (n+1)) false 154 [(.agg [(.int .i64 a),(.str b),(.int .i64 c)])] d (.int .i64 r.1) r.2:=by
 revert h;unfold tY;refine aA fun N i=>aA fun f B=>?_
 obtain rfl:=bE B;have q9007:=aG i eE
 let q8008:List Hint:=[.run 3,.val (.int .i64 f)]
 refine aU (fun e=>?_) (fun e=>?_)
 ·refine aA fun O j=>aA fun C D=>?_
  obtain rfl:=cC D;let q8009:List Hint:=q8008 ++ [.dec true,.aM,.run 1,.val (.str C),.aM]
  refine aU (fun g=>?_) (fun g=>?_)
  ·intro h;obtain rfl:=b9 h;exact dE (hs:=q8009 ++ [.dec true,.run 1,.aM,.run 1]) (by kernel_rfl) (aG (dM g)<|aG j<|aG (eG e) q9007)
  ·refine aU (fun k=>?_) (fun k=>?_)
   ·intro h;obtain rfl:=b9 h;exact dE (hs:=q8009 ++ [.dec false,.run 1,.aM,.dec true,.run 1,.aM,.run 1]) (by kernel_rfl) (aG (dM k)<|aG (cL g)<|aG j<|aG (eG e) q9007)
   ·intro h;obtain rfl:=b9 h;exact dE (hs:=q8009 ++ [.dec false,.run 1,.aM,.dec false,.run 1,.aM,.run 1,.val (.int .i64 f),.dec false,.aM,.run 1]) (by kernel_rfl) (aG (dP (show ¬ (f=6) by omega))<|aG i<|aG (cL k)<|aG (cL g)<|aG j<|aG (eG e) q9007)
 ·have q9008:=aG i<|aG (dP e) q9007
  let q8010:List Hint:=q8008 ++ [.dec false,.aM,.run 1,.val (.int .i64 f)]
  refine aU (fun l=>?_) (fun l=>?_)
  ·refine aA fun P E => aA fun F G => ?_
   obtain rfl:=cC G;have q9009:=aG E<|aG (eG l) q9008
   let q8011:List Hint:=q8010 ++ [.dec true,.aM,.run 1,.val (.str F),.aM]
   refine aU (fun m=>?_) (fun m=>?_)
   ·refine aA fun Q H=>?_;have q9010:=aG (xK n (St.push d (.cells 129 true [(.int .i64 a),(.str b),(.int .i64 c)])) H)<|aG (dM m) q9009
    let q8012:List Hint:=q8011 ++ [.dec true,.run 1]
    refine aU (fun o=>?_) (fun o=>?_)
    ·subst o;intro h;obtain rfl:=b9 h;exact dE (hs:=q8012 ++ [.fT [16,17] .normal [(17,(.bool true))] (St.push d (.cells 129 true [(.int .i64 a),(.str b),(.int .i64 c)])),.aM,.run 1]) (by kernel_rfl) (q9010)
    ·obtain rfl:=bF o;let q8013:List Hint:=q8012 ++ [.fT [16,17] .normal [(17,(.bool false))] (St.push d (.cells 129 true [(.int .i64 a),(.str b),(.int .i64 c)])),.aM]
     refine aU (fun p=>?_) (fun p=>?_)
     ·refine aA fun S I=>?_;have q9011:=aG (oN n (St.push d (.cells 129 true [(.int .i64 a),(.str b),(.int .i64 c)])) I)<|aG (dM p) q9010
      refine aU (fun q=>?_) (fun q=>?_)
      ·subst q;intro h;obtain rfl:=b9 h;exact dE (hs:=q8013 ++ [.dec true,.run 1,.fT [16,24] .normal [(24,(.bool true))] (St.push d (.cells 129 true [(.int .i64 a),(.str b),(.int .i64 c)])),.aM,.run 1]) (by kernel_rfl) (q9011)
      ·obtain rfl:=bF q;let q8014:List Hint:=q8013 ++ [.dec true,.run 1,.fT [16,24] .normal [(24,(.bool false))] (St.push d (.cells 129 true [(.int .i64 a),(.str b),(.int .i64 c)])),.aM]
       refine aU (fun s=>?_) (fun s=>?_)
       ·intro h;obtain rfl:=b9 h;exact dE (hs:=q8014 ++ [.dec true,.run 1,.aM,.run 1]) (by kernel_rfl) (aG (dM s) q9011)
       ·intro h;obtain rfl:=b9 h;exact dE (hs:=q8014 ++ [.dec false,.run 1,.aM,.run 1]) (by kernel_rfl) (aG (cL s) q9011)
     ·refine aA fun T J=>?_;have q9012:=aG (nF n (St.push d (.cells 129 true [(.int .i64 a),(.str b),(.int .i64 c)])) J)<|aG (cL p) q9010
      refine aU (fun t=>?_) (fun t=>?_)
      ·subst t;intro h;obtain rfl:=b9 h;exact dE (hs:=q8013 ++ [.dec false,.run 1,.fT [16,24] .normal [(24,(.bool true))] (St.push d (.cells 129 true [(.int .i64 a),(.str b),(.int .i64 c)])),.aM,.run 1]) (by kernel_rfl) (q9012)
      ·obtain rfl:=bF t;let q8015:List Hint:=q8013 ++ [.dec false,.run 1,.fT [16,24] .normal [(24,(.bool false))] (St.push d (.cells 129 true [(.int .i64 a),(.str b),(.int .i64 c)])),.aM]
       refine aU (fun u=>?_) (fun u=>?_)
       ·intro h;obtain rfl:=b9 h;exact dE (hs:=q8015 ++ [.dec true,.run 1,.aM,.run 1]) (by kernel_rfl) (aG (dM u) q9012)
       ·intro h;obtain rfl:=b9 h;exact dE (hs:=q8015 ++ [.dec false,.run 1,.aM,.run 1]) (by kernel_rfl) (aG (cL u) q9012)
   ·refine aA fun U K=>?_;have q9013:=aG (vC n (St.push d (.cells 129 true [(.int .i64 a),(.str b),(.int .i64 c)])) K)<|aG (cL m) q9009
    let q8016:List Hint:=q8011 ++ [.dec false,.run 1]
    refine aU (fun v=>?_) (fun v=>?_)
    ·subst v;intro h;obtain rfl:=b9 h;exact dE (hs:=q8016 ++ [.fT [16,17] .normal [(17,(.bool true))] (St.push d (.cells 129 true [(.int .i64 a),(.str b),(.int .i64 c)])),.aM,.run 1]) (by kernel_rfl) (q9013)
    ·obtain rfl:=bF v;let q8017:List Hint:=q8016 ++ [.fT [16,17] .normal [(17,(.bool false))] (St.push d (.cells 129 true [(.int .i64 a),(.str b),(.int .i64 c)])),.aM]
     refine aU (fun w=>?_) (fun w=>?_)
     ·refine aA fun V L=>?_;have q9014:=aG (oN n (St.push d (.cells 129 true [(.int .i64 a),(.str b),(.int .i64 c)])) L)<|aG (dM w) q9013
      refine aU (fun x=>?_) (fun x=>?_)
      ·subst x;intro h;obtain rfl:=b9 h;exact dE (hs:=q8017 ++ [.dec true,.run 1,.fT [16,24] .normal [(24,(.bool true))] (St.push d (.cells 129 true [(.int .i64 a),(.str b),(.int .i64 c)])),.aM,.run 1]) (by kernel_rfl) (q9014)
      ·obtain rfl:=bF x;let q8018:List Hint:=q8017 ++ [.dec true,.run 1,.fT [16,24] .normal [(24,(.bool false))] (St.push d (.cells 129 true [(.int .i64 a),(.str b),(.int .i64 c)])),.aM]
       refine aU (fun y=>?_) (fun y=>?_)
       ·intro h;obtain rfl:=b9 h;exact dE (hs:=q8018 ++ [.dec true,.run 1,.aM,.run 1]) (by kernel_rfl) (aG (dM y) q9014)
       ·intro h;obtain rfl:=b9 h;exact dE (hs:=q8018 ++ [.dec false,.run 1,.aM,.run 1]) (by kernel_rfl) (aG (cL y) q9014)
     ·refine aA fun W M=>?_;have q9015:=aG (nF n (St.push d (.cells 129 true [(.int .i64 a),(.str b),(.int .i64 c)])) M)<|aG (cL w) q9013
      refine aU (fun z=>?_) (fun z=>?_)
      ·subst z;intro h;obtain rfl:=b9 h;exact dE (hs:=q8017 ++ [.dec false,.run 1,.fT [16,24] .normal [(24,(.bool true))] (St.push d (.cells 129 true [(.int .i64 a),(.str b),(.int .i64 c)])),.aM,.run 1]) (by kernel_rfl) (q9015)
      ·obtain rfl:=bF z;let q8019:List Hint:=q8017 ++ [.dec false,.run 1,.fT [16,24] .normal [(24,(.bool false))] (St.push d (.cells 129 true [(.int .i64 a),(.str b),(.int .i64 c)])),.aM]
       refine aU (fun A=>?_) (fun A=>?_)
       ·intro h;obtain rfl:=b9 h;exact dE (hs:=q8019 ++ [.dec true,.run 1,.aM,.run 1]) (by kernel_rfl) (aG (dM A) q9015)
       ·intro h;obtain rfl:=b9 h;exact dE (hs:=q8019 ++ [.dec false,.run 1,.aM,.run 1]) (by kernel_rfl) (aG (cL A) q9015)
  ·intro h;obtain rfl:=b9 h;exact dE (hs:=q8010 ++ [.dec false,.aM,.run 1]) (by kernel_rfl) (aG (dP l) q9008)
def sZ (R:Nat)(c:Bool)(a:St):Option (Int×Bool×Int×List UInt8×AV×AV×St):=
 (storeAt C0.P (St.push a (.cells 25 true [(.int .i64 0),(.bool false),(.int .i64 0),(.str []),AV.aF,AV.aF])) 25 (.ref (St.next a) 0) (.agg [(.int .i64 1),(.bool c),(.int .i64 0),(.str []),AV.aF,AV.aF])).bind fun b=>
 (loadAt C0.P b 25 (.ref (St.next a) 0)).bind fun d=>
 (aQ d).bind fun(e,f,g,h,i,j)=>
 some (e,f,g,h,i,j,b)
theorem Ba {R:Nat}(n:Nat){a:Bool}{b:St}{r:Int×Bool×Int×List UInt8×AV×AV×St}(h:sZ R a b=some r):
 aR (aW C0 bK R (n+1)) false 72 [(.bool a)] b (.agg [.int .i64 r.1,.bool r.2.1,.int .i64 r.2.2.1,.str r.2.2.2.1,r.2.2.2.2.1,r.2.2.2.2.2.1]) r.2.2.2.2.2.2:=by
 revert h;unfold sZ;refine aA fun c d=>aA fun p e=>aA fun o f=>?_
 obtain⟨g,i,j,k,l,m⟩:=o;obtain rfl:=aO f;intro h;obtain rfl:=b9 h;exact dE (hs:=[.run 3,.cA AV.undef c,.val (bD g i j k l m)]) (by kernel_rfl) (aG e<|aG (aN d) eE)
def yS (R:Nat)(c:Int)(a:St):Option (Int×Bool×Int×List UInt8×AV×AV×St):=
 (storeAt C0.P (St.push a (.cells 25 true [(.int .i64 0),(.bool false),(.int .i64 0),(.str []),AV.aF,AV.aF])) 25 (.ref (St.next a) 0) (.agg [(.int .i64 2),(.bool false),(.int .i64 c),(.str []),AV.aF,AV.aF])).bind fun b=>
 (loadAt C0.P b 25 (.ref (St.next a) 0)).bind fun d=>
 (aQ d).bind fun(e,f,g,h,i,j)=>
 some (e,f,g,h,i,j,b)
theorem H0 {R:Nat}(n:Nat){a:Int}{b:St}{r:Int×Bool×Int×List UInt8×AV×AV×St}(h:yS R a b=some r):
 aR (aW C0 bK R (n+1)) false 35 [(.int .i64 a)] b (.agg [.int .i64 r.1,.bool r.2.1,.int .i64 r.2.2.1,.str r.2.2.2.1,r.2.2.2.2.1,r.2.2.2.2.2.1]) r.2.2.2.2.2.2:=by
 revert h;unfold yS;refine aA fun c d=>aA fun p e=>aA fun o f=>?_
 obtain⟨g,i,j,k,l,m⟩:=o;obtain rfl:=aO f;intro h;obtain rfl:=b9 h;exact dE (hs:=[.run 3,.cA AV.undef c,.val (bD g i j k l m)]) (by kernel_rfl) (aG e<|aG (aN d) eE)
def zD (R:Nat)(c:List UInt8)(a:St):Option (Int×Bool×Int×List UInt8×AV×AV×St):=
 (storeAt C0.P (St.push a (.cells 25 true [(.int .i64 0),(.bool false),(.int .i64 0),(.str []),AV.aF,AV.aF])) 25 (.ref (St.next a) 0) (.agg [(.int .i64 3),(.bool false),(.int .i64 0),(.str c),AV.aF,AV.aF])).bind fun b=>
 (loadAt C0.P b 25 (.ref (St.next a) 0)).bind fun d=>
 (aQ d).bind fun(e,f,g,h,i,j)=>
 some (e,f,g,h,i,j,b)
theorem Gl {R:Nat}(n:Nat){a:List UInt8}{b:St}{r:Int×Bool×Int×List UInt8×AV×AV×St}(h:zD R a b=some r):
 aR (aW C0 bK R (n+1)) false 203 [(.str a)] b (.agg [.int .i64 r.1,.bool r.2.1,.int .i64 r.2.2.1,.str r.2.2.2.1,r.2.2.2.2.1,r.2.2.2.2.2.1]) r.2.2.2.2.2.2:=by
 revert h;unfold zD;refine aA fun c d=>aA fun p e=>aA fun o f=>?_
 obtain⟨g,i,j,k,l,m⟩:=o;obtain rfl:=aO f;intro h;obtain rfl:=b9 h;exact dE (hs:=[.run 3,.cA AV.undef c,.val (bD g i j k l m)]) (by kernel_rfl) (aG e<|aG (aN d) eE)
def tU (R:Nat)(c:List UInt8)(a:St):Option (Int×Bool×Int×List UInt8×AV×AV×St):=
 (storeAt C0.P (St.push a (.cells 25 true [(.int .i64 0),(.bool false),(.int .i64 0),(.str []),AV.aF,AV.aF])) 25 (.ref (St.next a) 0) (.agg [(.int .i64 4),(.bool false),(.int .i64 0),(.str c),AV.aF,AV.aF])).bind fun b=>
 (loadAt C0.P b 25 (.ref (St.next a) 0)).bind fun d=>
 (aQ d).bind fun(e,f,g,h,i,j)=>
 some (e,f,g,h,i,j,b)
theorem F7 {R:Nat}(n:Nat){a:List UInt8}{b:St}{r:Int×Bool×Int×List UInt8×AV×AV×St}(h:tU R a b=some r):
 aR (aW C0 bK R (n+1)) false 204 [(.str a)] b (.agg [.int .i64 r.1,.bool r.2.1,.int .i64 r.2.2.1,.str r.2.2.2.1,r.2.2.2.2.1,r.2.2.2.2.2.1]) r.2.2.2.2.2.2:=by
 revert h;unfold tU;refine aA fun c d=>aA fun p e=>aA fun o f=>?_
 obtain⟨g,i,j,k,l,m⟩:=o;obtain rfl:=aO f;intro h;obtain rfl:=b9 h;exact dE (hs:=[.run 3,.cA AV.undef c,.val (bD g i j k l m)]) (by kernel_rfl) (aG e<|aG (aN d) eE)
def gJ (R : Nat) (b : AV) (a : St) : Option (Int × List UInt8 × Int × Bool × Int × List UInt8 × AV × AV × AV × AV × St) :=
 (aZ b).bind fun _=>
 (shift b 0).bind fun z=>
 (loadAt C0.P (St.push a (.cells 28 true [(.int .i64 0),(.str []),(.int .i64 0),(.bool false),(.int .i64 0),(.str []),AV.aF,AV.aF,AV.aF,AV.aF])) 121 z).bind fun A=>
 (aZ b).bind fun _=>
 (shift b 1).bind fun e=>
 (loadAt C0.P (St.push a (.cells 28 true [(.int .i64 0),(.str []),(.int .i64 0),(.bool false),(.int .i64 0),(.str []),AV.aF,AV.aF,AV.aF,AV.aF])) 3 e).bind fun B=>
 (dN .i64 B).bind fun C=>
 (bA C0.P 121 A (.int .i64 C)).bind fun D=>
 (loadAt C0.P (St.push a (.cells 28 true [(.int .i64 0),(.str []),(.int .i64 0),(.bool false),(.int .i64 0),(.str []),AV.aF,AV.aF,AV.aF,AV.aF])) 129 D).bind fun E=>
 (bU E).bind fun(F,G,H)=>
 (storeAt C0.P (St.push (St.push a (.cells 28 true [(.int .i64 0),(.str []),(.int .i64 0),(.bool false),(.int .i64 0),(.str []),AV.aF,AV.aF,AV.aF,AV.aF])) (.cells 129 true [(.int .i64 0),(.str []),(.int .i64 0)])) 129 (.ref (St.next (St.push a (.cells 28 true [(.int .i64 0),(.str []),(.int .i64 0),(.bool false),(.int .i64 0),(.str []),AV.aF,AV.aF,AV.aF,AV.aF]))) 0) (.agg [(.int .i64 F),(.str G),(.int .i64 H)])).bind fun c=>
 (storeAt C0.P (St.push c (.cells 28 true [(.int .i64 0),(.str []),(.int .i64 0),(.bool false),(.int .i64 0),(.str []),AV.aF,AV.aF,AV.aF,AV.aF])) 28 (.ref (St.next c) 0) (.agg [(.int .i64 1),(.str []),(.int .i64 0),(.bool false),(.int .i64 0),(.str []),AV.aF,AV.aF,AV.aF,AV.aF])).bind fun I=>
 (bW R b [78,85,76,76] I).bind fun(J,f)=>
 if J=true then
  (loadAt C0.P f 28 (.ref (St.next c) 0)).bind fun K=>
  (aD K).bind fun(L,M,N,O,Q,S,T,U,V,W)=>
  (bL R b L M N O Q S T U V W f).bind fun(X,Y,Z,a0,a1,a2,a3,a4,a5,a6,a7)=>
  (storeAt C0.P a7 28 (.ref (St.next a) 0) (.agg [(.int .i64 X),(.str Y),(.int .i64 Z),(.bool a0),(.int .i64 a1),(.str a2),a3,a4,a5,a6])).bind fun h=>
  (loadAt C0.P h 28 (.ref (St.next a) 0)).bind fun a8=>
  (aD a8).bind fun(a9,b0,b1,b2,b3,b4,b5,b6,b7,b8)=>
  some (a9,b0,b1,b2,b3,b4,b5,b6,b7,b8,h)
 else
  (bW R b [84,82,85,69] f).bind fun(b9,i)=>
  if b9=true then
   (sZ R true i).bind fun(c0,c1,c2,c3,c4,c5,c6)=>
   (storeAt C0.P c6 25 (.ref (St.next c) 2) (.agg [(.int .i64 c0),(.bool c1),(.int .i64 c2),(.str c3),c4,c5])).bind fun j=>
   (loadAt C0.P j 28 (.ref (St.next c) 0)).bind fun c7=>
   (aD c7).bind fun(c8,c9,d0,d1,d2,d3,d4,d5,d6,d7)=>
   (bL R b c8 c9 d0 d1 d2 d3 d4 d5 d6 d7 j).bind fun(d8,d9,e0,e1,e2,e3,e4,e5,e6,e7,e8)=>
   (storeAt C0.P e8 28 (.ref (St.next a) 0) (.agg [(.int .i64 d8),(.str d9),(.int .i64 e0),(.bool e1),(.int .i64 e2),(.str e3),e4,e5,e6,e7])).bind fun k=>
   (loadAt C0.P k 28 (.ref (St.next a) 0)).bind fun e9=>
   (aD e9).bind fun(f0,f1,f2,f3,f4,f5,f6,f7,f8,f9)=>
   some (f0,f1,f2,f3,f4,f5,f6,f7,f8,f9,k)
  else
   (bW R b [70,65,76,83,69] i).bind fun(g0,d)=>
   if g0=true then
    (sZ R false d).bind fun(g1,g2,g3,g4,g5,g6,g7)=>
    (storeAt C0.P g7 25 (.ref (St.next c) 2) (.agg [(.int .i64 g1),(.bool g2),(.int .i64 g3),(.str g4),g5,g6])).bind fun l=>
    (loadAt C0.P l 28 (.ref (St.next c) 0)).bind fun g8=>
    (aD g8).bind fun(g9,h0,h1,h2,h3,h4,h5,h6,h7,h8)=>
    (bL R b g9 h0 h1 h2 h3 h4 h5 h6 h7 h8 l).bind fun(h9,i0,i1,i2,i3,i4,i5,i6,i7,i9,j0)=>
    (storeAt C0.P j0 28 (.ref (St.next a) 0) (.agg [(.int .i64 h9),(.str i0),(.int .i64 i1),(.bool i2),(.int .i64 i3),(.str i4),i5,i6,i7,i9])).bind fun m=>
    (loadAt C0.P m 28 (.ref (St.next a) 0)).bind fun j1=>
    (aD j1).bind fun(j2,j3,j4,j5,j6,j7,j8,j9,k0,k1)=>
    some (j2,j3,j4,j5,j6,j7,j8,j9,k0,k1,m)
   else
    (aZ b).bind fun _=>
    (shift b 5).bind fun k2=>
    (loadAt C0.P d 42 k2).bind fun k3=>
    (dN .i64 k3).bind fun k4=>
    if (k4 = 0) then
     (loadAt C0.P d 3 (.ref (St.next (St.push a (.cells 28 true [(.int .i64 0),(.str []),(.int .i64 0),(.bool false),(.int .i64 0),(.str []),AV.aF,AV.aF,AV.aF,AV.aF]))) 0)).bind fun k5=>
     (dN .i64 k5).bind fun g=>
     if(g=3) then
      (loadAt C0.P d 9 (.ref (St.next (St.push a (.cells 28 true [(.int .i64 0),(.str []),(.int .i64 0),(.bool false),(.int .i64 0),(.str []),AV.aF,AV.aF,AV.aF,AV.aF]))) 1)).bind fun k6=>
      (eY k6).bind fun k7=>
      (QF R k7 10 64).bind fun(k8,C5)=>
      (yS R k8 d).bind fun(k9,l0,l1,l2,l3,l4,l5)=>
      (storeAt C0.P l5 25 (.ref (St.next c) 2) (.agg [(.int .i64 k9),(.bool l0),(.int .i64 l1),(.str l2),l3,l4])).bind fun n=>
      (aZ b).bind fun _=>
      (loadAt C0.P n 3 e).bind fun l6=>
      (dN .i64 l6).bind fun l7=>
      (aZ b).bind fun _=>
      (storeAt C0.P n 3 e (.int .i64 (IntKind.wrap .i64 (l7+1)))).bind fun o=>
      (loadAt C0.P o 28 (.ref (St.next c) 0)).bind fun l8=>
      (aD l8).bind fun(l9,m0,m1,m2,m3,m4,m5,m6,m7,m8)=>
      (bL R b l9 m0 m1 m2 m3 m4 m5 m6 m7 m8 o).bind fun(m9,n0,n1,n2,n3,n4,n5,n6,n7,n8,n9)=>
      (storeAt C0.P n9 28 (.ref (St.next a) 0) (.agg [(.int .i64 m9),(.str n0),(.int .i64 n1),(.bool n2),(.int .i64 n3),(.str n4),n5,n6,n7,n8])).bind fun p=>
      (loadAt C0.P p 28 (.ref (St.next a) 0)).bind fun o0=>
      (aD o0).bind fun(o1,o2,o3,o4,o5,o6,o7,o8,o9,p0)=>
      some (o1,o2,o3,o4,o5,o6,o7,o8,o9,p0,p)
     else
      if(g=4) then
        (loadAt C0.P d 9 (.ref (St.next (St.push a (.cells 28 true [(.int .i64 0),(.str []),(.int .i64 0),(.bool false),(.int .i64 0),(.str []),AV.aF,AV.aF,AV.aF,AV.aF]))) 1)).bind fun p1=>
        (eY p1).bind fun p2=>
        (zD R p2 d).bind fun(p3,p4,p5,p6,p7,p8,p9)=>
        (storeAt C0.P p9 25 (.ref (St.next c) 2) (.agg [(.int .i64 p3),(.bool p4),(.int .i64 p5),(.str p6),p7,p8])).bind fun q=>
        (aZ b).bind fun _=>
        (loadAt C0.P q 3 e).bind fun q0=>
        (dN .i64 q0).bind fun q1=>
        (aZ b).bind fun _=>
        (storeAt C0.P q 3 e (.int .i64 (IntKind.wrap .i64 (q1+1)))).bind fun r=>
        (loadAt C0.P r 28 (.ref (St.next c) 0)).bind fun q2=>
        (aD q2).bind fun(q3,q4,q5,q6,q7,q8,q9,r0,r1,r2)=>
        (bL R b q3 q4 q5 q6 q7 q8 q9 r0 r1 r2 r).bind fun(r3,r4,r5,r6,r7,r8,r9,s0,s1,s2,s3)=>
        (storeAt C0.P s3 28 (.ref (St.next a) 0) (.agg [(.int .i64 r3),(.str r4),(.int .i64 r5),(.bool r6),(.int .i64 r7),(.str r8),r9,s0,s1,s2])).bind fun s=>
        (loadAt C0.P s 28 (.ref (St.next a) 0)).bind fun s4=>
        (aD s4).bind fun(s5,s6,s7,s8,s9,t0,t1,t2,t3,t4)=>
        some (s5,s6,s7,s8,s9,t0,t1,t2,t3,t4,s)
      else
        if(g=5) then
        (loadAt C0.P d 9 (.ref (St.next (St.push a (.cells 28 true [(.int .i64 0),(.str []),(.int .i64 0),(.bool false),(.int .i64 0),(.str []),AV.aF,AV.aF,AV.aF,AV.aF]))) 1)).bind fun t5=>
        (eY t5).bind fun t6=>
        (tU R t6 d).bind fun(t7,t8,t9,u0,u1,u2,u3)=>
        (storeAt C0.P u3 25 (.ref (St.next c) 2) (.agg [(.int .i64 t7),(.bool t8),(.int .i64 t9),(.str u0),u1,u2])).bind fun t=>
        (aZ b).bind fun _=>
        (loadAt C0.P t 3 e).bind fun u4=>
        (dN .i64 u4).bind fun u5=>
        (aZ b).bind fun _=>
        (storeAt C0.P t 3 e (.int .i64 (IntKind.wrap .i64 (u5+1)))).bind fun u=>
        (loadAt C0.P u 28 (.ref (St.next c) 0)).bind fun u6=>
        (aD u6).bind fun(u7,u9,v0,v1,v2,v3,v4,v5,v6,v7)=>
        (bL R b u7 u9 v0 v1 v2 v3 v4 v5 v6 v7 u).bind fun(v8,v9,w0,w1,w2,w3,w4,w5,w6,w7,w8)=>
        (storeAt C0.P w8 28 (.ref (St.next a) 0) (.agg [(.int .i64 v8),(.str v9),(.int .i64 w0),(.bool w1),(.int .i64 w2),(.str w3),w4,w5,w6,w7])).bind fun v=>
        (loadAt C0.P v 28 (.ref (St.next a) 0)).bind fun w9=>
        (aD w9).bind fun(x0,x1,x2,x3,x4,x5,x6,x7,x8,x9)=>
        some (x0,x1,x2,x3,x4,x5,x6,x7,x8,x9,v)
        else
        (bV R b 120 d).bind fun w=>
        (loadAt C0.P w 28 (.ref (St.next c) 0)).bind fun y0=>
        (aD y0).bind fun(y1,y2,y3,y4,y5,y6,y7,y8,y9,z0)=>
        (storeAt C0.P w 28 (.ref (St.next a) 0) (.agg [(.int .i64 y1),(.str y2),(.int .i64 y3),(.bool y4),(.int .i64 y5),(.str y6),y7,y8,y9,z0])).bind fun x=>
        (loadAt C0.P x 28 (.ref (St.next a) 0)).bind fun z1=>
        (aD z1).bind fun(z2,z3,z4,z5,z6,z7,z8,z9,A0,A1)=>
        some (z2,z3,z4,z5,z6,z7,z8,z9,A0,A1,x)
    else
     (loadAt C0.P d 28 (.ref (St.next c) 0)).bind fun A2=>
     (aD A2).bind fun(A3,A4,A5,A6,A7,A8,A9,B0,B1,B2)=>
     (storeAt C0.P d 28 (.ref (St.next a) 0) (.agg [(.int .i64 A3),(.str A4),(.int .i64 A5),(.bool A6),(.int .i64 A7),(.str A8),A9,B0,B1,B2])).bind fun y=>
     (loadAt C0.P y 28 (.ref (St.next a) 0)).bind fun B3=>
     (aD B3).bind fun(B4,B5,B6,B7,B8,B9,C1,C2,C3,C4)=>
     some (B4,B5,B6,B7,B8,B9,C1,C2,C3,C4,y)
theorem pS {R : Nat} (n : Nat) {a : AV} {q : St} {r : Int × List UInt8 × Int × Bool × Int × List UInt8 × AV × AV × AV × AV × St} (h : gJ R a q = some r):
 aR (aW C0 bK R (n+3)) false 179 [a] q (.agg [.int .i64 r.1,.str r.2.1,.int .i64 r.2.2.1,.bool r.2.2.2.1,.int .i64 r.2.2.2.2.1,.str r.2.2.2.2.2.1,r.2.2.2.2.2.2.1,r.2.2.2.2.2.2.2.1,r.2.2.2.2.2.2.2.2.1,r.2.2.2.2.2.2.2.2.2.1]) r.2.2.2.2.2.2.2.2.2.2:=by
 revert h;unfold gJ;refine aA fun _o u=>aA fun v w=>aA fun x y=>aA fun _o z=>aA fun b c=>aA fun L1 A=>aA fun B C=>?_
 obtain rfl:=bE C;refine aA fun D E=>aA fun L2 F=>aA fun o G=>?_
 obtain⟨H,I,J⟩:=o;obtain rfl:=bR G;refine aA fun K L=>aA fun M N=>aA fun o O=>?_
 obtain⟨L3,s⟩:=o;have q9016:=aG (bM n O)<|aG (aN N)<|aG (aN L)<|aG F<|aG E<|aG A<|aG c<|aG (cB z)<|aG y<|aG w<|aG (cB u) eE
 let q8020:List Hint:=[.run 2,.val a,.val v,.val x,.run 1,.val a,.val b,.val (.int .i64 B),.val D,.val (nU H I J),.run 1,.cA AV.undef K,.run 2,.cA AV.undef M,.aM,.run 1]
 refine aU (fun j=>?_) (fun j=>?_)
 ·subst j;refine aA fun L4 P=>aA fun o Q=>?_
  obtain⟨S,T,U,V,W,X,Y,Z,a0,a1⟩:=o;obtain rfl:=aC Q;refine aA fun o a2=>?_;obtain⟨a3,a4,a5,a6,a7,a8,a9,b0,b1,b2,b3⟩:=o;refine aA fun b4 b5=>aA fun L5 b6=>aA fun o b7=>?_
  obtain⟨b8,c0,c1,c2,c3,c4,c5,c6,c7,c8⟩:=o;obtain rfl:=aC b7;intro h;obtain rfl:=b9 h;exact dE (hs:=q8020 ++ [.call (.bool true) s,.run 1,.aM,.run 1,.val (aJ S T U V W X Y Z a0 a1),.call (aJ a3 a4 a5 a6 a7 a8 a9 b0 b1 b2) b3,.cA AV.undef b4,.val (aJ b8 c0 c1 c2 c3 c4 c5 c6 c7 c8)]) (by kernel_rfl) (aG b6<|aG (aN b5)<|aG (bO n a2)<|aG P q9016)
 ·obtain rfl:=bF j;refine aA fun o c9=>?_;obtain⟨L6,t⟩:=o;have q9017:=aG (bM n c9) q9016
  let q8021:List Hint:=q8020 ++ [.call (.bool false) s,.run 1,.aM,.run 1]
  refine aU (fun k=>?_) (fun k=>?_)
  ·subst k;refine aA fun o d0=>?_;obtain⟨d1,d2,d3,d4,d5,d6,d7⟩:=o;refine aA fun d8 d9=>aA fun L7 e0=>aA fun o e1=>?_
   obtain⟨e2,e3,e4,e5,e6,e7,e8,e9,f0,f1⟩:=o;obtain rfl:=aC e1;refine aA fun o f2=>?_;obtain⟨f3,f4,f5,f6,f7,f8,f9,g0,g1,g2,g3⟩:=o;refine aA fun g4 g5=>aA fun L8 g6=>aA fun o g7=>?_
   obtain⟨g8,g9,h0,h1,h2,h3,h4,h5,h6,h7⟩:=o;obtain rfl:=aC g7;intro h;obtain rfl:=b9 h;exact dE (hs:=q8021 ++ [.call (.bool true) t,.run 1,.aM,.call (bD d1 d2 d3 d4 d5 d6) d7,.run 1,.cA AV.undef d8,.run 1,.val (aJ e2 e3 e4 e5 e6 e7 e8 e9 f0 f1),.call (aJ f3 f4 f5 f6 f7 f8 f9 g0 g1 g2) g3,.cA AV.undef g4,.val (aJ g8 g9 h0 h1 h2 h3 h4 h5 h6 h7)]) (by kernel_rfl) (aG g6<|aG (aN g5)<|aG (bO n f2)<|aG e0<|aG (aN d9)<|aG (Ba (n+1) d0) q9017)
  ·obtain rfl:=bF k;refine aA fun o h8=>?_;obtain⟨L9,f⟩:=o;have q9018:=aG (bM n h8) q9017
   let q8022:List Hint:=q8021 ++ [.call (.bool false) t,.run 1,.aM,.run 1]
   refine aU (fun l=>?_) (fun l=>?_)
   ·subst l;refine aA fun o h9=>?_;obtain⟨i0,i1,i2,i3,i4,i5,i6⟩:=o;refine aA fun i7 i9=>aA fun M0 j0=>aA fun o j1=>?_
    obtain⟨j2,j3,j4,j5,j6,j7,j8,j9,k0,k1⟩:=o;obtain rfl:=aC j1;refine aA fun o k2=>?_;obtain⟨k3,k4,k5,k6,k7,k8,k9,l0,l1,l2,l3⟩:=o;refine aA fun l4 l5=>aA fun M1 l6=>aA fun o l7=>?_
    obtain⟨l8,l9,m0,m1,m2,m3,m4,m5,m6,m7⟩:=o;obtain rfl:=aC l7;intro h;obtain rfl:=b9 h;exact dE (hs:=q8022 ++ [.call (.bool true) f,.run 1,.aM,.call (bD i0 i1 i2 i3 i4 i5) i6,.run 1,.cA AV.undef i7,.run 1,.val (aJ j2 j3 j4 j5 j6 j7 j8 j9 k0 k1),.call (aJ k3 k4 k5 k6 k7 k8 k9 l0 l1 l2) l3,.cA AV.undef l4,.val (aJ l8 l9 m0 m1 m2 m3 m4 m5 m6 m7)]) (by kernel_rfl) (aG l6<|aG (aN l5)<|aG (bO n k2)<|aG j0<|aG (aN i9)<|aG (Ba (n+1) h9) q9018)
   ·obtain rfl:=bF l;refine aA fun _o m8=>aA fun m9 n0=>aA fun M2 n1=>aA fun n2 n3=>?_
    obtain rfl:=bE n3;have q9019:=aG n1<|aG n0<|aG (cB m8) q9018
    let q8023:List Hint:=q8022 ++ [.call (.bool false) f,.run 1,.aM,.run 1,.val a,.val m9,.val (.int .i64 n2)]
    refine aU (fun m=>?_) (fun m=>?_)
    ·refine aA fun M3 d=>aA fun g n4=>?_
     obtain rfl:=bE n4;have q9020:=aG d<|aG (Ax m) q9019
     let q8024:List Hint:=q8023 ++ [.dec false,.run 1,.aM,.run 1,.val (.int .i64 g)]
     refine aU (fun e=>?_) (fun e=>?_)
     ·refine aA fun M4 n5=>aA fun n6 n7=>?_
      obtain rfl:=cC n7;refine aA fun o n8=>?_;obtain⟨n9,o0⟩:=o;refine aA fun o o1=>?_;obtain⟨o2,o3,o4,o5,o6,o7,o8⟩:=o;refine aA fun o9 p0=>aA fun _o p1=>aA fun M5 p2=>aA fun p3 p4=>?_
      obtain rfl:=bE p4;refine aA fun _o p5=>aA fun p6 p7=>aA fun M6 p8=>aA fun o p9=>?_
      obtain⟨q0,q1,q2,q3,q4,q5,q6,q7,q8,q9⟩:=o;obtain rfl:=aC p9;refine aA fun o r0=>?_;obtain⟨r1,r2,r3,r4,r5,r6,r7,r8,r9,s0,s1⟩:=o;refine aA fun s2 s3=>aA fun M7 s4=>aA fun o s5=>?_
      obtain⟨s6,s7,s8,s9,t0,t1,t2,t3,t4,t5⟩:=o;obtain rfl:=aC s5;intro h;obtain rfl:=b9 h;exact dE (hs:=q8024 ++ [.dec true,.run 1,.aM,.run 1,.val (.str n6),.call (.tuple [(.int .i64 n9),o0]) f,.run 6,.call (bD o2 o3 o4 o5 o6 o7) o8,.run 1,.cA AV.undef o9,.run 1,.val a,.val b,.val (.int .i64 p3),.run 1,.val a,.val b,.cA AV.undef p6,.run 1,.val (aJ q0 q1 q2 q3 q4 q5 q6 q7 q8 q9),.call (aJ r1 r2 r3 r4 r5 r6 r7 r8 r9 s0) s1,.cA AV.undef s2,.val (aJ s6 s7 s8 s9 t0 t1 t2 t3 t4 t5)]) (by kernel_rfl) (aG s4<|aG (aN s3)<|aG (bO n r0)<|aG p8<|aG (aN p7)<|aG c<|aG (cB p5)<|aG p2<|aG c<|aG (cB p1)<|aG (aN p0)<|aG (H0 (n+1) o1)<|aG (P5 (n+1) f n8)<|aG n5<|aG (eG e) q9020)
     ·let q8025 : List Hint := q8024 ++ [.dec false, .run 1, .aM, .run 1, .val (.int .i64 g)]
      refine aU (fun i=>?_) (fun i=>?_)
      ·refine aA fun M8 t6=>aA fun t7 t8=>?_
       obtain rfl:=cC t8;refine aA fun o t9=>?_;obtain⟨u0,u1,u2,u3,u4,u5,u6⟩:=o;refine aA fun u7 u9=>aA fun _o v0=>aA fun M9 v1=>aA fun v2 v3=>?_
       obtain rfl:=bE v3;refine aA fun _o v4=>aA fun v5 v6=>aA fun N0 v7=>aA fun o v8=>?_
       obtain⟨v9,w0,w1,w2,w3,w4,w5,w6,w7,w8⟩:=o;obtain rfl:=aC v8;refine aA fun o w9=>?_;obtain⟨x0,x1,x2,x3,x4,x5,x6,x7,x8,x9,y0⟩:=o;refine aA fun y1 y2=>aA fun N1 y3=>aA fun o y4=>?_
       obtain⟨y5,y6,y7,y8,y9,z0,z1,z2,z3,z4⟩:=o;obtain rfl:=aC y4;intro h;obtain rfl:=b9 h;exact dE (hs:=q8025 ++ [.dec true,.run 1,.aM,.run 1,.val (.str t7),.call (bD u0 u1 u2 u3 u4 u5) u6,.run 1,.cA AV.undef u7,.run 1,.val a,.val b,.val (.int .i64 v2),.run 1,.val a,.val b,.cA AV.undef v5,.run 1,.val (aJ v9 w0 w1 w2 w3 w4 w5 w6 w7 w8),.call (aJ x0 x1 x2 x3 x4 x5 x6 x7 x8 x9) y0,.cA AV.undef y1,.val (aJ y5 y6 y7 y8 y9 z0 z1 z2 z3 z4)]) (by kernel_rfl) (aG y3<|aG (aN y2)<|aG (bO n w9)<|aG v7<|aG (aN v6)<|aG c<|aG (cB v4)<|aG v1<|aG c<|aG (cB v0)<|aG (aN u9)<|aG (Gl (n+1) t9)<|aG t6<|aG (eG i)<|aG d<|aG (dP e) q9020)
      ·refine aU (fun p=>?_) (fun p=>?_)
       ·refine aA fun N2 z5=>aA fun z6 z7=>?_
        obtain rfl:=cC z7;refine aA fun o z8=>?_;obtain⟨z9,A0,A1,A2,A3,A4,A5⟩:=o;refine aA fun A6 A7=>aA fun _o A8=>aA fun N3 A9=>aA fun B0 B1=>?_
        obtain rfl:=bE B1;refine aA fun _o B2=>aA fun B3 B4=>aA fun N4 B5=>aA fun o B6=>?_
        obtain⟨B7,B8,B9,C1,C2,C3,C4,C5,C6,C7⟩:=o;obtain rfl:=aC B6;refine aA fun o C8=>?_;obtain⟨C9,D0,D1,D2,D3,D4,D6,D7,D8,D9,E0⟩:=o;refine aA fun E1 E2=>aA fun N5 E3=>aA fun o E4=>?_
        obtain⟨E5,E6,E7,E8,E9,F0,F1,F2,F3,F4⟩:=o;obtain rfl:=aC E4;intro h;obtain rfl:=b9 h;exact dE (hs:=q8025 ++ [.dec false,.run 1,.aM,.run 1,.val (.int .i64 g),.dec true,.run 1,.aM,.run 1,.val (.str z6),.call (bD z9 A0 A1 A2 A3 A4) A5,.run 1,.cA AV.undef A6,.run 1,.val a,.val b,.val (.int .i64 B0),.run 1,.val a,.val b,.cA AV.undef B3,.run 1,.val (aJ B7 B8 B9 C1 C2 C3 C4 C5 C6 C7),.call (aJ C9 D0 D1 D2 D3 D4 D6 D7 D8 D9) E0,.cA AV.undef E1,.val (aJ E5 E6 E7 E8 E9 F0 F1 F2 F3 F4)]) (by kernel_rfl) (aG E3<|aG (aN E2)<|aG (bO n C8)<|aG B5<|aG (aN B4)<|aG c<|aG (cB B2)<|aG A9<|aG c<|aG (cB A8)<|aG (aN A7)<|aG (F7 (n+1) z8)<|aG z5<|aG (eG p)<|aG d<|aG (dP i)<|aG d<|aG (dP e) q9020)
       ·refine aA fun F5 F6=>aA fun N6 F8=>aA fun o F9=>?_
        obtain⟨G0,G1,G2,G3,G4,G5,G6,G7,G8,G9⟩:=o;obtain rfl:=aC F9;refine aA fun H1 H2=>aA fun N7 H3=>aA fun o H4=>?_
        obtain⟨H5,H6,H7,H8,H9,I0,I1,I2,I3,I4⟩:=o;obtain rfl:=aC H4;intro h;obtain rfl:=b9 h;exact dE (hs:=q8025 ++ [.dec false,.run 1,.aM,.run 1,.val (.int .i64 g),.dec false,.run 1,.aM,.run 1,.call (.tuple []) F5,.val (aJ G0 G1 G2 G3 G4 G5 G6 G7 G8 G9),.cA AV.undef H1,.val (aJ H5 H6 H7 H8 H9 I0 I1 I2 I3 I4)]) (by kernel_rfl) (aG H3<|aG (aN H2)<|aG F8<|aG (cK (n+1) F6)<|aG (dP p)<|aG d<|aG (dP i)<|aG d<|aG (dP e) q9020)
    ·refine aA fun N8 I5=>aA fun o I6=>?_
     obtain⟨I7,I8,I9,J0,J1,J2,J3,J4,J5,J6⟩:=o;obtain rfl:=aC I6;refine aA fun J7 J8=>aA fun N9 J9=>aA fun o K0=>?_
     obtain⟨K1,K2,K3,K4,K5,K6,K7,K8,K9,L0⟩:=o;obtain rfl:=aC K0;intro h;obtain rfl:=b9 h;exact dE (hs:=q8023 ++ [.dec true,.run 1,.aM,.val (aJ I7 I8 I9 J0 J1 J2 J3 J4 J5 J6),.cA AV.undef J7,.val (aJ K1 K2 K3 K4 K5 K6 K7 K8 K9 L0)]) (by kernel_rfl) (aG J9<|aG (aN J8)<|aG I5<|aG (D5 m) q9019)
structure dF where
 n:Nat
 f124:AV→Int→St→Option (Int×List UInt8×Int×Bool×Int×List UInt8×AV×AV×AV×AV×St)
 f153:AV→St→Option (Int×List UInt8×Int×Bool×Int×List UInt8×AV×AV×AV×AV×St)
 f152:AV→St→Option (Int×List UInt8×Int×Bool×Int×List UInt8×AV×AV×AV×AV×St)
def dF.ok (R:dF)(n:Nat):Prop:=(∀ m,n≤m→ ∀(a0:AV) (a1:Int) (st:St) (r:Int×List UInt8×Int×Bool×Int×List UInt8×AV×AV×AV×AV×St),R.f124 a0 a1 st=some r→aR (aW C0 bK R.n m) false 124 [a0,(.int .i64 a1)] st (.agg [.int .i64 r.1,.str r.2.1,.int .i64 r.2.2.1,.bool r.2.2.2.1,.int .i64 r.2.2.2.2.1,.str r.2.2.2.2.2.1,r.2.2.2.2.2.2.1,r.2.2.2.2.2.2.2.1,r.2.2.2.2.2.2.2.2.1,r.2.2.2.2.2.2.2.2.2.1]) r.2.2.2.2.2.2.2.2.2.2)∧(∀ m,n≤m→ ∀(a0:AV) (st:St) (r:Int×List UInt8×Int×Bool×Int×List UInt8×AV×AV×AV×AV×St),R.f153 a0 st=some r→aR (aW C0 bK R.n m) false 153 [a0] st (.agg [.int .i64 r.1,.str r.2.1,.int .i64 r.2.2.1,.bool r.2.2.2.1,.int .i64 r.2.2.2.2.1,.str r.2.2.2.2.2.1,r.2.2.2.2.2.2.1,r.2.2.2.2.2.2.2.1,r.2.2.2.2.2.2.2.2.1,r.2.2.2.2.2.2.2.2.2.1]) r.2.2.2.2.2.2.2.2.2.2)∧(∀ m,n≤m→ ∀(a0:AV) (st:St) (r:Int×List UInt8×Int×Bool×Int×List UInt8×AV×AV×AV×AV×St),R.f152 a0 st=some r→aR (aW C0 bK R.n m) false 152 [a0] st (.agg [.int .i64 r.1,.str r.2.1,.int .i64 r.2.2.1,.bool r.2.2.2.1,.int .i64 r.2.2.2.2.1,.str r.2.2.2.2.2.1,r.2.2.2.2.2.2.1,r.2.2.2.2.2.2.2.1,r.2.2.2.2.2.2.2.2.1,r.2.2.2.2.2.2.2.2.2.1]) r.2.2.2.2.2.2.2.2.2.2)
theorem dF.ok.DM {R:dF}{n:Nat}(h:R.ok n):(∀ m,n≤m→ ∀(a0:AV) (a1:Int) (st:St) (r:Int×List UInt8×Int×Bool×Int×List UInt8×AV×AV×AV×AV×St),R.f124 a0 a1 st=some r→aR (aW C0 bK R.n m) false 124 [a0,(.int .i64 a1)] st (.agg [.int .i64 r.1,.str r.2.1,.int .i64 r.2.2.1,.bool r.2.2.2.1,.int .i64 r.2.2.2.2.1,.str r.2.2.2.2.2.1,r.2.2.2.2.2.2.1,r.2.2.2.2.2.2.2.1,r.2.2.2.2.2.2.2.2.1,r.2.2.2.2.2.2.2.2.2.1]) r.2.2.2.2.2.2.2.2.2.2):=h.1
theorem dF.ok.Hy {R:dF}{n:Nat}(h:R.ok n):(∀ m,n≤m→ ∀(a0:AV) (st:St) (r:Int×List UInt8×Int×Bool×Int×List UInt8×AV×AV×AV×AV×St),R.f153 a0 st=some r→aR (aW C0 bK R.n m) false 153 [a0] st (.agg [.int .i64 r.1,.str r.2.1,.int .i64 r.2.2.1,.bool r.2.2.2.1,.int .i64 r.2.2.2.2.1,.str r.2.2.2.2.2.1,r.2.2.2.2.2.2.1,r.2.2.2.2.2.2.2.1,r.2.2.2.2.2.2.2.2.1,r.2.2.2.2.2.2.2.2.2.1]) r.2.2.2.2.2.2.2.2.2.2):=h.2.1
theorem dF.ok.DI {R:dF}{n:Nat}(h:R.ok n):(∀ m,n≤m→ ∀(a0:AV) (st:St) (r:Int×List UInt8×Int×Bool×Int×List UInt8×AV×AV×AV×AV×St),R.f152 a0 st=some r→aR (aW C0 bK R.n m) false 152 [a0] st (.agg [.int .i64 r.1,.str r.2.1,.int .i64 r.2.2.1,.bool r.2.2.2.1,.int .i64 r.2.2.2.2.1,.str r.2.2.2.2.2.1,r.2.2.2.2.2.2.1,r.2.2.2.2.2.2.2.1,r.2.2.2.2.2.2.2.2.1,r.2.2.2.2.2.2.2.2.2.1]) r.2.2.2.2.2.2.2.2.2.2):=h.2.2
theorem dF.ok.mono {R:dF}{n m:Nat}(h:R.ok n)(hn:n≤m):R.ok m:=⟨fun k hk=>h.DM k (Nat.le_trans hn hk),fun k hk=>h.Hy k (Nat.le_trans hn hk),fun k hk=>h.DI k (Nat.le_trans hn hk)⟩
def eB (R : dF) (a : AV) (d : Int) (g : Nat) (c : Nat) : Nat → St → Option ((St) ⊕ (St))
 | 0,_=>none
 | r + 1, b =>
   (aZ a).bind fun _=>
   (shift a 5).bind fun m=>
   (loadAt C0.P b 42 m).bind fun o=>
   (dN .i64 o).bind fun p=>
   if (p = 0) then
    (aZ a).bind fun _=>
    (shift a 0).bind fun q=>
    (loadAt C0.P b 121 q).bind fun s=>
    (aZ a).bind fun _=>
    (shift a 1).bind fun h=>
    (loadAt C0.P b 3 h).bind fun t=>
    (dN .i64 t).bind fun u=>
    (bA C0.P 121 s (.int .i64 u)).bind fun v=>
    (loadAt C0.P b 129 v).bind fun w=>
    (bU w).bind fun(x,y,z)=>
    (storeAt C0.P (St.push b (.cells 129 true [(.int .i64 0),(.str []),(.int .i64 0)])) 129 (.ref (St.next b) 0) (.agg [(.int .i64 x),(.str y),(.int .i64 z)])).bind fun k=>
    (loadAt C0.P k 129 (.ref (St.next b) 0)).bind fun A=>
    (bU A).bind fun(B,C,D)=>
    (tY R.n B C D k).bind fun(E,e)=>
    if(E=d) then
     (aZ a).bind fun _=>
     (loadAt C0.P e 3 h).bind fun F=>
     (dN .i64 F).bind fun G=>
     (aZ a).bind fun _=>
     (storeAt C0.P e 3 h (.int .i64 (IntKind.wrap .i64 (G+1)))).bind fun H=>
     (R.f124 a (IntKind.wrap .i64 (d+1)) H).bind fun(I,J,K,L,M,N,O,Q,S,T,i)=>
     (storeAt C0.P (St.push i (.cells 28 true [(.int .i64 0),(.str []),(.int .i64 0),(.bool false),(.int .i64 0),(.str []),AV.aF,AV.aF,AV.aF,AV.aF])) 28 (.ref (St.next i) 0) (.agg [(.int .i64 I),(.str J),(.int .i64 K),(.bool L),(.int .i64 M),(.str N),O,Q,S,T])).bind fun f=>
     (loadAt C0.P f 9 (.ref (St.next b) 1)).bind fun U=>
     (eY U).bind fun V=>
     (loadAt C0.P f 28 (.ref c 0)).bind fun W=>
     (aD W).bind fun(X,Y,Z,a0,a1,a2,a3,a4,a5,a6)=>
     (loadAt C0.P f 28 (.ref (St.next i) 0)).bind fun a7=>
     (aD a7).bind fun(a8,a9,b0,b1,b2,b3,b4,b5,b6,b7)=>
     (eV (aY C0.P (C0.cQ 124) 26 2 [(0,(.agg [(.int .i64 X),(.str Y),(.int .i64 Z),(.bool a0),(.int .i64 a1),(.str a2),a3,a4,a5,a6])),(1,(.agg [(.int .i64 a8),(.str a9),(.int .i64 b0),(.bool b1),(.int .i64 b2),(.str b3),b4,b5,b6,b7]))]) f).bind fun(l,b8)=>
     (Ar l).bind fun _=>
     (bL R.n a 6 V 0 false 0 [] AV.aF AV.aF l AV.aF b8).bind fun(b9,c0,c1,c2,c3,c4,c5,c6,c7,c8,c9)=>
     (storeAt C0.P c9 28 (.ref c 0) (.agg [(.int .i64 b9),(.str c0),(.int .i64 c1),(.bool c2),(.int .i64 c3),(.str c4),c5,c6,c7,c8])).bind fun j=>
     if(d=3) then
      (loadAt C0.P j 28 (.ref c 0)).bind fun d0=>
      (aD d0).bind fun(d1,d2,d3,d4,d5,d6,d7,d8,d9,e0)=>
      (storeAt C0.P j 28 (.ref g 0) (.agg [(.int .i64 d1),(.str d2),(.int .i64 d3),(.bool d4),(.int .i64 d5),(.str d6),d7,d8,d9,e0])).bind fun e1=>
      some (.inl e1)
     else
      eB R a d g c r j
    else
     (loadAt C0.P e 28 (.ref c 0)).bind fun e2=>
     (aD e2).bind fun(e3,e4,e5,e6,e7,e8,e9,f0,f1,f2)=>
     (storeAt C0.P e 28 (.ref g 0) (.agg [(.int .i64 e3),(.str e4),(.int .i64 e5),(.bool e6),(.int .i64 e7),(.str e8),e9,f0,f1,f2])).bind fun f3=>
     some (.inl f3)
   else
    some (.inr b)
def jD (o:(St) ⊕ (St)):cE×List (Nat×AV)×St:=match o with
 | .inl a0=>(.ret,[],a0)
 | .inr a0=>((.exit 0),[],a0)
theorem mL (R : dF) (n : Nat) (hR : R.ok n) (a : AV) (f : Int) (V : Nat) (W : Nat) : ∀ (r : Nat) (g : St) (o : (St) ⊕ (St)), eB R a f V W r g = some o →
 jL 63 (jA (fun fr k=>cZ C0 (aW C0 bK R.n (n+2)) 124 R.n none (dA C0.P 124 [1,1,1,1,0,0,0]) fr k) r) (dI (dA C0.P 124 [1,1,1,1,0,0,0])) [(0,a),(1,(.int .i64 f)),(4,(.ref V 0)),(5,(.ref W 0))] g (jD o).1 (jD o).2.1 (jD o).2.2:=by
 intro r
 induction r with
 | zero=>intro g o h; exact nomatch h
 | succ r ih =>
   intro g o
   unfold eB;refine aA fun _o i=>aA fun j l=>aA fun j3 m=>aA fun p f6=>?_
   obtain rfl:=bE f6;refine aU (fun e=>?_) (fun e=>?_)
   ·refine aA fun _o u=>aA fun v w=>aA fun x y=>aA fun _o z=>aA fun c d=>aA fun j4 A=>aA fun B f7=>?_
    obtain rfl:=bE f7;refine aA fun C D=>aA fun j5 E=>aA fun o f8=>?_
    obtain⟨F,G,H⟩:=o;obtain rfl:=bR f8;refine aA fun I J=>aA fun j6 K=>aA fun o f9=>?_
    obtain⟨L,M,N⟩:=o;obtain rfl:=bR f9;refine aA fun o O=>?_;obtain⟨Q,S⟩:=o;refine aU (fun q=>?_) (fun q=>?_)
    ·refine aA fun _o X=>aA fun j7 Y=>aA fun Z g0=>?_
     obtain rfl:=bE g0;refine aA fun _o a0=>aA fun s a1=>aA fun o a2=>?_
     obtain⟨a3,a4,a5,a6,a7,a8,a9,b0,b1,b2,b3⟩:=o;refine aA fun b4 b5=>aA fun j8 b6=>aA fun b g1=>?_
     obtain rfl:=cC g1;refine aA fun j9 b7=>aA fun o g2=>?_
     obtain⟨b8,c0,c1,c2,c3,c4,c5,c6,c7,c8⟩:=o;obtain rfl:=aC g2;refine aA fun k0 c9=>aA fun o g3=>?_
     obtain⟨d0,d1,d2,d3,d4,d5,d6,d7,d8,d9⟩:=o;obtain rfl:=aC g3;refine aA fun o e0=>?_;obtain⟨t,e1⟩:=o;refine aA fun _o e2=>aA fun o e3=>?_
     obtain⟨e4,e5,e6,e7,e8,e9,f0,f1,f2,f3,f4⟩:=o;refine aA fun T f5=>?_;refine aU (fun U=>?_) (fun U=>?_)
     ·refine aA fun k1 g4=>aA fun o g5=>?_
      obtain⟨g6,g7,g8,g9,h0,h1,h2,h3,h4,h5⟩:=o;obtain rfl:=aC g5;refine aA fun h6 h7=>?_;intro h;obtain rfl:=b9 h;exact bI (aK (hs:=[.run 1,.val a,.val j,.val (.int .i64 p),.dec true,.aM,.aM,.run 1,.val a,.val v,.val x,.run 1,.val a,.val c,.val (.int .i64 B),.val C,.val (.agg [(.int .i64 F),(.str G),(.int .i64 H)]),.run 1,.cA AV.undef I,.val (.agg [(.int .i64 L),(.str M),(.int .i64 N)]),.call (.int .i64 Q) S,.run 1,.dec false,.aM,.run 1,.val a,.val c,.val (.int .i64 Z),.run 1,.val a,.val c,.cA AV.undef s,.run 3,.call (.agg [(.int .i64 a3),(.str a4),(.int .i64 a5),(.bool a6),(.int .i64 a7),(.str a8),a9,b0,b1,b2]) b3,.run 1,.cA AV.undef b4,.run 2,.val (.str b),.val (.agg [(.int .i64 b8),(.str c0),(.int .i64 c1),(.bool c2),(.int .i64 c3),(.str c4),c5,c6,c7,c8]),.val (.agg [(.int .i64 d0),(.str d1),(.int .i64 d2),(.bool d3),(.int .i64 d4),(.str d5),d6,d7,d8,d9]),.cA t e1,.Lx [[(.int .i64 6)],[(.str b)],[t]],.call (.agg [(.int .i64 e4),(.str e5),(.int .i64 e6),(.bool e7),(.int .i64 e8),(.str e9),f0,f1,f2,f3]) f4,.cA AV.undef T,.run 1,.dec true,.aM,.val (.agg [(.int .i64 g6),(.str g7),(.int .i64 g8),(.bool g9),(.int .i64 h0),(.str h1),h2,h3,h4,h5]),.cA AV.undef h6]) (want:=[]) (by kernel_rfl) (.cons (aN h7)<|.cons g4<|.cons (eG U)<|.cons (aN f5)<|.cons (bO n e3)<|.cons (mB (rfl:AV.cells (.int .i64 6)=[(.int .i64 6)]) (mB (rfl:AV.cells (.str b)=[(.str b)]) (mB (rY e2) (A1))))<|.cons e0<|.cons c9<|.cons b7<|.cons b6<|.cons (aN b5)<|.cons (hR.DM (n+2) (by omega) a (IntKind.wrap .i64 (f+1)) s _ a2)<|.cons (aN a1)<|.cons d<|.cons (cB a0)<|.cons Y<|.cons d<|.cons (cB X)<|.cons (Ax q)<|.cons (wU (n+1) O)<|.cons K<|.cons (aN J)<|.cons E<|.cons D<|.cons A<|.cons d<|.cons (cB z)<|.cons y<|.cons w<|.cons (cB u)<|.cons (eG e)<|.cons m<|.cons l<|.cons (cB i) .nil)) (by kernel_rfl)
     ·intro h;exact cS (aK (hs:=[.run 1,.val a,.val j,.val (.int .i64 p),.dec true,.aM,.aM,.run 1,.val a,.val v,.val x,.run 1,.val a,.val c,.val (.int .i64 B),.val C,.val (.agg [(.int .i64 F),(.str G),(.int .i64 H)]),.run 1,.cA AV.undef I,.val (.agg [(.int .i64 L),(.str M),(.int .i64 N)]),.call (.int .i64 Q) S,.run 1,.dec false,.aM,.run 1,.val a,.val c,.val (.int .i64 Z),.run 1,.val a,.val c,.cA AV.undef s,.run 3,.call (.agg [(.int .i64 a3),(.str a4),(.int .i64 a5),(.bool a6),(.int .i64 a7),(.str a8),a9,b0,b1,b2]) b3,.run 1,.cA AV.undef b4,.run 2,.val (.str b),.val (.agg [(.int .i64 b8),(.str c0),(.int .i64 c1),(.bool c2),(.int .i64 c3),(.str c4),c5,c6,c7,c8]),.val (.agg [(.int .i64 d0),(.str d1),(.int .i64 d2),(.bool d3),(.int .i64 d4),(.str d5),d6,d7,d8,d9]),.cA t e1,.Lx [[(.int .i64 6)],[(.str b)],[t]],.call (.agg [(.int .i64 e4),(.str e5),(.int .i64 e6),(.bool e7),(.int .i64 e8),(.str e9),f0,f1,f2,f3]) f4,.cA AV.undef T,.run 1,.dec false,.aM]) (want:=[0,1,4,5]) (by kernel_rfl) (.cons (dP U)<|.cons (aN f5)<|.cons (bO n e3)<|.cons (mB (rfl:AV.cells (.int .i64 6)=[(.int .i64 6)]) (mB (rfl:AV.cells (.str b)=[(.str b)]) (mB (rY e2) (A1))))<|.cons e0<|.cons c9<|.cons b7<|.cons b6<|.cons (aN b5)<|.cons (hR.DM (n+2) (by omega) a (IntKind.wrap .i64 (f+1)) s _ a2)<|.cons (aN a1)<|.cons d<|.cons (cB a0)<|.cons Y<|.cons d<|.cons (cB X)<|.cons (Ax q)<|.cons (wU (n+1) O)<|.cons K<|.cons (aN J)<|.cons E<|.cons D<|.cons A<|.cons d<|.cons (cB z)<|.cons y<|.cons w<|.cons (cB u)<|.cons (eG e)<|.cons m<|.cons l<|.cons (cB i) .nil)) (ih T _ h)
    ·refine aA fun k2 h8=>aA fun o h9=>?_
     obtain⟨i0,i1,i2,i3,i4,i5,i6,i7,i9,j0⟩:=o;obtain rfl:=aC h9;refine aA fun j1 j2=>?_;intro h;obtain rfl:=b9 h;exact bI (aK (hs:=[.run 1,.val a,.val j,.val (.int .i64 p),.dec true,.aM,.aM,.run 1,.val a,.val v,.val x,.run 1,.val a,.val c,.val (.int .i64 B),.val C,.val (.agg [(.int .i64 F),(.str G),(.int .i64 H)]),.run 1,.cA AV.undef I,.val (.agg [(.int .i64 L),(.str M),(.int .i64 N)]),.call (.int .i64 Q) S,.run 1,.dec true,.aM,.val (.agg [(.int .i64 i0),(.str i1),(.int .i64 i2),(.bool i3),(.int .i64 i4),(.str i5),i6,i7,i9,j0]),.cA AV.undef j1]) (want:=[]) (by kernel_rfl) (.cons (aN j2)<|.cons h8<|.cons (D5 q)<|.cons (wU (n+1) O)<|.cons K<|.cons (aN J)<|.cons E<|.cons D<|.cons A<|.cons d<|.cons (cB z)<|.cons y<|.cons w<|.cons (cB u)<|.cons (eG e)<|.cons m<|.cons l<|.cons (cB i) .nil)) (by kernel_rfl)
   ·intro h;obtain rfl:=b9 h;exact bI (aK (hs:=[.run 1,.val a,.val j,.val (.int .i64 p),.dec false,.aM]) (want:=[]) (by kernel_rfl) (.cons (dP e)<|.cons m<|.cons l<|.cons (cB i) .nil)) (by kernel_rfl)
def dK (R : dF) (b : AV) (c : Int) (a : St) : Option (Int × List UInt8 × Int × Bool × Int × List UInt8 × AV × AV × AV × AV × St) :=
 if(c=6) then
  (R.f152 b (St.push a (.cells 28 true [(.int .i64 0),(.str []),(.int .i64 0),(.bool false),(.int .i64 0),(.str []),AV.aF,AV.aF,AV.aF,AV.aF]))).bind fun(j,k,l,m,p,q,r,s,t,u,v)=>
  (storeAt C0.P v 28 (.ref (St.next a) 0) (.agg [(.int .i64 j),(.str k),(.int .i64 l),(.bool m),(.int .i64 p),(.str q),r,s,t,u])).bind fun e=>
  (loadAt C0.P e 28 (.ref (St.next a) 0)).bind fun w=>
  (aD w).bind fun(x,y,z,A,B,C,D,E,F,G)=>
  some (x,y,z,A,B,C,D,E,F,G,e)
 else
  if(c=2) then
   (R.f153 b (St.push a (.cells 28 true [(.int .i64 0),(.str []),(.int .i64 0),(.bool false),(.int .i64 0),(.str []),AV.aF,AV.aF,AV.aF,AV.aF]))).bind fun(H,I,J,K,L,M,N,O,Q,S,T)=>
   (storeAt C0.P T 28 (.ref (St.next a) 0) (.agg [(.int .i64 H),(.str I),(.int .i64 J),(.bool K),(.int .i64 L),(.str M),N,O,Q,S])).bind fun f=>
   (loadAt C0.P f 28 (.ref (St.next a) 0)).bind fun U=>
   (aD U).bind fun(V,W,X,Y,Z,a0,a1,a2,a3,a4)=>
   some (V,W,X,Y,Z,a0,a1,a2,a3,a4,f)
  else
   (R.f124 b (IntKind.wrap .i64 (c+1)) (St.push a (.cells 28 true [(.int .i64 0),(.str []),(.int .i64 0),(.bool false),(.int .i64 0),(.str []),AV.aF,AV.aF,AV.aF,AV.aF]))).bind fun(a5,a6,a7,a8,a9,b0,b1,b2,b3,b4,d)=>
   (storeAt C0.P (St.push d (.cells 28 true [(.int .i64 0),(.str []),(.int .i64 0),(.bool false),(.int .i64 0),(.str []),AV.aF,AV.aF,AV.aF,AV.aF])) 28 (.ref (St.next d) 0) (.agg [(.int .i64 a5),(.str a6),(.int .i64 a7),(.bool a8),(.int .i64 a9),(.str b0),b1,b2,b3,b4])).bind fun b5=>
   (eB R b c (St.next a) (St.next d) R.n b5).bind fun o=>match o with
   | .inl g=>
    (loadAt C0.P g 28 (.ref (St.next a) 0)).bind fun b6=>
    (aD b6).bind fun(b7,b8,b9,c0,c1,c2,c3,c4,c5,c6)=>
    some (b7,b8,b9,c0,c1,c2,c3,c4,c5,c6,g)
   | .inr h=>
    (loadAt C0.P h 28 (.ref (St.next d) 0)).bind fun c7=>
    (aD c7).bind fun(c8,c9,d0,d1,d2,d3,d4,d5,d6,d7)=>
    (storeAt C0.P h 28 (.ref (St.next a) 0) (.agg [(.int .i64 c8),(.str c9),(.int .i64 d0),(.bool d1),(.int .i64 d2),(.str d3),d4,d5,d6,d7])).bind fun i=>
    (loadAt C0.P i 28 (.ref (St.next a) 0)).bind fun d8=>
    (aD d8).bind fun(d9,e0,e1,e2,e3,e4,e5,e6,e7,e8)=>
    some (d9,e0,e1,e2,e3,e4,e5,e6,e7,e8,i)
theorem fL {R : dF} (n : Nat) (hR : R.ok n) {a : AV} {c : Int} {b : St} {r : Int × List UInt8 × Int × Bool × Int × List UInt8 × AV × AV × AV × AV × St} (h : dK R a c b = some r):
 aR (aW C0 bK R.n (n+3)) false 124 [a,(.int .i64 c)] b (.agg [.int .i64 r.1,.str r.2.1,.int .i64 r.2.2.1,.bool r.2.2.2.1,.int .i64 r.2.2.2.2.1,.str r.2.2.2.2.2.1,r.2.2.2.2.2.2.1,r.2.2.2.2.2.2.2.1,r.2.2.2.2.2.2.2.2.1,r.2.2.2.2.2.2.2.2.2.1]) r.2.2.2.2.2.2.2.2.2.2:=by
 revert h;unfold dK;refine aU (fun d=>?_) (fun d=>?_)
 ·refine aA fun o y=>?_;obtain⟨z,A,B,C,D,E,F,G,H,I,J⟩:=o;refine aA fun K L=>aA fun g6 M=>aA fun o N=>?_
  obtain⟨O,P,Q,S,T,U,V,W,X,Y⟩:=o;obtain rfl:=aC N;intro h;obtain rfl:=b9 h;exact dE (hs:=[.run 2,.dec true,.aM,.run 1,.call (aJ z A B C D E F G H I) J,.cA AV.undef K,.val (aJ O P Q S T U V W X Y)]) (by kernel_rfl) (aG M<|aG (aN L)<|aG (hR.DI (n+2) (by omega) a (St.push b (.cells 28 true L4)) _ y)<|aG (eG d) eE)
 ·let q8026 : List Hint := [.run 2, .dec false, .aM, .run 1]
  refine aU (fun e=>?_) (fun e=>?_)
  ·refine aA fun o Z=>?_;obtain⟨a0,a1,a2,a3,a4,a5,a6,a7,a8,a9,b0⟩:=o;refine aA fun b1 b2=>aA fun g7 b3=>aA fun o b4=>?_
   obtain⟨b5,b6,b7,b8,c0,c1,c2,c3,c4,c5⟩:=o;obtain rfl:=aC b4;intro h;obtain rfl:=b9 h;exact dE (hs:=q8026 ++ [.dec true,.aM,.run 1,.call (aJ a0 a1 a2 a3 a4 a5 a6 a7 a8 a9) b0,.cA AV.undef b1,.val (aJ b5 b6 b7 b8 c0 c1 c2 c3 c4 c5)]) (by kernel_rfl) (aG b3<|aG (aN b2)<|aG (hR.Hy (n+2) (by omega) a (St.push b (.cells 28 true L4)) _ Z)<|aG (eG e)<|aG (dP d) eE)
  ·refine aA fun o i=>?_;obtain⟨j,k,l,m,p,q,s,t,u,v,f⟩:=o;refine aA fun g w=>aA fun o x=>?_
   rcases o with c6 | c7
   ·refine aA fun g8 c8=>aA fun o c9=>?_
    obtain⟨d0,d1,d2,d3,d4,d5,d6,d7,d8,d9⟩:=o;obtain rfl:=aC c9;intro h;obtain rfl:=b9 h;exact dE (hs:=q8026 ++ [.dec false,.aM,.run 3,.call (aJ j k l m p q s t u v) f,.run 1,.cA AV.undef g,.aM,.abs [0,1,4,5] .ret [] c6,.val (aJ d0 d1 d2 d3 d4 d5 d6 d7 d8 d9)]) (by kernel_rfl) (aG c8<|aG (bY (mL R n hR a c (St.next b) (St.next f) R.n g _ x))<|aG (aN w)<|aG (hR.DM (n+2) (by omega) a (IntKind.wrap .i64 (c+1)) (St.push b (.cells 28 true L4)) _ i)<|aG (dP e)<|aG (dP d) eE)
   ·refine aA fun g9 e0=>aA fun o e1=>?_
    obtain⟨e2,e3,e4,e5,e6,e7,e8,e9,f0,f1⟩:=o;obtain rfl:=aC e1;refine aA fun f2 f3=>aA fun h0 f4=>aA fun o f5=>?_
    obtain⟨f6,f7,f8,f9,g0,g1,g2,g3,g4,g5⟩:=o;obtain rfl:=aC f5;intro h;obtain rfl:=b9 h;exact dE (hs:=q8026 ++ [.dec false,.aM,.run 3,.call (aJ j k l m p q s t u v) f,.run 1,.cA AV.undef g,.aM,.abs [0,1,4,5] (.exit 0) [] c7,.val (aJ e2 e3 e4 e5 e6 e7 e8 e9 f0 f1),.cA AV.undef f2,.val (aJ f6 f7 f8 f9 g0 g1 g2 g3 g4 g5)]) (by kernel_rfl) (aG f4<|aG (aN f3)<|aG e0<|aG (bY (mL R n hR a c (St.next b) (St.next f) R.n g _ x))<|aG (aN w)<|aG (hR.DM (n+2) (by omega) a (IntKind.wrap .i64 (c+1)) (St.push b (.cells 28 true L4)) _ i)<|aG (dP e)<|aG (dP d) eE)
def cT (R:dF)(d:AV)(a:St):Option (St):=
 (loadAt C0.P a 124 d).bind fun b=>
 (aZ b).bind fun _=>
 (shift b 2).bind fun c=>
 (loadAt C0.P a 3 c).bind fun e=>
 (dN .i64 e).bind fun f=>
 (aZ b).bind fun _=>
 (storeAt C0.P a 3 c (.int .i64 (IntKind.wrap .i64 (f - 1)))).bind fun g=>
 some g
theorem dL {R:dF}(n:Nat)(hR:R.ok n){b:AV}{c:St}{r:St}(h:cT R b c=some r):
 EN (aW C0 bK R.n (n+1)) 201 [b] c (.tuple []) r:=by
 revert h;unfold cT;refine aA fun a f=>aA fun _o g=>aA fun d e=>aA fun p i=>aA fun j k=>?_
 obtain rfl:=bE k;refine aA fun _o l=>aA fun m o=>?_
 intro h;obtain rfl:=b9 h;exact LZ (hs:=[.val a,.val a,.val d,.val (.int .i64 j),.run 1,.val a,.val d,.cA AV.undef m]) (by kernel_rfl) (aG (aN o)<|aG e<|aG (cB l)<|aG i<|aG e<|aG (cB g)<|aG f eE) (by kernel_rfl) (by kernel_rfl)
def dG (R:dF)(b:AV)(c:AV)(d:List UInt8)(e:St):Option (St):=
 (bW R.n c d e).bind fun(f,a)=>
 if f=true then
  some a
 else
  (bV R.n b 120 a).bind fun g=>
  some g
theorem oD {R:dF}(n:Nat)(hR:R.ok n){b:AV}{c:AV}{d:List UInt8}{e:St}{r:St}(h:dG R b c d e=some r):
 aR (aW C0 bK R.n (n+3)) false 122 [b,(.func (.func 120) [c] []),(.str d)] e (.tuple []) r:=by
 revert h;unfold dG;refine aA fun o f=>?_;obtain⟨k,g⟩:=o;refine aU (fun a=>?_) (fun a=>?_)
 ·subst a;intro h;obtain rfl:=b9 h;exact dE (hs:=[.run 2,.call (.bool true) g,.run 1,.aM]) (by kernel_rfl) (aG (bM n f) eE)
 ·obtain rfl:=bF a;refine aA fun i j=>?_;intro h;obtain rfl:=b9 h;exact dE (hs:=[.run 2,.call (.bool false) g,.run 1,.aM,.run 1,.call (.tuple []) i]) (by kernel_rfl) (aG (cK (n+1) j)<|aG (bM n f) eE)
def jI (R : dF) (a : AV) (a8 : Nat) (b : Nat) (h : Bool) (d : St) : Option (St) :=
 if h=true then
  (bW R.n a [78,79,84] d).bind fun(i,j)=>
  (dG R a a [78,85,76,76] j).bind fun e=>
  (loadAt C0.P e 28 (.ref b 0)).bind fun k=>
  (aD k).bind fun(l,m,o,p,q,r,s,t,u,v)=>
  (eV (aY C0.P (C0.cQ 153) 26 1 [(0,(.agg [(.int .i64 l),(.str m),(.int .i64 o),(.bool p),(.int .i64 q),(.str r),s,t,u,v]))]) e).bind fun(f,w)=>
  (Ar f).bind fun _=>
  (bL R.n a 5 [] 0 false 0 [] AV.aF AV.aF f AV.aF w).bind fun(x,y,z,A,B,C,D,E,F,G,H)=>
  (storeAt C0.P H 28 (.ref b 0) (.agg [(.int .i64 x),(.str y),(.int .i64 z),(.bool A),(.int .i64 B),(.str C),D,E,F,G])).bind fun c=>
  if i=true then
   (loadAt C0.P c 28 (.ref b 0)).bind fun I=>
   (aD I).bind fun(J,K,L,M,N,O,Q,S,T,U)=>
   (eV (aY C0.P (C0.cQ 153) 26 1 [(0,(.agg [(.int .i64 J),(.str K),(.int .i64 L),(.bool M),(.int .i64 N),(.str O),Q,S,T,U]))]) c).bind fun(g,V)=>
   (Ar g).bind fun _=>
   (bL R.n a 4 [] 0 false 0 [] AV.aF AV.aF g AV.aF V).bind fun(W,X,Y,Z,a0,a1,a2,a3,a4,a5,a6)=>
   (storeAt C0.P a6 28 (.ref b 0) (.agg [(.int .i64 W),(.str X),(.int .i64 Y),(.bool Z),(.int .i64 a0),(.str a1),a2,a3,a4,a5])).bind fun a7=>
   some a7
  else
   some c
 else
  some d
theorem uV {R:dF}(n:Nat)(hR:R.ok n){d:AV}{e:Nat}{f:Nat}{g:Bool}{i:St}{r:St}(h:jI R d e f g i=some r):
 oE 37 bK R.n (n+3) 153 [1,1,1,0,1] [(0,d),(2,(.ref e 0)),(3,(.ref f 0)),(18,(.bool g))] i .normal [] r:=by
 revert h;unfold jI;refine aU (fun b=>?_) (fun b=>?_)
 ·subst b;refine aA fun o M=>?_;obtain⟨c5,j⟩:=o;refine aA fun k N=>aA fun c6 O=>aA fun o P=>?_
  obtain⟨l,m,p,q,s,t,u,v,w,x⟩:=o;obtain rfl:=aC P;refine aA fun o Q=>?_;obtain⟨a,y⟩:=o;refine aA fun _o S=>aA fun o T=>?_
  obtain⟨z,A,B,C,D,E,F,G,H,I,J⟩:=o;refine aA fun K U=>?_;have q9021:=aG (aN U)<|aG (bO (n+1) T)<|aG (mB (rfl:AV.cells (.int .i64 5)=[(.int .i64 5)]) (mB (rY S) (A1)))<|aG Q<|aG O<|aG (oD n (hR.mono (by omega)) N)<|aG (bM (n+1) M) eE
  refine aU (fun c=>?_) (fun c=>?_)
  ·subst c;refine aA fun c7 V=>aA fun o W=>?_
   obtain⟨X,Y,Z,a0,a1,a2,a3,a4,a5,a6⟩:=o;obtain rfl:=aC W;refine aA fun o a7=>?_;obtain⟨L,a8⟩:=o;refine aA fun _o a9=>aA fun o b0=>?_
   obtain⟨b1,b2,b3,b4,b5,b6,b7,b8,c0,c1,c2⟩:=o;refine aA fun c3 c4=>?_;intro h;obtain rfl:=b9 h;exact aK (hs:=[.aM,.run 1,.call (.bool true) j,.run 4,.call (.tuple []) k,.run 1,.val (aJ l m p q s t u v w x),.cA a y,.Lx [[(.int .i64 5)],[a]],.call (aJ z A B C D E F G H I) J,.cA AV.undef K,.run 1,.aM,.run 1,.val (aJ X Y Z a0 a1 a2 a3 a4 a5 a6),.cA L a8,.Lx [[(.int .i64 4)],[L]],.call (aJ b1 b2 b3 b4 b5 b6 b7 b8 c0 c1) c2,.cA AV.undef c3]) (want:=[]) (by kernel_rfl) (aG (aN c4)<|aG (bO (n+1) b0)<|aG (mB (rfl:AV.cells (.int .i64 4)=[(.int .i64 4)]) (mB (rY a9) (A1)))<|aG a7<|aG V q9021)
  ·obtain rfl:=bF c;intro h;obtain rfl:=b9 h;exact aK (hs:=[.aM,.run 1,.call (.bool false) j,.run 4,.call (.tuple []) k,.run 1,.val (aJ l m p q s t u v w x),.cA a y,.Lx [[(.int .i64 5)],[a]],.call (aJ z A B C D E F G H I) J,.cA AV.undef K,.run 1,.aM]) (want:=[]) (by kernel_rfl) (q9021)
 ·obtain rfl:=bF b;intro h;obtain rfl:=b9 h;exact aK (hs:=[.aM]) (want:=[]) (by kernel_rfl) .nil
def lN (R:dF)(a:AV)(b:St):Option (Int×List UInt8×Int×Bool×Int×List UInt8×AV×AV×AV×AV×St):=
 (bW R.n a [78,79,84] (St.push b (.cells 28 true [(.int .i64 0),(.str []),(.int .i64 0),(.bool false),(.int .i64 0),(.str []),AV.aF,AV.aF,AV.aF,AV.aF]))).bind fun(i,d)=>
 if i=true then
  (j8 R.n a d).bind fun(j,k)=>
  (R.f153 a k).bind fun(l,m,o,p,q,r,s,t,u,v,w)=>
  (eV (aY C0.P (C0.cQ 153) 26 1 [(0,(.agg [(.int .i64 l),(.str m),(.int .i64 o),(.bool p),(.int .i64 q),(.str r),s,t,u,v]))]) w).bind fun(e,x)=>
  (Ar e).bind fun _=>
  (bL R.n a 4 [] 0 false 0 [] AV.aF AV.aF e AV.aF x).bind fun(y,z,A,B,C,D,E,F,G,H,I)=>
  (storeAt C0.P I 28 (.ref (St.next b) 0) (.agg [(.int .i64 y),(.str z),(.int .i64 A),(.bool B),(.int .i64 C),(.str D),E,F,G,H])).bind fun J=>
  (cT R j J).bind fun f=>
  (loadAt C0.P f 28 (.ref (St.next b) 0)).bind fun K=>
  (aD K).bind fun(L,M,N,O,Q,S,T,U,V,W)=>
  some (L,M,N,O,Q,S,T,U,V,W,f)
 else
  (dK R a 3 d).bind fun(X,Y,Z,a0,a1,a2,a3,a4,a5,a6,c)=>
  (storeAt C0.P (St.push c (.cells 28 true [(.int .i64 0),(.str []),(.int .i64 0),(.bool false),(.int .i64 0),(.str []),AV.aF,AV.aF,AV.aF,AV.aF])) 28 (.ref (St.next c) 0) (.agg [(.int .i64 X),(.str Y),(.int .i64 Z),(.bool a0),(.int .i64 a1),(.str a2),a3,a4,a5,a6])).bind fun a7=>
  (bW R.n a [73,83] a7).bind fun(a8,a9)=>
  (jI R a (St.next b) (St.next c) a8 a9).bind fun g=>
  (loadAt C0.P g 28 (.ref (St.next c) 0)).bind fun b0=>
  (aD b0).bind fun(b1,b2,b3,b4,b5,b6,b7,b8,b9,c0)=>
  (storeAt C0.P g 28 (.ref (St.next b) 0) (.agg [(.int .i64 b1),(.str b2),(.int .i64 b3),(.bool b4),(.int .i64 b5),(.str b6),b7,b8,b9,c0])).bind fun h=>
  (loadAt C0.P h 28 (.ref (St.next b) 0)).bind fun c1=>
  (aD c1).bind fun(c2,c3,c4,c5,c6,c7,c8,c9,d0,d1)=>
  some (c2,c3,c4,c5,c6,c7,c8,c9,d0,d1,h)
theorem AS {R:dF}(n:Nat)(hR:R.ok n){a:AV}{c:St}{r:Int×List UInt8×Int×Bool×Int×List UInt8×AV×AV×AV×AV×St}(h:lN R a c=some r):
 aR (aW C0 bK R.n (n+4)) false 153 [a] c (.agg [.int .i64 r.1,.str r.2.1,.int .i64 r.2.2.1,.bool r.2.2.2.1,.int .i64 r.2.2.2.2.1,.str r.2.2.2.2.2.1,r.2.2.2.2.2.2.1,r.2.2.2.2.2.2.2.1,r.2.2.2.2.2.2.2.2.1,r.2.2.2.2.2.2.2.2.2.1]) r.2.2.2.2.2.2.2.2.2.2:=by
 revert h;unfold lN;refine aA fun o d=>?_;obtain⟨f1,e⟩:=o;refine aU (fun b=>?_) (fun b=>?_)
 ·subst b;refine aA fun o i=>?_;obtain⟨j,f⟩:=o;refine aA fun o k=>?_;obtain⟨l,m,p,q,s,t,u,v,w,x,y⟩:=o;refine aA fun o z=>?_;obtain⟨g,A⟩:=o;refine aA fun _o B=>aA fun o C=>?_
  obtain⟨D,E,F,G,H,I,J,K,L,M,N⟩:=o;refine aA fun O P=>aA fun Q S=>aA fun f2 T=>aA fun o U=>?_
  obtain⟨V,W,X,Y,Z,a0,a1,a2,a3,a4⟩:=o;obtain rfl:=aC U;intro h;obtain rfl:=b9 h;exact dE (hs:=[.run 2,.call (.bool true) e,.aM,.run 1,.call (.func (.func 201) [] [j]) f,.run 2,.call (aJ l m p q s t u v w x) y,.cA g A,.Lx [[(.int .i64 4)],[g]],.call (aJ D E F G H I J K L M) N,.cA AV.undef O,.call (.tuple []) Q,.val (aJ V W X Y Z a0 a1 a2 a3 a4)]) (by kernel_rfl) (aG T<|aG (dL (n+2) (hR.mono (by omega)) S)<|aG (aN P)<|aG (bO (n+1) C)<|aG (mB (rfl:AV.cells (.int .i64 4)=[(.int .i64 4)]) (mB (rY B) (A1)))<|aG z<|aG (hR.Hy (n+3) (by omega) a f _ k)<|aG (s8 (n+1) i)<|aG (bM (n+1) d) eE)
 ·obtain rfl:=bF b;refine aA fun o a5=>?_;obtain⟨a6,a7,a8,a9,b0,b1,b2,b3,b4,b5,b6⟩:=o;refine aA fun b7 b8=>aA fun o c0=>?_
  obtain⟨c1,c2⟩:=o;refine aA fun c3 c4=>aA fun f3 c5=>aA fun o c6=>?_
  obtain⟨c7,c8,c9,d0,d1,d2,d3,d4,d5,d6⟩:=o;obtain rfl:=aC c6;refine aA fun d7 d8=>aA fun f4 d9=>aA fun o e0=>?_
  obtain⟨e1,e2,e3,e4,e5,e6,e7,e8,e9,f0⟩:=o;obtain rfl:=aC e0;intro h;obtain rfl:=b9 h;exact dE (hs:=[.run 2,.call (.bool false) e,.aM,.run 1,.call (aJ a6 a7 a8 a9 b0 b1 b2 b3 b4 b5) b6,.run 1,.cA AV.undef b7,.run 1,.call (.bool c1) c2,.fT [0,2,3,18] .normal [] c3,.val (aJ c7 c8 c9 d0 d1 d2 d3 d4 d5 d6),.cA AV.undef d7,.val (aJ e1 e2 e3 e4 e5 e6 e7 e8 e9 f0)]) (by kernel_rfl) (aG d9<|aG (aN d8)<|aG c5<|aG (uV n hR c4)<|aG (bM (n+1) c0)<|aG (aN b8)<|aG (fL n (hR.mono (by omega)) a5)<|aG (bM (n+1) d) eE)
def bQ (R:dF)(b:AV)(c:AV)(d:List UInt8)(e:St):Option (St):=
 (dD R.n c d e).bind fun(f,a)=>
 if f=true then
  some a
 else
  (bV R.n b 120 a).bind fun g=>
  some g
theorem dR {R:dF}(n:Nat)(hR:R.ok n){b:AV}{c:AV}{d:List UInt8}{e:St}{r:St}(h:bQ R b c d e=some r):
 aR (aW C0 bK R.n (n+3)) false 122 [b,(.func (.func 151) [c] []),(.str d)] e (.tuple []) r:=by
 revert h;unfold bQ;refine aA fun o f=>?_;obtain⟨k,g⟩:=o;refine aU (fun a=>?_) (fun a=>?_)
 ·subst a;intro h;obtain rfl:=b9 h;exact dE (hs:=[.run 2,.call (.bool true) g,.run 1,.aM]) (by kernel_rfl) (aG (bN n f) eE)
 ·obtain rfl:=bF a;refine aA fun i j=>?_;intro h;obtain rfl:=b9 h;exact dE (hs:=[.run 2,.call (.bool false) g,.run 1,.aM,.run 1,.call (.tuple []) i]) (by kernel_rfl) (aG (cK (n+1) j)<|aG (bN n f) eE)
def fF (R:dF)(c:AV)(a:St):Option (Int×List UInt8×Int×Bool×Int×List UInt8×AV×AV×AV×AV×St):=
 (loadAt C0.P (St.push a (.cells 28 true [(.int .i64 0),(.str []),(.int .i64 0),(.bool false),(.int .i64 0),(.str []),AV.aF,AV.aF,AV.aF,AV.aF])) 124 c).bind fun d=>
 (dK R d 0 (St.push a (.cells 28 true [(.int .i64 0),(.str []),(.int .i64 0),(.bool false),(.int .i64 0),(.str []),AV.aF,AV.aF,AV.aF,AV.aF]))).bind fun(e,f,g,h,i,j,k,l,m,n,o)=>
 (storeAt C0.P o 28 (.ref (St.next a) 0) (.agg [(.int .i64 e),(.str f),(.int .i64 g),(.bool h),(.int .i64 i),(.str j),k,l,m,n])).bind fun b=>
 (loadAt C0.P b 28 (.ref (St.next a) 0)).bind fun p=>
 (aD p).bind fun(q,r,s,t,u,v,w,x,y,z)=>
 some (q,r,s,t,u,v,w,x,y,z,b)
theorem lX {R:dF}(n:Nat)(hR:R.ok n){a:AV}{b:St}{r:Int×List UInt8×Int×Bool×Int×List UInt8×AV×AV×AV×AV×St}(h:fF R a b=some r):
 aR (aW C0 bK R.n (n+4)) false 177 [a] b (.agg [.int .i64 r.1,.str r.2.1,.int .i64 r.2.2.1,.bool r.2.2.2.1,.int .i64 r.2.2.2.2.1,.str r.2.2.2.2.2.1,r.2.2.2.2.2.2.1,r.2.2.2.2.2.2.2.1,r.2.2.2.2.2.2.2.2.1,r.2.2.2.2.2.2.2.2.2.1]) r.2.2.2.2.2.2.2.2.2.2:=by
 revert h;unfold fF;refine aA fun c d=>aA fun o e=>?_
 obtain⟨f,g,i,j,k,l,m,p,q,s,t⟩:=o;refine aA fun u v=>aA fun I w=>aA fun o x=>?_
 obtain⟨y,z,A,B,C,D,E,F,G,H⟩:=o;obtain rfl:=aC x;intro h;obtain rfl:=b9 h;exact dE (hs:=[.run 1,.val c,.call (aJ f g i j k l m p q s) t,.cA AV.undef u,.val (aJ y z A B C D E F G H)]) (by kernel_rfl) (aG w<|aG (aN v)<|aG (fL n (hR.mono (by omega)) e)<|aG d eE)
def cP (R:dF)(a:AV)(d:List UInt8)(e:AV)(f:AV)(b:St):Option (St):=
 (bQ R a a [44] b).bind fun c=>
 some c
theorem fC {R:dF}(n:Nat)(hR:R.ok n){a:AV}{b:List UInt8}{c:AV}{d:AV}{e:St}{r:St}(h:cP R a b c d e=some r):
 oE 37 bK R.n (n+4) 176 [1,1,0,0,0,1,0,0,1] [(0,a),(1,(.str b)),(2,(.func (.func 177) [] [c])),(7,d),(21,(.bool true))] e .normal [] r:=by
 revert h;unfold cP;refine aA fun f g=>?_;intro h;obtain rfl:=b9 h;exact aK (hs:=[.aM,.run 3,.call (.tuple []) f]) (want:=[]) (by kernel_rfl) (aG (dR (n+1) (hR.mono (by omega)) g) eE)
def cJ (R:dF)(a:AV)(d:List UInt8)(e:AV)(f:AV)(b:St):Option (St):=
 (bV R.n a 3 b).bind fun c=>
 some c
theorem jX {R:dF}(n:Nat)(hR:R.ok n){a:AV}{b:List UInt8}{c:AV}{d:AV}{e:St}{r:St}(h:cJ R a b c d e=some r):
 oE 37 bK R.n (n+4) 176 [1,1,0,0,0,1,0,1,0,1] [(0,a),(1,(.str b)),(2,(.func (.func 177) [] [c])),(7,d),(28,(.bool true))] e .normal [] r:=by
 revert h;unfold cJ;refine aA fun f g=>?_;intro h;obtain rfl:=b9 h;exact aK (hs:=[.aM,.run 1,.call (.tuple []) f]) (want:=[]) (by kernel_rfl) (aG (cK (n+3) g) eE)
def bG (R:dF)(a:AV)(b:List UInt8)(c:AV)(d:AV):Option (Unit):=
 some ()
theorem eR {R:dF}(n:Nat)(hR:R.ok n){a:AV}{b:List UInt8}{c:AV}{d:AV}(e:St){r:Unit}(h:bG R a b c d=some r):
 oE 37 bK R.n (n+4) 176 [1,1,0,0,0,1,0,1,0,1] [(0,a),(1,(.str b)),(2,(.func (.func 177) [] [c])),(7,d),(28,(.bool false))] e .normal [] e:=by
 revert h;unfold bG;intro h;obtain rfl:=b9 h;exact aK (hs:=[.aM]) (want:=[]) (by kernel_rfl) .nil
def cF (R:dF)(a:AV)(b:List UInt8)(c:AV)(d:AV):Option (Unit):=
 some ()
theorem jV {R:dF}(n:Nat)(hR:R.ok n){a:AV}{b:List UInt8}{c:AV}{d:AV}(e:St){r:Unit}(h:cF R a b c d=some r):
 oE 37 bK R.n (n+4) 176 [1,1,0,0,0,1,0,0,1] [(0,a),(1,(.str b)),(2,(.func (.func 177) [] [c])),(7,d),(21,(.bool false))] e .normal [] e:=by
 revert h;unfold cF;intro h;obtain rfl:=b9 h;exact aK (hs:=[.aM]) (want:=[]) (by kernel_rfl) .nil
def bB (R : dF) (a : AV) (d : List UInt8) (b : AV) : Nat → AV → St → Option ((AV × St))
 | 0,_,_=>none
 | r + 1, c, e =>
   (aZ a).bind fun _=>
   (shift a 5).bind fun h=>
   (loadAt C0.P e 42 h).bind fun i=>
   (dN .i64 i).bind fun j=>
   if (j = 0) then
    (dD R.n a d e).bind fun(k,f)=>
    if k=true then
     some (c,f)
    else
     (lenOf c).bind fun n2003=>
     if((n2003:Int)>0) then
      (cP R a d b c f).bind fun g=>
      if((n2003:Int)≥32) then
       (cJ R a d b c g).bind fun l=>
       (fF R b l).bind fun(m,o,p,q,s,t,u,v,w,x,y)=>
       (eV (aY C0.P (C0.cQ 176) 26 1 [(0,(.agg [(.int .i64 m),(.str o),(.int .i64 p),(.bool q),(.int .i64 s),(.str t),u,v,w,x]))]) y).bind fun(z,A)=>
       (cX C0.P (C0.cQ 176) A #[26,26] c z).bind fun(B,C)=>
       bB R a d b r B C
      else
       (bG R a d b c).bind fun _=>
       (fF R b g).bind fun(D,E,F,G,H,I,J,K,L,M,N)=>
       (eV (aY C0.P (C0.cQ 176) 26 1 [(0,(.agg [(.int .i64 D),(.str E),(.int .i64 F),(.bool G),(.int .i64 H),(.str I),J,K,L,M]))]) N).bind fun(O,Q)=>
       (cX C0.P (C0.cQ 176) Q #[26,26] c O).bind fun(S,T)=>
       bB R a d b r S T
     else
      (cF R a d b c).bind fun _=>
      (bG R a d b c).bind fun _=>
      (fF R b f).bind fun(U,V,W,X,Y,Z,a0,a1,a2,a3,a4)=>
      (eV (aY C0.P (C0.cQ 176) 26 1 [(0,(.agg [(.int .i64 U),(.str V),(.int .i64 W),(.bool X),(.int .i64 Y),(.str Z),a0,a1,a2,a3]))]) a4).bind fun(a5,a6)=>
      (cX C0.P (C0.cQ 176) a6 #[26,26] c a5).bind fun(a7,a8)=>
      bB R a d b r a7 a8
   else
    some (c,e)
def dZ (o:(AV×St)):cE×List (Nat×AV)×St:=match o with
 | (a0,a1)=>((.exit 0),[(7,a0)],a1)
theorem lK (R : dF) (n : Nat) (hR : R.ok n) (b : AV) (x : List UInt8) (y : AV) : ∀ (r : Nat) (m : AV) (p : St) (o : (AV × St)), bB R b x y r m p = some o →
 jL 37 (jA (fun fr k=>cZ C0 (aW C0 bK R.n (n+4)) 176 R.n none (dA C0.P 176 [1,1,0,0,0]) fr k) r) (dI (dA C0.P 176 [1,1,0,0,0])) [(0,b),(1,(.str x)),(2,(.func (.func 177) [] [y])),(7,m)] p (dZ o).1 (dZ o).2.1 (dZ o).2.2:=by
 intro r
 induction r with
 | zero=>intro m p o h; exact nomatch h
 | succ r ih =>
   intro m p o
   unfold bB;refine aA fun _o f=>aA fun g i=>aA fun d7 j=>aA fun l G=>?_
   obtain rfl:=bE G;refine aU (fun c=>?_) (fun c=>?_)
   ·refine aA fun o q=>?_;obtain⟨d8,a⟩:=o;refine aU (fun v=>?_) (fun v=>?_)
    ·subst v;intro h;obtain rfl:=b9 h;exact bI (aK (hs:=[.run 1,.val b,.val g,.val (.int .i64 l),.dec true,.run 3,.call (.bool true) a,.run 2,.aM]) (want:=[7]) (by kernel_rfl) (.cons (bN (n+2) q)<|.cons (eG c)<|.cons j<|.cons i<|.cons (cB f) .nil)) (by kernel_rfl)
    ·obtain rfl:=bF v;refine aA fun n2003 d=>?_;refine aU (fun s=>?_) (fun s=>?_)
     ·refine aA fun u z=>?_;refine aU (fun w=>?_) (fun w=>?_)
      ·refine aA fun H I=>aA fun o J=>?_
       obtain⟨K,L,M,N,O,Q,S,T,U,V,W⟩:=o;refine aA fun o X=>?_;obtain⟨Y,Z⟩:=o;refine aA fun o a0=>?_;obtain⟨A,B⟩:=o;intro h;exact cS (aK (hs:=[.run 1,.val b,.val g,.val (.int .i64 l),.dec true,.run 3,.call (.bool false) a,.run 2,.aM,.aM,.run 1,.val (.int .i64 (n2003:Int)),.dec true,.fT [0,1,2,7,21] .normal [] u,.run 1,.val (.int .i64 (n2003:Int)),.dec true,.fT [0,1,2,7,28] .normal [] H,.run 2,.call (.agg [(.int .i64 K),(.str L),(.int .i64 M),(.bool N),(.int .i64 O),(.str Q),S,T,U,V]) W,.cA Y Z,.cA A B,.run 1]) (want:=[0,1,2,7]) (by kernel_rfl) (.cons a0<|.cons X<|.cons (lX n (hR.mono (by omega)) J)<|.cons (jX n hR I)<|.cons (decide_eq_true w)<|.cons (cV (P:=C0.P) (t:=26) (e:=28) (by kernel_rfl) d)<|.cons (fC n hR z)<|.cons (decide_eq_true s)<|.cons (cV (P:=C0.P) (t:=26) (e:=28) (by kernel_rfl) d)<|.cons (bN (n+2) q)<|.cons (eG c)<|.cons j<|.cons i<|.cons (cB f) .nil)) (ih A B _ h)
      ·refine aA fun _o a1=>aA fun o a2=>?_
       obtain⟨a3,a4,a5,a6,a7,a8,a9,b0,b1,b2,b3⟩:=o;refine aA fun o b4=>?_;obtain⟨b5,b6⟩:=o;refine aA fun o b7=>?_;obtain⟨C,D⟩:=o;intro h;exact cS (aK (hs:=[.run 1,.val b,.val g,.val (.int .i64 l),.dec true,.run 3,.call (.bool false) a,.run 2,.aM,.aM,.run 1,.val (.int .i64 (n2003:Int)),.dec true,.fT [0,1,2,7,21] .normal [] u,.run 1,.val (.int .i64 (n2003:Int)),.dec false,.fT [0,1,2,7,28] .normal [] u,.run 2,.call (.agg [(.int .i64 a3),(.str a4),(.int .i64 a5),(.bool a6),(.int .i64 a7),(.str a8),a9,b0,b1,b2]) b3,.cA b5 b6,.cA C D,.run 1]) (want:=[0,1,2,7]) (by kernel_rfl) (.cons b7<|.cons b4<|.cons (lX n (hR.mono (by omega)) a2)<|.cons (eR n hR u a1)<|.cons (decide_eq_false w)<|.cons (cV (P:=C0.P) (t:=26) (e:=28) (by kernel_rfl) d)<|.cons (fC n hR z)<|.cons (decide_eq_true s)<|.cons (cV (P:=C0.P) (t:=26) (e:=28) (by kernel_rfl) d)<|.cons (bN (n+2) q)<|.cons (eG c)<|.cons j<|.cons i<|.cons (cB f) .nil)) (ih C D _ h)
     ·refine aA fun _o b8=>aA fun _o c0=>aA fun o c1=>?_
      obtain⟨c2,c3,c4,c5,c6,c7,c8,c9,d0,d1,d2⟩:=o;refine aA fun o d3=>?_;obtain⟨d4,d5⟩:=o;refine aA fun o d6=>?_;obtain⟨E,F⟩:=o;intro h;exact cS (aK (hs:=[.run 1,.val b,.val g,.val (.int .i64 l),.dec true,.run 3,.call (.bool false) a,.run 2,.aM,.aM,.run 1,.val (.int .i64 (n2003:Int)),.dec false,.fT [0,1,2,7,21] .normal [] a,.run 1,.val (.int .i64 (n2003:Int)),.dec false,.fT [0,1,2,7,28] .normal [] a,.run 2,.call (.agg [(.int .i64 c2),(.str c3),(.int .i64 c4),(.bool c5),(.int .i64 c6),(.str c7),c8,c9,d0,d1]) d2,.cA d4 d5,.cA E F,.run 1]) (want:=[0,1,2,7]) (by kernel_rfl) (.cons d6<|.cons d3<|.cons (lX n (hR.mono (by omega)) c1)<|.cons (eR n hR a c0)<|.cons (decide_eq_false (show ¬ ((n2003:Int)≥32) by omega))<|.cons (cV (P:=C0.P) (t:=26) (e:=28) (by kernel_rfl) d)<|.cons (jV n hR a b8)<|.cons (decide_eq_false s)<|.cons (cV (P:=C0.P) (t:=26) (e:=28) (by kernel_rfl) d)<|.cons (bN (n+2) q)<|.cons (eG c)<|.cons j<|.cons i<|.cons (cB f) .nil)) (ih E F _ h)
   ·intro h;obtain rfl:=b9 h;exact bI (aK (hs:=[.run 1,.val b,.val g,.val (.int .i64 l),.dec false,.run 2,.aM]) (want:=[7]) (by kernel_rfl) (.cons (dP c)<|.cons j<|.cons i<|.cons (cB f) .nil)) (by kernel_rfl)
def dC (R:dF)(a:AV)(b:List UInt8)(c:AV)(d:St):Option (AV×St):=
 (bB R a b c R.n AV.aF d).bind fun(e,f)=>
 some (e,f)
theorem lP {R:dF}(n:Nat)(hR:R.ok n){a:AV}{b:List UInt8}{c:AV}{d:St}{r:AV×St}(h:dC R a b c d=some r):
 oE 37 bK R.n (n+4) 176 [1,1,0] [(0,a),(1,(.str b)),(2,(.func (.func 177) [] [c])),(7,AV.aF)] d .normal [(7,r.1)] r.2:=by
 revert h;unfold dC;refine aA fun o e=>?_;obtain⟨f,g⟩:=o;intro h;obtain rfl:=b9 h;exact aK (hs:=[.aM,.abs [0,1,2,7] (.exit 0) [(7,f)] g]) (want:=[7]) (by kernel_rfl) (aG (bY (lK R n hR a b c R.n AV.aF d _ e)) eE)
def dS (R:dF)(a:AV)(b:List UInt8)(c:AV)(d:St):Option (AV×St):=
 (dC R a b c d).bind fun(e,f)=>
 some (e,f)
theorem mX {R:dF}(n:Nat)(hR:R.ok n){a:AV}{b:List UInt8}{c:AV}{d:St}{r:AV×St}(h:dS R a b c d=some r):
 aR (aW C0 bK R.n (n+5)) false 176 [a,(.str b),(.func (.func 177) [] [c])] d r.1 r.2:=by
 revert h;unfold dS;refine aA fun o e=>?_;obtain⟨f,g⟩:=o;intro h;obtain rfl:=b9 h;exact dE (hs:=[.run 2,.nW [0,1,2,7] .normal [(7,f)] g,.run 2]) (by kernel_rfl) (aG (lP n hR e) eE)
def fH (R:dF)(b:Nat)(c:AV)(a:St):Option (Int×List UInt8×Int×Bool×Int×List UInt8×AV×AV×AV×AV×St):=
 (loadAt C0.P (St.push a (.cells 28 true [(.int .i64 0),(.str []),(.int .i64 0),(.bool false),(.int .i64 0),(.str []),AV.aF,AV.aF,AV.aF,AV.aF])) 22 (.ref b 0)).bind fun d=>
 (loadAt C0.P (St.push a (.cells 28 true [(.int .i64 0),(.str []),(.int .i64 0),(.bool false),(.int .i64 0),(.str []),AV.aF,AV.aF,AV.aF,AV.aF])) 124 c).bind fun j=>
 (eC R.n j (St.push a (.cells 28 true [(.int .i64 0),(.str []),(.int .i64 0),(.bool false),(.int .i64 0),(.str []),AV.aF,AV.aF,AV.aF,AV.aF]))).bind fun(k,e)=>
 (loadAt C0.P e 22 (.ref b 0)).bind fun l=>
 if AV.beq l d=true then
  (eV (aY C0.P (C0.cQ 178) 22 1 [(0,(.str k))]) e).bind fun(m,o)=>
  (cX C0.P (C0.cQ 178) o #[22,22] d m).bind fun(p,q)=>
  (storeAt C0.P q 22 (.ref b 0) p).bind fun f=>
  (loadAt C0.P f 124 c).bind fun g=>
  (bQ R g g [58] f).bind fun h=>
  (loadAt C0.P h 124 c).bind fun r=>
  (dK R r 0 h).bind fun(s,t,u,v,w,x,y,z,A,B,C)=>
  (storeAt C0.P C 28 (.ref (St.next a) 0) (.agg [(.int .i64 s),(.str t),(.int .i64 u),(.bool v),(.int .i64 w),(.str x),y,z,A,B])).bind fun i=>
  (loadAt C0.P i 28 (.ref (St.next a) 0)).bind fun D=>
  (aD D).bind fun(E,F,G,H,I,J,K,L,M,N)=>
  some (E,F,G,H,I,J,K,L,M,N,i)
 else
  none
theorem mC {R:dF}(n:Nat)(hR:R.ok n){a:Nat}{b:AV}{c:St}{r:Int×List UInt8×Int×Bool×Int×List UInt8×AV×AV×AV×AV×St}(h:fH R a b c=some r):
 aR (aW C0 bK R.n (n+4)) false 178 [(.ref a 0),b] c (.agg [.int .i64 r.1,.str r.2.1,.int .i64 r.2.2.1,.bool r.2.2.2.1,.int .i64 r.2.2.2.2.1,.str r.2.2.2.2.2.1,r.2.2.2.2.2.2.1,r.2.2.2.2.2.2.2.1,r.2.2.2.2.2.2.2.2.1,r.2.2.2.2.2.2.2.2.2.1]) r.2.2.2.2.2.2.2.2.2.2:=by
 revert h;unfold fH;refine aA fun g i=>aA fun j k=>aA fun o l=>?_
 obtain⟨m,p⟩:=o;refine aA fun a5 q=>?_;refine aU (fun d=>?_) (fun d=>?_)
 ·refine aA fun o s=>?_;obtain⟨t,u⟩:=o;refine aA fun o v=>?_;obtain⟨w,x⟩:=o;refine aA fun y z=>aA fun e f=>aA fun A B=>aA fun C D=>aA fun o E=>?_
  obtain⟨F,G,H,I,J,K,L,M,N,O,P⟩:=o;refine aA fun Q S=>aA fun a6 T=>aA fun o U=>?_
  obtain⟨V,W,X,Y,Z,a0,a1,a2,a3,a4⟩:=o;obtain rfl:=aC U;intro h;obtain rfl:=b9 h;exact dE (hs:=[.run 1,.val g,.val j,.call (.str m) p,.cA t u,.cA w x,.cA AV.undef y,.val e,.val e,.run 1,.call (.tuple []) A,.val C,.call (aJ F G H I J K L M N O) P,.cA AV.undef Q,.val (aJ V W X Y Z a0 a1 a2 a3 a4)]) (by kernel_rfl) (aG T<|aG (aN S)<|aG (fL n (hR.mono (by omega)) E)<|aG D<|aG (dR n (hR.mono (by omega)) B)<|aG f<|aG f<|aG (aN z)<|aG v<|aG s<|aG (jQ q d)<|aG (iT (n+1) l)<|aG k<|aG i eE)
 ·exact fun h=>nomatch h
def cO (R:dF)(a:AV)(d:List UInt8)(e:Nat)(f:AV)(g:AV)(b:St):Option (St):=
 (bQ R a a [44] b).bind fun c=>
 some c
theorem fB {R:dF}(n:Nat)(hR:R.ok n){a:AV}{b:List UInt8}{c:Nat}{d:AV}{e:AV}{f:St}{r:St}(h:cO R a b c d e f=some r):
 oE 37 bK R.n (n+4) 176 [1,1,0,0,0,1,0,0,1] [(0,a),(1,(.str b)),(2,(.func (.func 178) [] [(.ref c 0),d])),(7,e),(21,(.bool true))] f .normal [] r:=by
 revert h;unfold cO;refine aA fun g i=>?_;intro h;obtain rfl:=b9 h;exact aK (hs:=[.aM,.run 3,.call (.tuple []) g]) (want:=[]) (by kernel_rfl) (aG (dR (n+1) (hR.mono (by omega)) i) eE)
def cI (R:dF)(a:AV)(d:List UInt8)(e:Nat)(f:AV)(g:AV)(b:St):Option (St):=
 (bV R.n a 3 b).bind fun c=>
 some c
theorem kA {R:dF}(n:Nat)(hR:R.ok n){a:AV}{b:List UInt8}{c:Nat}{d:AV}{e:AV}{f:St}{r:St}(h:cI R a b c d e f=some r):
 oE 37 bK R.n (n+4) 176 [1,1,0,0,0,1,0,1,0,1] [(0,a),(1,(.str b)),(2,(.func (.func 178) [] [(.ref c 0),d])),(7,e),(28,(.bool true))] f .normal [] r:=by
 revert h;unfold cI;refine aA fun g i=>?_;intro h;obtain rfl:=b9 h;exact aK (hs:=[.aM,.run 1,.call (.tuple []) g]) (want:=[]) (by kernel_rfl) (aG (cK (n+3) i) eE)
def bH (R:dF)(a:AV)(b:List UInt8)(c:Nat)(d:AV)(e:AV):Option (Unit):=
 some ()
theorem eQ {R:dF}(n:Nat)(hR:R.ok n){a:AV}{b:List UInt8}{c:Nat}{d:AV}{e:AV}(f:St){r:Unit}(h:bH R a b c d e=some r):
 oE 37 bK R.n (n+4) 176 [1,1,0,0,0,1,0,1,0,1] [(0,a),(1,(.str b)),(2,(.func (.func 178) [] [(.ref c 0),d])),(7,e),(28,(.bool false))] f .normal [] f:=by
 revert h;unfold bH;intro h;obtain rfl:=b9 h;exact aK (hs:=[.aM]) (want:=[]) (by kernel_rfl) .nil
def cG (R:dF)(a:AV)(b:List UInt8)(c:Nat)(d:AV)(e:AV):Option (Unit):=
 some ()
theorem jN {R:dF}(n:Nat)(hR:R.ok n){a:AV}{b:List UInt8}{c:Nat}{d:AV}{e:AV}(f:St){r:Unit}(h:cG R a b c d e=some r):
 oE 37 bK R.n (n+4) 176 [1,1,0,0,0,1,0,0,1] [(0,a),(1,(.str b)),(2,(.func (.func 178) [] [(.ref c 0),d])),(7,e),(21,(.bool false))] f .normal [] f:=by
 revert h;unfold cG;intro h;obtain rfl:=b9 h;exact aK (hs:=[.aM]) (want:=[]) (by kernel_rfl) .nil
def bC (R : dF) (a : AV) (e : List UInt8) (b : Nat) (c : AV) : Nat → AV → St → Option ((AV × St))
 | 0,_,_=>none
 | r + 1, d, f =>
   (aZ a).bind fun _=>
   (shift a 5).bind fun i=>
   (loadAt C0.P f 42 i).bind fun j=>
   (dN .i64 j).bind fun k=>
   if (k = 0) then
    (dD R.n a e f).bind fun(l,g)=>
    if l=true then
     some (d,g)
    else
     (lenOf d).bind fun n2362=>
     if((n2362:Int)>0) then
      (cO R a e b c d g).bind fun h=>
      if((n2362:Int)≥32) then
       (cI R a e b c d h).bind fun m=>
       (fH R b c m).bind fun(o,p,q,s,t,u,v,w,x,y,z)=>
       (eV (aY C0.P (C0.cQ 176) 26 1 [(0,(.agg [(.int .i64 o),(.str p),(.int .i64 q),(.bool s),(.int .i64 t),(.str u),v,w,x,y]))]) z).bind fun(A,B)=>
       (cX C0.P (C0.cQ 176) B #[26,26] d A).bind fun(C,D)=>
       bC R a e b c r C D
      else
       (bH R a e b c d).bind fun _=>
       (fH R b c h).bind fun(E,F,G,H,I,J,K,L,M,N,O)=>
       (eV (aY C0.P (C0.cQ 176) 26 1 [(0,(.agg [(.int .i64 E),(.str F),(.int .i64 G),(.bool H),(.int .i64 I),(.str J),K,L,M,N]))]) O).bind fun(Q,S)=>
       (cX C0.P (C0.cQ 176) S #[26,26] d Q).bind fun(T,U)=>
       bC R a e b c r T U
     else
      (cG R a e b c d).bind fun _=>
      (bH R a e b c d).bind fun _=>
      (fH R b c g).bind fun(V,W,X,Y,Z,a0,a1,a2,a3,a4,a5)=>
      (eV (aY C0.P (C0.cQ 176) 26 1 [(0,(.agg [(.int .i64 V),(.str W),(.int .i64 X),(.bool Y),(.int .i64 Z),(.str a0),a1,a2,a3,a4]))]) a5).bind fun(a6,a7)=>
      (cX C0.P (C0.cQ 176) a7 #[26,26] d a6).bind fun(a8,a9)=>
      bC R a e b c r a8 a9
   else
    some (d,f)
def dY (o:(AV×St)):cE×List (Nat×AV)×St:=match o with
 | (a0,a1)=>((.exit 0),[(7,a0)],a1)
theorem lJ (R : dF) (n : Nat) (hR : R.ok n) (b : AV) (x : List UInt8) (y : Nat) (z : AV) : ∀ (r : Nat) (m : AV) (p : St) (o : (AV × St)), bC R b x y z r m p = some o →
 jL 37 (jA (fun fr k=>cZ C0 (aW C0 bK R.n (n+4)) 176 R.n none (dA C0.P 176 [1,1,0,0,0]) fr k) r) (dI (dA C0.P 176 [1,1,0,0,0])) [(0,b),(1,(.str x)),(2,(.func (.func 178) [] [(.ref y 0),z])),(7,m)] p (dY o).1 (dY o).2.1 (dY o).2.2:=by
 intro r
 induction r with
 | zero=>intro m p o h; exact nomatch h
 | succ r ih =>
   intro m p o
   unfold bC;refine aA fun _o f=>aA fun g i=>aA fun d8 j=>aA fun l H=>?_
   obtain rfl:=bE H;refine aU (fun c=>?_) (fun c=>?_)
   ·refine aA fun o q=>?_;obtain⟨d9,a⟩:=o;refine aU (fun v=>?_) (fun v=>?_)
    ·subst v;intro h;obtain rfl:=b9 h;exact bI (aK (hs:=[.run 1,.val b,.val g,.val (.int .i64 l),.dec true,.run 3,.call (.bool true) a,.run 2,.aM]) (want:=[7]) (by kernel_rfl) (.cons (bN (n+2) q)<|.cons (eG c)<|.cons j<|.cons i<|.cons (cB f) .nil)) (by kernel_rfl)
    ·obtain rfl:=bF v;refine aA fun n2362 d=>?_;refine aU (fun s=>?_) (fun s=>?_)
     ·refine aA fun u A=>?_;refine aU (fun w=>?_) (fun w=>?_)
      ·refine aA fun I J=>aA fun o K=>?_
       obtain⟨L,M,N,O,Q,S,T,U,V,W,X⟩:=o;refine aA fun o Y=>?_;obtain⟨Z,a0⟩:=o;refine aA fun o a1=>?_;obtain⟨B,C⟩:=o;intro h;exact cS (aK (hs:=[.run 1,.val b,.val g,.val (.int .i64 l),.dec true,.run 3,.call (.bool false) a,.run 2,.aM,.aM,.run 1,.val (.int .i64 (n2362:Int)),.dec true,.fT [0,1,2,7,21] .normal [] u,.run 1,.val (.int .i64 (n2362:Int)),.dec true,.fT [0,1,2,7,28] .normal [] I,.run 2,.call (.agg [(.int .i64 L),(.str M),(.int .i64 N),(.bool O),(.int .i64 Q),(.str S),T,U,V,W]) X,.cA Z a0,.cA B C,.run 1]) (want:=[0,1,2,7]) (by kernel_rfl) (.cons a1<|.cons Y<|.cons (mC n (hR.mono (by omega)) K)<|.cons (kA n hR J)<|.cons (decide_eq_true w)<|.cons (cV (P:=C0.P) (t:=26) (e:=28) (by kernel_rfl) d)<|.cons (fB n hR A)<|.cons (decide_eq_true s)<|.cons (cV (P:=C0.P) (t:=26) (e:=28) (by kernel_rfl) d)<|.cons (bN (n+2) q)<|.cons (eG c)<|.cons j<|.cons i<|.cons (cB f) .nil)) (ih B C _ h)
      ·refine aA fun _o a2=>aA fun o a3=>?_
       obtain⟨a4,a5,a6,a7,a8,a9,b0,b1,b2,b3,b4⟩:=o;refine aA fun o b5=>?_;obtain⟨b6,b7⟩:=o;refine aA fun o b8=>?_;obtain⟨D,E⟩:=o;intro h;exact cS (aK (hs:=[.run 1,.val b,.val g,.val (.int .i64 l),.dec true,.run 3,.call (.bool false) a,.run 2,.aM,.aM,.run 1,.val (.int .i64 (n2362:Int)),.dec true,.fT [0,1,2,7,21] .normal [] u,.run 1,.val (.int .i64 (n2362:Int)),.dec false,.fT [0,1,2,7,28] .normal [] u,.run 2,.call (.agg [(.int .i64 a4),(.str a5),(.int .i64 a6),(.bool a7),(.int .i64 a8),(.str a9),b0,b1,b2,b3]) b4,.cA b6 b7,.cA D E,.run 1]) (want:=[0,1,2,7]) (by kernel_rfl) (.cons b8<|.cons b5<|.cons (mC n (hR.mono (by omega)) a3)<|.cons (eQ n hR u a2)<|.cons (decide_eq_false w)<|.cons (cV (P:=C0.P) (t:=26) (e:=28) (by kernel_rfl) d)<|.cons (fB n hR A)<|.cons (decide_eq_true s)<|.cons (cV (P:=C0.P) (t:=26) (e:=28) (by kernel_rfl) d)<|.cons (bN (n+2) q)<|.cons (eG c)<|.cons j<|.cons i<|.cons (cB f) .nil)) (ih D E _ h)
     ·refine aA fun _o c0=>aA fun _o c1=>aA fun o c2=>?_
      obtain⟨c3,c4,c5,c6,c7,c8,c9,d0,d1,d2,d3⟩:=o;refine aA fun o d4=>?_;obtain⟨d5,d6⟩:=o;refine aA fun o d7=>?_;obtain⟨F,G⟩:=o;intro h;exact cS (aK (hs:=[.run 1,.val b,.val g,.val (.int .i64 l),.dec true,.run 3,.call (.bool false) a,.run 2,.aM,.aM,.run 1,.val (.int .i64 (n2362:Int)),.dec false,.fT [0,1,2,7,21] .normal [] a,.run 1,.val (.int .i64 (n2362:Int)),.dec false,.fT [0,1,2,7,28] .normal [] a,.run 2,.call (.agg [(.int .i64 c3),(.str c4),(.int .i64 c5),(.bool c6),(.int .i64 c7),(.str c8),c9,d0,d1,d2]) d3,.cA d5 d6,.cA F G,.run 1]) (want:=[0,1,2,7]) (by kernel_rfl) (.cons d7<|.cons d4<|.cons (mC n (hR.mono (by omega)) c2)<|.cons (eQ n hR a c1)<|.cons (decide_eq_false (show ¬ ((n2362:Int)≥32) by omega))<|.cons (cV (P:=C0.P) (t:=26) (e:=28) (by kernel_rfl) d)<|.cons (jN n hR a c0)<|.cons (decide_eq_false s)<|.cons (cV (P:=C0.P) (t:=26) (e:=28) (by kernel_rfl) d)<|.cons (bN (n+2) q)<|.cons (eG c)<|.cons j<|.cons i<|.cons (cB f) .nil)) (ih F G _ h)
   ·intro h;obtain rfl:=b9 h;exact bI (aK (hs:=[.run 1,.val b,.val g,.val (.int .i64 l),.dec false,.run 2,.aM]) (want:=[7]) (by kernel_rfl) (.cons (dP c)<|.cons j<|.cons i<|.cons (cB f) .nil)) (by kernel_rfl)
def dB (R:dF)(a:AV)(b:List UInt8)(c:Nat)(d:AV)(e:St):Option (AV×St):=
 (bC R a b c d R.n AV.aF e).bind fun(f,g)=>
 some (f,g)
theorem lQ {R:dF}(n:Nat)(hR:R.ok n){a:AV}{b:List UInt8}{c:Nat}{d:AV}{e:St}{r:AV×St}(h:dB R a b c d e=some r):
 oE 37 bK R.n (n+4) 176 [1,1,0] [(0,a),(1,(.str b)),(2,(.func (.func 178) [] [(.ref c 0),d])),(7,AV.aF)] e .normal [(7,r.1)] r.2:=by
 revert h;unfold dB;refine aA fun o f=>?_;obtain⟨g,i⟩:=o;intro h;obtain rfl:=b9 h;exact aK (hs:=[.aM,.abs [0,1,2,7] (.exit 0) [(7,g)] i]) (want:=[7]) (by kernel_rfl) (aG (bY (lJ R n hR a b c d R.n AV.aF e _ f)) eE)
def dQ (R:dF)(a:AV)(b:List UInt8)(c:Nat)(d:AV)(e:St):Option (AV×St):=
 (dB R a b c d e).bind fun(f,g)=>
 some (f,g)
theorem mW {R:dF}(n:Nat)(hR:R.ok n){a:AV}{b:List UInt8}{c:Nat}{d:AV}{e:St}{r:AV×St}(h:dQ R a b c d e=some r):
 aR (aW C0 bK R.n (n+5)) false 176 [a,(.str b),(.func (.func 178) [] [(.ref c 0),d])] e r.1 r.2:=by
 revert h;unfold dQ;refine aA fun o f=>?_;obtain⟨g,i⟩:=o;intro h;obtain rfl:=b9 h;exact dE (hs:=[.run 2,.nW [0,1,2,7] .normal [(7,g)] i,.run 2]) (by kernel_rfl) (aG (lQ n hR f) eE)
def kG (R : dF) (H : AV) (I : St) : Option (Int × List UInt8 × Int × Bool × Int × List UInt8 × AV × AV × AV × AV × St) :=
 (oQ 124 H I).bind fun(a,b)=>
 (loadAt C0.P (St.push b (.cells 28 true [(.int .i64 0),(.str []),(.int .i64 0),(.bool false),(.int .i64 0),(.str []),AV.aF,AV.aF,AV.aF,AV.aF])) 124 a).bind fun J=>
 (j8 R.n J (St.push b (.cells 28 true [(.int .i64 0),(.str []),(.int .i64 0),(.bool false),(.int .i64 0),(.str []),AV.aF,AV.aF,AV.aF,AV.aF]))).bind fun(d,e)=>
 (loadAt C0.P e 124 a).bind fun g=>
 (aZ g).bind fun _=>
 (shift g 0).bind fun K=>
 (loadAt C0.P e 121 K).bind fun L=>
 (aZ g).bind fun _=>
 (shift g 1).bind fun M=>
 (loadAt C0.P e 3 M).bind fun N=>
 (dN .i64 N).bind fun O=>
 (bA C0.P 121 L (.int .i64 O)).bind fun Q=>
 (loadAt C0.P e 129 Q).bind fun S=>
 (bU S).bind fun(T,U,V)=>
 (storeAt C0.P (St.push e (.cells 129 true [(.int .i64 0),(.str []),(.int .i64 0)])) 129 (.ref (St.next e) 0) (.agg [(.int .i64 T),(.str U),(.int .i64 V)])).bind fun q=>
 (loadAt C0.P q 124 a).bind fun W=>
 (dD R.n W [45] q).bind fun(X,h)=>
 if X=true then
  (loadAt C0.P h 124 a).bind fun k=>
  (R.f152 k h).bind fun(Y,Z,a0,a1,a2,a3,a4,a5,a6,a7,r)=>
  (loadAt C0.P r 124 a).bind fun a8=>
  if AV.beq a8 k=true then
   (eV (aY C0.P (C0.cQ 152) 26 1 [(0,(.agg [(.int .i64 Y),(.str Z),(.int .i64 a0),(.bool a1),(.int .i64 a2),(.str a3),a4,a5,a6,a7]))]) r).bind fun(s,a9)=>
   (Ar s).bind fun _=>
   (bL R.n k 3 [] 0 false 0 [] AV.aF AV.aF s AV.aF a9).bind fun(b0,b1,b2,b3,b4,b5,b6,b7,b8,b9,c0)=>
   (storeAt C0.P c0 28 (.ref (St.next b) 0) (.agg [(.int .i64 b0),(.str b1),(.int .i64 b2),(.bool b3),(.int .i64 b4),(.str b5),b6,b7,b8,b9])).bind fun c1=>
   (cT R d c1).bind fun t=>
   (loadAt C0.P t 28 (.ref (St.next b) 0)).bind fun c2=>
   (aD c2).bind fun(c3,c4,c5,c6,c7,c8,c9,d0,d1,d2)=>
   some (c3,c4,c5,c6,c7,c8,c9,d0,d1,d2,t)
  else
   none
 else
  (loadAt C0.P h 124 a).bind fun d3=>
  (dD R.n d3 [40] h).bind fun(d4,i)=>
  if d4=true then
   (loadAt C0.P i 124 a).bind fun d5=>
   (dK R d5 0 i).bind fun(d6,d7,d8,d9,e0,e1,e2,e3,e4,e5,l)=>
   (storeAt C0.P (St.push l (.cells 28 true [(.int .i64 0),(.str []),(.int .i64 0),(.bool false),(.int .i64 0),(.str []),AV.aF,AV.aF,AV.aF,AV.aF])) 28 (.ref (St.next l) 0) (.agg [(.int .i64 d6),(.str d7),(.int .i64 d8),(.bool d9),(.int .i64 e0),(.str e1),e2,e3,e4,e5])).bind fun u=>
   (loadAt C0.P u 124 a).bind fun v=>
   (bQ R v v [41] u).bind fun w=>
   (loadAt C0.P w 28 (.ref (St.next l) 0)).bind fun e6=>
   (aD e6).bind fun(e7,e8,e9,f0,f1,f2,f3,f4,f5,f6)=>
   (storeAt C0.P w 28 (.ref (St.next b) 0) (.agg [(.int .i64 e7),(.str e8),(.int .i64 e9),(.bool f0),(.int .i64 f1),(.str f2),f3,f4,f5,f6])).bind fun f7=>
   (cT R d f7).bind fun x=>
   (loadAt C0.P x 28 (.ref (St.next b) 0)).bind fun f8=>
   (aD f8).bind fun(f9,g0,g1,g2,g3,g4,g5,g6,g7,g8)=>
   some (f9,g0,g1,g2,g3,g4,g5,g6,g7,g8,x)
  else
   (loadAt C0.P i 124 a).bind fun g9=>
   (dD R.n g9 [91] i).bind fun(h0,j)=>
   if h0=true then
    (loadAt C0.P j 124 a).bind fun h1=>
    (dS R h1 [93] a j).bind fun(y,m)=>
    (Ar y).bind fun _=>
    (storeAt C0.P (St.push m (.cells 28 true [(.int .i64 0),(.str []),(.int .i64 0),(.bool false),(.int .i64 0),(.str []),AV.aF,AV.aF,AV.aF,AV.aF])) 28 (.ref (St.next m) 0) (.agg [(.int .i64 7),(.str []),(.int .i64 0),(.bool false),(.int .i64 0),(.str []),AV.aF,AV.aF,y,AV.aF])).bind fun o=>
    (loadAt C0.P o 124 a).bind fun h2=>
    (loadAt C0.P o 28 (.ref (St.next m) 0)).bind fun h3=>
    (aD h3).bind fun(h4,h5,h6,h7,h8,h9,i0,i1,i2,i3)=>
    (bL R.n h2 h4 h5 h6 h7 h8 h9 i0 i1 i2 i3 o).bind fun(i4,i5,i6,i7,i9,j0,j1,j2,j3,j4,j5)=>
    (storeAt C0.P j5 28 (.ref (St.next b) 0) (.agg [(.int .i64 i4),(.str i5),(.int .i64 i6),(.bool i7),(.int .i64 i9),(.str j0),j1,j2,j3,j4])).bind fun j6=>
    (cT R d j6).bind fun z=>
    (loadAt C0.P z 28 (.ref (St.next b) 0)).bind fun j7=>
    (aD j7).bind fun(j9,k0,k1,k2,k3,k4,k5,k6,k7,k8)=>
    some (j9,k0,k1,k2,k3,k4,k5,k6,k7,k8,z)
   else
    (loadAt C0.P j 124 a).bind fun k9=>
    (dD R.n k9 [123] j).bind fun(l0,c)=>
    if l0=true then
     (storeAt C0.P (St.push (St.push c (.cells 22 true [AV.aF])) (.cells 28 true [(.int .i64 0),(.str []),(.int .i64 0),(.bool false),(.int .i64 0),(.str []),AV.aF,AV.aF,AV.aF,AV.aF])) 28 (.ref (St.next (St.push c (.cells 22 true [AV.aF]))) 0) (.agg [(.int .i64 8),(.str []),(.int .i64 0),(.bool false),(.int .i64 0),(.str []),AV.aF,AV.aF,AV.aF,AV.aF])).bind fun A=>
     (loadAt C0.P A 124 a).bind fun l1=>
     (dQ R l1 [125] (St.next c) a A).bind fun(l2,l3)=>
     (storeAt C0.P l3 26 (.ref (St.next (St.push c (.cells 22 true [AV.aF]))) 8) l2).bind fun B=>
     (loadAt C0.P B 22 (.ref (St.next c) 0)).bind fun l4=>
     (storeAt C0.P B 22 (.ref (St.next (St.push c (.cells 22 true [AV.aF]))) 9) l4).bind fun p=>
     (loadAt C0.P p 124 a).bind fun l5=>
     (loadAt C0.P p 28 (.ref (St.next (St.push c (.cells 22 true [AV.aF]))) 0)).bind fun l6=>
     (aD l6).bind fun(l7,l8,l9,m0,m1,m2,m3,m4,m5,m6)=>
     (bL R.n l5 l7 l8 l9 m0 m1 m2 m3 m4 m5 m6 p).bind fun(m7,m8,m9,n0,n1,n2,n3,n4,n5,n6,n7)=>
     (storeAt C0.P n7 28 (.ref (St.next b) 0) (.agg [(.int .i64 m7),(.str m8),(.int .i64 m9),(.bool n0),(.int .i64 n1),(.str n2),n3,n4,n5,n6])).bind fun n8=>
     (cT R d n8).bind fun C=>
     (loadAt C0.P C 28 (.ref (St.next b) 0)).bind fun n9=>
     (aD n9).bind fun(o0,o1,o2,o3,o4,o5,o6,o7,o8,o9)=>
     some (o0,o1,o2,o3,o4,o5,o6,o7,o8,o9,C)
    else
     (loadAt C0.P c 3 (.ref (St.next e) 0)).bind fun p0=>
     (dN .i64 p0).bind fun p1=>
     if (p1 = 1) then
      (loadAt C0.P c 124 a).bind fun f=>
      (aZ f).bind fun _=>
      (shift f 5).bind fun p2=>
      (loadAt C0.P c 42 p2).bind fun p3=>
      (dN .i64 p3).bind fun p4=>
      if(p4=0) then
        (kT R.n f c).bind fun(p5,D)=>
        (loadAt C0.P D 124 a).bind fun p6=>
        if AV.beq p6 f=true then
         (bL R.n f 2 p5 0 false 0 [] AV.aF AV.aF AV.aF AV.aF D).bind fun(p7,p8,p9,q0,q1,q2,q3,q4,q5,q6,q7)=>
         (storeAt C0.P q7 28 (.ref (St.next b) 0) (.agg [(.int .i64 p7),(.str p8),(.int .i64 p9),(.bool q0),(.int .i64 q1),(.str q2),q3,q4,q5,q6])).bind fun q8=>
         (cT R d q8).bind fun E=>
         (loadAt C0.P E 28 (.ref (St.next b) 0)).bind fun q9=>
         (aD q9).bind fun(r0,r1,r2,r3,r4,r5,r6,r7,r8,r9)=>
         some (r0,r1,r2,r3,r4,r5,r6,r7,r8,r9,E)
        else
         none
      else
        (gJ R.n f c).bind fun(s0,s1,s2,s3,s4,s5,s6,s7,s8,s9,t0)=>
        (storeAt C0.P t0 28 (.ref (St.next b) 0) (.agg [(.int .i64 s0),(.str s1),(.int .i64 s2),(.bool s3),(.int .i64 s4),(.str s5),s6,s7,s8,s9])).bind fun t1=>
        (cT R d t1).bind fun F=>
        (loadAt C0.P F 28 (.ref (St.next b) 0)).bind fun t2=>
        (aD t2).bind fun(t3,t4,t5,t6,t7,t8,t9,u0,u1,u2)=>
        some (t3,t4,t5,t6,t7,t8,t9,u0,u1,u2,F)
     else
      (loadAt C0.P c 124 a).bind fun u3=>
      (gJ R.n u3 c).bind fun(u4,u5,u6,u7,u9,v0,v1,v2,v3,v4,v5)=>
      (storeAt C0.P v5 28 (.ref (St.next b) 0) (.agg [(.int .i64 u4),(.str u5),(.int .i64 u6),(.bool u7),(.int .i64 u9),(.str v0),v1,v2,v3,v4])).bind fun v6=>
      (cT R d v6).bind fun G=>
      (loadAt C0.P G 28 (.ref (St.next b) 0)).bind fun v7=>
      (aD v7).bind fun(v8,v9,w0,w1,w2,w3,w4,w5,w6,w7)=>
      some (v8,v9,w0,w1,w2,w3,w4,w5,w6,w7,G)
theorem zH {R : dF} (n : Nat) (hR : R.ok n) {m : AV} {p : St} {r : Int × List UInt8 × Int × Bool × Int × List UInt8 × AV × AV × AV × AV × St} (h : kG R m p = some r):
 aR (aW C0 bK R.n (n+6)) false 152 [m] p (.agg [.int .i64 r.1,.str r.2.1,.int .i64 r.2.2.1,.bool r.2.2.2.1,.int .i64 r.2.2.2.2.1,.str r.2.2.2.2.2.1,r.2.2.2.2.2.2.1,r.2.2.2.2.2.2.2.1,r.2.2.2.2.2.2.2.2.1,r.2.2.2.2.2.2.2.2.2.1]) r.2.2.2.2.2.2.2.2.2.2:=by
 revert h;unfold kG;refine aA fun o D=>?_;obtain⟨E,F⟩:=o;refine aA fun G H=>aA fun o I=>?_
 obtain⟨J,K⟩:=o;refine aA fun b q=>aA fun _o L=>aA fun M N=>aA fun O P=>aA fun _o Q=>aA fun S T=>aA fun F6 U=>aA fun V W=>?_
 obtain rfl:=bE W;refine aA fun X Y=>aA fun F7 Z=>aA fun o a0=>?_
 obtain⟨a1,a2,a3⟩:=o;obtain rfl:=bR a0;refine aA fun a4 a5=>aA fun a6 a7=>aA fun o a8=>?_
 obtain⟨F8,d⟩:=o;have q9022:=aG (bN (n+3) a8)<|aG a7<|aG (aN a5)<|aG Z<|aG Y<|aG U<|aG T<|aG (cB Q)<|aG q<|aG P<|aG N<|aG (cB L)<|aG q<|aG (s8 (n+3) I)<|aG H<|aG (pE D) eE
 let q8027:List Hint:=[.cA E F,.run 1,.val G,.call (.func (.func 201) [] [J]) K,.val b,.val b,.val M,.val O,.val b,.val b,.val S,.val (.int .i64 V),.val X,.val (nU a1 a2 a3),.run 1,.cA AV.undef a4,.aM,.val a6]
 refine aU (fun e=>?_) (fun e=>?_)
 ·subst e;refine aA fun f s=>aA fun o a9=>?_
  obtain⟨b0,b1,b2,b3,b4,b5,b6,b7,b8,c0,c1⟩:=o;refine aA fun F9 c2=>?_;refine aU (fun t=>?_) (fun t=>?_)
  ·refine aA fun o c3=>?_;obtain⟨u,c4⟩:=o;refine aA fun _o c5=>aA fun o c6=>?_
   obtain⟨c7,c8,c9,d0,d1,d2,d3,d4,d5,d6,d7⟩:=o;refine aA fun d8 d9=>aA fun e0 e1=>aA fun G0 e2=>aA fun o e3=>?_
   obtain⟨e4,e5,e6,e7,e8,e9,f0,f1,f2,f3⟩:=o;obtain rfl:=aC e3;intro h;obtain rfl:=b9 h;exact dE (hs:=q8027 ++ [.call (.bool true) d,.run 1,.aM,.val f,.val f,.call (aJ b0 b1 b2 b3 b4 b5 b6 b7 b8 c0) c1,.cA u c4,.Lx [[(.int .i64 3)],[u]],.call (aJ c7 c8 c9 d0 d1 d2 d3 d4 d5 d6) d7,.cA AV.undef d8,.call (.tuple []) e0,.val (aJ e4 e5 e6 e7 e8 e9 f0 f1 f2 f3)]) (by kernel_rfl) (aG e2<|aG (dL (n+4) (hR.mono (by omega)) e1)<|aG (aN d9)<|aG (bO (n+3) c6)<|aG (mB (rfl:AV.cells (.int .i64 3)=[(.int .i64 3)]) (mB (rY c5) (A1)))<|aG c3<|aG (jQ c2 t)<|aG (hR.DI (n+5) (by omega) f d _ a9)<|aG s<|aG s q9022)
  ·exact fun h=>nomatch h
 ·obtain rfl:=bF e;refine aA fun f4 f5=>aA fun o f6=>?_
  obtain⟨G1,v⟩:=o;have q9023:=aG (bN (n+3) f6)<|aG f5 q9022
  let q8028:List Hint:=q8027 ++ [.call (.bool false) d,.run 1,.aM,.val f4]
  refine aU (fun g=>?_) (fun g=>?_)
  ·subst g;refine aA fun f7 f8=>aA fun o f9=>?_
   obtain⟨g0,g1,g2,g3,g4,g5,g6,g7,g8,g9,h0⟩:=o;refine aA fun h1 h2=>aA fun w x=>aA fun h3 h4=>aA fun G2 h5=>aA fun o h6=>?_
   obtain⟨h7,h8,h9,i0,i1,i2,i3,i4,i5,i6⟩:=o;obtain rfl:=aC h6;refine aA fun i7 i9=>aA fun j0 j1=>aA fun G3 j2=>aA fun o j3=>?_
   obtain⟨j4,j5,j6,j7,j8,j9,k0,k1,k2,k3⟩:=o;obtain rfl:=aC j3;intro h;obtain rfl:=b9 h;exact dE (hs:=q8028 ++ [.call (.bool true) v,.run 1,.aM,.val f7,.call (aJ g0 g1 g2 g3 g4 g5 g6 g7 g8 g9) h0,.run 1,.cA AV.undef h1,.val w,.val w,.run 1,.call (.tuple []) h3,.val (aJ h7 h8 h9 i0 i1 i2 i3 i4 i5 i6),.cA AV.undef i7,.call (.tuple []) j0,.val (aJ j4 j5 j6 j7 j8 j9 k0 k1 k2 k3)]) (by kernel_rfl) (aG j2<|aG (dL (n+4) (hR.mono (by omega)) j1)<|aG (aN i9)<|aG h5<|aG (dR (n+2) (hR.mono (by omega)) h4)<|aG x<|aG x<|aG (aN h2)<|aG (fL (n+2) (hR.mono (by omega)) f9)<|aG f8 q9023)
  ·obtain rfl:=bF g;refine aA fun k4 k5=>aA fun o k6=>?_
   obtain⟨G4,y⟩:=o;have q9024:=aG (bN (n+3) k6)<|aG k5 q9023
   let q8029:List Hint:=q8028 ++ [.call (.bool false) v,.run 1,.aM,.val k4]
   refine aU (fun i=>?_) (fun i=>?_)
   ·subst i;refine aA fun k7 k8=>aA fun o k9=>?_
    obtain⟨z,l0⟩:=o;refine aA fun _o l1=>aA fun l2 l3=>aA fun l4 l5=>aA fun G5 l6=>aA fun o l7=>?_
    obtain⟨l8,l9,m0,m1,m2,m3,m4,m5,m6,m7⟩:=o;obtain rfl:=aC l7;refine aA fun o m8=>?_;obtain⟨m9,n0,n1,n2,n3,n4,n5,n6,n7,n8,n9⟩:=o;refine aA fun o0 o1=>aA fun o2 o3=>aA fun G6 o4=>aA fun o o5=>?_
    obtain⟨o6,o7,o8,o9,p0,p1,p2,p3,p4,p5⟩:=o;obtain rfl:=aC o5;intro h;obtain rfl:=b9 h;exact dE (hs:=q8029 ++ [.call (.bool true) y,.run 1,.aM,.val k7,.run 1,.call z l0,.Lx [[(.int .i64 7)],[z]],.run 1,.cA AV.undef l2,.val l4,.val (aJ l8 l9 m0 m1 m2 m3 m4 m5 m6 m7),.call (aJ m9 n0 n1 n2 n3 n4 n5 n6 n7 n8) n9,.cA AV.undef o0,.call (.tuple []) o2,.val (aJ o6 o7 o8 o9 p0 p1 p2 p3 p4 p5)]) (by kernel_rfl) (aG o4<|aG (dL (n+4) (hR.mono (by omega)) o3)<|aG (aN o1)<|aG (bO (n+3) m8)<|aG l6<|aG l5<|aG (aN l3)<|aG (mB (rfl:AV.cells (.int .i64 7)=[(.int .i64 7)]) (mB (rY l1) (A1)))<|aG (mX n (hR.mono (by omega)) k9)<|aG k8 q9024)
   ·obtain rfl:=bF i;refine aA fun p6 p7=>aA fun o p8=>?_
    obtain⟨G7,A⟩:=o;have q9025:=aG (bN (n+3) p8)<|aG p7 q9024
    let q8030:List Hint:=q8029 ++ [.call (.bool false) y,.run 1,.aM,.val p6]
    refine aU (fun j=>?_) (fun j=>?_)
    ·subst j;refine aA fun p9 q0=>aA fun q1 q2=>aA fun o q3=>?_
     obtain⟨q4,q5⟩:=o;refine aA fun q6 q7=>aA fun q8 q9=>aA fun r0 r1=>aA fun r2 r3=>aA fun G8 r4=>aA fun o r5=>?_
     obtain⟨r6,r7,r8,r9,s0,s1,s2,s3,s4,s5⟩:=o;obtain rfl:=aC r5;refine aA fun o s6=>?_;obtain⟨s7,s9,t0,t1,t2,t3,t4,t5,t6,t7,t8⟩:=o;refine aA fun t9 u0=>aA fun u1 u2=>aA fun G9 u3=>aA fun o u4=>?_
     obtain⟨u5,u6,u7,u9,v0,v1,v2,v3,v4,v5⟩:=o;obtain rfl:=aC u4;intro h;obtain rfl:=b9 h;exact dE (hs:=q8030 ++ [.call (.bool true) A,.run 1,.aM,.run 3,.cA AV.undef p9,.val q1,.run 1,.call q4 q5,.run 1,.cA AV.undef q6,.val q8,.run 1,.cA AV.undef r0,.val r2,.val (aJ r6 r7 r8 r9 s0 s1 s2 s3 s4 s5),.call (aJ s7 s9 t0 t1 t2 t3 t4 t5 t6 t7) t8,.cA AV.undef t9,.call (.tuple []) u1,.val (aJ u5 u6 u7 u9 v0 v1 v2 v3 v4 v5)]) (by kernel_rfl) (aG u3<|aG (dL (n+4) (hR.mono (by omega)) u2)<|aG (aN u0)<|aG (bO (n+3) s6)<|aG r4<|aG r3<|aG (aN r1)<|aG q9<|aG (aN q7)<|aG (mW n (hR.mono (by omega)) q3)<|aG q2<|aG (aN q0) q9025)
    ·obtain rfl:=bF j;refine aA fun H0 B=>aA fun v6 v7=>?_
     obtain rfl:=bE v7;let q8031:List Hint:=q8030 ++ [.call (.bool false) A,.run 1,.aM,.run 1,.val (.int .i64 v6)]
     refine aU (fun k=>?_) (fun k=>?_)
     ·refine aA fun a c=>aA fun _o v8=>aA fun v9 w0=>aA fun H1 w1=>aA fun w2 w3=>?_
      obtain rfl:=bE w3;have q9026:=aG w1<|aG w0<|aG (cB v8)<|aG c<|aG (eG k)<|aG B q9025
      let q8032:List Hint:=q8031 ++ [.dec true,.run 1,.val a,.val a,.val v9,.val (.int .i64 w2)]
      refine aU (fun l=>?_) (fun l=>?_)
      ·refine aA fun o w4=>?_;obtain⟨w5,w6⟩:=o;refine aA fun H2 w7=>?_;refine aU (fun C=>?_) (fun C=>?_)
       ·refine aA fun o w8=>?_;obtain⟨w9,x0,x1,x2,x3,x4,x5,x6,x7,x8,x9⟩:=o;refine aA fun y0 y1=>aA fun y2 y3=>aA fun H3 y4=>aA fun o y5=>?_
        obtain⟨y6,y7,y8,y9,z0,z1,z2,z3,z4,z5⟩:=o;obtain rfl:=aC y5;intro h;obtain rfl:=b9 h;exact dE (hs:=q8032 ++ [.dec true,.run 2,.aM,.val a,.val a,.call (.str w5) w6,.run 1,.call (aJ w9 x0 x1 x2 x3 x4 x5 x6 x7 x8) x9,.cA AV.undef y0,.call (.tuple []) y2,.val (aJ y6 y7 y8 y9 z0 z1 z2 z3 z4 z5)]) (by kernel_rfl) (aG y4<|aG (dL (n+4) (hR.mono (by omega)) y3)<|aG (aN y1)<|aG (bO (n+3) w8)<|aG (jQ w7 C)<|aG (zI (n+2) w4)<|aG c<|aG c<|aG (eG l) q9026)
       ·exact fun h=>nomatch h
      ·refine aA fun o z6=>?_;obtain⟨z7,z8,z9,A0,A2,A3,A4,A5,A6,A7,A8⟩:=o;refine aA fun A9 B0=>aA fun B1 B2=>aA fun H4 B3=>aA fun o B4=>?_
       obtain⟨B5,B6,B7,B8,B9,C1,C2,C3,C4,C5⟩:=o;obtain rfl:=aC B4;intro h;obtain rfl:=b9 h;exact dE (hs:=q8032 ++ [.dec false,.run 2,.aM,.val a,.call (aJ z7 z8 z9 A0 A2 A3 A4 A5 A6 A7) A8,.cA AV.undef A9,.call (.tuple []) B1,.val (aJ B5 B6 B7 B8 B9 C1 C2 C3 C4 C5)]) (by kernel_rfl) (aG B3<|aG (dL (n+4) (hR.mono (by omega)) B2)<|aG (aN B0)<|aG (pS (n+2) z6)<|aG c<|aG (dP l) q9026)
     ·refine aA fun C6 C7=>aA fun o C8=>?_
      obtain⟨C9,D0,D1,D2,D3,D4,D5,D6,D7,D8,D9⟩:=o;refine aA fun E0 E1=>aA fun E2 E3=>aA fun H5 E4=>aA fun o E5=>?_
      obtain⟨E6,E7,E8,E9,F0,F1,F2,F3,F4,F5⟩:=o;obtain rfl:=aC E5;intro h;obtain rfl:=b9 h;exact dE (hs:=q8031 ++ [.dec false,.run 3,.aM,.val C6,.call (aJ C9 D0 D1 D2 D3 D4 D5 D6 D7 D8) D9,.cA AV.undef E0,.call (.tuple []) E2,.val (aJ E6 E7 E8 E9 F0 F1 F2 F3 F4 F5)]) (by kernel_rfl) (aG E4<|aG (dL (n+4) (hR.mono (by omega)) E3)<|aG (aN E1)<|aG (pS (n+2) C8)<|aG C7<|aG (dP k)<|aG B q9025)
def FF (R:Nat):Nat→dF
 | 0=>⟨R,(fun _ _ _=>none),(fun _ _=>none),(fun _ _=>none)⟩
 | k+1=>⟨R,(fun a0 a1 st=>dK (FF R k) a0 a1 st),(fun a0 st=>lN (FF R k) a0 st),(fun a0 st=>kG (FF R k) a0 st)⟩
theorem xQ (R:Nat):∀ k,(FF R k).n=R
 | 0=>rfl
 | _+1=>rfl
theorem C7 (R:Nat):∀ k n,6 * k≤n→(FF R k).ok n
 | 0,n,_=>⟨(fun _ _ _ _ _ _ h=>nomatch h),(fun _ _ _ _ _ h=>nomatch h),(fun _ _ _ _ _ h=>nomatch h)⟩
 | k + 1, n, hn => ⟨
   fun m hm a0 a1 st r h=>by
    obtain⟨j,rfl⟩:∃ j,m=j+3:=⟨m - 3,by omega⟩
    have:=fL j (C7 R k j (by omega)) h
    rw[xQ] at this
    exact this,
   fun m hm a0 st r h=>by
    obtain⟨j,rfl⟩:∃ j,m=j+4:=⟨m - 4,by omega⟩
    have:=AS j (C7 R k j (by omega)) h
    rw[xQ] at this
    exact this,
   fun m hm a0 st r h=>by
    obtain⟨j,rfl⟩:∃ j,m=j+6:=⟨m - 6,by omega⟩
    have:=zH j (C7 R k j (by omega)) h
    rw[xQ] at this
    exact this⟩
def jG (R:Nat)(a0:AV)(a1:Int)(st:St):Option (Int×List UInt8×Int×Bool×Int×List UInt8×AV×AV×AV×AV×St):=dK (FF R 4000) a0 a1 st
theorem nY {R:Nat}(n:Nat){a0:AV}{a1:Int}{st:St}{r:Int×List UInt8×Int×Bool×Int×List UInt8×AV×AV×AV×AV×St}(h:jG R a0 a1 st=some r):aR (aW C0 bK R (n+24003)) false 124 [a0,(.int .i64 a1)] st (.agg [.int .i64 r.1,.str r.2.1,.int .i64 r.2.2.1,.bool r.2.2.2.1,.int .i64 r.2.2.2.2.1,.str r.2.2.2.2.2.1,r.2.2.2.2.2.2.1,r.2.2.2.2.2.2.2.1,r.2.2.2.2.2.2.2.2.1,r.2.2.2.2.2.2.2.2.2.1]) r.2.2.2.2.2.2.2.2.2.2:=by
 have:=fL (n+24000) (C7 R 4000 _ (by omega)) h
 rw[xQ] at this
 exact this
def kJ (R:Nat)(b:AV)(a:St):Option (Int×List UInt8×Int×Bool×Int×List UInt8×AV×AV×AV×AV×St):=
 (bW R b [87,72,69,82,69] (St.push a (.cells 28 true [(.int .i64 0),(.str []),(.int .i64 0),(.bool false),(.int .i64 0),(.str []),AV.aF,AV.aF,AV.aF,AV.aF]))).bind fun(f,c)=>
 if f=true then
  (jG R b 0 c).bind fun(g,h,i,j,k,l,m,n,o,p,q)=>
  (storeAt C0.P q 28 (.ref (St.next a) 0) (.agg [(.int .i64 g),(.str h),(.int .i64 i),(.bool j),(.int .i64 k),(.str l),m,n,o,p])).bind fun d=>
  (loadAt C0.P d 28 (.ref (St.next a) 0)).bind fun r=>
  (aD r).bind fun(s,t,u,v,w,x,y,z,A,B)=>
  some (s,t,u,v,w,x,y,z,A,B,d)
 else
  (storeAt C0.P c 28 (.ref (St.next a) 0) (.agg [(.int .i64 0),(.str []),(.int .i64 0),(.bool false),(.int .i64 0),(.str []),AV.aF,AV.aF,AV.aF,AV.aF])).bind fun e=>
  (loadAt C0.P e 28 (.ref (St.next a) 0)).bind fun C=>
  (aD C).bind fun(D,E,F,G,H,I,J,K,L,M)=>
  some (D,E,F,G,H,I,J,K,L,M,e)
theorem yX {R:Nat}(n:Nat){b:AV}{c:St}{r:Int×List UInt8×Int×Bool×Int×List UInt8×AV×AV×AV×AV×St}(h:kJ R b c=some r):
 aR (aW C0 bK R (n+24004)) false 126 [b] c (.agg [.int .i64 r.1,.str r.2.1,.int .i64 r.2.2.1,.bool r.2.2.2.1,.int .i64 r.2.2.2.2.1,.str r.2.2.2.2.2.1,r.2.2.2.2.2.2.1,r.2.2.2.2.2.2.2.1,r.2.2.2.2.2.2.2.2.1,r.2.2.2.2.2.2.2.2.2.1]) r.2.2.2.2.2.2.2.2.2.2:=by
 revert h;unfold kJ;refine aA fun o e=>?_;obtain⟨Y,d⟩:=o;have q9027:=aG (bM (n+24001) e) eE
 refine aU (fun a=>?_) (fun a=>?_)
 ·subst a;refine aA fun o f=>?_;obtain⟨g,i,j,k,l,m,p,q,s,t,u⟩:=o;refine aA fun v w=>aA fun Z x=>aA fun o y=>?_
  obtain⟨z,A,B,C,D,E,F,G,H,I⟩:=o;obtain rfl:=aC y;intro h;obtain rfl:=b9 h;exact dE (hs:=[.run 2,.call (.bool true) d,.run 1,.aM,.run 1,.call (aJ g i j k l m p q s t) u,.cA AV.undef v,.val (aJ z A B C D E F G H I)]) (by kernel_rfl) (aG x<|aG (aN w)<|aG (nY n f) q9027)
 ·obtain rfl:=bF a;refine aA fun J K=>aA fun a0 L=>aA fun o M=>?_
  obtain⟨N,O,P,Q,S,T,U,V,W,X⟩:=o;obtain rfl:=aC M;intro h;obtain rfl:=b9 h;exact dE (hs:=[.run 2,.call (.bool false) d,.run 1,.aM,.run 1,.cA AV.undef J,.val (aJ N O P Q S T U V W X)]) (by kernel_rfl) (aG L<|aG (aN K) q9027)
def bT (R:Nat)(b:AV)(c:AV)(d:List UInt8)(e:St):Option (St):=
 (bW R c d e).bind fun(f,a)=>
 if f=true then
  some a
 else
  (bV R b 120 a).bind fun g=>
  some g
theorem eP {R:Nat}(n:Nat){b:AV}{c:AV}{d:List UInt8}{e:St}{r:St}(h:bT R b c d e=some r):
 aR (aW C0 bK R (n+3)) false 122 [b,(.func (.func 120) [c] []),(.str d)] e (.tuple []) r:=by
 revert h;unfold bT;refine aA fun o f=>?_;obtain⟨k,g⟩:=o;refine aU (fun a=>?_) (fun a=>?_)
 ·subst a;intro h;obtain rfl:=b9 h;exact dE (hs:=[.run 2,.call (.bool true) g,.run 1,.aM]) (by kernel_rfl) (aG (bM n f) eE)
 ·obtain rfl:=bF a;refine aA fun i j=>?_;intro h;obtain rfl:=b9 h;exact dE (hs:=[.run 2,.call (.bool false) g,.run 1,.aM,.run 1,.call (.tuple []) i]) (by kernel_rfl) (aG (cK (n+1) j)<|aG (bM n f) eE)
def kW (R : Nat) (a : AV) (b : St) : Option (Int × List UInt8 × List UInt8 × Int × List UInt8 × Int × Bool × Int × List UInt8 × AV × AV × AV × AV × AV × AV × Int × List UInt8 × Int × Bool × Int × List UInt8 × AV × AV × AV × AV × AV × Bool × Bool × List UInt8 × Bool × Int × St) :=
 (bW R a [67,82,69,65,84,69] (St.push b (.cells 58 true [(.int .i64 0),(.str []),(.str []),(.int .i64 0),(.str []),(.int .i64 0),(.bool false),(.int .i64 0),(.str []),AV.aF,AV.aF,AV.aF,AV.aF,AV.aF,AV.aF,(.int .i64 0),(.str []),(.int .i64 0),(.bool false),(.int .i64 0),(.str []),AV.aF,AV.aF,AV.aF,AV.aF,AV.aF,(.bool false),(.bool false),(.str []),(.bool false),(.int .i64 0)]))).bind fun(r,e)=>
 if r=true then
  (Jp R a e).bind fun(s,t,u,v,w,x,y,z,A,B,C,D,E,F,G,H,I,J,K,L,M,N,O,Q,S,T,U,V,W,X,Y,Z)=>
  (storeAt C0.P Z 58 (.ref (St.next b) 0) (.agg [(.int .i64 s),(.str t),(.str u),(.int .i64 v),(.str w),(.int .i64 x),(.bool y),(.int .i64 z),(.str A),B,C,D,E,F,G,(.int .i64 H),(.str I),(.int .i64 J),(.bool K),(.int .i64 L),(.str M),N,O,Q,S,T,(.bool U),(.bool V),(.str W),(.bool X),(.int .i64 Y)])).bind fun f=>
  (loadAt C0.P f 58 (.ref (St.next b) 0)).bind fun a0=>
  (aH a0).bind fun(a1,a2,a3,a4,a5,a6,a7,a8,a9,b0,b1,b2,b3,b4,b5,b6,b7,b8,b9,c0,c1,c2,c3,c4,c5,c6,c7,c8,c9,d0,d1)=>
  some (a1,a2,a3,a4,a5,a6,a7,a8,a9,b0,b1,b2,b3,b4,b5,b6,b7,b8,b9,c0,c1,c2,c3,c4,c5,c6,c7,c8,c9,d0,d1,f)
 else
  (bW R a [73,78,83,69,82,84] e).bind fun(d2,g)=>
  if d2=true then
   (bT R a a [73,78,84,79] g).bind fun d3=>
   (eC R a d3).bind fun(d4,c)=>
   (storeAt C0.P (St.push c (.cells 58 true [(.int .i64 0),(.str []),(.str []),(.int .i64 0),(.str []),(.int .i64 0),(.bool false),(.int .i64 0),(.str []),AV.aF,AV.aF,AV.aF,AV.aF,AV.aF,AV.aF,(.int .i64 0),(.str []),(.int .i64 0),(.bool false),(.int .i64 0),(.str []),AV.aF,AV.aF,AV.aF,AV.aF,AV.aF,(.bool false),(.bool false),(.str []),(.bool false),(.int .i64 0)])) 58 (.ref (St.next c) 0) (.agg [(.int .i64 3),(.str d4),(.str []),(.int .i64 0),(.str []),(.int .i64 0),(.bool false),(.int .i64 0),(.str []),AV.aF,AV.aF,AV.aF,AV.aF,AV.aF,AV.aF,(.int .i64 0),(.str []),(.int .i64 0),(.bool false),(.int .i64 0),(.str []),AV.aF,AV.aF,AV.aF,AV.aF,AV.aF,(.bool false),(.bool false),(.str []),(.bool false),(.int .i64 (-1))])).bind fun d5=>
   (bT R a a [86,65,76,85,69] d5).bind fun d6=>
   (jG R a 0 d6).bind fun(d7,d8,d9,e0,e1,e2,e3,e4,e5,e6,e7)=>
   (storeAt C0.P e7 28 (.ref (St.next c) 3) (.agg [(.int .i64 d7),(.str d8),(.int .i64 d9),(.bool e0),(.int .i64 e1),(.str e2),e3,e4,e5,e6])).bind fun h=>
   (loadAt C0.P h 58 (.ref (St.next c) 0)).bind fun e8=>
   (aH e8).bind fun(e9,f0,f1,f2,f3,f4,f5,f6,f7,f8,f9,g0,g1,g2,g3,g4,g5,g6,g7,g8,g9,h0,h1,h2,h3,h4,h5,h6,h7,h8,h9)=>
   (storeAt C0.P h 58 (.ref (St.next b) 0) (.agg [(.int .i64 e9),(.str f0),(.str f1),(.int .i64 f2),(.str f3),(.int .i64 f4),(.bool f5),(.int .i64 f6),(.str f7),f8,f9,g0,g1,g2,g3,(.int .i64 g4),(.str g5),(.int .i64 g6),(.bool g7),(.int .i64 g8),(.str g9),h0,h1,h2,h3,h4,(.bool h5),(.bool h6),(.str h7),(.bool h8),(.int .i64 h9)])).bind fun i=>
   (loadAt C0.P i 58 (.ref (St.next b) 0)).bind fun i0=>
   (aH i0).bind fun(i1,i2,i3,i4,i5,i6,i7,i9,j0,j1,j2,j3,j4,j5,j6,j7,j8,j9,k0,k1,k2,k3,k4,k5,k6,k7,k8,k9,l0,l1,l2)=>
   some (i1,i2,i3,i4,i5,i6,i7,i9,j0,j1,j2,j3,j4,j5,j6,j7,j8,j9,k0,k1,k2,k3,k4,k5,k6,k7,k8,k9,l0,l1,l2,i)
  else
   (bW R a [85,80,68,65,84,69] g).bind fun(l3,j)=>
   if l3=true then
    (Jy R a j).bind fun(l4,l5,l6,l7,l8,l9,m0,m1,m2,m3,m4,m5,m6,m7,m8,m9,n0,n1,n2,n3,n4,n5,n6,n7,n8,n9,o0,o1,o2,o3,o4,o5)=>
    (storeAt C0.P o5 58 (.ref (St.next b) 0) (.agg [(.int .i64 l4),(.str l5),(.str l6),(.int .i64 l7),(.str l8),(.int .i64 l9),(.bool m0),(.int .i64 m1),(.str m2),m3,m4,m5,m6,m7,m8,(.int .i64 m9),(.str n0),(.int .i64 n1),(.bool n2),(.int .i64 n3),(.str n4),n5,n6,n7,n8,n9,(.bool o0),(.bool o1),(.str o2),(.bool o3),(.int .i64 o4)])).bind fun k=>
    (loadAt C0.P k 58 (.ref (St.next b) 0)).bind fun o6=>
    (aH o6).bind fun(o7,o8,o9,p0,p1,p2,p3,p4,p5,p6,p7,p8,p9,q0,q1,q2,q3,q4,q5,q6,q7,q8,q9,r0,r1,r2,r3,r4,r5,r6,r7)=>
    some (o7,o8,o9,p0,p1,p2,p3,p4,p5,p6,p7,p8,p9,q0,q1,q2,q3,q4,q5,q6,q7,q8,q9,r0,r1,r2,r3,r4,r5,r6,r7,k)
   else
    (bW R a [68,69,76,69,84,69] j).bind fun(r8,l)=>
    if r8=true then
     (bT R a a [70,82,79,77] l).bind fun r9=>
     (eC R a r9).bind fun(s0,d)=>
     (storeAt C0.P (St.push d (.cells 58 true [(.int .i64 0),(.str []),(.str []),(.int .i64 0),(.str []),(.int .i64 0),(.bool false),(.int .i64 0),(.str []),AV.aF,AV.aF,AV.aF,AV.aF,AV.aF,AV.aF,(.int .i64 0),(.str []),(.int .i64 0),(.bool false),(.int .i64 0),(.str []),AV.aF,AV.aF,AV.aF,AV.aF,AV.aF,(.bool false),(.bool false),(.str []),(.bool false),(.int .i64 0)])) 58 (.ref (St.next d) 0) (.agg [(.int .i64 5),(.str s0),(.str []),(.int .i64 0),(.str []),(.int .i64 0),(.bool false),(.int .i64 0),(.str []),AV.aF,AV.aF,AV.aF,AV.aF,AV.aF,AV.aF,(.int .i64 0),(.str []),(.int .i64 0),(.bool false),(.int .i64 0),(.str []),AV.aF,AV.aF,AV.aF,AV.aF,AV.aF,(.bool false),(.bool false),(.str []),(.bool false),(.int .i64 (-1))])).bind fun s1=>
     (kJ R a s1).bind fun(s2,s3,s4,s5,s6,s7,s8,s9,t0,t1,t2)=>
     (storeAt C0.P t2 28 (.ref (St.next d) 15) (.agg [(.int .i64 s2),(.str s3),(.int .i64 s4),(.bool s5),(.int .i64 s6),(.str s7),s8,s9,t0,t1])).bind fun m=>
     (loadAt C0.P m 58 (.ref (St.next d) 0)).bind fun t3=>
     (aH t3).bind fun(t4,t5,t6,t7,t8,t9,u0,u1,u2,u3,u4,u5,u6,u7,u9,v0,v1,v2,v3,v4,v5,v6,v7,v8,v9,w0,w1,w2,w3,w4,w5)=>
     (storeAt C0.P m 58 (.ref (St.next b) 0) (.agg [(.int .i64 t4),(.str t5),(.str t6),(.int .i64 t7),(.str t8),(.int .i64 t9),(.bool u0),(.int .i64 u1),(.str u2),u3,u4,u5,u6,u7,u9,(.int .i64 v0),(.str v1),(.int .i64 v2),(.bool v3),(.int .i64 v4),(.str v5),v6,v7,v8,v9,w0,(.bool w1),(.bool w2),(.str w3),(.bool w4),(.int .i64 w5)])).bind fun n=>
     (loadAt C0.P n 58 (.ref (St.next b) 0)).bind fun w6=>
     (aH w6).bind fun(w7,w8,w9,x0,x1,x2,x3,x4,x5,x6,x7,x8,x9,y0,y1,y2,y3,y4,y5,y6,y7,y8,y9,z0,z1,z2,z3,z4,z5,z6,z7)=>
     some (w7,w8,w9,x0,x1,x2,x3,x4,x5,x6,x7,x8,x9,y0,y1,y2,y3,y4,y5,y6,y7,y8,y9,z0,z1,z2,z3,z4,z5,z6,z7,n)
    else
     (bW R a [83,69,76,69,67,84] l).bind fun(z8,o)=>
     if z8=true then
      (KT R a o).bind fun(z9,A0,A1,A2,A3,A4,A5,A6,A7,A8,A9,B0,B1,B2,B3,B4,B5,B6,B7,B8,B9,C1,C2,C3,C4,C5,C6,C7,C8,C9,D0,D1)=>
      (storeAt C0.P D1 58 (.ref (St.next b) 0) (.agg [(.int .i64 z9),(.str A0),(.str A1),(.int .i64 A2),(.str A3),(.int .i64 A4),(.bool A5),(.int .i64 A6),(.str A7),A8,A9,B0,B1,B2,B3,(.int .i64 B4),(.str B5),(.int .i64 B6),(.bool B7),(.int .i64 B8),(.str B9),C1,C2,C3,C4,C5,(.bool C6),(.bool C7),(.str C8),(.bool C9),(.int .i64 D0)])).bind fun p=>
      (loadAt C0.P p 58 (.ref (St.next b) 0)).bind fun D2=>
      (aH D2).bind fun(D3,D4,D5,D6,D7,D8,D9,E0,E1,E2,E3,E4,E5,E6,E7,E8,E9,F0,F1,F2,F3,F4,F5,F6,F7,F8,F9,G0,G1,G2,G3)=>
      some (D3,D4,D5,D6,D7,D8,D9,E0,E1,E2,E3,E4,E5,E6,E7,E8,E9,F0,F1,F2,F3,F4,F5,F6,F7,F8,F9,G0,G1,G2,G3,p)
     else
      (bV R a 120 o).bind fun G4=>
      (storeAt C0.P G4 58 (.ref (St.next b) 0) (.agg [(.int .i64 0),(.str []),(.str []),(.int .i64 0),(.str []),(.int .i64 0),(.bool false),(.int .i64 0),(.str []),AV.aF,AV.aF,AV.aF,AV.aF,AV.aF,AV.aF,(.int .i64 0),(.str []),(.int .i64 0),(.bool false),(.int .i64 0),(.str []),AV.aF,AV.aF,AV.aF,AV.aF,AV.aF,(.bool false),(.bool false),(.str []),(.bool false),(.int .i64 0)])).bind fun q=>
      (loadAt C0.P q 58 (.ref (St.next b) 0)).bind fun G5=>
      (aH G5).bind fun(G6,G7,G8,G9,H0,H1,H2,H3,H4,H5,H6,H7,H8,H9,I0,I1,I2,I3,I4,I5,I6,I7,I8,I9,J0,J1,J2,J3,J4,J5,J6)=>
      some (G6,G7,G8,G9,H0,H1,H2,H3,H4,H5,H6,H7,H8,H9,I0,I1,I2,I3,I4,I5,I6,I7,I8,I9,J0,J1,J2,J3,J4,J5,J6,q)
theorem A5 {R : Nat} (n : Nat) {g : AV} {i : St} {r : Int × List UInt8 × List UInt8 × Int × List UInt8 × Int × Bool × Int × List UInt8 × AV × AV × AV × AV × AV × AV × Int × List UInt8 × Int × Bool × Int × List UInt8 × AV × AV × AV × AV × AV × Bool × Bool × List UInt8 × Bool × Int × St} (h : kW R g i = some r):
 aR (aW C0 bK R (n+24005)) false 77 [g] i (.agg [.int .i64 r.1,.str r.2.1,.str r.2.2.1,.int .i64 r.2.2.2.1,.str r.2.2.2.2.1,.int .i64 r.2.2.2.2.2.1,.bool r.2.2.2.2.2.2.1,.int .i64 r.2.2.2.2.2.2.2.1,.str r.2.2.2.2.2.2.2.2.1,r.2.2.2.2.2.2.2.2.2.1,r.2.2.2.2.2.2.2.2.2.2.1,r.2.2.2.2.2.2.2.2.2.2.2.1,r.2.2.2.2.2.2.2.2.2.2.2.2.1,r.2.2.2.2.2.2.2.2.2.2.2.2.2.1,r.2.2.2.2.2.2.2.2.2.2.2.2.2.2.1,.int .i64 r.2.2.2.2.2.2.2.2.2.2.2.2.2.2.2.1,.str r.2.2.2.2.2.2.2.2.2.2.2.2.2.2.2.2.1,.int .i64 r.2.2.2.2.2.2.2.2.2.2.2.2.2.2.2.2.2.1,.bool r.2.2.2.2.2.2.2.2.2.2.2.2.2.2.2.2.2.2.1,.int .i64 r.2.2.2.2.2.2.2.2.2.2.2.2.2.2.2.2.2.2.2.1,.str r.2.2.2.2.2.2.2.2.2.2.2.2.2.2.2.2.2.2.2.2.1,r.2.2.2.2.2.2.2.2.2.2.2.2.2.2.2.2.2.2.2.2.2.1,r.2.2.2.2.2.2.2.2.2.2.2.2.2.2.2.2.2.2.2.2.2.2.1,r.2.2.2.2.2.2.2.2.2.2.2.2.2.2.2.2.2.2.2.2.2.2.2.1,r.2.2.2.2.2.2.2.2.2.2.2.2.2.2.2.2.2.2.2.2.2.2.2.2.1,r.2.2.2.2.2.2.2.2.2.2.2.2.2.2.2.2.2.2.2.2.2.2.2.2.2.1,.bool r.2.2.2.2.2.2.2.2.2.2.2.2.2.2.2.2.2.2.2.2.2.2.2.2.2.2.1,.bool r.2.2.2.2.2.2.2.2.2.2.2.2.2.2.2.2.2.2.2.2.2.2.2.2.2.2.2.1,.str r.2.2.2.2.2.2.2.2.2.2.2.2.2.2.2.2.2.2.2.2.2.2.2.2.2.2.2.2.1,.bool r.2.2.2.2.2.2.2.2.2.2.2.2.2.2.2.2.2.2.2.2.2.2.2.2.2.2.2.2.2.1,.int .i64 r.2.2.2.2.2.2.2.2.2.2.2.2.2.2.2.2.2.2.2.2.2.2.2.2.2.2.2.2.2.2.1]) r.2.2.2.2.2.2.2.2.2.2.2.2.2.2.2.2.2.2.2.2.2.2.2.2.2.2.2.2.2.2.2:=by
 revert h;unfold kW;refine aA fun o p=>?_;obtain⟨N6,j⟩:=o;have q9028:=aG (bM (n+24002) p) eE
 let q8033:List Hint:=[.run 1,.aM,.run 1]
 refine aU (fun a=>?_) (fun a=>?_)
 ·subst a;refine aA fun o q=>?_;obtain⟨s,t,u,v,w,x,y,z,A,B,C,D,E,F,G,H,I,J,K,L,M,N,O,P,Q,S,T,U,V,W,X,Y⟩:=o;refine aA fun Z a0=>aA fun N7 a1=>aA fun o a2=>?_
  obtain⟨a3,a4,a5,a6,a7,a8,a9,b0,b1,b2,b3,b4,b5,b6,b7,b8,c0,c1,c2,c3,c4,c5,c6,c7,c8,c9,d0,d1,d2,d3,d4⟩:=o;obtain rfl:=aI a2;intro h;obtain rfl:=b9 h;exact dE (hs:=q8033 ++ [.call (.bool true) j,.run 1,.aM,.run 1,.call (aP s t u v w x y z A B C D E F G H I J K L M N O P Q S T U V W X) Y,.cA AV.undef Z,.val (aP a3 a4 a5 a6 a7 a8 a9 b0 b1 b2 b3 b4 b5 b6 b7 b8 c0 c1 c2 c3 c4 c5 c6 c7 c8 c9 d0 d1 d2 d3 d4)]) (by kernel_rfl) (aG a1<|aG (aN a0)<|aG (Ja (n+24003) q) q9028)
 ·obtain rfl:=bF a;refine aA fun o d5=>?_;obtain⟨N8,k⟩:=o;have q9029:=aG (bM (n+24002) d5) q9028
  let q8034:List Hint:=q8033 ++ [.call (.bool false) j,.run 1,.aM,.run 1]
  refine aU (fun b=>?_) (fun b=>?_)
  ·subst b;refine aA fun d6 d7=>aA fun o d8=>?_
   obtain⟨d9,e0⟩:=o;refine aA fun e1 e2=>aA fun e3 e4=>aA fun o e5=>?_
   obtain⟨e6,e7,e8,e9,f0,f1,f2,f3,f4,f5,f6⟩:=o;refine aA fun f7 f8=>aA fun N9 f9=>aA fun o g0=>?_
   obtain⟨g1,g2,g3,g4,g5,g6,g7,g8,g9,h0,h1,h2,h3,h4,h5,h6,h7,h8,h9,i0,i1,i2,i3,i4,i5,i6,i7,i9,j0,j1,j2⟩:=o;obtain rfl:=aI g0;refine aA fun j3 j4=>aA fun O0 j5=>aA fun o j6=>?_
   obtain⟨j7,j8,j9,k0,k1,k2,k3,k4,k5,k6,k7,k8,k9,l0,l1,l2,l3,l4,l5,l6,l7,l8,l9,m0,m1,m2,m3,m4,m5,m6,m7⟩:=o;obtain rfl:=aI j6;intro h;obtain rfl:=b9 h;exact dE (hs:=q8034 ++ [.call (.bool true) k,.run 1,.aM,.run 3,.call (.tuple []) d6,.run 1,.call (.str d9) e0,.run 2,.cA AV.undef e1,.run 3,.call (.tuple []) e3,.run 1,.call (aJ e6 e7 e8 e9 f0 f1 f2 f3 f4 f5) f6,.run 1,.cA AV.undef f7,.val (aP g1 g2 g3 g4 g5 g6 g7 g8 g9 h0 h1 h2 h3 h4 h5 h6 h7 h8 h9 i0 i1 i2 i3 i4 i5 i6 i7 i9 j0 j1 j2),.cA AV.undef j3,.val (aP j7 j8 j9 k0 k1 k2 k3 k4 k5 k6 k7 k8 k9 l0 l1 l2 l3 l4 l5 l6 l7 l8 l9 m0 m1 m2 m3 m4 m5 m6 m7)]) (by kernel_rfl) (aG j5<|aG (aN j4)<|aG f9<|aG (aN f8)<|aG (nY (n+1) e5)<|aG (eP (n+24001) e4)<|aG (aN e2)<|aG (iT (n+24002) d8)<|aG (eP (n+24001) d7) q9029)
  ·obtain rfl:=bF b;refine aA fun o m8=>?_;obtain⟨O1,l⟩:=o;have q9030:=aG (bM (n+24002) m8) q9029
   let q8035:List Hint:=q8034 ++ [.call (.bool false) k,.run 1,.aM,.run 1]
   refine aU (fun c=>?_) (fun c=>?_)
   ·subst c;refine aA fun o m9=>?_;obtain⟨n0,n1,n2,n3,n4,n5,n6,n7,n8,n9,o0,o1,o2,o3,o4,o5,o6,o7,o8,o9,p0,p1,p2,p3,p4,p5,p6,p7,p8,p9,q0,q1⟩:=o;refine aA fun q2 q3=>aA fun O2 q4=>aA fun o q5=>?_
    obtain⟨q6,q7,q8,q9,r0,r1,r2,r3,r4,r5,r6,r7,r8,r9,s0,s1,s2,s3,s4,s5,s6,s7,s8,s9,t0,t1,t2,t3,t4,t5,t6⟩:=o;obtain rfl:=aI q5;intro h;obtain rfl:=b9 h;exact dE (hs:=q8035 ++ [.call (.bool true) l,.run 1,.aM,.run 1,.call (aP n0 n1 n2 n3 n4 n5 n6 n7 n8 n9 o0 o1 o2 o3 o4 o5 o6 o7 o8 o9 p0 p1 p2 p3 p4 p5 p6 p7 p8 p9 q0) q1,.cA AV.undef q2,.val (aP q6 q7 q8 q9 r0 r1 r2 r3 r4 r5 r6 r7 r8 r9 s0 s1 s2 s3 s4 s5 s6 s7 s8 s9 t0 t1 t2 t3 t4 t5 t6)]) (by kernel_rfl) (aG q4<|aG (aN q3)<|aG (JR (n+24003) m9) q9030)
   ·obtain rfl:=bF c;refine aA fun o t7=>?_;obtain⟨O3,d⟩:=o;have q9031:=aG (bM (n+24002) t7) q9030
    let q8036:List Hint:=q8035 ++ [.call (.bool false) l,.run 1,.aM,.run 1]
    refine aU (fun e=>?_) (fun e=>?_)
    ·subst e;refine aA fun t8 t9=>aA fun o u0=>?_
     obtain⟨u1,u2⟩:=o;refine aA fun u3 u4=>aA fun o u5=>?_
     obtain⟨u6,u7,u9,v0,v1,v2,v3,v4,v5,v6,v7⟩:=o;refine aA fun v8 v9=>aA fun O4 w0=>aA fun o w1=>?_
     obtain⟨w2,w3,w4,w5,w6,w7,w8,w9,x0,x1,x2,x3,x4,x5,x6,x7,x8,x9,y0,y1,y2,y3,y4,y5,y6,y7,y8,y9,z0,z1,z2⟩:=o;obtain rfl:=aI w1;refine aA fun z3 z4=>aA fun O5 z5=>aA fun o z6=>?_
     obtain⟨z7,z8,z9,A0,A1,A2,A3,A4,A6,A7,A8,A9,B0,B1,B2,B3,B4,B5,B6,B7,B8,B9,C1,C2,C3,C4,C5,C6,C7,C8,C9⟩:=o;obtain rfl:=aI z6;intro h;obtain rfl:=b9 h;exact dE (hs:=q8036 ++ [.call (.bool true) d,.run 1,.aM,.run 3,.call (.tuple []) t8,.run 1,.call (.str u1) u2,.run 2,.cA AV.undef u3,.run 1,.call (aJ u6 u7 u9 v0 v1 v2 v3 v4 v5 v6) v7,.run 1,.cA AV.undef v8,.val (aP w2 w3 w4 w5 w6 w7 w8 w9 x0 x1 x2 x3 x4 x5 x6 x7 x8 x9 y0 y1 y2 y3 y4 y5 y6 y7 y8 y9 z0 z1 z2),.cA AV.undef z3,.val (aP z7 z8 z9 A0 A1 A2 A3 A4 A6 A7 A8 A9 B0 B1 B2 B3 B4 B5 B6 B7 B8 B9 C1 C2 C3 C4 C5 C6 C7 C8 C9)]) (by kernel_rfl) (aG z5<|aG (aN z4)<|aG w0<|aG (aN v9)<|aG (yX n u5)<|aG (aN u4)<|aG (iT (n+24002) u0)<|aG (eP (n+24001) t9) q9031)
    ·obtain rfl:=bF e;refine aA fun o D0=>?_;obtain⟨O6,m⟩:=o;have q9032:=aG (bM (n+24002) D0) q9031
     refine aU (fun f=>?_) (fun f=>?_)
     ·subst f;refine aA fun o D1=>?_;obtain⟨D2,D3,D4,D5,D6,D7,D8,D9,E0,E1,E2,E3,E4,E5,E6,E7,E8,E9,F0,F1,F2,F3,F4,F5,F6,F7,F8,F9,G0,G1,G2,G3⟩:=o;refine aA fun G4 G5=>aA fun O7 G6=>aA fun o G7=>?_
      obtain⟨G8,G9,H0,H1,H2,H3,H4,H5,H6,H7,H8,H9,I0,I1,I2,I3,I4,I5,I6,I7,I8,I9,J0,J1,J2,J3,J4,J5,J6,J7,J8⟩:=o;obtain rfl:=aI G7;intro h;obtain rfl:=b9 h;exact dE (hs:=q8036 ++ [.call (.bool false) d,.run 1,.aM,.run 1,.call (.bool true) m,.run 1,.aM,.run 1,.call (aP D2 D3 D4 D5 D6 D7 D8 D9 E0 E1 E2 E3 E4 E5 E6 E7 E8 E9 F0 F1 F2 F3 F4 F5 F6 F7 F8 F9 G0 G1 G2) G3,.cA AV.undef G4,.val (aP G8 G9 H0 H1 H2 H3 H4 H5 H6 H7 H8 H9 I0 I1 I2 I3 I4 I5 I6 I7 I8 I9 J0 J1 J2 J3 J4 J5 J6 J7 J8)]) (by kernel_rfl) (aG G6<|aG (aN G5)<|aG (JY (n+24003) D1) q9032)
     ·obtain rfl:=bF f;refine aA fun J9 K0=>aA fun K1 K2=>aA fun O8 K3=>aA fun o K4=>?_
      obtain⟨K5,K6,K7,K8,K9,L0,L1,L2,L3,L4,L5,L6,L7,L8,L9,M0,M1,M2,M3,M4,M5,M6,M7,M8,M9,N0,N1,N2,N3,N4,N5⟩:=o;obtain rfl:=aI K4;intro h;obtain rfl:=b9 h;exact dE (hs:=q8036 ++ [.call (.bool false) d,.run 1,.aM,.run 1,.call (.bool false) m,.run 1,.aM,.run 1,.call (.tuple []) J9,.run 1,.cA AV.undef K1,.val (aP K5 K6 K7 K8 K9 L0 L1 L2 L3 L4 L5 L6 L7 L8 L9 M0 M1 M2 M3 M4 M5 M6 M7 M8 M9 N0 N1 N2 N3 N4 N5)]) (by kernel_rfl) (aG K3<|aG (aN K2)<|aG (cK (n+24003) K0) q9032)
end
end Go.Proofs.YthodfojhbbendaaGreatDoor
end
section
set_option linter.all false
set_option maxRecDepth 100000
namespace Go.Proofs.YthodfojhbbendaaGreatDoor
open Go Go.Ev
noncomputable section
def T {α:Type}(φ:α→Prop)(o:Option α):Prop:=∃ r,o=some r∧φ r
theorem T.some {α:Type}{φ:α→Prop}{a:α}(h:φ a):T φ (some a):=⟨a,rfl,h⟩
theorem T.bind {α β:Type}{φ:β→Prop}{o:Option α}{k:α→Option β}(h:T (fun a=>T φ (k a)) o):T φ (Option.bind o k):=by
 obtain⟨a,rfl,h⟩:=h
 exact h
theorem T.step {α β:Type}{φ:β→Prop}{o:Option α}{k:α→Option β}{a:α}(h:o=.some a)(h2:T φ (k a)):T φ (Option.bind o k):=by
 subst h
 exact h2
def Qk (o:Option gS)(off:Nat):Option AV:=match o with
 | .some (.cells _ _ cs)=>cs[off]?
 | _=>none
def PI (o:Option gS)(off n:Nat):Option AV:=match o with
 | .some (.cells _ _ cs)=>if off+n≤cs.length then .some (.agg ((cs.drop off).take n)) else none
 | _=>none
def Mc (st:St)(id:Nat)(o:Option gS)(off:Nat)(vs:List AV):Option St:=match o with
 | .some (.cells t u cs)=>if off+vs.length≤cs.length then .some (st.put id (.cells t u (dJ cs off vs))) else none
 | _=>none
theorem Ks {a b:Nat}(h:¬ a≤b):Nat.ble a b=false:=by
 cases e:Nat.ble a b with
 | false=>rfl
 | true=>exact absurd (Nat.le_of_ble_eq_true e) h
theorem QZ {t u cs off}:Qk (.some (.cells t u cs)) off=cs[off]? :=rfl
theorem Qd {t u cs off n}(h:off+n≤cs.length):PI (.some (.cells t u cs)) off n=.some (.agg ((cs.drop off).take n)):=if_pos h
theorem Gv {st:St}{id t u cs off vs}(h:off+vs.length≤cs.length):Mc st id (.some (.cells t u cs)) off vs=.some (st.put id (.cells t u (dJ cs off vs))):=if_pos h
theorem R8 {T : TypeId} [L : nT C0.P T false 1] {st : St} {id off : Nat} : loadAt C0.P st T (.ref id off) = Qk (st.aS.get id) off := by
 simp only[loadAt,L.agg,L.size,Option.bind_some,cond_false,tA,Qk]
 cases h:st.aS.get id with
 | none=>rfl
 | some o =>
   cases o with
   | cells t u cs =>
     simp only[range?]
     by_cases hl:off<cs.length
     ·rw[eW (Nat.ble_eq_true_of_le (by omega)),Option.bind_some,List.getElem?_eq_getElem hl,List.drop_eq_getElem_cons hl]
      rfl
     ·rw[tR (Ks (by omega)),List.getElem?_eq_none (by omega)]; rfl
   | _=>rfl
theorem R1 {T:TypeId}{n:Nat}[L:nT C0.P T true n]{st:St}{id off:Nat}:loadAt C0.P st T (.ref id off)=PI (st.aS.get id) off n:=by
 simp only[loadAt,L.agg,L.size,Option.bind_some,cond_true,tA,PI]
 cases h:st.aS.get id with
 | none=>rfl
 | some o =>
   cases o with
   | cells t u cs =>
     simp only[range?]
     by_cases hl:off+n≤cs.length
     ·rw[eW (Nat.ble_eq_true_of_le hl),if_pos hl]; rfl
     ·rw[tR (Ks hl),if_neg hl]; rfl
   | _=>rfl
theorem Pz {T:TypeId}{g:Bool}{n:Nat}[L:nT C0.P T g n]{st:St}{id off:Nat}{v:AV}(hn:v.cells.length=n)(ho:v.cells.all AV.one=true):storeAt C0.P st T (.ref id off) v=Mc st id (st.aS.get id) off v.cells:=by
 subst hn
 simp only[storeAt,L.size,Option.bind_some,ho,Nat.beq_refl,Bool.and_true,cond_true,iH,Mc]
 cases h:st.aS.get id with
 | none=>rfl
 | some o =>
   cases o with
   | cells t u cs =>
     simp only[]
     by_cases hl:off+v.cells.length≤cs.length
     ·rw[eW (Nat.ble_eq_true_of_le hl),if_pos hl]
     ·rw[tR (Ks hl),if_neg hl]
   | _=>rfl
theorem aB {st:St}{o:gS}:(st.push o).next=st.next+1:=rfl
theorem aE {st:St}{id:Nat}{o:gS}:(st.put id o).next=st.next:=rfl
theorem KZ {st:St}{o:gS}:(st.push o).old=st.old:=rfl
theorem M8 {st:St}{id:Nat}{o:gS}:(st.put id o).old=st.old:=rfl
theorem Qa {st:St}{o:gS}{i:Nat}(h:i=st.next):(st.push o).aS.get i=.some o:=by subst h; exact mZ _ _
theorem Pf {st:St}{o:gS}{i:Nat}(h:i≠st.next):(st.push o).aS.get i=st.aS.get i:=xZ _ h
theorem HE {st:St}{o:gS}{i j:Nat}(h:i=j):(st.put j o).aS.get i=.some o:=by subst h; exact i7 _ _ _
theorem NG {st:St}{o:gS}{i j:Nat}(h:i≠j):(st.put j o).aS.get i=st.aS.get i:=A7 _ h
theorem R4 {id off n:Nat}:shift (.ref id off) n=.some (.ref id (off+n)):=rfl
theorem Qe {id off:Nat}:aZ (.ref id off)=.some (.ref id off):=rfl
theorem Pm {k:IntKind}{n:Int}:dN k (.int k n)=.some n:=if_pos rfl
theorem Pd {s:List UInt8}:eY (.str s)=.some s:=rfl
theorem Qy {b:Bool}:zP (.bool b)=.some b:=rfl
theorem R9 {a:Int}{s:List UInt8}{b:Int}:bU (.agg [.int .i64 a,.str s,.int .i64 b])=.some (a,s,b):=rfl
theorem R7 {a:Int}{b:List UInt8}{c:Int}{d:Bool}{e:Int}{f:List UInt8}{g h i j:AV}:aD (.agg [.int .i64 a,.str b,.int .i64 c,.bool d,.int .i64 e,.str f,g,h,i,j])=.some (a,b,c,d,e,f,g,h,i,j):=rfl
theorem R2 {a:Int}{b:Bool}{c:Int}{d:List UInt8}{e f:AV}:aQ (.agg [.int .i64 a,.bool b,.int .i64 c,.str d,e,f])=.some (a,b,c,d,e,f):=rfl
theorem Qr {a0:Int}{a1:List UInt8}{a2:List UInt8}{a3:Int}{a4:List UInt8}{a5:Int}{a6:Bool}{a7:Int}{a8:List UInt8}{a9:AV}{a10:AV}{a11:AV}{a12:AV}{a13:AV}{a14:AV}{a15:Int}{a16:List UInt8}{a17:Int}{a18:Bool}{a19:Int}{a20:List UInt8}{a21:AV}{a22:AV}{a23:AV}{a24:AV}{a25:AV}{a26:Bool}{a27:Bool}{a28:List UInt8}{a29:Bool}{a30:Int}:aH (.agg [.int .i64 a0,.str a1,.str a2,.int .i64 a3,.str a4,.int .i64 a5,.bool a6,.int .i64 a7,.str a8,a9,a10,a11,a12,a13,a14,.int .i64 a15,.str a16,.int .i64 a17,.bool a18,.int .i64 a19,.str a20,a21,a22,a23,a24,a25,.bool a26,.bool a27,.str a28,.bool a29,.int .i64 a30])=.some (a0,a1,a2,a3,a4,a5,a6,a7,a8,a9,a10,a11,a12,a13,a14,a15,a16,a17,a18,a19,a20,a21,a22,a23,a24,a25,a26,a27,a28,a29,a30):=rfl
instance t3:nT C0.P 3 false 1:=⟨by kernel_rfl,by kernel_rfl⟩
instance t4:nT C0.P 4 false 1:=⟨by kernel_rfl,by kernel_rfl⟩
instance t9:nT C0.P 9 false 1:=⟨by kernel_rfl,by kernel_rfl⟩
instance t22:nT C0.P 22 false 1:=⟨by kernel_rfl,by kernel_rfl⟩
instance t26:nT C0.P 129 true 3:=⟨by kernel_rfl,by kernel_rfl⟩
instance t29:nT C0.P 25 true 6:=⟨by kernel_rfl,by kernel_rfl⟩
instance t30:nT C0.P 26 false 1:=⟨by kernel_rfl,by kernel_rfl⟩
instance t32:nT C0.P 28 true 10:=⟨by kernel_rfl,by kernel_rfl⟩
instance t34:nT C0.P 58 true 31:=⟨by kernel_rfl,by kernel_rfl⟩
instance t35:nT C0.P 42 false 1:=⟨by kernel_rfl,by kernel_rfl⟩
instance t40:nT C0.P 121 false 1:=⟨by kernel_rfl,by kernel_rfl⟩
instance t49:nT C0.P 124 false 1:=⟨by kernel_rfl,by kernel_rfl⟩
end
end Go.Proofs.YthodfojhbbendaaGreatDoor
end
