/- PlanChooses, part 5 of 11 of its proof (what is proved: whatever the text is, the law answers true; conditions: those each theorem states). Joined and shortened by a program. In order: SxH -/
import Derived.Test.YthodfojhbbendaaGreatDoorPd
section
set_option linter.all false
set_option maxRecDepth 100000
namespace Go.Proofs.YthodfojhbbendaaGreatDoor
open Go Go.Ev
noncomputable section
def j0 (R:Nat)(a:List UInt8)(b:Int):Option (Bool):=
 if(b<(List.length a:Int)) then
  (zK a b).bind fun c=>
  (nN R c).bind fun d=>
  some d
 else
  some false
theorem nH {R:Nat}(n:Nat){c:List UInt8}{d:Int}(a:St){r:Bool}(h:j0 R c d=some r):
 oE 25 qG R (n+1) 117 [1,1,0,0,0,0,0] [(0,(.str c)),(2,(.func (.func 148) [] [])),(7,(.int .i64 d))] a .normal [(19,.bool r)] a:=by
 revert h;unfold j0;refine aU (fun b=>?_) (fun b=>?_)
 ·refine aA fun e f=>aA fun g i=>?_
  intro h;obtain rfl:=b9 h;exact aK (hs:=[.run 3,.dec true,.run 4,.val (.int .u8 e),.call (.bool g) a,.run 1]) (want:=[19]) (by kernel_rfl) (aG (wG R n e a _ i)<|aG (gE (k:=.i64) (P:=C0.P) (t:=9) (by kernel_rfl) f)<|aG (decide_eq_true b) eE)
 ·intro h;obtain rfl:=b9 h;exact aK (hs:=[.run 3,.dec false,.run 2]) (want:=[19]) (by kernel_rfl) (aG (decide_eq_false b) eE)
def fY (R : Nat) (b : List UInt8) (c : Int) : Nat → Int → Option ((Int))
 | 0,_=>none
 | r + 1, a =>
   (j0 R b a).bind fun d=>
   if d=true then
    fY R b c r (IntKind.wrap .i64 (a+1))
   else
    some a
def mA (st:St)(o:(Int)):cE×List (Nat×AV)×St:=match o with
 | a0=>((.exit 0),[(7,.int .i64 a0)],st)
theorem wP (R n:Nat)(d:List UInt8)(e:Int)(a:St):∀(r:Nat) (b:Int) (o:(Int)),fY R d e r b=some o →
 jL 25 (jA (fun fr k=>cZ C0 (aW C0 qG R (n+1)) 117 R none (dA C0.P 117 [1,1,0,0,0]) fr k) r) (dI (dA C0.P 117 [1,1,0,0,0])) [(0,(.str d)),(1,(.int .i64 e)),(2,(.func (.func 148) [] [])),(7,(.int .i64 b))] a (mA a o).1 (mA a o).2.1 (mA a o).2.2:=by
 intro r
 induction r with
 | zero=>intro b o h; exact nomatch h
 | succ r ih =>
   intro b o
   unfold fY;refine aA fun g f=>?_;refine aU (fun c=>?_) (fun c=>?_)
   ·subst c;intro h;exact cS (aK (hs:=[.Ag [0,2,7] .normal [(19,(.bool true))] a,.aM,.aM,.run 3]) (want:=[0,1,2,7]) (by kernel_rfl) (.cons (nH n a f) .nil)) (ih (IntKind.wrap .i64 (b+1)) _ h)
   ·obtain rfl:=bF c;intro h;obtain rfl:=b9 h;exact bI (aK (hs:=[.Ag [0,2,7] .normal [(19,(.bool false))] a,.aM]) (want:=[7]) (by kernel_rfl) (.cons (nH n a f) .nil)) (by kernel_rfl)
def l4 (R:Nat)(a:List UInt8)(b:Int)(c:Int):Option (Int):=
 (fY R a b R c).bind fun d=>
 some d
theorem xL {R:Nat}(n:Nat){b:List UInt8}{c:Int}{d:Int}(a:St){r:Int}(h:l4 R b c d=some r):
 oE 25 qG R (n+1) 117 [1,1,0] [(0,(.str b)),(1,(.int .i64 c)),(2,(.func (.func 148) [] [])),(7,(.int .i64 d))] a .normal [(7,.int .i64 r)] a:=by
 revert h;unfold l4;refine aA fun e f=>?_;intro h;obtain rfl:=b9 h;exact aK (hs:=[.aM,.abs [0,1,2,7] (.exit 0) [(7,(.int .i64 e))] a]) (want:=[7]) (by kernel_rfl) (aG (bY (wP R n b c a R d _ f)) eE)
def mP (R:Nat)(b:List UInt8)(a:Int):Option (Int):=
 (l4 R b a a).bind fun c=>
 some (IntKind.wrap .i64 (c - a))
theorem Ap {R:Nat}(n:Nat){b:List UInt8}{c:Int}(a:St){r:Int}(h:mP R b c=some r):
 aR (aW C0 qG R (n+2)) false 117 [(.str b),(.int .i64 c),(.func (.func 148) [] [])] a (.int .i64 r) a:=by
 revert h;unfold mP;refine aA fun d e=>?_;intro h;obtain rfl:=b9 h;exact dE (hs:=[.run 3,.nW [0,1,2,7] .normal [(7,(.int .i64 d))] a,.run 4]) (by kernel_rfl) (aG (xL n a e) eE)
def jF (R : Nat) (b : List UInt8) (a : List UInt8) : Option (Bool) :=
 if((List.length b:Int)≥(List.length a:Int)) then
  (Bn b 0 (List.length a:Int)).bind fun c=>
  if(c=a) then
   some true
  else
   some false
 else
  some false
theorem uS {R:Nat}(n:Nat){c:List UInt8}{d:List UInt8}(e:St){r:Bool}(h:jF R c d=some r):
 oE 18 qG R n 174 [1,0] [(0,(.str c)),(1,(.str d))] e .normal [(4,.bool r)] e:=by
 revert h;unfold jF;refine aU (fun a=>?_) (fun a=>?_)
 ·refine aA fun f g=>?_;refine aU (fun b=>?_) (fun b=>?_)
  ·intro h;obtain rfl:=b9 h;exact aK (hs:=[.run 4,.dec true,.run 4,.val (.str f),.run 1,.dec true,.run 2]) (want:=[4]) (by kernel_rfl) (aG (dM b)<|aG (OV (k':=.i64) (P:=C0.P) (t:=9) (by kernel_rfl) g)<|aG (decide_eq_true a) eE)
  ·intro h;obtain rfl:=b9 h;exact aK (hs:=[.run 4,.dec true,.run 4,.val (.str f),.run 1,.dec false,.run 2]) (want:=[4]) (by kernel_rfl) (aG (cL b)<|aG (OV (k':=.i64) (P:=C0.P) (t:=9) (by kernel_rfl) g)<|aG (decide_eq_true a) eE)
 ·intro h;obtain rfl:=b9 h;exact aK (hs:=[.run 4,.dec false,.run 3]) (want:=[4]) (by kernel_rfl) (aG (decide_eq_false a) eE)
def lU (R:Nat)(a:List UInt8)(b:List UInt8):Option (Bool):=
 (jF R a b).bind fun c=>
 some c
theorem yF {R:Nat}(n:Nat){b:List UInt8}{c:List UInt8}(a:St){r:Bool}(h:lU R b c=some r):
 aR (aW C0 qG R (n+1)) false 174 [(.str b),(.str c)] a (.bool r) a:=by
 revert h;unfold lU;refine aA fun d e=>?_;intro h;obtain rfl:=b9 h;exact dE (hs:=[.run 1,.Ag [0,1] .normal [(4,(.bool d))] a]) (by kernel_rfl) (aG (uS n a e) eE)
def kL (R:Nat)(a:List UInt8)(b:List UInt8):Option (Bool):=
 (lU R a b).bind fun c=>
 some c
theorem uA {R:Nat}(n:Nat){b:List UInt8}{c:List UInt8}(a:St){r:Bool}(h:kL R b c=some r):
 aR (aW C0 qG R (n+2)) false 149 [(.str b),(.str c)] a (.bool r) a:=by
 revert h;unfold kL;refine aA fun d e=>?_;intro h;obtain rfl:=b9 h;exact dE (hs:=[.run 3,.call (.bool d) a,.run 1]) (by kernel_rfl) (aG (yF n a e) eE)
def nZ (R : Nat) (a : List UInt8) (b : Int) (c : Int) : Option (Bool) :=
 if (c = 120) then
  if((IntKind.wrap .i64 (b+1))<(List.length a:Int)) then
   (zK a (IntKind.wrap .i64 (b+1))).bind fun d=>
   if(d=39) then
    some true
   else
    some false
  else
   some false
 else
  some false
theorem C4 {R : Nat} (n : Nat) {c : List UInt8} {d : Int} {e : Int} (f : St) {r : Bool} (h : nZ R c d e = some r):
 oE 140 qG R (n+2) 119 [1,1,0,0,0] [(0,(.str c)),(1,(.int .i64 d)),(6,(.int .u8 e))] f .normal [(20,.bool r)] f:=by
 revert h;unfold nZ;refine aU (fun OU=>?_) (fun OU=>?_)
 ·refine aU (fun a=>?_) (fun a=>?_)
  ·refine aA fun g i=>?_;have q9001:=aG (gE (k:=.i64) (P:=C0.P) (t:=9) (by kernel_rfl) i)<|aG (decide_eq_true a)<|aG (eG OU) eE
   let q8001:List Hint:=[.run 1,.dec true,.run 5,.dec true,.run 5,.val (.int .u8 g)]
   refine aU (fun b=>?_) (fun b=>?_)
   ·intro h;obtain rfl:=b9 h;exact aK (hs:=q8001 ++ [.dec true,.run 2]) (want:=[20]) (by kernel_rfl) (aG (eG b) q9001)
   ·intro h;obtain rfl:=b9 h;exact aK (hs:=q8001 ++ [.dec false,.run 2]) (want:=[20]) (by kernel_rfl) (aG (dP b) q9001)
  ·intro h;obtain rfl:=b9 h;exact aK (hs:=[.run 1,.dec true,.run 5,.dec false,.run 4]) (want:=[20]) (by kernel_rfl) (aG (decide_eq_false a)<|aG (eG OU) eE)
 ·intro h;obtain rfl:=b9 h;exact aK (hs:=[.run 1,.dec false,.run 5]) (want:=[20]) (by kernel_rfl) (aG (dP OU) eE)
def iO (R : Nat) (a : Int) (b : Bool) : Option (Bool) :=
 if(a=0) then
  some true
 else
  if b=true then
   some false
  else
   some true
theorem rF {R:Nat}(n:Nat){c:Int}{d:Bool}(e:St){r:Bool}(h:iO R c d=some r):
 oE 140 qG R (n+2) 119 [1,1,0,0,1,0,1,1,0,0] [(8,(.int .i64 c)),(10,(.bool d))] e .normal [(55,.bool r)] e:=by
 revert h;unfold iO;refine aU (fun a=>?_) (fun a=>?_)
 ·intro h;obtain rfl:=b9 h;exact aK (hs:=[.run 1,.dec true,.run 2]) (want:=[55]) (by kernel_rfl) (aG (eG a) eE)
 ·refine aU (fun b=>?_) (fun b=>?_)
  ·subst b;intro h;obtain rfl:=b9 h;exact aK (hs:=[.run 1,.dec false,.run 4]) (want:=[55]) (by kernel_rfl) (aG (dP a) eE)
  ·obtain rfl:=bF b;intro h;obtain rfl:=b9 h;exact aK (hs:=[.run 1,.dec false,.run 4]) (want:=[55]) (by kernel_rfl) (aG (dP a) eE)
def fM (R : Nat) (c : Int) (a : Int) (b : List UInt8) : Option (Bool) :=
 if (a > 1) then
  if(c=48) then
   some true
  else
   if(a>19) then
    some true
   else
    if(a=19) then
     if(!(strLt b [57,50,50,51,51,55,50,48,51,54,56,53,52,55,55,53,56,48,55] || gT b [57,50,50,51,51,55,50,48,51,54,56,53,52,55,55,53,56,48,55]))=true then
      some true
     else
      some false
    else
     some false
 else
  some false
theorem oV {R : Nat} (n : Nat) {g : Int} {a : Int} {i : List UInt8} (j : St) {r : Bool} (h : fM R g a i = some r):
 oE 140 qG R (n+2) 119 [1,1,0,0,1,1,1,1,1,0,1,1,0,0] [(6,(.int .u8 g)),(11,(.int .i64 a)),(12,(.str i))] j .normal [(100,.bool r)] j:=by
 revert h;unfold fM;refine aU (fun d=>?_) (fun d=>?_)
 ·have q9002:=aG (decide_eq_true d) eE
  let q8002:List Hint:=[.run 1,.dec true,.run 2]
  refine aU (fun b=>?_) (fun b=>?_)
  ·intro h;obtain rfl:=b9 h;exact aK (hs:=q8002 ++ [.dec true,.run 5]) (want:=[100]) (by kernel_rfl) (aG (eG b) q9002)
  ·refine aU (fun e=>?_) (fun e=>?_)
   ·intro h;obtain rfl:=b9 h;exact aK (hs:=q8002 ++ [.dec false,.run 3,.dec true,.run 3]) (want:=[100]) (by kernel_rfl) (aG (decide_eq_true e)<|aG (dP b) q9002)
   ·have q9003:=aG (decide_eq_false e)<|aG (dP b) q9002
    let q8003:List Hint:=q8002 ++ [.dec false,.run 3,.dec false,.run 3]
    refine aU (fun c=>?_) (fun c=>?_)
    ·refine aU (fun f=>?_) (fun f=>?_)
     ·intro h;obtain rfl:=b9 h;exact aK (hs:=q8003 ++ [.dec true,.run 2,.dec true,.run 2]) (want:=[100]) (by kernel_rfl) (aG f<|aG (eG c) q9003)
     ·intro h;obtain rfl:=b9 h;exact aK (hs:=q8003 ++ [.dec true,.run 2,.dec false,.run 2]) (want:=[100]) (by kernel_rfl) (aG (bF f)<|aG (eG c) q9003)
    ·intro h;obtain rfl:=b9 h;exact aK (hs:=q8003 ++ [.dec false,.run 3]) (want:=[100]) (by kernel_rfl) (aG (dP c) q9003)
 ·intro h;obtain rfl:=b9 h;exact aK (hs:=[.run 1,.dec false,.run 4,.dec false,.run 3,.dec false,.run 3]) (want:=[100]) (by kernel_rfl) (aG (dP (show ¬ (a=19) by omega))<|aG (decide_eq_false (show ¬ (a>19) by omega))<|aG (decide_eq_false d) eE)
def iM (R : Nat) (b : List UInt8) (c : Int) (f : Nat) (g : AV) (h : Int) : Nat → Int → St → Option ((Int × St) ⊕ (St))
 | 0,_,_=>none
 | r + 1, d, a =>
   if(d<h) then
    (bA C0.P 22 g (.int .i64 d)).bind fun i=>
    (loadAt C0.P a 9 i).bind fun j=>
    (eY j).bind fun e=>
    (Bn b c (List.length b:Nat)).bind fun k=>
    (kL R k e).bind fun l=>
    if l=true then
     (storeAt C0.P a 129 (.ref f 0) (.agg [(.int .i64 6),(.str e),(.int .i64 c)])).bind fun m=>
     some (.inl ((List.length e:Int),m))
    else
     iM R b c f g h r (IntKind.wrap .i64 (d+1)) a
   else
    some (.inr a)
def r8 (o:(Int×St) ⊕ (St)):cE×List (Nat×AV)×St:=match o with
 | .inl (a0,a1)=>(.ret,[(5,.int .i64 a0)],a1)
 | .inr a0=>((.exit 1),[],a0)
theorem v8 (R n : Nat) (e : List UInt8) (f : Int) (g : Nat) (i : AV) (j : Int) : ∀ (r : Nat) (b : Int) (a : St) (o : (Int × St) ⊕ (St)), iM R e f g i j r b a = some o →
 jL 140 (jA (fun fr k=>cZ C0 (aW C0 qG R (n+2)) 119 R none (dA C0.P 119 [1,1,1,0,1,0,0]) fr k) r) (dI (dA C0.P 119 [1,1,1,0,1,0,0])) [(0,(.str e)),(1,(.int .i64 f)),(4,(.ref g 0)),(121,i),(122,(.int .i64 j)),(123,(.int .i64 b))] a (r8 o).1 (r8 o).2.1 (r8 o).2.2:=by
 intro r
 induction r with
 | zero=>intro b a o h; exact nomatch h
 | succ r ih =>
   intro b a o
   unfold iM;refine aU (fun c=>?_) (fun c=>?_)
   ·refine aA fun l m=>aA fun z p=>aA fun q w=>?_
    obtain rfl:=cC w;refine aA fun s u=>aA fun A v=>?_
    refine aU (fun d=>?_) (fun d=>?_)
    ·subst d;refine aA fun x y=>?_;intro h;obtain rfl:=b9 h;exact bI (aK (hs:=[.dec true,.aM,.aM,.val l,.val (.str q),.run 3,.val (.str s),.run 1,.call (.bool true) a,.aM,.run 5,.cA AV.undef x,.run 1]) (want:=[5]) (by kernel_rfl) (.cons (aN y)<|.cons (uA n a v)<|.cons (Hu (k:=.i64) (P:=C0.P) (t:=9) (by kernel_rfl) u)<|.cons p<|.cons m<|.cons (decide_eq_true c) .nil)) (by kernel_rfl)
    ·obtain rfl:=bF d;intro h;exact cS (aK (hs:=[.dec true,.aM,.aM,.val l,.val (.str q),.run 3,.val (.str s),.run 1,.call (.bool false) a,.aM,.run 2]) (want:=[0,1,4,121,122,123]) (by kernel_rfl) (.cons (uA n a v)<|.cons (Hu (k:=.i64) (P:=C0.P) (t:=9) (by kernel_rfl) u)<|.cons p<|.cons m<|.cons (decide_eq_true c) .nil)) (ih (IntKind.wrap .i64 (b+1)) a _ h)
   ·intro h;obtain rfl:=b9 h;exact bI (aK (hs:=[.dec false,.aM]) (want:=[]) (by kernel_rfl) (.cons (decide_eq_false c) .nil)) (by kernel_rfl)
def Ae (R : Nat) (s2 : List UInt8) (i3 : Int) (st4 : St) : Option (Int × List UInt8 × Int × Int × St) :=
 (zK s2 i3).bind fun i6=>
 (nZ R s2 i3 i6).bind fun m=>
 if m=true then
  (Bn s2 (IntKind.wrap .i64 (i3+1)) (List.length s2:Nat)).bind fun n=>
  (mH R n).bind fun(Pb,b)=>
  (qE R Pb).bind fun(p,q)=>
  (iO R b q).bind fun r=>
  if r=true then
   (storeAt C0.P (St.push st4 (.cells 129 true [(.int .i64 0),(.str []),(.int .i64 0)])) 129 (.ref (St.next st4) 0) (.agg [(.int .i64 0),(.str []),(.int .i64 i3)])).bind fun c=>
   (loadAt C0.P c 129 (.ref (St.next st4) 0)).bind fun s=>
   (bU s).bind fun(t,u,v)=>
   some (t,u,v,0,c)
  else
   (storeAt C0.P (St.push st4 (.cells 129 true [(.int .i64 0),(.str []),(.int .i64 0)])) 129 (.ref (St.next st4) 0) (.agg [(.int .i64 5),(.str p),(.int .i64 i3)])).bind fun d=>
   (loadAt C0.P d 129 (.ref (St.next st4) 0)).bind fun w=>
   (bU w).bind fun(x,y,z)=>
   some (x,y,z,(IntKind.wrap .i64 (b+1)),d)
 else
  (p6 R i6).bind fun A=>
  if A=true then
   (qV R s2 i3).bind fun(B,C,D,E)=>
   (storeAt C0.P (St.push st4 (.cells 129 true [(.int .i64 0),(.str []),(.int .i64 0)])) 129 (.ref (St.next st4) 0) (.agg [(.int .i64 B),(.str C),(.int .i64 D)])).bind fun e=>
   (loadAt C0.P e 129 (.ref (St.next st4) 0)).bind fun F=>
   (bU F).bind fun(G,H,I)=>
   some (G,H,I,E,e)
  else
   (nN R i6).bind fun J=>
   if J=true then
    (mP R s2 i3).bind fun a=>
    (Bn s2 i3 (IntKind.wrap .i64 (i3+a))).bind fun f=>
    (fM R i6 a f).bind fun K=>
    if K=true then
     (storeAt C0.P (St.push st4 (.cells 129 true [(.int .i64 0),(.str []),(.int .i64 0)])) 129 (.ref (St.next st4) 0) (.agg [(.int .i64 0),(.str []),(.int .i64 i3)])).bind fun g=>
     (loadAt C0.P g 129 (.ref (St.next st4) 0)).bind fun L=>
     (bU L).bind fun(M,N,O)=>
     some (M,N,O,0,g)
    else
     (storeAt C0.P (St.push st4 (.cells 129 true [(.int .i64 0),(.str []),(.int .i64 0)])) 129 (.ref (St.next st4) 0) (.agg [(.int .i64 3),(.str f),(.int .i64 i3)])).bind fun h=>
     (loadAt C0.P h 129 (.ref (St.next st4) 0)).bind fun Q=>
     (bU Q).bind fun(S,T,U)=>
     some (S,T,U,a,h)
   else
    if(i6=39) then
     (Bn s2 i3 (List.length s2:Nat)).bind fun V=>
     (mH R V).bind fun(W,X)=>
     (storeAt C0.P (St.push st4 (.cells 129 true [(.int .i64 0),(.str []),(.int .i64 0)])) 129 (.ref (St.next st4) 0) (.agg [(.int .i64 4),(.str W),(.int .i64 i3)])).bind fun i=>
     (loadAt C0.P i 129 (.ref (St.next st4) 0)).bind fun Y=>
     (bU Y).bind fun(Z,a0,a1)=>
     some (Z,a0,a1,X,i)
    else
     (eV (aY C0.P (C0.cQ 119) 22 18 [(0,(.str [60,62])),(1,(.str [60,61])),(2,(.str [62,61])),(3,(.str [61])),(4,(.str [60])),(5,(.str [62])),(6,(.str [43])),(7,(.str [45])),(8,(.str [42])),(9,(.str [40])),(10,(.str [41])),(11,(.str [123])),(12,(.str [125])),(13,(.str [91])),(14,(.str [93])),(15,(.str [44])),(16,(.str [58])),(17,(.str [46]))]) (St.push st4 (.cells 129 true [(.int .i64 0),(.str []),(.int .i64 0)]))).bind fun(j,a2)=>
     (lenOf j).bind fun n239=>
     (iM R s2 i3 (St.next st4) j (n239:Int) R 0 a2).bind fun o=>match o with
     | .inl (a3,k)=>
      (loadAt C0.P k 129 (.ref (St.next st4) 0)).bind fun a4=>
      (bU a4).bind fun(a5,a6,a7)=>
      some (a5,a6,a7,a3,k)
     | .inr a8=>
      (storeAt C0.P a8 129 (.ref (St.next st4) 0) (.agg [(.int .i64 0),(.str []),(.int .i64 i3)])).bind fun l=>
      (loadAt C0.P l 129 (.ref (St.next st4) 0)).bind fun a9=>
      (bU a9).bind fun(b0,b1,b2)=>
      some (b0,b1,b2,0,l)
theorem HW {R : Nat} (n : Nat) {s2 : List UInt8} {i3 : Int} {st4 : St} {r : Int × List UInt8 × Int × Int × St} (h : Ae R s2 i3 st4 = some r):
 aR (aW C0 qG R (n+3)) false 119 [(.str s2),(.int .i64 i3)] st4 (.tuple [(.agg [.int .i64 r.1,.str r.2.1,.int .i64 r.2.2.1]),(.int .i64 r.2.2.2.1)]) r.2.2.2.2:=by
 revert h;unfold Ae;refine aA fun i6 h5=>aA fun f1 A=>?_
 have q9004:=aG (C4 n (St.push st4 (.cells 129 true qU)) A)<|aG (gE (k:=.i64) (P:=C0.P) (t:=9) (by kernel_rfl) h5) eE
 let q8004:List Hint:=[.run 4,.val (.int .u8 i6),.run 1,.aM]
 refine aU (fun d=>?_) (fun d=>?_)
 ·subst d;refine aA fun f m=>aA fun o p=>?_
  obtain⟨Pb,B⟩:=o;refine aA fun o q=>?_;obtain⟨C,D⟩:=o;refine aA fun f2 s=>?_;let q8005:List Hint:=q8004 ++ [.Ag [0,1,6] .normal [(20,(.bool true))] (St.push st4 (.cells 129 true qU)),.aM,.run 3,.val (.str f),.call (.tuple [(.str Pb),(.int .i64 B)]) (St.push st4 (.cells 129 true qU)),.run 6,.call (.tuple [(.str C),(.bool D)]) (St.push st4 (.cells 129 true qU)),.run 5]
  refine aU (fun g=>?_) (fun g=>?_)
  ·subst g;refine aA fun E F=>aA fun f3 G=>aA fun o Lj=>?_
   obtain⟨H,I,J⟩:=o;obtain rfl:=bR Lj;intro h;obtain rfl:=b9 h;exact dE (hs:=q8005 ++ [.Ag [8,10] .normal [(55,(.bool true))] (St.push st4 (.cells 129 true qU)),.aM,.run 2,.cA AV.undef E,.run 1,.val (nU H I J)]) (by kernel_rfl) (aG G<|aG (aN F)<|aG (rF n (St.push st4 (.cells 129 true qU)) s)<|aG (zF R (n+1) Pb (St.push st4 (.cells 129 true qU)) _ q)<|aG (pZ R (n+1) f (St.push st4 (.cells 129 true qU)) _ p)<|aG (Hu (k:=.i64) (P:=C0.P) (t:=9) (by kernel_rfl) m) q9004)
  ·obtain rfl:=bF g;refine aA fun K L=>aA fun f4 M=>aA fun o N=>?_
   obtain⟨O,Q,S⟩:=o;obtain rfl:=bR N;intro h;obtain rfl:=b9 h;exact dE (hs:=q8005 ++ [.Ag [8,10] .normal [(55,(.bool false))] (St.push st4 (.cells 129 true qU)),.aM,.run 5,.cA AV.undef K,.run 1,.val (nU O Q S)]) (by kernel_rfl) (aG M<|aG (aN L)<|aG (rF n (St.push st4 (.cells 129 true qU)) s)<|aG (zF R (n+1) Pb (St.push st4 (.cells 129 true qU)) _ q)<|aG (pZ R (n+1) f (St.push st4 (.cells 129 true qU)) _ p)<|aG (Hu (k:=.i64) (P:=C0.P) (t:=9) (by kernel_rfl) m) q9004)
 ·obtain rfl:=bF d;refine aA fun f5 T=>?_;have q9005:=aG (BR R (n+1) i6 (St.push st4 (.cells 129 true qU)) _ T) q9004
  let q8006:List Hint:=q8004 ++ [.Ag [0,1,6] .normal [(20,(.bool false))] (St.push st4 (.cells 129 true qU)),.aM,.run 1]
  refine aU (fun i=>?_) (fun i=>?_)
  ·subst i;refine aA fun o U=>?_;obtain⟨V,W,X,Y⟩:=o;refine aA fun Z a0=>aA fun f6 a1=>aA fun o a2=>?_
   obtain⟨a3,a4,a5⟩:=o;obtain rfl:=bR a2;intro h;obtain rfl:=b9 h;exact dE (hs:=q8006 ++ [.call (.bool true) (St.push st4 (.cells 129 true qU)),.run 1,.aM,.run 2,.call (.tuple [(nU V W X),(.int .i64 Y)]) (St.push st4 (.cells 129 true qU)),.run 2,.cA AV.undef Z,.run 1,.val (nU a3 a4 a5)]) (by kernel_rfl) (aG a1<|aG (aN a0)<|aG (Bg R (n+1) s2 i3 (St.push st4 (.cells 129 true qU)) _ U) q9005)
  ·obtain rfl:=bF i;refine aA fun f7 a6=>?_;have q9006:=aG (wG R (n+1) i6 (St.push st4 (.cells 129 true qU)) _ a6) q9005
   let q8007:List Hint:=q8006 ++ [.call (.bool false) (St.push st4 (.cells 129 true qU)),.run 1,.aM,.run 1]
   refine aU (fun j=>?_) (fun j=>?_)
   ·subst j;refine aA fun a7 a8=>aA fun a9 u=>aA fun f8 v=>?_
    have q9007:=aG (Ap n (St.push st4 (.cells 129 true qU)) a8) q9006
    let q8008:List Hint:=q8007 ++ [.call (.bool true) (St.push st4 (.cells 129 true qU)),.run 1,.aM,.run 2,.call (.int .i64 a7) (St.push st4 (.cells 129 true qU)),.run 6,.val (.str a9),.run 1]
    refine aU (fun l=>?_) (fun l=>?_)
    ·subst l;refine aA fun b0 b1=>aA fun f9 b2=>aA fun o b3=>?_
     obtain⟨b4,b5,b6⟩:=o;obtain rfl:=bR b3;intro h;obtain rfl:=b9 h;exact dE (hs:=q8008 ++ [.Ag [6,11,12] .normal [(100,(.bool true))] (St.push st4 (.cells 129 true qU)),.aM,.run 2,.cA AV.undef b0,.run 1,.val (nU b4 b5 b6)]) (by kernel_rfl) (aG b2<|aG (aN b1)<|aG (oV n (St.push st4 (.cells 129 true qU)) v)<|aG (GI (k:=.i64) (k':=.i64) (P:=C0.P) (t:=9) (by kernel_rfl) u) q9007)
    ·obtain rfl:=bF l;refine aA fun b7 b8=>aA fun g0 c0=>aA fun o c1=>?_
     obtain⟨c2,c3,c4⟩:=o;obtain rfl:=bR c1;intro h;obtain rfl:=b9 h;exact dE (hs:=q8008 ++ [.Ag [6,11,12] .normal [(100,(.bool false))] (St.push st4 (.cells 129 true qU)),.aM,.run 4,.cA AV.undef b7,.run 1,.val (nU c2 c3 c4)]) (by kernel_rfl) (aG c0<|aG (aN b8)<|aG (oV n (St.push st4 (.cells 129 true qU)) v)<|aG (GI (k:=.i64) (k':=.i64) (P:=C0.P) (t:=9) (by kernel_rfl) u) q9007)
   ·obtain rfl:=bF j;let q8009:List Hint:=q8007 ++ [.call (.bool false) (St.push st4 (.cells 129 true qU)),.run 1,.aM,.run 1]
    refine aU (fun a=>?_) (fun a=>?_)
    ·refine aA fun w c5=>aA fun o c6=>?_
     obtain⟨c7,c8⟩:=o;refine aA fun c9 d0=>aA fun g1 d1=>aA fun o d2=>?_
     obtain⟨d3,d4,d5⟩:=o;obtain rfl:=bR d2;intro h;obtain rfl:=b9 h;exact dE (hs:=q8009 ++ [.dec true,.run 1,.aM,.run 2,.val (.str w),.call (.tuple [(.str c7),(.int .i64 c8)]) (St.push st4 (.cells 129 true qU)),.run 9,.cA AV.undef c9,.run 1,.val (nU d3 d4 d5)]) (by kernel_rfl) (aG d1<|aG (aN d0)<|aG (pZ R (n+1) w (St.push st4 (.cells 129 true qU)) _ c6)<|aG (Hu (k:=.i64) (P:=C0.P) (t:=9) (by kernel_rfl) c5)<|aG (eG a) q9006)
    ·refine aA fun o x=>?_;obtain⟨b,c⟩:=o;refine aA fun n239 y=>aA fun o z=>?_
     rcases o with⟨d6,d7⟩ | d8
     ·refine aA fun g2 d9=>aA fun o e0=>?_
      obtain⟨e1,e2,e3⟩:=o;obtain rfl:=bR e0;intro h;obtain rfl:=b9 h;exact dE (hs:=q8009 ++ [.dec false,.run 1,.aM,.cA b c,.val (.int .i64 (n239:Int)),.run 1,.aM,.abs [0,1,4,121,122,123] .ret [(5,(.int .i64 d6))] d7,.val (nU e1 e2 e3)]) (by kernel_rfl) (aG d9<|aG (bY (v8 R n s2 i3 (St.next st4) b (n239:Int) R 0 c _ z))<|aG (cV (P:=C0.P) (t:=22) (e:=9) (by kernel_rfl) y)<|aG x<|aG (dP a) q9006)
     ·refine aA fun e4 e5=>aA fun g3 e6=>aA fun o e7=>?_
      obtain⟨e8,e9,f0⟩:=o;obtain rfl:=bR e7;intro h;obtain rfl:=b9 h;exact dE (hs:=q8009 ++ [.dec false,.run 1,.aM,.cA b c,.val (.int .i64 (n239:Int)),.run 1,.aM,.abs [0,1,4,121,122,123] (.exit 1) [] d8,.run 2,.cA AV.undef e4,.run 1,.val (nU e8 e9 f0)]) (by kernel_rfl) (aG e6<|aG (aN e5)<|aG (bY (v8 R n s2 i3 (St.next st4) b (n239:Int) R 0 c _ z))<|aG (cV (P:=C0.P) (t:=22) (e:=9) (by kernel_rfl) y)<|aG x<|aG (dP a) q9006)
def sQ (R:Nat)(a0:List UInt8)(a1:Int):Option (Int×List UInt8×Int×Int):=(Ae 2000000 a0 a1 St.empty).map fun r=>(r.1,r.2.1,r.2.2.1,r.2.2.2.1)
def xW (args:List AV):Option AV:=match args with
 | [.str a0,.int .i64 a1]=>(sQ 0 a0 a1).map fun r=>(.tuple [(.agg [.int .i64 r.1,.str r.2.1,.int .i64 r.2.2.1]),(.int .i64 r.2.2.2)])
 | _=>none
theorem Hc:nX C0 qG (119,xW):=by
 intro args v h0
 have h:xW args=some v:=h0
 unfold xW at h
 split at h
 ·obtain⟨q0,h2,rfl⟩:=Option.map_eq_some_iff.1 h
  obtain⟨q,h1,rfl⟩:=Option.map_eq_some_iff.1 h2
  exact⟨rfl,rfl,2000000,0+3,_,HW 0 h1⟩
 ·cases h
def I5:List (Nat×(List AV→Option AV)):=[(119,xW)]
def bK:Ext:=yE (tN I5) qG
theorem Nd:oP C0.P bK:=FY FW KC I7 KC (by kernel_rfl) (.cons Hc<|.nil)
theorem D0 (R:Nat)(a0:List UInt8)(a1:Int)(r:Int×List UInt8×Int×Int)(h:sQ R a0 a1=some r):bK 119 [.str a0,.int .i64 a1]=some (.tuple [(.agg [.int .i64 r.1,.str r.2.1,.int .i64 r.2.2.1]),(.int .i64 r.2.2.2)]):=
 mT ((by kernel_rfl:tN I5 119 [.str a0,.int .i64 a1]=(sQ R a0 a1).map fun r=>(.tuple [(.agg [.int .i64 r.1,.str r.2.1,.int .i64 r.2.2.1]),(.int .i64 r.2.2.2)])).trans (by rw[h]; rfl))
theorem xV (R n:Nat)(a0:List UInt8)(a1:Int)(st:St)(r:Int×List UInt8×Int×Int)(h:sQ R a0 a1=some r):aR (aW C0 bK R (n+1)) false 119 [.str a0,.int .i64 a1] st (.tuple [(.agg [.int .i64 r.1,.str r.2.1,.int .i64 r.2.2.1]),(.int .i64 r.2.2.2)]) st:=kQ (D0 R a0 a1 r h) st
theorem Cj (R:Nat)(a0:Int)(r:Bool)(h:nR R a0=some r):bK 118 [.int .u8 a0]=some (.bool r):=
 (by kernel_rfl:bK 118 [.int .u8 a0]=qG 118 [.int .u8 a0]).trans (Cr R a0 r h)
theorem wI (R n:Nat)(a0:Int)(st:St)(r:Bool)(h:nR R a0=some r):aR (aW C0 bK R (n+1)) false 118 [.int .u8 a0] st (.bool r) st:=kQ (Cj R a0 r h) st
def QF (R:Nat)(s:List UInt8)(b z:Int):Option (Int×AV):=if b=10∧z=64 then(sB s).map fun n=>(n,.B7) else none
theorem P5 {R:Nat}(n:Nat){s:List UInt8}{b:Int}{z:Int}(st:St){r:Int×AV}(h:QF R s b z=some r):aR (aW C0 bK R (n+1)) false 202 [.str s,.int .i64 b,.int .i64 z] st (.tuple [.int .i64 r.1,r.2]) st:=by
 unfold QF at h
 split at h
 ·rename_i hb
  obtain⟨rfl,rfl⟩:=hb;obtain⟨q,h1,rfl⟩:=Option.map_eq_some_iff.1 h
  have e:bK 202 [.str s,.int .i64 10,.int .i64 64]=(sB s).map fun n=>.tuple [.int .i64 n,.B7]:=by kernel_rfl
  exact kQ (by rw[e,h1]; rfl) st
 ·cases h
def Jb (R:Nat):Option Bool:=some true
def QD (R:Nat)(s a b:List UInt8)(st:St):Option (List UInt8×St):=(QL 0 s a b st).map fun r=>(r,st)
theorem PL {R:Nat}(n:Nat){s:List UInt8}{a:List UInt8}{b:List UInt8}{st:St}{r:List UInt8×St}(h:QD R s a b st=some r):aR (aW C0 bK R (n+1)) false 139 [.str s,.str a,.str b] st (.str r.1) r.2:=by
 unfold QD at h
 obtain⟨q,h1,rfl⟩:=Option.map_eq_some_iff.1 h
 exact JL (by kernel_rfl) (by simp only[C0,HN,show Nat.beq 139 139=true from rfl,cond_true,h1]; rfl)
def QK (R:Nat)(s t:List UInt8):Option Bool:=match t with
 | [c]=>some (GB s c)
 | _=>none
theorem PF {R:Nat}(n:Nat){s:List UInt8}{t:List UInt8}(st:St){r:Bool}(h:QK R s t=some r):aR (aW C0 bK R (n+1)) false 37 [.str s,.str t] st (.bool r) st:=by
 unfold QK at h
 split at h
 ·rename_i c
  obtain rfl:=b9 h;exact kQ (by kernel_rfl) st
 ·cases h
def Jp (R:Nat)(a:AV)(b:St):Option (Int×List UInt8×List UInt8×Int×List UInt8×Int×Bool×Int×List UInt8×AV×AV×AV×AV×AV×AV×Int×List UInt8×Int×Bool×Int×List UInt8×AV×AV×AV×AV×AV×Bool×Bool×List UInt8×Bool×Int×St):=none
theorem Ja {R:Nat}(n:Nat){a:AV}{b:St}{r:Int×List UInt8×List UInt8×Int×List UInt8×Int×Bool×Int×List UInt8×AV×AV×AV×AV×AV×AV×Int×List UInt8×Int×Bool×Int×List UInt8×AV×AV×AV×AV×AV×Bool×Bool×List UInt8×Bool×Int×St}(h:Jp R a b=some r):
 aR (aW C0 bK R (n+1)) false 121 [a] b (.agg [.int .i64 r.1,.str r.2.1,.str r.2.2.1,.int .i64 r.2.2.2.1,.str r.2.2.2.2.1,.int .i64 r.2.2.2.2.2.1,.bool r.2.2.2.2.2.2.1,.int .i64 r.2.2.2.2.2.2.2.1,.str r.2.2.2.2.2.2.2.2.1,r.2.2.2.2.2.2.2.2.2.1,r.2.2.2.2.2.2.2.2.2.2.1,r.2.2.2.2.2.2.2.2.2.2.2.1,r.2.2.2.2.2.2.2.2.2.2.2.2.1,r.2.2.2.2.2.2.2.2.2.2.2.2.2.1,r.2.2.2.2.2.2.2.2.2.2.2.2.2.2.1,.int .i64 r.2.2.2.2.2.2.2.2.2.2.2.2.2.2.2.1,.str r.2.2.2.2.2.2.2.2.2.2.2.2.2.2.2.2.1,.int .i64 r.2.2.2.2.2.2.2.2.2.2.2.2.2.2.2.2.2.1,.bool r.2.2.2.2.2.2.2.2.2.2.2.2.2.2.2.2.2.2.1,.int .i64 r.2.2.2.2.2.2.2.2.2.2.2.2.2.2.2.2.2.2.2.1,.str r.2.2.2.2.2.2.2.2.2.2.2.2.2.2.2.2.2.2.2.2.1,r.2.2.2.2.2.2.2.2.2.2.2.2.2.2.2.2.2.2.2.2.2.1,r.2.2.2.2.2.2.2.2.2.2.2.2.2.2.2.2.2.2.2.2.2.2.1,r.2.2.2.2.2.2.2.2.2.2.2.2.2.2.2.2.2.2.2.2.2.2.2.1,r.2.2.2.2.2.2.2.2.2.2.2.2.2.2.2.2.2.2.2.2.2.2.2.2.1,r.2.2.2.2.2.2.2.2.2.2.2.2.2.2.2.2.2.2.2.2.2.2.2.2.2.1,.bool r.2.2.2.2.2.2.2.2.2.2.2.2.2.2.2.2.2.2.2.2.2.2.2.2.2.2.1,.bool r.2.2.2.2.2.2.2.2.2.2.2.2.2.2.2.2.2.2.2.2.2.2.2.2.2.2.2.1,.str r.2.2.2.2.2.2.2.2.2.2.2.2.2.2.2.2.2.2.2.2.2.2.2.2.2.2.2.2.1,.bool r.2.2.2.2.2.2.2.2.2.2.2.2.2.2.2.2.2.2.2.2.2.2.2.2.2.2.2.2.2.1,.int .i64 r.2.2.2.2.2.2.2.2.2.2.2.2.2.2.2.2.2.2.2.2.2.2.2.2.2.2.2.2.2.2.1]) r.2.2.2.2.2.2.2.2.2.2.2.2.2.2.2.2.2.2.2.2.2.2.2.2.2.2.2.2.2.2.2:=nomatch h
def Jy (R:Nat)(a:AV)(b:St):Option (Int×List UInt8×List UInt8×Int×List UInt8×Int×Bool×Int×List UInt8×AV×AV×AV×AV×AV×AV×Int×List UInt8×Int×Bool×Int×List UInt8×AV×AV×AV×AV×AV×Bool×Bool×List UInt8×Bool×Int×St):=none
theorem JR {R:Nat}(n:Nat){a:AV}{b:St}{r:Int×List UInt8×List UInt8×Int×List UInt8×Int×Bool×Int×List UInt8×AV×AV×AV×AV×AV×AV×Int×List UInt8×Int×Bool×Int×List UInt8×AV×AV×AV×AV×AV×Bool×Bool×List UInt8×Bool×Int×St}(h:Jy R a b=some r):
 aR (aW C0 bK R (n+1)) false 125 [a] b (.agg [.int .i64 r.1,.str r.2.1,.str r.2.2.1,.int .i64 r.2.2.2.1,.str r.2.2.2.2.1,.int .i64 r.2.2.2.2.2.1,.bool r.2.2.2.2.2.2.1,.int .i64 r.2.2.2.2.2.2.2.1,.str r.2.2.2.2.2.2.2.2.1,r.2.2.2.2.2.2.2.2.2.1,r.2.2.2.2.2.2.2.2.2.2.1,r.2.2.2.2.2.2.2.2.2.2.2.1,r.2.2.2.2.2.2.2.2.2.2.2.2.1,r.2.2.2.2.2.2.2.2.2.2.2.2.2.1,r.2.2.2.2.2.2.2.2.2.2.2.2.2.2.1,.int .i64 r.2.2.2.2.2.2.2.2.2.2.2.2.2.2.2.1,.str r.2.2.2.2.2.2.2.2.2.2.2.2.2.2.2.2.1,.int .i64 r.2.2.2.2.2.2.2.2.2.2.2.2.2.2.2.2.2.1,.bool r.2.2.2.2.2.2.2.2.2.2.2.2.2.2.2.2.2.2.1,.int .i64 r.2.2.2.2.2.2.2.2.2.2.2.2.2.2.2.2.2.2.2.1,.str r.2.2.2.2.2.2.2.2.2.2.2.2.2.2.2.2.2.2.2.2.1,r.2.2.2.2.2.2.2.2.2.2.2.2.2.2.2.2.2.2.2.2.2.1,r.2.2.2.2.2.2.2.2.2.2.2.2.2.2.2.2.2.2.2.2.2.2.1,r.2.2.2.2.2.2.2.2.2.2.2.2.2.2.2.2.2.2.2.2.2.2.2.1,r.2.2.2.2.2.2.2.2.2.2.2.2.2.2.2.2.2.2.2.2.2.2.2.2.1,r.2.2.2.2.2.2.2.2.2.2.2.2.2.2.2.2.2.2.2.2.2.2.2.2.2.1,.bool r.2.2.2.2.2.2.2.2.2.2.2.2.2.2.2.2.2.2.2.2.2.2.2.2.2.2.1,.bool r.2.2.2.2.2.2.2.2.2.2.2.2.2.2.2.2.2.2.2.2.2.2.2.2.2.2.2.1,.str r.2.2.2.2.2.2.2.2.2.2.2.2.2.2.2.2.2.2.2.2.2.2.2.2.2.2.2.2.1,.bool r.2.2.2.2.2.2.2.2.2.2.2.2.2.2.2.2.2.2.2.2.2.2.2.2.2.2.2.2.2.1,.int .i64 r.2.2.2.2.2.2.2.2.2.2.2.2.2.2.2.2.2.2.2.2.2.2.2.2.2.2.2.2.2.2.1]) r.2.2.2.2.2.2.2.2.2.2.2.2.2.2.2.2.2.2.2.2.2.2.2.2.2.2.2.2.2.2.2:=nomatch h
def KT (R:Nat)(a:AV)(b:St):Option (Int×List UInt8×List UInt8×Int×List UInt8×Int×Bool×Int×List UInt8×AV×AV×AV×AV×AV×AV×Int×List UInt8×Int×Bool×Int×List UInt8×AV×AV×AV×AV×AV×Bool×Bool×List UInt8×Bool×Int×St):=none
theorem JY {R:Nat}(n:Nat){a:AV}{b:St}{r:Int×List UInt8×List UInt8×Int×List UInt8×Int×Bool×Int×List UInt8×AV×AV×AV×AV×AV×AV×Int×List UInt8×Int×Bool×Int×List UInt8×AV×AV×AV×AV×AV×Bool×Bool×List UInt8×Bool×Int×St}(h:KT R a b=some r):
 aR (aW C0 bK R (n+1)) false 127 [a] b (.agg [.int .i64 r.1,.str r.2.1,.str r.2.2.1,.int .i64 r.2.2.2.1,.str r.2.2.2.2.1,.int .i64 r.2.2.2.2.2.1,.bool r.2.2.2.2.2.2.1,.int .i64 r.2.2.2.2.2.2.2.1,.str r.2.2.2.2.2.2.2.2.1,r.2.2.2.2.2.2.2.2.2.1,r.2.2.2.2.2.2.2.2.2.2.1,r.2.2.2.2.2.2.2.2.2.2.2.1,r.2.2.2.2.2.2.2.2.2.2.2.2.1,r.2.2.2.2.2.2.2.2.2.2.2.2.2.1,r.2.2.2.2.2.2.2.2.2.2.2.2.2.2.1,.int .i64 r.2.2.2.2.2.2.2.2.2.2.2.2.2.2.2.1,.str r.2.2.2.2.2.2.2.2.2.2.2.2.2.2.2.2.1,.int .i64 r.2.2.2.2.2.2.2.2.2.2.2.2.2.2.2.2.2.1,.bool r.2.2.2.2.2.2.2.2.2.2.2.2.2.2.2.2.2.2.1,.int .i64 r.2.2.2.2.2.2.2.2.2.2.2.2.2.2.2.2.2.2.2.1,.str r.2.2.2.2.2.2.2.2.2.2.2.2.2.2.2.2.2.2.2.2.1,r.2.2.2.2.2.2.2.2.2.2.2.2.2.2.2.2.2.2.2.2.2.1,r.2.2.2.2.2.2.2.2.2.2.2.2.2.2.2.2.2.2.2.2.2.2.1,r.2.2.2.2.2.2.2.2.2.2.2.2.2.2.2.2.2.2.2.2.2.2.2.1,r.2.2.2.2.2.2.2.2.2.2.2.2.2.2.2.2.2.2.2.2.2.2.2.2.1,r.2.2.2.2.2.2.2.2.2.2.2.2.2.2.2.2.2.2.2.2.2.2.2.2.2.1,.bool r.2.2.2.2.2.2.2.2.2.2.2.2.2.2.2.2.2.2.2.2.2.2.2.2.2.2.1,.bool r.2.2.2.2.2.2.2.2.2.2.2.2.2.2.2.2.2.2.2.2.2.2.2.2.2.2.2.1,.str r.2.2.2.2.2.2.2.2.2.2.2.2.2.2.2.2.2.2.2.2.2.2.2.2.2.2.2.2.1,.bool r.2.2.2.2.2.2.2.2.2.2.2.2.2.2.2.2.2.2.2.2.2.2.2.2.2.2.2.2.2.1,.int .i64 r.2.2.2.2.2.2.2.2.2.2.2.2.2.2.2.2.2.2.2.2.2.2.2.2.2.2.2.2.2.2.1]) r.2.2.2.2.2.2.2.2.2.2.2.2.2.2.2.2.2.2.2.2.2.2.2.2.2.2.2.2.2.2.2:=nomatch h
end
end Go.Proofs.YthodfojhbbendaaGreatDoor
end
