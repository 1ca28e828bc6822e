/- PlanChooses, part 9 of 11 of its proof (what is proved: whatever the text is, the law answers true; conditions: those each theorem states). Joined and shortened by a program. In order: PnAs | PnAp | PnAa | PnAc | PnAr | PnB: Bytes in a slice; the least text above those that begin with one: what the walks compute. | PnC: Numbers and texts in keys; the key of a literal: what both say. -/
import Derived.Test.YthodfojhbbendaaGreatDoorPh
import Derived.Lib.ReplaceLaws
section
set_option linter.all false
set_option maxRecDepth 100000
namespace Go.Proofs.YthodfojhbbendaaGreatDoor
open Go Go.Ev
noncomputable section
def jW (R : Nat) (b : AV) (a : St) : Option (Bool × St) :=
 (shift b 0).bind fun c=>
 (loadAt C0.P a 3 c).bind fun d=>
 (dN .i64 d).bind fun e=>
 if(e=6) then
  (shift b 8).bind fun f=>
  (loadAt C0.P a 26 f).bind fun g=>
  (lenOf g).bind fun n54=>
  if((n54:Int)=2) then
   some (false,a)
  else
   some (true,a)
 else
  some (true,a)
theorem lF {R:Nat}(n:Nat){c:AV}{d:St}{r:Bool×St}(h:jW R c d=some r):
 oE 94 bK R n 40 [1,0,0] [(1,c)] d .normal [(20,.bool r.1)] r.2:=by
 revert h;unfold jW;refine aA fun i f=>aA fun s g=>aA fun j k=>?_
 obtain rfl:=bE k;let q8001:List Hint:=[.val i,.val (.int .i64 j)]
 refine aU (fun a=>?_) (fun a=>?_)
 ·refine aA fun l m=>aA fun o p=>aA fun n54 q=>?_
  have q9001:=aG (cV (P:=C0.P) (t:=26) (e:=28) (by kernel_rfl) q)<|aG p<|aG m<|aG (Ax a)<|aG g<|aG f eE
  let q8002:List Hint:=q8001 ++ [.dec false,.run 1,.val l,.val o,.val (.int .i64 (n54:Int))]
  refine aU (fun b=>?_) (fun b=>?_)
  ·intro h;obtain rfl:=b9 h;exact aK (hs:=q8002 ++ [.dec false,.run 1]) (want:=[20]) (by kernel_rfl) (aG (Ax b) q9001)
  ·intro h;obtain rfl:=b9 h;exact aK (hs:=q8002 ++ [.dec true,.run 1]) (want:=[20]) (by kernel_rfl) (aG (D5 b) q9001)
 ·intro h;obtain rfl:=b9 h;exact aK (hs:=q8001 ++ [.dec true,.run 2]) (want:=[20]) (by kernel_rfl) (aG (D5 a)<|aG g<|aG f eE)
def iV (R : Nat) (b : Nat) (c : Nat) (a : St) : Option (Bool × St) :=
 (loadAt C0.P a 3 (.ref b 0)).bind fun d=>
 (dN .i64 d).bind fun e=>
 if(e=1) then
  (loadAt C0.P a 3 (.ref c 0)).bind fun f=>
  (dN .i64 f).bind fun g=>
  if(g=2) then
   some (true,a)
  else
   some (false,a)
 else
  some (false,a)
theorem nJ {R:Nat}(n:Nat){c:Nat}{d:Nat}{e:St}{r:Bool×St}(h:iV R c d e=some r):
 oE 94 bK R n 40 [1,1,1,0,0] [(6,(.ref c 0)),(7,(.ref d 0))] e .normal [(39,.bool r.1)] r.2:=by
 revert h;unfold iV;refine aA fun l b=>aA fun f i=>?_
 obtain rfl:=bE i;refine aU (fun a=>?_) (fun a=>?_)
 ·refine aA fun m g=>aA fun j k=>?_
  obtain rfl:=bE k;let q8003:List Hint:=[.run 1,.val (.int .i64 f),.dec true,.run 2,.val (.int .i64 j)]
  refine aU (fun DI=>?_) (fun DI=>?_)
  ·intro h;obtain rfl:=b9 h;exact aK (hs:=q8003 ++ [.dec true,.run 1]) (want:=[39]) (by kernel_rfl) (aG (eG DI)<|aG g<|aG (eG a)<|aG b eE)
  ·intro h;obtain rfl:=b9 h;exact aK (hs:=q8003 ++ [.dec false,.run 1]) (want:=[39]) (by kernel_rfl) (aG (dP DI)<|aG g<|aG (eG a)<|aG b eE)
 ·intro h;obtain rfl:=b9 h;exact aK (hs:=[.run 1,.val (.int .i64 f),.dec false,.run 2]) (want:=[39]) (by kernel_rfl) (aG (dP a)<|aG b eE)
def gA (R : Nat) (M : Nat) (e : Nat) (f : Nat) (b : List UInt8) (i : Bool) (a : St) : Option (List UInt8 × St) :=
 if i = true then
  (qJ C0.P (St.push a (.map [] 0)) 132 (.map (St.next a)) (.str [60]) (.str [62])).bind fun j=>
  (qJ C0.P j 132 (.map (St.next a)) (.str [62]) (.str [60])).bind fun k=>
  (qJ C0.P k 132 (.map (St.next a)) (.str [60,61]) (.str [62,61])).bind fun l=>
  (qJ C0.P l 132 (.map (St.next a)) (.str [62,61]) (.str [60,61])).bind fun m=>
  (qJ C0.P m 132 (.map (St.next a)) (.str [61]) (.str [61])).bind fun c=>
  (loadAt C0.P c 28 (.ref f 0)).bind fun n=>
  (aD n).bind fun(o,p,q,r,s,t,u,v,w,x)=>
  (loadAt C0.P c 28 (.ref e 0)).bind fun y=>
  (aD y).bind fun(z,A,B,C,D,E,F,G,H,I)=>
  (pG C0.P c 132 (.map (St.next a)) (.str b) false).bind fun J=>
  (eY J).bind fun d=>
  (storeAt C0.P c 28 (.ref e 0) (.agg [(.int .i64 o),(.str p),(.int .i64 q),(.bool r),(.int .i64 s),(.str t),u,v,w,x])).bind fun g=>
  (pG C0.P g 132 (.map (St.next a)) (.str b) false).bind fun K=>
  if AV.beq K (.str d)=true then
   (storeAt C0.P g 28 (.ref f 0) (.agg [(.int .i64 z),(.str A),(.int .i64 B),(.bool C),(.int .i64 D),(.str E),F,G,H,I])).bind fun h=>
   (pG C0.P h 132 (.map (St.next a)) (.str b) false).bind fun L=>
   if AV.beq L (.str d)=true then
    some (d,h)
   else
    none
  else
   none
 else
  some (b,a)
theorem nC {R : Nat} (n : Nat) {b : Nat} {c : Nat} {d : Nat} {e : List UInt8} {f : Bool} {g : St} {r : List UInt8 × St} (h : gA R b c d e f g = some r):
 oE 94 bK R n 40 [1,1,1,0,1] [(4,(.ref b 0)),(6,(.ref c 0)),(7,(.ref d 0)),(8,(.str e)),(39,(.bool f))] g .normal [(8,.str r.1)] r.2:=by
 revert h;unfold gA;refine aU (fun a=>?_) (fun a=>?_)
 ·subst a;refine aA fun k l=>aA fun m p=>aA fun q s=>aA fun t u=>aA fun v w=>aA fun a5 x=>aA fun o y=>?_
  obtain⟨z,A,B,C,D,E,F,G,H,I⟩:=o;obtain rfl:=aC y;refine aA fun a6 J=>aA fun o K=>?_
  obtain⟨L,M,N,O,P,Q,S,T,U,V⟩:=o;obtain rfl:=aC K;refine aA fun a7 W=>aA fun X Y=>?_
  obtain rfl:=cC Y;refine aA fun Z a0=>aA fun a8 a1=>?_
  refine aU (fun i=>?_) (fun i=>?_)
  ·refine aA fun a2 a3=>aA fun a9 a4=>?_
   refine aU (fun j=>?_) (fun j=>?_)
   ·intro h;obtain rfl:=b9 h;exact aK (hs:=[.aM,.run 1,.cA AV.undef k,.cA AV.undef m,.cA AV.undef q,.cA AV.undef t,.cA AV.undef v,.run 2,.val (aJ z A B C D E F G H I),.val (aJ L M N O P Q S T U V),.run 2,.val (.str X),.cA AV.undef Z,.cA AV.undef a2,.run 1]) (want:=[8]) (by kernel_rfl) (aG (jQ a4 j)<|aG (aN a3)<|aG (jQ a1 i)<|aG (aN a0)<|aG W<|aG J<|aG x<|aG (aN w)<|aG (aN u)<|aG (aN s)<|aG (aN p)<|aG (aN l) eE)
   ·exact fun h=>nomatch h
  ·exact fun h=>nomatch h
 ·obtain rfl:=bF a;intro h;obtain rfl:=b9 h;exact aK (hs:=[.aM]) (want:=[8]) (by kernel_rfl) .nil
def eF (R : Nat) (c : Nat) (d : Nat) (f : Nat) (g : List UInt8) : Nat → Int → St → Option ((List UInt8 × List UInt8 × Bool × St) ⊕ (St))
 | 0,_,_=>none
 | r + 1, b, a =>
   (loadAt C0.P a 9 (.ref d 1)).bind fun h=>
   (eY h).bind fun e=>
   if(b<(List.length e:Int)) then
    (zK e b).bind fun i=>
    if(i=46) then
     (storeAt C0.P a 25 (.ref c 0) (.agg [(.int .i64 0),(.bool false),(.int .i64 0),(.str []),AV.aF,AV.aF])).bind fun j=>
     some (.inl ([],[],false,j))
    else
     eF R c d f g r (IntKind.wrap .i64 (b+1)) a
   else
    some (.inr a)
def jU (o:(List UInt8×List UInt8×Bool×St) ⊕ (St)):cE×List (Nat×AV)×St:=match o with
 | .inl (a0,a1,a2,a3)=>(.ret,[(2,.str a0),(3,.str a1),(5,.bool a2)],a3)
 | .inr a0=>((.exit 0),[],a0)
theorem mU (R n : Nat) (g : Nat) (i : Nat) (j : Nat) (l : List UInt8) : ∀ (r : Nat) (a : Int) (b : St) (o : (List UInt8 × List UInt8 × Bool × St) ⊕ (St)), eF R g i j l r a b = some o →
 jL 94 (jA (fun fr k=>cZ C0 (aW C0 bK R n) 40 R none (dA C0.P 40 [1,1,1,1,0,1,0,0]) fr k) r) (dI (dA C0.P 40 [1,1,1,1,0,1,0,0])) [(4,(.ref g 0)),(6,(.ref i 0)),(7,(.ref j 0)),(8,(.str l)),(10,(.int .i64 a))] b (jU o).1 (jU o).2.1 (jU o).2.2:=by
 intro r
 induction r with
 | zero=>intro a b o h; exact nomatch h
 | succ r ih =>
   intro a b o
   unfold eF;refine aA fun v c=>aA fun d q=>?_
   obtain rfl:=cC q;refine aU (fun e=>?_) (fun e=>?_)
   ·refine aA fun m p=>?_;refine aU (fun f=>?_) (fun f=>?_)
    ·refine aA fun s u=>?_;intro h;obtain rfl:=b9 h;exact bI (aK (hs:=[.run 2,.val (.str d),.run 1,.dec true,.aM,.aM,.run 1,.val (.str d),.run 1,.val (.int .u8 m),.dec true,.aM,.run 3,.cA AV.undef s,.run 1]) (want:=[2,3,5]) (by kernel_rfl) (.cons (aN u)<|.cons (eG f)<|.cons (gE (k:=.i64) (P:=C0.P) (t:=9) (by kernel_rfl) p)<|.cons c<|.cons (decide_eq_true e)<|.cons c .nil)) (by kernel_rfl)
    ·intro h;exact cS (aK (hs:=[.run 2,.val (.str d),.run 1,.dec true,.aM,.aM,.run 1,.val (.str d),.run 1,.val (.int .u8 m),.dec false,.aM,.run 3]) (want:=[4,6,7,8,10]) (by kernel_rfl) (.cons (dP f)<|.cons (gE (k:=.i64) (P:=C0.P) (t:=9) (by kernel_rfl) p)<|.cons c<|.cons (decide_eq_true e)<|.cons c .nil)) (ih (IntKind.wrap .i64 (a+1)) b _ h)
   ·intro h;obtain rfl:=b9 h;exact bI (aK (hs:=[.run 2,.val (.str d),.run 1,.dec false,.aM]) (want:=[]) (by kernel_rfl) (.cons (decide_eq_false e)<|.cons c .nil)) (by kernel_rfl)
def fR (R : Nat) (c : Nat) (d : Nat) (b : List UInt8) (a : St) : Option (Bool × St) :=
 (loadAt C0.P a 3 (.ref c 0)).bind fun e=>
 (dN .i64 e).bind fun f=>
 if (f = 2) then
  (loadAt C0.P a 3 (.ref d 0)).bind fun g=>
  (dN .i64 g).bind fun h=>
  if (h = 1) then
   if(b=[61]) then
    some (true,a)
   else
    if(b=[60]) then
     some (true,a)
    else
     if(b=[60,61]) then
      some (true,a)
     else
      if(b=[62]) then
        some (true,a)
      else
        if(b=[62,61]) then
         some (true,a)
        else
         some (false,a)
  else
   some (false,a)
 else
  some (false,a)
theorem sV {R : Nat} (n : Nat) {i : Nat} {j : Nat} {k : List UInt8} {l : St} {r : Bool × St} (h : fR R i j k l = some r):
 oE 94 bK R n 40 [1,1,1,1,1,0] [(6,(.ref i 0)),(7,(.ref j 0)),(8,(.str k))] l .normal [(11,.bool r.1)] r.2:=by
 revert h;unfold fR;refine aA fun u m=>aA fun o p=>?_
 obtain rfl:=bE p;let q8004:List Hint:=[.run 1,.val (.int .i64 o)]
 refine aU (fun c=>?_) (fun c=>?_)
 ·refine aA fun v q => aA fun s t => ?_
  obtain rfl:=bE t;have q9002:=aG q<|aG (eG c)<|aG m eE
  let q8005:List Hint:=q8004 ++ [.dec true,.run 2,.val (.int .i64 s)]
  refine aU (fun d=>?_) (fun d=>?_)
  ·have q9003:=aG (eG d) q9002
   let q8006:List Hint:=q8005 ++ [.dec true,.run 3]
   refine aU (fun e=>?_) (fun e=>?_)
   ·intro h;obtain rfl:=b9 h;exact aK (hs:=q8006 ++ [.dec true,.run 10]) (want:=[11]) (by kernel_rfl) (aG (dM e) q9003)
   ·have q9004:=aG (cL e) q9003
    let q8007:List Hint:=q8006 ++ [.dec false,.run 2]
    refine aU (fun a=>?_) (fun a=>?_)
    ·intro h;obtain rfl:=b9 h;exact aK (hs:=q8007 ++ [.dec true,.run 9]) (want:=[11]) (by kernel_rfl) (aG (dM a) q9004)
    ·refine aU (fun f=>?_) (fun f=>?_)
     ·intro h;obtain rfl:=b9 h;exact aK (hs:=q8007 ++ [.dec false,.run 3,.dec true,.run 7]) (want:=[11]) (by kernel_rfl) (aG (dM f)<|aG (cL a) q9004)
     ·have q9005:=aG (cL f)<|aG (cL a) q9004
      let q8008:List Hint:=q8007 ++ [.dec false,.run 3,.dec false,.run 3]
      refine aU (fun b=>?_) (fun b=>?_)
      ·intro h;obtain rfl:=b9 h;exact aK (hs:=q8008 ++ [.dec true,.run 5]) (want:=[11]) (by kernel_rfl) (aG (dM b) q9005)
      ·refine aU (fun g=>?_) (fun g=>?_)
       ·intro h;obtain rfl:=b9 h;exact aK (hs:=q8008 ++ [.dec false,.run 3,.dec true,.run 3]) (want:=[11]) (by kernel_rfl) (aG (dM g)<|aG (cL b) q9005)
       ·intro h;obtain rfl:=b9 h;exact aK (hs:=q8008 ++ [.dec false,.run 3,.dec false,.run 3]) (want:=[11]) (by kernel_rfl) (aG (cL g)<|aG (cL b) q9005)
  ·intro h;obtain rfl:=b9 h;exact aK (hs:=q8005 ++ [.dec false,.run 4]) (want:=[11]) (by kernel_rfl) (aG (dP d) q9002)
 ·intro h;obtain rfl:=b9 h;exact aK (hs:=q8004 ++ [.dec false,.run 5]) (want:=[11]) (by kernel_rfl) (aG (dP c)<|aG m eE)
def kU (R : Nat) (A : Int) (B : List UInt8) (C : Int) (D : Bool) (E : Int) (F : List UInt8) (G : AV) (H : AV) (I : AV) (J : AV) (K : St) : Option (List UInt8 × List UInt8 × Int × Bool × Int × List UInt8 × AV × AV × Bool × St) :=
 (oQ 28 (.agg [(.int .i64 A),(.str B),(.int .i64 C),(.bool D),(.int .i64 E),(.str F),G,H,I,J]) K).bind fun(d,b)=>
 (jW R d (St.push b (.cells 25 true [(.int .i64 0),(.bool false),(.int .i64 0),(.str []),AV.aF,AV.aF]))).bind fun(L,a)=>
 if L=true then
  (storeAt C0.P a 25 (.ref (St.next b) 0) (.agg [(.int .i64 0),(.bool false),(.int .i64 0),(.str []),AV.aF,AV.aF])).bind fun j=>
  (loadAt C0.P j 25 (.ref (St.next b) 0)).bind fun M=>
  (aQ M).bind fun(i64,N,O,Q,S,T)=>
  some ([],[],i64,N,O,Q,S,T,false,j)
 else
  (shift d 8).bind fun k=>
  (loadAt C0.P a 26 k).bind fun e=>
  (bA C0.P 26 e (.int .i64 0)).bind fun U=>
  (loadAt C0.P a 28 U).bind fun V=>
  (aD V).bind fun(W,X,Y,Z,a0,a1,a2,a3,a4,a5)=>
  (bA C0.P 26 e (.int .i64 1)).bind fun l=>
  (loadAt C0.P a 28 l).bind fun a6=>
  (aD a6).bind fun(m,n,p,q,r,s,t,u,v,w)=>
  (shift d 1).bind fun f=>
  (loadAt C0.P a 9 f).bind fun a7=>
  (eY a7).bind fun g=>
  (storeAt C0.P (St.push (St.push a (.cells 28 true [(.int .i64 0),(.str []),(.int .i64 0),(.bool false),(.int .i64 0),(.str []),AV.aF,AV.aF,AV.aF,AV.aF])) (.cells 28 true [(.int .i64 0),(.str []),(.int .i64 0),(.bool false),(.int .i64 0),(.str []),AV.aF,AV.aF,AV.aF,AV.aF])) 28 (.ref (St.next a) 0) (.agg [(.int .i64 W),(.str X),(.int .i64 Y),(.bool Z),(.int .i64 a0),(.str a1),a2,a3,a4,a5])).bind fun c=>
  (loadAt C0.P c 9 f).bind fun a8=>
  if AV.beq a8 (.str g) = true then
   (loadAt C0.P c 28 l).bind fun a9=>
   if AV.beq a9 (.agg [(.int .i64 m), (.str n), (.int .i64 p), (.bool q), (.int .i64 r), (.str s), t, u, v, w]) = true then
    (loadAt C0.P c 26 k).bind fun b0=>
    if AV.beq b0 e = true then
     (storeAt C0.P c 28 (.ref (St.next (St.push a (.cells 28 true [(.int .i64 0),(.str []),(.int .i64 0),(.bool false),(.int .i64 0),(.str []),AV.aF,AV.aF,AV.aF,AV.aF]))) 0) (.agg [(.int .i64 m),(.str n),(.int .i64 p),(.bool q),(.int .i64 r),(.str s),t,u,v,w])).bind fun x=>
     (loadAt C0.P x 9 f).bind fun b1=>
     if AV.beq b1 (.str g)=true then
      (iV R (St.next a) (St.next (St.push a (.cells 28 true [(.int .i64 0),(.str []),(.int .i64 0),(.bool false),(.int .i64 0),(.str []),AV.aF,AV.aF,AV.aF,AV.aF]))) x).bind fun(b2,b3)=>
      (gA R (St.next b) (St.next a) (St.next (St.push a (.cells 28 true [(.int .i64 0),(.str []),(.int .i64 0),(.bool false),(.int .i64 0),(.str []),AV.aF,AV.aF,AV.aF,AV.aF]))) g b2 b3).bind fun(h,b4)=>
      (eF R (St.next b) (St.next a) (St.next (St.push a (.cells 28 true [(.int .i64 0),(.str []),(.int .i64 0),(.bool false),(.int .i64 0),(.str []),AV.aF,AV.aF,AV.aF,AV.aF]))) h R 0 b4).bind fun o=>match o with
      | .inl (b5,b6,b7,y)=>
        (loadAt C0.P y 25 (.ref (St.next b) 0)).bind fun b8=>
        (aQ b8).bind fun(b9,c0,c1,c2,c3,c4)=>
        some (b5,b6,b9,c0,c1,c2,c3,c4,b7,y)
      | .inr c5=>
        (fR R (St.next a) (St.next (St.push a (.cells 28 true [(.int .i64 0),(.str []),(.int .i64 0),(.bool false),(.int .i64 0),(.str []),AV.aF,AV.aF,AV.aF,AV.aF]))) h c5).bind fun(c6,i)=>
        (loadAt C0.P i 9 (.ref (St.next a) 1)).bind fun c7=>
        (eY c7).bind fun c8=>
        (loadAt C0.P i 25 (.ref (St.next (St.push a (.cells 28 true [(.int .i64 0),(.str []),(.int .i64 0),(.bool false),(.int .i64 0),(.str []),AV.aF,AV.aF,AV.aF,AV.aF]))) 2)).bind fun c9=>
        (aQ c9).bind fun(d0,d1,d2,d3,d4,d5)=>
        (storeAt C0.P i 25 (.ref (St.next b) 0) (.agg [(.int .i64 d0),(.bool d1),(.int .i64 d2),(.str d3),d4,d5])).bind fun z=>
        (loadAt C0.P z 25 (.ref (St.next b) 0)).bind fun d6=>
        (aQ d6).bind fun(d7,d8,d9,e0,e1,e2)=>
        some (c8,h,d7,d8,d9,e0,e1,e2,c6,z)
     else
      none
    else
     none
   else
    none
  else
   none
theorem zX {R : Nat} (n : Nat) {p : Int} {q : List UInt8} {s : Int} {t : Bool} {u : Int} {v : List UInt8} {w : AV} {x : AV} {y : AV} {z : AV} {A : St} {r : List UInt8 × List UInt8 × Int × Bool × Int × List UInt8 × AV × AV × Bool × St} (h : kU R p q s t u v w x y z A = some r):
 aR (aW C0 bK R (n+1)) false 40 [(.agg [(.int .i64 p),(.str q),(.int .i64 s),(.bool t),(.int .i64 u),(.str v),w,x,y,z])] A (.tuple [(.str r.1),(.str r.2.1),(.agg [.int .i64 r.2.2.1,.bool r.2.2.2.1,.int .i64 r.2.2.2.2.1,.str r.2.2.2.2.2.1,r.2.2.2.2.2.2.1,r.2.2.2.2.2.2.2.1]),(.bool r.2.2.2.2.2.2.2.2.1)]) r.2.2.2.2.2.2.2.2.2:=by
 revert h;unfold kU;refine aA fun o g=>?_;obtain⟨B,b⟩:=o;refine aA fun o Lj=>?_;obtain⟨h1,a⟩:=o;refine aU (fun i=>?_) (fun i=>?_)
 ·subst i;refine aA fun W X=>aA fun h2 Y=>aA fun o Z=>?_
  obtain⟨i64,a0,a1,a2,a3,a4⟩:=o;obtain rfl:=aO Z;intro h;obtain rfl:=b9 h;exact dE (hs:=[.cA B b,.run 4,.Ag [1] .normal [(20,(.bool true))] a,.aM,.run 3,.cA AV.undef W,.run 1,.val (bD i64 a0 a1 a2 a3 a4)]) (by kernel_rfl) (aG Y<|aG (aN X)<|aG (lF n Lj)<|aG (pE g) eE)
 ·obtain rfl:=bF i;refine aA fun C c=>aA fun D d=>aA fun a5 E=>aA fun h3 F=>aA fun o a6=>?_
  obtain⟨a7,a8,a9,b0,b1,b2,b3,b4,b5,b6⟩:=o;obtain rfl:=aC a6;refine aA fun b7 G=>aA fun h4 H=>aA fun o b8=>?_
  obtain⟨c0,c1,c2,c3,c4,c5,c6,c7,c8,c9⟩:=o;obtain rfl:=aC b8;refine aA fun d0 I=>aA fun h5 J=>aA fun d1 d2=>?_
  obtain rfl:=cC d2;refine aA fun d3 K=>aA fun h6 L=>?_
  let q8009:List Hint:=[.cA B b,.run 4,.Ag [1] .normal [(20,(.bool false))] a,.aM,.val C,.val D,.val a5,.val (aJ a7 a8 a9 b0 b1 b2 b3 b4 b5 b6),.val C,.val D,.val b7,.val (aJ c0 c1 c2 c3 c4 c5 c6 c7 c8 c9),.val d0,.val (.str d1),.run 2,.cA AV.undef d3]
  refine aU (fun j=>?_) (fun j=>?_)
  ·refine aA fun h7 M=>?_;refine aU (fun k=>?_) (fun k=>?_)
   ·refine aA fun h8 N=>?_;refine aU (fun l=>?_) (fun l=>?_)
    ·refine aA fun O P=>aA fun h9 Q=>?_
     refine aU (fun m=>?_) (fun m=>?_)
     ·refine aA fun o Hy=>?_;obtain⟨S,T⟩:=o;refine aA fun o U=>?_;obtain⟨e,f⟩:=o;refine aA fun o V=>?_
      rcases o with⟨d4,d5,d6,d7⟩ | d8
      ·refine aA fun i0 d9=>aA fun o e0=>?_
       obtain⟨e1,e2,e3,e4,e5,e6⟩:=o;obtain rfl:=aO e0;intro h;obtain rfl:=b9 h;exact dE (hs:=q8009 ++ [.cA AV.undef O,.run 1,.Ag [6,7] .normal [(39,(.bool S))] T,.fT [4,6,7,8,39] .normal [(8,(.str e))] f,.run 1,.aM,.abs [4,6,7,8,10] .ret [(2,(.str d4)),(3,(.str d5)),(5,(.bool d6))] d7,.val (bD e1 e2 e3 e4 e5 e6)]) (by kernel_rfl) (aG d9<|.cons (bY (mU R n (St.next b) (St.next a) (St.next (St.push a (.cells 28 true L4))) e R 0 f _ V))<|aG (nC n U)<|aG (nJ n Hy)<|aG (jQ Q m)<|aG (aN P)<|aG (jQ L j)<|aG (jQ M k)<|aG (jQ N l)<|aG (aN K)<|aG J<|aG I<|aG H<|aG G<|aG d<|aG c<|aG F<|aG E<|aG d<|aG c<|aG (lF n Lj)<|aG (pE g) eE)
      ·refine aA fun o e7=>?_;obtain⟨e8,e9⟩:=o;refine aA fun i1 f0=>aA fun f1 f2=>?_
       obtain rfl:=cC f2;refine aA fun i2 f3=>aA fun o f4=>?_
       obtain⟨f5,f6,f7,f8,f9,g0⟩:=o;obtain rfl:=aO f4;refine aA fun g1 g2=>aA fun i3 g3=>aA fun o g4=>?_
       obtain⟨g5,g6,g7,g8,g9,h0⟩:=o;obtain rfl:=aO g4;intro h;obtain rfl:=b9 h;exact dE (hs:=q8009 ++ [.cA AV.undef O,.run 1,.Ag [6,7] .normal [(39,(.bool S))] T,.fT [4,6,7,8,39] .normal [(8,(.str e))] f,.run 1,.aM,.abs [4,6,7,8,10] (.exit 0) [] d8,.Ag [6,7,8] .normal [(11,(.bool e8))] e9,.run 1,.val (.str f1),.run 2,.val (bD f5 f6 f7 f8 f9 g0),.run 3,.cA AV.undef g1,.run 1,.val (bD g5 g6 g7 g8 g9 h0)]) (by kernel_rfl) (aG g3<|aG (aN g2)<|aG f3<|aG f0<|aG (sV n e7)<|.cons (bY (mU R n (St.next b) (St.next a) (St.next (St.push a (.cells 28 true L4))) e R 0 f _ V))<|aG (nC n U)<|aG (nJ n Hy)<|aG (jQ Q m)<|aG (aN P)<|aG (jQ L j)<|aG (jQ M k)<|aG (jQ N l)<|aG (aN K)<|aG J<|aG I<|aG H<|aG G<|aG d<|aG c<|aG F<|aG E<|aG d<|aG c<|aG (lF n Lj)<|aG (pE g) eE)
     ·exact fun h=>nomatch h
    ·exact fun h=>nomatch h
   ·exact fun h=>nomatch h
  ·exact fun h=>nomatch h
end
end Go.Proofs.YthodfojhbbendaaGreatDoor
end
section
set_option linter.all false
set_option maxRecDepth 100000
namespace Go.Proofs.YthodfojhbbendaaGreatDoor
open Go Go.Ev
noncomputable section
def fE (R : Nat) : Nat → AV → St → Option ((AV × St))
 | 0,_,_=>none
 | r + 1, a, b =>
   (lenOf a).bind fun n5366=>
   if((n5366:Int)>0) then
    (bA C0.P 90 a (.int .i64 (IntKind.wrap .i64 ((n5366:Int) - 1)))).bind fun c=>
    (loadAt C0.P b 5 c).bind fun d=>
    (dN .u8 d).bind fun e=>
    if(e=255) then
     (y8 C0.P b 90 a none (some (.int .i64 (IntKind.wrap .i64 ((n5366:Int) - 1)))) none).bind fun f=>
     fE R r f b
    else
     some (a,b)
   else
    some (a,b)
def kZ (o:(AV×St)):cE×List (Nat×AV)×St:=match o with
 | (a0,a1)=>((.exit 0),[(3,a0)],a1)
theorem uW (R n : Nat) : ∀ (r : Nat) (c : AV) (b : St) (o : (AV × St)), fE R r c b = some o →
 jL 36 (jA (fun fr k=>cZ C0 (aW C0 bK R n) 34 R none (dA C0.P 34 [1,1,0,0,0]) fr k) r) (dI (dA C0.P 34 [1,1,0,0,0])) [(3,c)] b (kZ o).1 (kZ o).2.1 (kZ o).2.2:=by
 intro r
 induction r with
 | zero=>intro c b o h; exact nomatch h
 | succ r ih =>
   intro c b o
   unfold fE;refine aA fun n5366 a=>?_;refine aU (fun d=>?_) (fun d=>?_)
   ·refine aA fun g i=>aA fun s j=>aA fun l p=>?_
    obtain rfl:=bE p;refine aU (fun f=>?_) (fun f=>?_)
    ·refine aA fun m q=>?_;intro h;exact cS (aK (hs:=[.run 1,.val (.int .i64 (n5366:Int)),.dec true,.run 3,.val (.int .i64 (n5366:Int)),.run 1,.val g,.val (.int .u8 l),.dec true,.run 1,.aM,.aM,.run 2,.val (.int .i64 (n5366:Int)),.run 1,.val m,.run 1]) (want:=[3]) (by kernel_rfl) (.cons q<|.cons (cV (P:=C0.P) (t:=90) (e:=5) (by kernel_rfl) a)<|.cons (eG f)<|.cons j<|.cons i<|.cons (cV (P:=C0.P) (t:=90) (e:=5) (by kernel_rfl) a)<|.cons (decide_eq_true d)<|.cons (cV (P:=C0.P) (t:=90) (e:=5) (by kernel_rfl) a) .nil)) (ih m b _ h)
    ·intro h;obtain rfl:=b9 h;exact bI (aK (hs:=[.run 1,.val (.int .i64 (n5366:Int)),.dec true,.run 3,.val (.int .i64 (n5366:Int)),.run 1,.val g,.val (.int .u8 l),.dec false,.run 1,.aM]) (want:=[3]) (by kernel_rfl) (.cons (dP f)<|.cons j<|.cons i<|.cons (cV (P:=C0.P) (t:=90) (e:=5) (by kernel_rfl) a)<|.cons (decide_eq_true d)<|.cons (cV (P:=C0.P) (t:=90) (e:=5) (by kernel_rfl) a) .nil)) (by kernel_rfl)
   ·intro h;obtain rfl:=b9 h;exact bI (aK (hs:=[.run 1,.val (.int .i64 (n5366:Int)),.dec false,.run 2,.aM]) (want:=[3]) (by kernel_rfl) (.cons (decide_eq_false d)<|.cons (cV (P:=C0.P) (t:=90) (e:=5) (by kernel_rfl) a) .nil)) (by kernel_rfl)
def kC (R:Nat)(a:AV)(b:St):Option (AV×St):=
 (fE R R a b).bind fun(c,d)=>
 some (c,d)
theorem vK {R:Nat}(n:Nat){a:AV}{b:St}{r:AV×St}(h:kC R a b=some r):
 oE 36 bK R n 34 [1,1,0] [(3,a)] b .normal [(3,r.1)] r.2:=by
 revert h;unfold kC;refine aA fun o c=>?_;obtain⟨d,e⟩:=o;intro h;obtain rfl:=b9 h;exact aK (hs:=[.aM,.abs [3] (.exit 0) [(3,d)] e]) (want:=[3]) (by kernel_rfl) (aG (bY (uW R n R a b _ c)) eE)
def gW (R:Nat)(e:List UInt8)(f:St):Option (List UInt8×St):=
 (eV (C5 5 e) f).bind fun(g,h)=>
 (kC R g h).bind fun(a,b)=>
 (lenOf a).bind fun n5389=>
 if((n5389:Int)=0) then
  some ([],b)
 else
  (bA C0.P 90 a (.int .i64 (IntKind.wrap .i64 ((n5389:Int) - 1)))).bind fun c=>
  (loadAt C0.P b 5 c).bind fun i=>
  (dN .u8 i).bind fun j=>
  (storeAt C0.P b 5 c (.int .u8 (IntKind.wrap .u8 (j+1)))).bind fun d=>
  (strOf d a).bind fun k=>
  some (k,d)
theorem nK {R:Nat}(n:Nat){b:List UInt8}{c:St}{r:List UInt8×St}(h:gW R b c=some r):
 aR (aW C0 bK R (n+1)) false 34 [(.str b)] c (.str r.1) r.2:=by
 revert h;unfold gW;refine aA fun o i=>?_;obtain⟨j,k⟩:=o;refine aA fun o l=>?_;obtain⟨m,p⟩:=o;refine aA fun n5389 d=>?_;have q9001:=aG (cV (P:=C0.P) (t:=90) (e:=5) (by kernel_rfl) d)<|aG (vK n l)<|aG i eE
 let q8001:List Hint:=[.run 2,.cA j k,.run 1,.nW [3] .normal [(3,m)] p,.run 1,.val (.int .i64 (n5389:Int))]
 refine aU (fun a=>?_) (fun a=>?_)
 ·intro h;obtain rfl:=b9 h;exact dE (hs:=q8001 ++ [.dec true,.aM,.run 1]) (by kernel_rfl) (aG (eG a) q9001)
 ·refine aA fun f g=>aA fun z q=>aA fun s u=>?_
  obtain rfl:=bE u;refine aA fun v w=>aA fun x y=>?_
  intro h;obtain rfl:=b9 h;exact dE (hs:=q8001 ++ [.dec false,.aM,.run 2,.val (.int .i64 (n5389:Int)),.run 1,.val f,.val (.int .u8 s),.run 1,.val f,.cA AV.undef v,.run 1,.val (.str x),.run 1]) (by kernel_rfl) (aG (qB y)<|aG (aN w)<|aG g<|aG q<|aG g<|aG (cV (P:=C0.P) (t:=90) (e:=5) (by kernel_rfl) d)<|aG (dP a) q9001)
end
end Go.Proofs.YthodfojhbbendaaGreatDoor
end
section
set_option linter.all false
set_option maxRecDepth 100000
namespace Go.Proofs.YthodfojhbbendaaGreatDoor
open Go Go.Ev
noncomputable section
structure It where
 n:Nat
 f14:Int→List UInt8→Int→Bool→Int→List UInt8→AV→AV→AV→AV→St→Option (AV×St)
def It.ok (R:It)(n:Nat):Prop:=(∀ m,n≤m→ ∀(a0:Int) (a1:List UInt8) (a2:Int) (a3:Bool) (a4:Int) (a5:List UInt8) (a6:AV) (a7:AV) (a8:AV) (a9:AV) (st:St) (r:AV×St),R.f14 a0 a1 a2 a3 a4 a5 a6 a7 a8 a9 st=some r→aR (aW C0 bK R.n m) false 14 [(.agg [.int .i64 a0,.str a1,.int .i64 a2,.bool a3,.int .i64 a4,.str a5,a6,a7,a8,a9])] st r.1 r.2)
theorem It.ok.QM {R:It}{n:Nat}(h:R.ok n):(∀ m,n≤m→ ∀(a0:Int) (a1:List UInt8) (a2:Int) (a3:Bool) (a4:Int) (a5:List UInt8) (a6:AV) (a7:AV) (a8:AV) (a9:AV) (st:St) (r:AV×St),R.f14 a0 a1 a2 a3 a4 a5 a6 a7 a8 a9 st=some r→aR (aW C0 bK R.n m) false 14 [(.agg [.int .i64 a0,.str a1,.int .i64 a2,.bool a3,.int .i64 a4,.str a5,a6,a7,a8,a9])] st r.1 r.2):=h
def gF (R : It) (r : Int) (s : List UInt8) (t : Int) (u : Bool) (v : Int) (w : List UInt8) (x : AV) (y : AV) (z : AV) (A : AV) (B : St) : Option (AV × St) :=
 (oQ 28 (.agg [(.int .i64 r),(.str s),(.int .i64 t),(.bool u),(.int .i64 v),(.str w),x,y,z,A]) B).bind fun(b,a)=>
 (shift b 0).bind fun C=>
 (loadAt C0.P a 3 C).bind fun D=>
 (dN .i64 D).bind fun e=>
 if (e = 6) then
  (shift b 1).bind fun E=>
  (loadAt C0.P a 9 E).bind fun F=>
  (eY F).bind fun G=>
  if (G = [65, 78, 68]) then
   (shift b 8).bind fun f=>
   (loadAt C0.P a 26 f).bind fun c=>
   (lenOf c).bind fun n5245=>
   if ((n5245 : Int) = 2) then
    (bA C0.P 26 c (.int .i64 0)).bind fun H=>
    (loadAt C0.P a 28 H).bind fun I=>
    (aD I).bind fun(J,K,L,M,N,O,Q,S,T,U)=>
    (bA C0.P 26 c (.int .i64 1)).bind fun g=>
    (loadAt C0.P a 28 g).bind fun V=>
    (aD V).bind fun(h,i,j,k,l,m,n,o,p,q)=>
    (R.f14 J K L M N O Q S T U a).bind fun(W,d)=>
    (loadAt C0.P d 28 g).bind fun X=>
    if AV.beq X (.agg [(.int .i64 h),(.str i),(.int .i64 j),(.bool k),(.int .i64 l),(.str m),n,o,p,q])=true then
     (loadAt C0.P d 26 f).bind fun Y=>
     if AV.beq Y c=true then
      (R.f14 h i j k l m n o p q d).bind fun(Z,a0)=>
      (cX C0.P (C0.cQ 14) a0 #[26,26] W Z).bind fun(a1,a2)=>
      some (a1,a2)
     else
      none
    else
     none
   else
    (loadAt C0.P a 28 b).bind fun a3=>
    (aD a3).bind fun(a4,a5,a6,a7,a8,a9,b0,b1,b2,b3)=>
    (eV (aY C0.P (C0.cQ 14) 26 1 [(0,(.agg [(.int .i64 a4),(.str a5),(.int .i64 a6),(.bool a7),(.int .i64 a8),(.str a9),b0,b1,b2,b3]))]) a).bind fun(b4,b5)=>
    some (b4,b5)
  else
   (loadAt C0.P a 28 b).bind fun b6=>
   (aD b6).bind fun(b7,b8,b9,c0,c1,c2,c3,c4,c5,c6)=>
   (eV (aY C0.P (C0.cQ 14) 26 1 [(0,(.agg [(.int .i64 b7),(.str b8),(.int .i64 b9),(.bool c0),(.int .i64 c1),(.str c2),c3,c4,c5,c6]))]) a).bind fun(c7,c8)=>
   some (c7,c8)
 else
  if(e=0) then
   some (AV.aF,a)
  else
   (loadAt C0.P a 28 b).bind fun c9=>
   (aD c9).bind fun(d0,d1,d2,d3,d4,d5,d6,d7,d8,d9)=>
   (eV (aY C0.P (C0.cQ 14) 26 1 [(0,(.agg [(.int .i64 d0),(.str d1),(.int .i64 d2),(.bool d3),(.int .i64 d4),(.str d5),d6,d7,d8,d9]))]) a).bind fun(e0,e1)=>
   some (e0,e1)
theorem rB {R : It} (n : Nat) (hR : R.ok n) {q : Int} {s : List UInt8} {u : Int} {v : Bool} {w : Int} {x : List UInt8} {y : AV} {z : AV} {A : AV} {B : AV} {C : St} {r : AV × St} (h : gF R q s u v w x y z A B C = some r):
 aR (aW C0 bK R.n (n+1)) false 14 [(.agg [(.int .i64 q),(.str s),(.int .i64 u),(.bool v),(.int .i64 w),(.str x),y,z,A,B])] C r.1 r.2:=by
 revert h;unfold gF;refine aA fun o a3=>?_;obtain⟨a4,D⟩:=o;refine aA fun d b=>aA fun h6 c=>aA fun a a5=>?_
 obtain rfl:=bE a5;have q9001:=aG c<|aG b<|aG (pE a3) eE
 let q8001:List Hint:=[.cA a4 D,.run 1,.val d,.val (.int .i64 a)]
 refine aU (fun f=>?_) (fun f=>?_)
 ·refine aA fun a6 a7=>aA fun h7 a8=>aA fun a9 b0=>?_
  obtain rfl:=cC b0;have q9002:=aG a8<|aG a7<|aG (eG f) q9001
  let q8002:List Hint:=q8001 ++ [.dec true,.run 1,.val a6,.val (.str a9)]
  refine aU (fun g=>?_) (fun g=>?_)
  ·refine aA fun i j=>aA fun k l=>aA fun n5245 b1=>?_
   have q9003:=aG (cV (P:=C0.P) (t:=26) (e:=28) (by kernel_rfl) b1)<|aG l<|aG j<|aG (dM g) q9002
   let q8003:List Hint:=q8002 ++ [.dec true,.run 2,.val i,.val k,.val (.int .i64 (n5245:Int))]
   refine aU (fun m=>?_) (fun m=>?_)
   ·refine aA fun b2 b3=>aA fun h8 b4=>aA fun o b5=>?_
    obtain⟨E,F,G,H,I,J,K,L,M,N⟩:=o;obtain rfl:=aC b5;refine aA fun b6 b7=>aA fun h9 b8=>aA fun o c0=>?_
    obtain⟨O,Q,S,T,U,V,W,X,Y,Z⟩:=o;obtain rfl:=aC c0;refine aA fun o c1=>?_;obtain⟨c2,a0⟩:=o;refine aA fun i0 c3=>?_;refine aU (fun a1=>?_) (fun a1=>?_)
    ·refine aA fun i1 c4=>?_;refine aU (fun a2=>?_) (fun a2=>?_)
     ·refine aA fun o c5=>?_;obtain⟨c6,c7⟩:=o;refine aA fun o c8=>?_;obtain⟨c9,d0⟩:=o;intro h;obtain rfl:=b9 h;exact dE (hs:=q8003 ++ [.dec true,.run 1,.aM,.val i,.val k,.val b2,.val (aJ E F G H I J K L M N),.val i,.val k,.val b6,.val (aJ O Q S T U V W X Y Z),.call c2 a0,.call c6 c7,.cA c9 d0,.run 1]) (by kernel_rfl) (aG c8<|aG (hR.QM n (by omega) O Q S T U V W X Y Z a0 _ c5)<|aG (jQ c3 a1)<|aG (jQ c4 a2)<|aG (hR.QM n (by omega) E F G H I J K L M N D _ c1)<|aG b8<|aG b7<|aG l<|aG j<|aG b4<|aG b3<|aG l<|aG j<|aG (eG m) q9003)
     ·exact fun h=>nomatch h
    ·exact fun h=>nomatch h
   ·refine aA fun i2 d1=>aA fun o d2=>?_
    obtain⟨d3,d4,d5,d6,d7,d8,d9,e0,e1,e2⟩:=o;obtain rfl:=aC d2;refine aA fun o e3=>?_;obtain⟨e4,e5⟩:=o;intro h;obtain rfl:=b9 h;exact dE (hs:=q8003 ++ [.dec false,.run 1,.aM,.val d,.val (.int .i64 a),.dec false,.aM,.val (aJ d3 d4 d5 d6 d7 d8 d9 e0 e1 e2),.cA e4 e5,.run 1]) (by kernel_rfl) (aG e3<|aG d1<|aG (dP (show ¬ (a=0) by omega))<|aG c<|aG b<|aG (dP m) q9003)
  ·refine aA fun i3 e6=>aA fun o e7=>?_
   obtain⟨e8,e9,f0,f1,f2,f3,f4,f5,f6,f7⟩:=o;obtain rfl:=aC e7;refine aA fun o f8=>?_;obtain⟨f9,g0⟩:=o;intro h;obtain rfl:=b9 h;exact dE (hs:=q8002 ++ [.dec false,.run 3,.aM,.val d,.val (.int .i64 a),.dec false,.aM,.val (aJ e8 e9 f0 f1 f2 f3 f4 f5 f6 f7),.cA f9 g0,.run 1]) (by kernel_rfl) (aG f8<|aG e6<|aG (dP (show ¬ (a=0) by omega))<|aG c<|aG b<|aG (cL g) q9002)
 ·let q8004:List Hint:=q8001 ++ [.dec false,.run 4,.aM,.val d,.val (.int .i64 a)]
  refine aU (fun p=>?_) (fun p=>?_)
  ·intro h;obtain rfl:=b9 h;exact dE (hs:=q8004 ++ [.dec true,.aM,.run 1]) (by kernel_rfl) (aG (eG p)<|aG c<|aG b<|aG (dP f) q9001)
  ·refine aA fun i4 g1=>aA fun o g2=>?_
   obtain⟨g3,g4,g5,g6,g7,g8,g9,h0,h1,h2⟩:=o;obtain rfl:=aC g2;refine aA fun o h3=>?_;obtain⟨h4,h5⟩:=o;intro h;obtain rfl:=b9 h;exact dE (hs:=q8004 ++ [.dec false,.aM,.val (aJ g3 g4 g5 g6 g7 g8 g9 h0 h1 h2),.cA h4 h5,.run 1]) (by kernel_rfl) (aG h3<|aG g1<|aG (dP p)<|aG c<|aG b<|aG (dP f) q9001)
def IW (R:Nat):Nat→It
 | 0=>⟨R,(fun _ _ _ _ _ _ _ _ _ _ _=>none)⟩
 | k+1=>⟨R,(fun a0 a1 a2 a3 a4 a5 a6 a7 a8 a9 st=>gF (IW R k) a0 a1 a2 a3 a4 a5 a6 a7 a8 a9 st)⟩
theorem M4 (R:Nat):∀ k,(IW R k).n=R
 | 0=>rfl
 | _+1=>rfl
theorem Kk (R:Nat):∀ k n,1 * k≤n→(IW R k).ok n
 | 0,n,_=>(fun _ _ _ _ _ _ _ _ _ _ _ _ _ _ h=>nomatch h)
 | k + 1, n, hn =>
   fun m hm a0 a1 a2 a3 a4 a5 a6 a7 a8 a9 st r h=>by
    obtain⟨j,rfl⟩:∃ j,m=j+1:=⟨m - 1,by omega⟩
    have:=rB j (Kk R k j (by omega)) h
    rw[M4] at this
    exact this
def jZ (R:Nat)(a0:Int)(a1:List UInt8)(a2:Int)(a3:Bool)(a4:Int)(a5:List UInt8)(a6:AV)(a7:AV)(a8:AV)(a9:AV)(st:St):Option (AV×St):=gF (IW R 4000) a0 a1 a2 a3 a4 a5 a6 a7 a8 a9 st
theorem oO {R:Nat}(n:Nat){a0:Int}{a1:List UInt8}{a2:Int}{a3:Bool}{a4:Int}{a5:List UInt8}{a6:AV}{a7:AV}{a8:AV}{a9:AV}{st:St}{r:AV×St}(h:jZ R a0 a1 a2 a3 a4 a5 a6 a7 a8 a9 st=some r):aR (aW C0 bK R (n+4001)) false 14 [(.agg [.int .i64 a0,.str a1,.int .i64 a2,.bool a3,.int .i64 a4,.str a5,a6,a7,a8,a9])] st r.1 r.2:=by
 have:=rB (n+4000) (Kk R 4000 _ (by omega)) h
 rw[M4] at this
 exact this
end
end Go.Proofs.YthodfojhbbendaaGreatDoor
end
section
set_option linter.all false
set_option maxRecDepth 100000
namespace Go.Proofs.YthodfojhbbendaaGreatDoor
open Go Go.Ev
noncomputable section
def iX (R : Nat) (k : AV) (c9 : Nat) (b : Nat) (l : AV) (d0 : Int) (m : Int) (d : St) : Option (St) :=
 (bA C0.P 26 l (.int .i64 m)).bind fun n=>
 (loadAt C0.P d 28 n).bind fun o=>
 (aD o).bind fun(p,q,r,s,t,u,v,w,x,y)=>
 (storeAt C0.P (St.push d (.cells 28 true [(.int .i64 0),(.str []),(.int .i64 0),(.bool false),(.int .i64 0),(.str []),AV.aF,AV.aF,AV.aF,AV.aF])) 28 (.ref (St.next d) 0) (.agg [(.int .i64 p),(.str q),(.int .i64 r),(.bool s),(.int .i64 t),(.str u),v,w,x,y])).bind fun h=>
 (loadAt C0.P h 28 (.ref (St.next d) 0)).bind fun z=>
 (aD z).bind fun(A,B,C,D,E,F,G,H,I,J)=>
 (wV R A B C D E F G H I J h).bind fun(c,K,L,M,N,O,Q,S,T,g)=>
 (storeAt C0.P (St.push g (.cells 25 true [(.int .i64 0),(.bool false),(.int .i64 0),(.str []),AV.aF,AV.aF])) 25 (.ref (St.next g) 0) (.agg [(.int .i64 L),(.bool M),(.int .i64 N),(.str O),Q,S])).bind fun i=>
 (loadAt C0.P i 25 (.ref (St.next g) 0)).bind fun U=>
 (aQ U).bind fun(V,W,X,Y,Z,a0)=>
 (yW R K V W X Y Z a0 i).bind fun(a1,a2,a3,e)=>
 (storeAt C0.P (St.push e (.cells 33 true [(.str []),(.str [])])) 33 (.ref (St.next e) 0) (.agg [(.str a1),(.str a2)])).bind fun f=>
 if T = true then
  if a3 = true then
   (QK R c [46]).bind fun a4=>
   if a4=true then
    some f
   else
    (mE R k c f).bind fun(a5,a)=>
    if a5 = true then
     (loadAt C0.P a 9 (.ref b 0)).bind fun a6=>
     (eY a6).bind fun j=>
     if(j=[]) then
      (loadAt C0.P a 33 (.ref b 1)).bind fun a7=>
      (gU a7).bind fun(a8,a9)=>
      (loadAt C0.P a 33 (.ref (St.next e) 0)).bind fun b0=>
      (gU b0).bind fun(b1,b2)=>
      (vX R a8 a9 b1 b2 a).bind fun(b3,b4,b5)=>
      (storeAt C0.P b5 9 (.ref b 0) (.str c)).bind fun b6=>
      (storeAt C0.P b6 33 (.ref b 1) (.agg [(.str b3),(.str b4)])).bind fun b7=>
      some b7
     else
      if(j=c) then
        (loadAt C0.P a 33 (.ref b 1)).bind fun b8=>
        (gU b8).bind fun(b9,c0)=>
        (loadAt C0.P a 33 (.ref (St.next e) 0)).bind fun c1=>
        (gU c1).bind fun(c2,c3)=>
        (vX R b9 c0 c2 c3 a).bind fun(c4,c5,c6)=>
        (storeAt C0.P c6 9 (.ref b 0) (.str c)).bind fun c7=>
        (storeAt C0.P c7 33 (.ref b 1) (.agg [(.str c4),(.str c5)])).bind fun c8=>
        some c8
      else
        some a
    else
     some a
  else
   some f
 else
  some f
theorem xH {R : Nat} (n : Nat) {a4 : AV} {a5 : Nat} {a6 : Nat} {a7 : AV} {a8 : Int} {a9 : Int} {b0 : St} {r : St} (h : iX R a4 a5 a6 a7 a8 a9 b0 = some r):
 oE 71 bK R (n+12005) 11 [1,1,0,1,0,0,1,1,0] [(1,a4),(4,(.ref a5 0)),(5,(.ref a6 0)),(16,a7),(17,(.int .i64 a8)),(18,(.int .i64 a9))] b0 .normal [] r:=by
 revert h;unfold iX;refine aA fun b b1=>aA fun g0 b2=>aA fun o b3=>?_
 obtain⟨c,d,e,f,g,i,j,k,l,m⟩:=o;obtain rfl:=aC b3;refine aA fun p b4=>aA fun g1 b5=>aA fun o b6=>?_
 obtain⟨q,s,t,u,v,w,x,y,z,A⟩:=o;obtain rfl:=aC b6;refine aA fun o b7=>?_;obtain⟨B,C,D,E,F,G,H,I,g2,J⟩:=o;refine aA fun K b8=>aA fun g3 c0=>aA fun o c1=>?_
 obtain⟨L,M,N,O,P,Q⟩:=o;obtain rfl:=aO c1;refine aA fun o c2=>?_;obtain⟨S,T,c3,U⟩:=o;refine aA fun a c4=>?_;have q9001:=aG (aN c4)<|aG (H9 n c2)<|aG c0<|aG (aN b8)<|aG (Fc (n+12003) b7)<|aG b5<|aG (aN b4)<|aG b2<|aG b1 eE
 refine aU (fun Z=>?_) (fun Z=>?_)
 ·subst Z;refine aU (fun a0=>?_) (fun a0=>?_)
  ·subst a0;refine aA fun g4 c5=>?_;have q9002:=aG (PF (n+12004) a c5) q9001
   refine aU (fun a1=>?_) (fun a1=>?_)
   ·subst a1;intro h;obtain rfl:=b9 h;exact aK (hs:=[.aM,.val b,.val (aJ c d e f g i j k l m),.run 1,.cA AV.undef p,.val (aJ q s t u v w x y z A),.call (.tuple [(.str B),(.str C),(bD D E F G H I),(.bool true)]) J,.run 8,.cA AV.undef K,.run 2,.val (bD L M N O P Q),.call (.tuple [(mK S T),(.bool true)]) U,.run 4,.cA AV.undef a,.run 9,.call (.bool true) a,.run 5,.aM]) (want:=[]) (by as_aux_lemma=>kernel_rfl) (q9002)
   ·obtain rfl:=bF a1;refine aA fun o c6=>?_;obtain⟨g5,X⟩:=o;have q9003:=aG (Ao (n+12003) c6) q9002
    refine aU (fun a2=>?_) (fun a2=>?_)
    ·subst a2;refine aA fun g6 V=>aA fun W c7=>?_
     obtain rfl:=cC c7;refine aU (fun Y=>?_) (fun Y=>?_)
     ·refine aA fun g7 c8=>aA fun o c9=>?_
      obtain⟨d0,d1⟩:=o;obtain rfl:=eJ c9;refine aA fun g8 d2=>aA fun o d3=>?_
      obtain⟨d4,d5⟩:=o;obtain rfl:=eJ d3;refine aA fun o d6=>?_;obtain⟨d7,d8,d9⟩:=o;refine aA fun e0 e1=>aA fun e2 e3=>?_
      intro h;obtain rfl:=b9 h;exact aK (hs:=[.aM,.val b,.val (aJ c d e f g i j k l m),.run 1,.cA AV.undef p,.val (aJ q s t u v w x y z A),.call (.tuple [(.str B),(.str C),(bD D E F G H I),(.bool true)]) J,.run 8,.cA AV.undef K,.run 2,.val (bD L M N O P Q),.call (.tuple [(mK S T),(.bool true)]) U,.run 4,.cA AV.undef a,.run 9,.call (.bool false) a,.run 4,.call (.bool true) X,.run 4,.val (.str W),.dec false,.run 3,.aM,.run 2,.val (mK d0 d1),.val (mK d4 d5),.call (mK d7 d8) d9,.run 1,.cA AV.undef e0,.run 1,.cA AV.undef e2]) (want:=[]) (by as_aux_lemma=>kernel_rfl) (aG (aN e3)<|aG (aN e1)<|aG (CF (n+12004) d6)<|aG d2<|aG c8<|aG (zO Y)<|aG V q9003)
     ·refine aU (fun a3=>?_) (fun a3=>?_)
      ·refine aA fun g9 e4=>aA fun o e5=>?_
       obtain⟨e6,e7⟩:=o;obtain rfl:=eJ e5;refine aA fun h0 e8=>aA fun o e9=>?_
       obtain⟨f0,f1⟩:=o;obtain rfl:=eJ e9;refine aA fun o f2=>?_;obtain⟨f3,f4,f5⟩:=o;refine aA fun f6 f7=>aA fun f8 f9=>?_
       intro h;obtain rfl:=b9 h;exact aK (hs:=[.aM,.val b,.val (aJ c d e f g i j k l m),.run 1,.cA AV.undef p,.val (aJ q s t u v w x y z A),.call (.tuple [(.str B),(.str C),(bD D E F G H I),(.bool true)]) J,.run 8,.cA AV.undef K,.run 2,.val (bD L M N O P Q),.call (.tuple [(mK S T),(.bool true)]) U,.run 4,.cA AV.undef a,.run 9,.call (.bool false) a,.run 4,.call (.bool true) X,.run 4,.val (.str W),.dec true,.run 2,.val (.str W),.run 1,.dec false,.run 2,.aM,.run 2,.val (mK e6 e7),.val (mK f0 f1),.call (mK f3 f4) f5,.run 1,.cA AV.undef f6,.run 1,.cA AV.undef f8]) (want:=[]) (by as_aux_lemma=>kernel_rfl) (aG (aN f9)<|aG (aN f7)<|aG (CF (n+12004) f2)<|aG e8<|aG e4<|aG (zO a3)<|aG V<|aG (wT Y)<|aG V q9003)
      ·intro h;obtain rfl:=b9 h;exact aK (hs:=[.aM,.val b,.val (aJ c d e f g i j k l m),.run 1,.cA AV.undef p,.val (aJ q s t u v w x y z A),.call (.tuple [(.str B),(.str C),(bD D E F G H I),(.bool true)]) J,.run 8,.cA AV.undef K,.run 2,.val (bD L M N O P Q),.call (.tuple [(mK S T),(.bool true)]) U,.run 4,.cA AV.undef a,.run 9,.call (.bool false) a,.run 4,.call (.bool true) X,.run 4,.val (.str W),.dec true,.run 2,.val (.str W),.run 1,.dec true,.run 2,.aM]) (want:=[]) (by as_aux_lemma=>kernel_rfl) (aG (wT a3)<|aG V<|aG (wT Y)<|aG V q9003)
    ·obtain rfl:=bF a2;intro h;obtain rfl:=b9 h;exact aK (hs:=[.aM,.val b,.val (aJ c d e f g i j k l m),.run 1,.cA AV.undef p,.val (aJ q s t u v w x y z A),.call (.tuple [(.str B),(.str C),(bD D E F G H I),(.bool true)]) J,.run 8,.cA AV.undef K,.run 2,.val (bD L M N O P Q),.call (.tuple [(mK S T),(.bool true)]) U,.run 4,.cA AV.undef a,.run 9,.call (.bool false) a,.run 4,.call (.bool false) X,.run 4,.aM]) (want:=[]) (by as_aux_lemma=>kernel_rfl) (q9003)
  ·obtain rfl:=bF a0;intro h;obtain rfl:=b9 h;exact aK (hs:=[.aM,.val b,.val (aJ c d e f g i j k l m),.run 1,.cA AV.undef p,.val (aJ q s t u v w x y z A),.call (.tuple [(.str B),(.str C),(bD D E F G H I),(.bool true)]) J,.run 8,.cA AV.undef K,.run 2,.val (bD L M N O P Q),.call (.tuple [(mK S T),(.bool false)]) U,.run 4,.cA AV.undef a,.run 13,.aM]) (want:=[]) (by as_aux_lemma=>kernel_rfl) (q9001)
 ·obtain rfl:=bF Z;intro h;obtain rfl:=b9 h;exact aK (hs:=[.aM,.val b,.val (aJ c d e f g i j k l m),.run 1,.cA AV.undef p,.val (aJ q s t u v w x y z A),.call (.tuple [(.str B),(.str C),(bD D E F G H I),(.bool false)]) J,.run 8,.cA AV.undef K,.run 2,.val (bD L M N O P Q),.call (.tuple [(mK S T),(.bool c3)]) U,.run 4,.cA AV.undef a,.run 11,.aM]) (want:=[]) (by as_aux_lemma=>kernel_rfl) (q9001)
def jT (R : Nat) (c : AV) (d : Nat) (e : Nat) (f : AV) (a : Int) : Nat → Int → St → Option ((St))
 | 0,_,_=>none
 | r + 1, b, g =>
   if(b<a) then
    (iX R c d e f a b g).bind fun h=>
    jT R c d e f a r (IntKind.wrap .i64 (b+1)) h
   else
    some g
def p5 (o:(St)):cE×List (Nat×AV)×St:=match o with
 | a0=>((.exit 0),[],a0)
theorem AX (R n:Nat)(d:AV)(e:Nat)(f:Nat)(g:AV)(i:Int):∀(r:Nat) (a:Int) (b:St) (o:(St)),jT R d e f g i r a b=some o →
 jL 71 (jA (fun fr k=>cZ C0 (aW C0 bK R (n+12005)) 11 R none (dA C0.P 11 [1,1,0,1,0,0]) fr k) r) (dI (dA C0.P 11 [1,1,0,1,0,0])) [(1,d),(4,(.ref e 0)),(5,(.ref f 0)),(16,g),(17,(.int .i64 i)),(18,(.int .i64 a))] b (p5 o).1 (p5 o).2.1 (p5 o).2.2:=by
 intro r
 induction r with
 | zero=>intro a b o h; exact nomatch h
 | succ r ih =>
   intro a b o
   unfold jT;refine aU (fun c=>?_) (fun c=>?_)
   ·refine aA fun j l=>?_;intro h;exact cS (aK (hs:=[.dec true,.aM,.nW [1,4,5,16,17,18] .normal [] j,.run 2]) (want:=[1,4,5,16,17,18]) (by as_aux_lemma=>kernel_rfl) (.cons (xH n l)<|.cons (decide_eq_true c) .nil)) (ih (IntKind.wrap .i64 (a+1)) j _ h)
   ·intro h;obtain rfl:=b9 h;exact bI (aK (hs:=[.dec false,.aM]) (want:=[]) (by as_aux_lemma=>kernel_rfl) (.cons (decide_eq_false c) .nil)) (by as_aux_lemma=>kernel_rfl)
def oT (R:Nat)(a:AV)(b:Nat)(c:Nat)(d:AV)(e:Int)(f:St):Option (St):=
 (jT R a b c d e R 0 f).bind fun g=>
 some g
theorem Ak {R:Nat}(n:Nat){a:AV}{b:Nat}{c:Nat}{d:AV}{e:Int}{f:St}{r:St}(h:oT R a b c d e f=some r):
 oE 71 bK R (n+12005) 11 [1,1,0,1] [(1,a),(4,(.ref b 0)),(5,(.ref c 0)),(16,d),(17,(.int .i64 e)),(18,(.int .i64 0))] f .normal [] r:=by
 revert h;unfold oT;refine aA fun g i=>?_;intro h;obtain rfl:=b9 h;exact aK (hs:=[.aM,.abs [1,4,5,16,17,18] (.exit 0) [] g]) (want:=[]) (by as_aux_lemma=>kernel_rfl) (aG (bY (AX R n a b c d e R 0 f _ i)) eE)
def uF (R:Nat)(f:Int)(g:List UInt8)(h:Int)(i:Bool)(j:Int)(k:List UInt8)(l:AV)(m:AV)(n:AV)(o:AV)(p:AV)(q:St):Option (List UInt8×List UInt8×List UInt8×St):=
 (oQ 28 (.agg [(.int .i64 f),(.str g),(.int .i64 h),(.bool i),(.int .i64 j),(.str k),l,m,n,o]) q).bind fun(r,a)=>
 (storeAt C0.P (St.push (St.push a (.cells 35 true [(.str []),(.str []),(.str [])])) (.cells 35 true [(.str []),(.str []),(.str [])])) 35 (.ref (St.next (St.push a (.cells 35 true [(.str []),(.str []),(.str [])]))) 0) (.agg [(.str []),(.str []),(.str [])])).bind fun b=>
 (loadAt C0.P b 28 r).bind fun s=>
 (aD s).bind fun(t,u,v,w,x,y,z,A,B,C)=>
 (pD R t u v w x y z A B C b).bind fun(c,D)=>
 (lenOf c).bind fun n4915=>
 (oT R p (St.next a) (St.next (St.push a (.cells 35 true [(.str []),(.str []),(.str [])]))) c (n4915:Int) D).bind fun d=>
 (loadAt C0.P d 35 (.ref (St.next (St.push a (.cells 35 true [(.str []),(.str []),(.str [])]))) 0)).bind fun E=>
 (qT E).bind fun(F,G,H)=>
 (storeAt C0.P d 35 (.ref (St.next a) 0) (.agg [(.str F),(.str G),(.str H)])).bind fun e=>
 (loadAt C0.P e 35 (.ref (St.next a) 0)).bind fun I=>
 (qT I).bind fun(J,K,L)=>
 some (J,K,L,e)
theorem F5 {R:Nat}(n:Nat){a:Int}{b:List UInt8}{c:Int}{d:Bool}{f:Int}{g:List UInt8}{i:AV}{j:AV}{k:AV}{l:AV}{m:AV}{p:St}{r:List UInt8×List UInt8×List UInt8×St}(h:uF R a b c d f g i j k l m p=some r):
 aR (aW C0 bK R (n+12006)) false 11 [(.agg [(.int .i64 a),(.str b),(.int .i64 c),(.bool d),(.int .i64 f),(.str g),i,j,k,l]),m] p (.agg [.str r.1,.str r.2.1,.str r.2.2.1]) r.2.2.2:=by
 revert h;unfold uF;refine aA fun o q=>?_;obtain⟨s,u⟩:=o;refine aA fun v w=>aA fun a3 x=>aA fun o y=>?_
 obtain⟨z,A,B,C,D,E,F,G,H,I⟩:=o;obtain rfl:=aC y;refine aA fun o J=>?_;obtain⟨K,L⟩:=o;refine aA fun n4915 M=>aA fun N O=>aA fun a4 Q=>aA fun o S=>?_
 obtain⟨T,U,V⟩:=o;obtain rfl:=tD S;refine aA fun W X=>aA fun a5 Y=>aA fun o Z=>?_
 obtain⟨a0,a1,a2⟩:=o;obtain rfl:=tD Z;intro h;obtain rfl:=b9 h;exact Hw (hs:=[.cA s u,.run 3,.cA AV.undef v,.val (aJ z A B C D E F G H I),.call K L,.val (.int .i64 (n4915:Int)),.run 1,.nW [1,4,5,16,17,18] .normal [] N,.val (DH T U V),.cA AV.undef W,.val (DH a0 a1 a2)]) (by as_aux_lemma=>kernel_rfl) (aG Y<|aG (aN X)<|aG Q<|aG (Ak n O)<|aG (cV (P:=C0.P) (t:=26) (e:=28) (by as_aux_lemma=>kernel_rfl) M)<|aG (rZ (n+8004) J)<|aG x<|aG (aN w)<|aG (pE q) eE) (by as_aux_lemma=>kernel_rfl) (by as_aux_lemma=>kernel_rfl)
end
end Go.Proofs.YthodfojhbbendaaGreatDoor
end
section
set_option linter.all false
set_option maxRecDepth 100000
namespace Go.Proofs.YthodfojhbbendaaGreatDoor
open Go Go.Ev
noncomputable section
structure CY where
 n:Nat
 f19:Int→Bool→Int→List UInt8→AV→AV→St→Option (Int×Bool×Int×List UInt8×AV×AV×St)
def CY.ok (R:CY)(n:Nat):Prop:=(∀ m,n≤m→ ∀(a0:Int) (a1:Bool) (a2:Int) (a3:List UInt8) (a4:AV) (a5:AV) (st:St) (r:Int×Bool×Int×List UInt8×AV×AV×St),R.f19 a0 a1 a2 a3 a4 a5 st=some r→aR (aW C0 bK R.n m) false 19 [(.agg [.int .i64 a0,.bool a1,.int .i64 a2,.str a3,a4,a5])] st (.agg [.int .i64 r.1,.bool r.2.1,.int .i64 r.2.2.1,.str r.2.2.2.1,r.2.2.2.2.1,r.2.2.2.2.2.1]) r.2.2.2.2.2.2)
theorem CY.ok.Qf {R:CY}{n:Nat}(h:R.ok n):(∀ m,n≤m→ ∀(a0:Int) (a1:Bool) (a2:Int) (a3:List UInt8) (a4:AV) (a5:AV) (st:St) (r:Int×Bool×Int×List UInt8×AV×AV×St),R.f19 a0 a1 a2 a3 a4 a5 st=some r→aR (aW C0 bK R.n m) false 19 [(.agg [.int .i64 a0,.bool a1,.int .i64 a2,.str a3,a4,a5])] st (.agg [.int .i64 r.1,.bool r.2.1,.int .i64 r.2.2.1,.str r.2.2.2.1,r.2.2.2.2.1,r.2.2.2.2.2.1]) r.2.2.2.2.2.2):=h
def kS (R:CY)(e:AV)(C:Nat)(b:Nat)(f:Int)(a:St):Option (St):=
 (loadAt C0.P a 46 (.ref b 4)).bind fun c=>
 (shift e 4).bind fun g=>
 (loadAt C0.P a 23 g).bind fun h=>
 (bA C0.P 23 h (.int .i64 f)).bind fun i=>
 (loadAt C0.P a 25 i).bind fun j=>
 (aQ j).bind fun(k,l,m,n,o,p)=>
 (R.f19 k l m n o p a).bind fun(q,r,s,t,u,v,d)=>
 (loadAt C0.P d 46 (.ref b 4)).bind fun w=>
 if AV.beq w c=true then
  (eV (aY C0.P (C0.cQ 19) 46 1 [(0,(.agg [(.int .i64 q),(.bool r),(.int .i64 s),(.str t),u,v]))]) d).bind fun(x,y)=>
  (cX C0.P (C0.cQ 19) y #[46,46] c x).bind fun(z,A)=>
  (storeAt C0.P A 46 (.ref b 4) z).bind fun B=>
  some B
 else
  none
theorem sF {R:CY}(n:Nat)(hR:R.ok n){b:AV}{c:Nat}{d:Nat}{e:Int}{a:St}{r:St}(h:kS R b c d e a=some r):
 oE 35 bK R.n n 19 [1,1,0,1,0,0,1,0] [(1,b),(2,(.ref c 0)),(3,(.ref d 0)),(4,(.int .i64 e))] a .normal [] r:=by
 revert h;unfold kS;refine aA fun p q=>aA fun s t=>aA fun u v=>aA fun w x=>aA fun S y=>aA fun o z=>?_
 obtain⟨f,g,i,j,k,l⟩:=o;obtain rfl:=aO z;refine aA fun o A=>?_;obtain⟨B,C,D,E,F,G,H⟩:=o;refine aA fun T I=>?_;refine aU (fun m=>?_) (fun m=>?_)
 ·refine aA fun o J=>?_;obtain⟨K,L⟩:=o;refine aA fun o M=>?_;obtain⟨N,O⟩:=o;refine aA fun P Q=>?_;intro h;obtain rfl:=b9 h;exact aK (hs:=[.aM,.run 1,.val p,.val s,.val u,.run 1,.val w,.val (bD f g i j k l),.call (bD B C D E F G) H,.cA K L,.cA N O,.run 1,.cA AV.undef P]) (want:=[]) (by kernel_rfl) (aG (aN Q)<|aG M<|aG J<|aG (jQ I m)<|aG (hR.Qf n (by omega) f g i j k l a _ A)<|aG y<|aG x<|aG v<|aG t<|aG q eE)
 ·exact fun h=>nomatch h
def gR (R : CY) (a : AV) (d : Nat) (e : Nat) : Nat → Int → St → Option ((St))
 | 0,_,_=>none
 | r + 1, b, c =>
   (shift a 4).bind fun f=>
   (loadAt C0.P c 23 f).bind fun g=>
   (lenOf g).bind fun n5558=>
   if(b<(n5558:Int)) then
    (kS R a d e b c).bind fun h=>
    gR R a d e r (IntKind.wrap .i64 (b+1)) h
   else
    some c
def l9 (o:(St)):cE×List (Nat×AV)×St:=match o with
 | a0=>((.exit 0),[],a0)
theorem uU (R:CY)(n:Nat)(hR:R.ok n)(d:AV)(f:Nat)(g:Nat):∀(r:Nat) (a:Int) (b:St) (o:(St)),gR R d f g r a b=some o →
 jL 35 (jA (fun fr k=>cZ C0 (aW C0 bK R.n n) 19 R.n none (dA C0.P 19 [1,1,0,1,0,0]) fr k) r) (dI (dA C0.P 19 [1,1,0,1,0,0])) [(1,d),(2,(.ref f 0)),(3,(.ref g 0)),(4,(.int .i64 a))] b (l9 o).1 (l9 o).2.1 (l9 o).2.2:=by
 intro r
 induction r with
 | zero=>intro a b o h; exact nomatch h
 | succ r ih =>
   intro a b o
   unfold gR;refine aA fun i j=>aA fun l m=>aA fun n5558 p=>?_
   refine aU (fun c=>?_) (fun c=>?_)
   ·refine aA fun q s=>?_;intro h;exact cS (aK (hs:=[.run 1,.val i,.val l,.val (.int .i64 (n5558:Int)),.dec true,.aM,.nW [1,2,3,4] .normal [] q,.run 3]) (want:=[1,2,3,4]) (by kernel_rfl) (.cons (sF n hR s)<|.cons (decide_eq_true c)<|.cons (cV (P:=C0.P) (t:=23) (e:=25) (by kernel_rfl) p)<|.cons m<|.cons j .nil)) (ih (IntKind.wrap .i64 (a+1)) q _ h)
   ·intro h;obtain rfl:=b9 h;exact bI (aK (hs:=[.run 1,.val i,.val l,.val (.int .i64 (n5558:Int)),.dec false,.aM]) (want:=[]) (by kernel_rfl) (.cons (decide_eq_false c)<|.cons (cV (P:=C0.P) (t:=23) (e:=25) (by kernel_rfl) p)<|.cons m<|.cons j .nil)) (by kernel_rfl)
def kB (R:CY)(a:AV)(b:Nat)(c:Nat)(d:St):Option (St):=
 (gR R a b c R.n 0 d).bind fun e=>
 some e
theorem vS {R:CY}(n:Nat)(hR:R.ok n){a:AV}{b:Nat}{c:Nat}{d:St}{r:St}(h:kB R a b c d=some r):
 oE 35 bK R.n n 19 [1,1,0,1] [(1,a),(2,(.ref b 0)),(3,(.ref c 0)),(4,(.int .i64 0))] d .normal [] r:=by
 revert h;unfold kB;refine aA fun e f=>?_;intro h;obtain rfl:=b9 h;exact aK (hs:=[.aM,.abs [1,2,3,4] (.exit 0) [] e]) (want:=[]) (by kernel_rfl) (aG (bY (uU R n hR a b c R.n 0 d _ f)) eE)
def jO (R:CY)(f:Int)(g:Bool)(h:Int)(i:List UInt8)(j:AV)(k:AV)(l:St):Option (Int×Bool×Int×List UInt8×AV×AV×St):=
 (oQ 25 (.agg [(.int .i64 f),(.bool g),(.int .i64 h),(.str i),j,k]) l).bind fun(b,a)=>
 (shift b 0).bind fun m=>
 (loadAt C0.P (St.push a (.cells 48 true [(.int .i64 0),(.bool false),(.int .i64 0),(.str []),AV.aF,AV.aF])) 3 m).bind fun n=>
 (dN .i64 n).bind fun o=>
 (shift b 1).bind fun p=>
 (loadAt C0.P (St.push a (.cells 48 true [(.int .i64 0),(.bool false),(.int .i64 0),(.str []),AV.aF,AV.aF])) 4 p).bind fun q=>
 (zP q).bind fun r=>
 (shift b 2).bind fun s=>
 (loadAt C0.P (St.push a (.cells 48 true [(.int .i64 0),(.bool false),(.int .i64 0),(.str []),AV.aF,AV.aF])) 2 s).bind fun t=>
 (dN .i64 t).bind fun u=>
 (shift b 3).bind fun v=>
 (loadAt C0.P (St.push a (.cells 48 true [(.int .i64 0),(.bool false),(.int .i64 0),(.str []),AV.aF,AV.aF])) 9 v).bind fun w=>
 (eY w).bind fun x=>
 (shift b 5).bind fun y=>
 (loadAt C0.P (St.push a (.cells 48 true [(.int .i64 0),(.bool false),(.int .i64 0),(.str []),AV.aF,AV.aF])) 22 y).bind fun c=>
 (Ar c).bind fun _=>
 (storeAt C0.P (St.push (St.push a (.cells 48 true [(.int .i64 0),(.bool false),(.int .i64 0),(.str []),AV.aF,AV.aF])) (.cells 48 true [(.int .i64 0),(.bool false),(.int .i64 0),(.str []),AV.aF,AV.aF])) 48 (.ref (St.next (St.push a (.cells 48 true [(.int .i64 0),(.bool false),(.int .i64 0),(.str []),AV.aF,AV.aF]))) 0) (.agg [(.int .i64 o),(.bool r),(.int .i64 u),(.str x),AV.aF,c])).bind fun z=>
 (kB R b (St.next a) (St.next (St.push a (.cells 48 true [(.int .i64 0),(.bool false),(.int .i64 0),(.str []),AV.aF,AV.aF]))) z).bind fun d=>
 (loadAt C0.P d 48 (.ref (St.next (St.push a (.cells 48 true [(.int .i64 0),(.bool false),(.int .i64 0),(.str []),AV.aF,AV.aF]))) 0)).bind fun A=>
 (aQ A).bind fun(B,C,D,E,F,G)=>
 (storeAt C0.P d 48 (.ref (St.next a) 0) (.agg [(.int .i64 B),(.bool C),(.int .i64 D),(.str E),F,G])).bind fun e=>
 (loadAt C0.P e 48 (.ref (St.next a) 0)).bind fun H=>
 (aQ H).bind fun(I,J,K,L,M,N)=>
 some (I,J,K,L,M,N,e)
theorem sK {R:CY}(n:Nat)(hR:R.ok n){e:Int}{f:Bool}{g:Int}{i:List UInt8}{j:AV}{k:AV}{l:St}{r:Int×Bool×Int×List UInt8×AV×AV×St}(h:jO R e f g i j k l=some r):
 aR (aW C0 bK R.n (n+1)) false 19 [(.agg [(.int .i64 e),(.bool f),(.int .i64 g),(.str i),j,k])] l (.agg [.int .i64 r.1,.bool r.2.1,.int .i64 r.2.2.1,.str r.2.2.2.1,r.2.2.2.2.1,r.2.2.2.2.2.1]) r.2.2.2.2.2.2:=by
 revert h;unfold jO;refine aA fun o p=>?_;obtain⟨q,s⟩:=o;refine aA fun t u=>aA fun b0 v=>aA fun a w=>?_
 obtain rfl:=bE w;refine aA fun x y=>aA fun b1 z=>aA fun b A=>?_
 obtain rfl:=BE A;refine aA fun B C=>aA fun b2 D=>aA fun c E=>?_
 obtain rfl:=bE E;refine aA fun F G=>aA fun b3 H=>aA fun d I=>?_
 obtain rfl:=cC I;refine aA fun J K=>aA fun m L=>aA fun _o M=>aA fun N O=>aA fun P Q=>aA fun b4 S=>aA fun o T=>?_
 obtain⟨U,V,W,X,Y,Z⟩:=o;obtain rfl:=aO T;refine aA fun a0 a1=>aA fun b5 a2=>aA fun o a3=>?_
 obtain⟨a4,a5,a6,a7,a8,a9⟩:=o;obtain rfl:=aO a3;intro h;obtain rfl:=b9 h;exact dE (hs:=[.cA q s,.run 1,.val t,.val (.int .i64 a),.val x,.val (.bool b),.val B,.val (.int .i64 c),.val F,.val (.str d),.val J,.val m,.Lx [[(.int .i64 a)],[(.bool b)],[(.int .i64 c)],[(.str d)],[m]],.run 1,.cA AV.undef N,.run 1,.nW [1,2,3,4] .normal [] P,.val (bD U V W X Y Z),.cA AV.undef a0,.val (bD a4 a5 a6 a7 a8 a9)]) (by kernel_rfl) (aG a2<|aG (aN a1)<|aG S<|aG (vS n hR Q)<|aG (aN O)<|.cons (mB (rfl:AV.cells (.int .i64 a)=[(.int .i64 a)]) (mB (rfl:AV.cells (.bool b)=[(.bool b)]) (mB (rfl:AV.cells (.int .i64 c)=[(.int .i64 c)]) (mB (rfl:AV.cells (.str d)=[(.str d)]) (mB (rY M) (A1))))))<|aG L<|aG K<|aG H<|aG G<|aG D<|aG C<|aG z<|aG y<|aG v<|aG u<|aG (pE p) eE)
def My (R:Nat):Nat→CY
 | 0=>⟨R,(fun _ _ _ _ _ _ _=>none)⟩
 | k+1=>⟨R,(fun a0 a1 a2 a3 a4 a5 st=>jO (My R k) a0 a1 a2 a3 a4 a5 st)⟩
theorem Mk (R:Nat):∀ k,(My R k).n=R
 | 0=>rfl
 | _+1=>rfl
theorem KF (R:Nat):∀ k n,1 * k≤n→(My R k).ok n
 | 0,n,_=>(fun _ _ _ _ _ _ _ _ _ _ h=>nomatch h)
 | k + 1, n, hn =>
   fun m hm a0 a1 a2 a3 a4 a5 st r h=>by
    obtain⟨j,rfl⟩:∃ j,m=j+1:=⟨m - 1,by omega⟩
    have:=sK j (KF R k j (by omega)) h
    rw[Mk] at this
    exact this
def iY (R:Nat)(a0:Int)(a1:Bool)(a2:Int)(a3:List UInt8)(a4:AV)(a5:AV)(st:St):Option (Int×Bool×Int×List UInt8×AV×AV×St):=jO (My R 4000) a0 a1 a2 a3 a4 a5 st
theorem pV {R:Nat}(n:Nat){a0:Int}{a1:Bool}{a2:Int}{a3:List UInt8}{a4:AV}{a5:AV}{st:St}{r:Int×Bool×Int×List UInt8×AV×AV×St}(h:iY R a0 a1 a2 a3 a4 a5 st=some r):aR (aW C0 bK R (n+4001)) false 19 [(.agg [.int .i64 a0,.bool a1,.int .i64 a2,.str a3,a4,a5])] st (.agg [.int .i64 r.1,.bool r.2.1,.int .i64 r.2.2.1,.str r.2.2.2.1,r.2.2.2.2.1,r.2.2.2.2.2.1]) r.2.2.2.2.2.2:=by
 have:=sK (n+4000) (KF R 4000 _ (by omega)) h
 rw[Mk] at this
 exact this
def gK (R:Nat)(a:Int)(c:List UInt8)(h:Int)(d:St):Option (Int×List UInt8×St):=
 (eV (aY C0.P (C0.cQ 45) 90 1 [(0,(.int .u8 (IntKind.wrap .u8 (Int.tmod a 256))))]) d).bind fun(e,b)=>
 (strOf b e).bind fun f=>
 (lB f c).bind fun g=>
 some ((IntKind.wrap .u64 (Int.tdiv a 256)),g,b)
theorem rI {R:Nat}(n:Nat){a:Int}{b:List UInt8}{c:Int}{d:St}{r:Int×List UInt8×St}(h:gK R a b c d=some r):
 oE 19 bK R n 45 [1,1,0,1,0,0,1,0] [(0,(.int .u64 a)),(3,(.str b)),(4,(.int .i64 c))] d .normal [(0,.int .u64 r.1),(3,.str r.2.1)] r.2.2:=by
 revert h;unfold gK;refine aA fun o e=>?_;obtain⟨f,g⟩:=o;refine aA fun i j=>aA fun k l=>?_
 intro h;obtain rfl:=b9 h;exact aK (hs:=[.aM,.run 3,.cA f g,.val (.str i),.run 1,.val (.str k),.run 4]) (want:=[0,3]) (by kernel_rfl) (aG (fV l)<|aG (qB j)<|aG e eE)
def eN (R : Nat) : Nat → Int → List UInt8 → Int → St → Option ((List UInt8 × St))
 | 0,_,_,_,_=>none
 | r + 1, d, b, a, c =>
   if(a<8) then
    (gK R d b a c).bind fun(e,f,g)=>
    eN R r e f (IntKind.wrap .i64 (a+1)) g
   else
    some (b,c)
def kE (o:(List UInt8×St)):cE×List (Nat×AV)×St:=match o with
 | (a0,a1)=>((.exit 0),[(3,.str a0)],a1)
theorem sU (R n:Nat):∀(r:Nat) (b:Int) (c:List UInt8) (a:Int) (d:St) (o:(List UInt8×St)),eN R r b c a d=some o →
 jL 19 (jA (fun fr k=>cZ C0 (aW C0 bK R n) 45 R none (dA C0.P 45 [1,1,0,1,0,0]) fr k) r) (dI (dA C0.P 45 [1,1,0,1,0,0])) [(0,(.int .u64 b)),(3,(.str c)),(4,(.int .i64 a))] d (kE o).1 (kE o).2.1 (kE o).2.2:=by
 intro r
 induction r with
 | zero=>intro b c a d o h; exact nomatch h
 | succ r ih =>
   intro b c a d o
   unfold eN;refine aU (fun e=>?_) (fun e=>?_)
   ·refine aA fun o j=>?_;obtain⟨f,g,i⟩:=o;intro h;exact cS (aK (hs:=[.run 1,.dec true,.aM,.nW [0,3,4] .normal [(0,(.int .u64 f)),(3,(.str g))] i,.run 3]) (want:=[0,3,4]) (by kernel_rfl) (.cons (rI n j)<|.cons (decide_eq_true e) .nil)) (ih f g (IntKind.wrap .i64 (a+1)) i _ h)
   ·intro h;obtain rfl:=b9 h;exact bI (aK (hs:=[.run 1,.dec false,.aM]) (want:=[3]) (by kernel_rfl) (.cons (decide_eq_false e) .nil)) (by kernel_rfl)
def j7 (R:Nat)(a:Int)(b:St):Option (List UInt8×St):=
 (eN R R a [] 0 b).bind fun(c,d)=>
 some (c,d)
theorem u7 {R:Nat}(n:Nat){a:Int}{b:St}{r:List UInt8×St}(h:j7 R a b=some r):
 oE 19 bK R n 45 [1,1,0,1] [(0,(.int .u64 a)),(3,(.str [])),(4,(.int .i64 0))] b .normal [(3,.str r.1)] r.2:=by
 revert h;unfold j7;refine aA fun o c=>?_;obtain⟨d,e⟩:=o;intro h;obtain rfl:=b9 h;exact aK (hs:=[.aM,.abs [0,3,4] (.exit 0) [(3,(.str d))] e]) (want:=[3]) (by kernel_rfl) (aG (bY (sU R n R a [] 0 b _ c)) eE)
def kK (R:Nat)(a:Int)(b:St):Option (List UInt8×St):=
 (j7 R a b).bind fun(c,d)=>
 some (c,d)
theorem yR {R:Nat}(n:Nat){a:Int}{b:St}{r:List UInt8×St}(h:kK R a b=some r):
 aR (aW C0 bK R (n+1)) false 45 [(.int .u64 a)] b (.str r.1) r.2:=by
 revert h;unfold kK;refine aA fun o c=>?_;obtain⟨d,e⟩:=o;intro h;obtain rfl:=b9 h;exact dE (hs:=[.run 3,.nW [0,3,4] .normal [(3,(.str d))] e,.run 2]) (by kernel_rfl) (aG (u7 n c) eE)
def hU (R:Nat)(b:List UInt8)(d:List UInt8)(a:Int):Option (List UInt8):=
 (Bn b a (IntKind.wrap .i64 (a+1))).bind fun e=>
 (lB d e).bind fun c=>
 (zK b a).bind fun f=>
 if(f=0) then
  (lB c [255]).bind fun g=>
  some g
 else
  some c
theorem rM {R:Nat}(n:Nat){b:List UInt8}{c:List UInt8}{d:Int}(e:St){r:List UInt8}(h:hU R b c d=some r):
 oE 26 bK R n 46 [1,1,0,1,0,0,1,0] [(0,(.str b)),(3,(.str c)),(4,(.int .i64 d))] e .normal [(3,.str r)] e:=by
 revert h;unfold hU;refine aA fun j f=>aA fun l g=>aA fun m i=>?_
 let q8001:List Hint:=[.aM,.run 5,.val (.str j),.val (.str l),.run 3,.val (.int .u8 m)]
 refine aU (fun a=>?_) (fun a=>?_)
 ·refine aA fun o p=>?_;intro h;obtain rfl:=b9 h;exact aK (hs:=q8001 ++ [.dec true,.aM,.run 1,.val (.str o),.run 1]) (want:=[3]) (by kernel_rfl) (aG (fV p)<|aG (eG a)<|aG (gE (k:=.i64) (P:=C0.P) (t:=9) (by kernel_rfl) i)<|aG (fV g)<|aG (GI (k:=.i64) (k':=.i64) (P:=C0.P) (t:=9) (by kernel_rfl) f) eE)
 ·intro h;obtain rfl:=b9 h;exact aK (hs:=q8001 ++ [.dec false,.aM]) (want:=[3]) (by kernel_rfl) (aG (dP a)<|aG (gE (k:=.i64) (P:=C0.P) (t:=9) (by kernel_rfl) i)<|aG (fV g)<|aG (GI (k:=.i64) (k':=.i64) (P:=C0.P) (t:=9) (by kernel_rfl) f) eE)
def eT (R : Nat) (a : List UInt8) : Nat → List UInt8 → Int → Option ((List UInt8))
 | 0,_,_=>none
 | r + 1, c, b =>
   if(b<(List.length a:Int)) then
    (hU R a c b).bind fun d=>
    eT R a r d (IntKind.wrap .i64 (b+1))
   else
    some c
def kR (st:St)(o:(List UInt8)):cE×List (Nat×AV)×St:=match o with
 | a0=>((.exit 0),[(3,.str a0)],st)
theorem tZ (R n:Nat)(e:List UInt8)(a:St):∀(r:Nat) (c:List UInt8) (b:Int) (o:(List UInt8)),eT R e r c b=some o →
 jL 26 (jA (fun fr k=>cZ C0 (aW C0 bK R n) 46 R none (dA C0.P 46 [1,1,0,1,0,0]) fr k) r) (dI (dA C0.P 46 [1,1,0,1,0,0])) [(0,(.str e)),(3,(.str c)),(4,(.int .i64 b))] a (kR a o).1 (kR a o).2.1 (kR a o).2.2:=by
 intro r
 induction r with
 | zero=>intro c b o h; exact nomatch h
 | succ r ih =>
   intro c b o
   unfold eT;refine aU (fun d=>?_) (fun d=>?_)
   ·refine aA fun f g=>?_;intro h;exact cS (aK (hs:=[.run 3,.dec true,.aM,.nW [0,3,4] .normal [(3,(.str f))] a,.run 3]) (want:=[0,3,4]) (by kernel_rfl) (.cons (rM n a g)<|.cons (decide_eq_true d) .nil)) (ih f (IntKind.wrap .i64 (b+1)) _ h)
   ·intro h;obtain rfl:=b9 h;exact bI (aK (hs:=[.run 3,.dec false,.aM]) (want:=[3]) (by kernel_rfl) (.cons (decide_eq_false d) .nil)) (by kernel_rfl)
def jH (R:Nat)(a:List UInt8):Option (List UInt8):=
 (eT R a R [] 0).bind fun b=>
 some b
theorem uO {R:Nat}(n:Nat){b:List UInt8}(a:St){r:List UInt8}(h:jH R b=some r):
 oE 26 bK R n 46 [1,1,0,1] [(0,(.str b)),(3,(.str [])),(4,(.int .i64 0))] a .normal [(3,.str r)] a:=by
 revert h;unfold jH;refine aA fun c d=>?_;intro h;obtain rfl:=b9 h;exact aK (hs:=[.aM,.abs [0,3,4] (.exit 0) [(3,(.str c))] a]) (want:=[3]) (by kernel_rfl) (aG (bY (tZ R n b a R [] 0 _ d)) eE)
def fO (R:Nat)(a:List UInt8):Option (List UInt8):=
 (jH R a).bind fun b=>
 (lB b [0,1]).bind fun c=>
 some c
theorem nV {R:Nat}(n:Nat){b:List UInt8}(a:St){r:List UInt8}(h:fO R b=some r):
 aR (aW C0 bK R (n+1)) false 46 [(.str b)] a (.str r) a:=by
 revert h;unfold fO;refine aA fun c d=>aA fun e f=>?_
 intro h;obtain rfl:=b9 h;exact dE (hs:=[.run 3,.nW [0,3,4] .normal [(3,(.str c))] a,.run 1,.val (.str e),.run 1]) (by kernel_rfl) (aG (fV f)<|aG (uO n a d) eE)
structure u5 where
 n:Nat
 f20:Int→Bool→Int→List UInt8→AV→AV→St→Option (List UInt8×St)
def u5.ok (R:u5)(n:Nat):Prop:=(∀ m,n≤m→ ∀(a0:Int) (a1:Bool) (a2:Int) (a3:List UInt8) (a4:AV) (a5:AV) (st:St) (r:List UInt8×St),R.f20 a0 a1 a2 a3 a4 a5 st=some r→aR (aW C0 bK R.n m) false 20 [(.agg [.int .i64 a0,.bool a1,.int .i64 a2,.str a3,a4,a5])] st (.str r.1) r.2)
theorem u5.ok.OU {R:u5}{n:Nat}(h:R.ok n):(∀ m,n≤m→ ∀(a0:Int) (a1:Bool) (a2:Int) (a3:List UInt8) (a4:AV) (a5:AV) (st:St) (r:List UInt8×St),R.f20 a0 a1 a2 a3 a4 a5 st=some r→aR (aW C0 bK R.n m) false 20 [(.agg [.int .i64 a0,.bool a1,.int .i64 a2,.str a3,a4,a5])] st (.str r.1) r.2):=h
def jC (R:u5)(a:AV)(b:List UInt8)(c:Int):Option (Bool):=
 some true
theorem qQ {R:u5}(n:Nat)(hR:R.ok n){a:AV}{b:List UInt8}{c:Int}(d:St){r:Bool}(h:jC R a b c=some r):
 oE 78 bK R.n (n+1) 20 [1,1,0,1,0,1,1,1,1,0,1] [(1,a),(3,(.str b)),(11,(.int .i64 c)),(29,(.bool true))] d .normal [(29,.bool r)] d:=by
 revert h;unfold jC;intro h;obtain rfl:=b9 h;exact aK (hs:=[.aM]) (want:=[29]) (by kernel_rfl) .nil
def fJ (R:u5)(a:AV)(b:List UInt8)(c:Int):Option (Bool):=
 some true
theorem kV {R:u5}(n:Nat)(hR:R.ok n){a:AV}{b:List UInt8}{c:Int}(d:St){r:Bool}(h:fJ R a b c=some r):
 oE 78 bK R.n (n+1) 20 [1,1,0,1,0,1,1,1,1,1,1,0,1] [(1,a),(3,(.str b)),(11,(.int .i64 c)),(37,(.bool true))] d .normal [(37,.bool r)] d:=by
 revert h;unfold fJ;intro h;obtain rfl:=b9 h;exact aK (hs:=[.aM]) (want:=[37]) (by kernel_rfl) .nil
def eX (R:u5)(b:AV)(c:List UInt8)(d:Int)(a:St):Option (List UInt8×St):=
 (shift b 5).bind fun e=>
 (loadAt C0.P a 22 e).bind fun f=>
 (bA C0.P 22 f (.int .i64 d)).bind fun g=>
 (loadAt C0.P a 9 g).bind fun h=>
 (eY h).bind fun i=>
 (fO R.n i).bind fun j=>
 (lB c j).bind fun k=>
 some (k,a)
theorem mR {R:u5}(n:Nat)(hR:R.ok n){b:AV}{c:List UInt8}{d:Int}{a:St}{r:List UInt8×St}(h:eX R b c d a=some r):
 oE 78 bK R.n (n+1) 20 [1,1,0,1,0,1,1,1,1,1,1,1,0,0,1,0,0,1,0,0,1,0,1] [(1,b),(3,(.str c)),(4,(.int .i64 d)),(58,(.bool true))] a .normal [(3,.str r.1)] r.2:=by
 revert h;unfold eX;refine aA fun e f=>aA fun g i=>aA fun j k=>aA fun u l=>aA fun m o=>?_
 obtain rfl:=cC o;refine aA fun p q=>aA fun s t=>?_
 intro h;obtain rfl:=b9 h;exact aK (hs:=[.aM,.run 1,.val e,.val g,.run 1,.val j,.val (.str m),.call (.str p) a,.val (.str s),.run 1]) (want:=[3]) (by kernel_rfl) (aG (fV t)<|aG (nV n a q)<|aG l<|aG k<|aG i<|aG f eE)
def dH (R:u5)(b:AV)(a:List UInt8)(c:Int):Option (List UInt8):=
 some a
theorem gV {R:u5}(n:Nat)(hR:R.ok n){a:AV}{b:List UInt8}{c:Int}(d:St){r:List UInt8}(h:dH R a b c=some r):
 oE 78 bK R.n (n+1) 20 [1,1,0,1,0,1,1,1,1,1,1,1,0,0,1,0,0,1,0,0,1,0,1] [(1,a),(3,(.str b)),(4,(.int .i64 c)),(58,(.bool false))] d .normal [(3,.str r)] d:=by
 revert h;unfold dH;intro h;obtain rfl:=b9 h;exact aK (hs:=[.aM]) (want:=[3]) (by kernel_rfl) .nil
def fU (R : u5) (b : AV) (f : List UInt8) (c : Int) (a : St) : Option (List UInt8 × St) :=
 (lB f [1]).bind fun d=>
 (shift b 0).bind fun g=>
 (loadAt C0.P a 3 g).bind fun h=>
 (dN .i64 h).bind fun i=>
 if(i=6) then
  (shift b 5).bind fun j=>
  (loadAt C0.P a 22 j).bind fun k=>
  (lenOf k).bind fun n6011=>
  if(c<(n6011:Int)) then
   (eX R b d c a).bind fun(l,e)=>
   (shift b 4).bind fun m=>
   (loadAt C0.P e 46 m).bind fun n=>
   (bA C0.P 46 n (.int .i64 c)).bind fun o=>
   (loadAt C0.P e 48 o).bind fun p=>
   (aQ p).bind fun(q,r,s,t,u,v)=>
   (R.f20 q r s t u v e).bind fun(w,x)=>
   (lB l w).bind fun y=>
   some (y,x)
  else
   (dH R b d c).bind fun z=>
   (shift b 4).bind fun A=>
   (loadAt C0.P a 46 A).bind fun B=>
   (bA C0.P 46 B (.int .i64 c)).bind fun C=>
   (loadAt C0.P a 48 C).bind fun D=>
   (aQ D).bind fun(E,F,G,H,I,J)=>
   (R.f20 E F G H I J a).bind fun(K,L)=>
   (lB z K).bind fun M=>
   some (M,L)
 else
  (dH R b d c).bind fun N=>
  (shift b 4).bind fun O=>
  (loadAt C0.P a 46 O).bind fun Q=>
  (bA C0.P 46 Q (.int .i64 c)).bind fun S=>
  (loadAt C0.P a 48 S).bind fun T=>
  (aQ T).bind fun(U,V,W,X,Y,Z)=>
  (R.f20 U V W X Y Z a).bind fun(a0,a1)=>
  (lB N a0).bind fun a2=>
  some (a2,a1)
theorem nS {R:u5}(n:Nat)(hR:R.ok n){d:AV}{f:List UInt8}{g:Int}{a:St}{r:List UInt8×St}(h:fU R d f g a=some r):
 oE 78 bK R.n (n+1) 20 [1,1,0,1,0,1,1,1,1,1,1,1,0,0,1,0,0,1,0] [(1,d),(3,(.str f)),(4,(.int .i64 g))] a .normal [(3,.str r.1)] r.2:=by
 revert h;unfold fU;refine aA fun F G=>aA fun H I=>aA fun d9 J=>aA fun K L=>?_
 obtain rfl:=bE L;have q9001:=aG J<|aG I<|aG (fV G) eE
 let q8002:List Hint:=[.aM,.run 1,.val (.str F),.run 1,.val H,.val (.int .i64 K)]
 refine aU (fun b=>?_) (fun b=>?_)
 ·refine aA fun M N=>aA fun O Q=>aA fun n6011 S=>?_
  have q9002:=aG (cV (P:=C0.P) (t:=22) (e:=9) (by kernel_rfl) S)<|aG Q<|aG N<|aG (eG b) q9001
  let q8003:List Hint:=q8002 ++ [.dec true,.run 2,.val M,.val O,.val (.int .i64 (n6011:Int))]
  refine aU (fun c=>?_) (fun c=>?_)
  ·refine aA fun o T=>?_;obtain⟨U,i⟩:=o;refine aA fun V W=>aA fun X Y=>aA fun Z a0=>aA fun e0 a1=>aA fun o a2=>?_
   obtain⟨j,k,l,m,p,q⟩:=o;obtain rfl:=aO a2;refine aA fun o a3=>?_;obtain⟨a4,a5⟩:=o;refine aA fun a6 a7=>?_;intro h;obtain rfl:=b9 h;exact aK (hs:=q8003 ++ [.dec true,.run 1,.fT [1,3,4,58] .normal [(3,(.str U))] i,.run 1,.val V,.val X,.run 1,.val Z,.val (bD j k l m p q),.call (.str a4) a5,.val (.str a6),.run 1]) (want:=[3]) (by kernel_rfl) (aG (fV a7)<|aG (hR.OU (n+1) (by omega) j k l m p q i _ a3)<|aG a1<|aG a0<|aG Y<|aG W<|aG (mR n hR T)<|aG (decide_eq_true c) q9002)
  ·refine aA fun a8 a9=>aA fun b0 b1=>aA fun b2 b3=>aA fun b4 b5=>aA fun e1 b6=>aA fun o b7=>?_
   obtain⟨s,u,v,w,x,y⟩:=o;obtain rfl:=aO b7;refine aA fun o b8=>?_;obtain⟨c0,c1⟩:=o;refine aA fun c2 c3=>?_;intro h;obtain rfl:=b9 h;exact aK (hs:=q8003 ++ [.dec false,.run 1,.fT [1,3,4,58] .normal [(3,(.str a8))] a,.run 1,.val b0,.val b2,.run 1,.val b4,.val (bD s u v w x y),.call (.str c0) c1,.val (.str c2),.run 1]) (want:=[3]) (by kernel_rfl) (aG (fV c3)<|aG (hR.OU (n+1) (by omega) s u v w x y a _ b8)<|aG b6<|aG b5<|aG b3<|aG b1<|aG (gV n hR a a9)<|aG (decide_eq_false c) q9002)
 ·refine aA fun c4 c5=>aA fun c6 c7=>aA fun c8 c9=>aA fun d0 d1=>aA fun e2 d2=>aA fun o d3=>?_
  obtain⟨z,A,B,C,D,E⟩:=o;obtain rfl:=aO d3;refine aA fun o d4=>?_;obtain⟨d5,d6⟩:=o;refine aA fun d7 d8=>?_;intro h;obtain rfl:=b9 h;exact aK (hs:=q8002 ++ [.dec false,.run 2,.fT [1,3,4,58] .normal [(3,(.str c4))] a,.run 1,.val c6,.val c8,.run 1,.val d0,.val (bD z A B C D E),.call (.str d5) d6,.val (.str d7),.run 1]) (want:=[3]) (by kernel_rfl) (aG (fV d8)<|aG (hR.OU (n+1) (by omega) z A B C D E a _ d4)<|aG d2<|aG d1<|aG c9<|aG c7<|aG (gV n hR a c5)<|aG (dP b) q9001)
def dO (R : u5) (a : AV) : Nat → List UInt8 → Int → St → Option ((List UInt8 × St))
 | 0,_,_,_=>none
 | r + 1, d, b, c =>
   (shift a 4).bind fun e=>
   (loadAt C0.P c 46 e).bind fun f=>
   (lenOf f).bind fun n6092=>
   if(b<(n6092:Int)) then
    (fU R a d b c).bind fun(g,h)=>
    dO R a r g (IntKind.wrap .i64 (b+1)) h
   else
    some (d,c)
def gB (o:(List UInt8×St)):cE×List (Nat×AV)×St:=match o with
 | (a0,a1)=>((.exit 1),[(3,.str a0)],a1)
theorem oW (R:u5)(n:Nat)(hR:R.ok n)(f:AV):∀(r:Nat) (b:List UInt8) (a:Int) (c:St) (o:(List UInt8×St)),dO R f r b a c=some o →
 jL 78 (jA (fun fr k=>cZ C0 (aW C0 bK R.n (n+1)) 20 R.n none (dA C0.P 20 [1,1,0,1,0,1,1,1,1,1,1,1,0,0,1,0,0]) fr k) r) (dI (dA C0.P 20 [1,1,0,1,0,1,1,1,1,1,1,1,0,0,1,0,0])) [(1,f),(3,(.str b)),(4,(.int .i64 a))] c (gB o).1 (gB o).2.1 (gB o).2.2:=by
 intro r
 induction r with
 | zero=>intro b a c o h; exact nomatch h
 | succ r ih =>
   intro b a c o
   unfold dO;refine aA fun g i=>aA fun j l=>aA fun n6092 m=>?_
   refine aU (fun d=>?_) (fun d=>?_)
   ·refine aA fun o s=>?_;obtain⟨p,q⟩:=o;intro h;exact cS (aK (hs:=[.run 1,.val g,.val j,.val (.int .i64 (n6092:Int)),.dec true,.aM,.nW [1,3,4] .normal [(3,(.str p))] q,.run 3]) (want:=[1,3,4]) (by kernel_rfl) (.cons (nS n hR s)<|.cons (decide_eq_true d)<|.cons (cV (P:=C0.P) (t:=46) (e:=48) (by kernel_rfl) m)<|.cons l<|.cons i .nil)) (ih p (IntKind.wrap .i64 (a+1)) q _ h)
   ·intro h;obtain rfl:=b9 h;exact bI (aK (hs:=[.run 1,.val g,.val j,.val (.int .i64 (n6092:Int)),.dec false,.aM]) (want:=[3]) (by kernel_rfl) (.cons (decide_eq_false d)<|.cons (cV (P:=C0.P) (t:=46) (e:=48) (by kernel_rfl) m)<|.cons l<|.cons i .nil)) (by kernel_rfl)
def bX (R:u5)(a:AV)(b:List UInt8)(c:St):Option (List UInt8×St):=
 (dO R a R.n b 0 c).bind fun(d,e)=>
 some (d,e)
theorem eI {R:u5}(n:Nat)(hR:R.ok n){a:AV}{b:List UInt8}{c:St}{r:List UInt8×St}(h:bX R a b c=some r):
 oE 78 bK R.n (n+1) 20 [1,1,0,1,0,1,1,1,1,1,1,1,0,0,1] [(1,a),(3,(.str b)),(4,(.int .i64 0))] c .normal [(3,.str r.1)] r.2:=by
 revert h;unfold bX;refine aA fun o d=>?_;obtain⟨e,f⟩:=o;intro h;obtain rfl:=b9 h;exact aK (hs:=[.aM,.abs [1,3,4] (.exit 1) [(3,(.str e))] f]) (want:=[3]) (by kernel_rfl) (aG (bY (oW R n hR a R.n b 0 c _ d)) eE)
def dU (R:u5)(b:AV)(c:List UInt8)(a:Int):Option (Bool):=
 if(a=6) then
  some true
 else
  some false
theorem kI {R:u5}(n:Nat)(hR:R.ok n){b:AV}{c:List UInt8}{d:Int}(e:St){r:Bool}(h:dU R b c d=some r):
 oE 78 bK R.n (n+1) 20 [1,1,0,1,0,1,1,1,1,1,1,0,1] [(1,b),(3,(.str c)),(11,(.int .i64 d)),(37,(.bool false))] e .normal [(37,.bool r)] e:=by
 revert h;unfold dU;refine aU (fun a=>?_) (fun a=>?_)
 ·intro h;obtain rfl:=b9 h;exact aK (hs:=[.aM,.dec true,.run 1]) (want:=[37]) (by kernel_rfl) (aG (eG a) eE)
 ·intro h;obtain rfl:=b9 h;exact aK (hs:=[.aM,.dec false,.run 1]) (want:=[37]) (by kernel_rfl) (aG (dP a) eE)
def fI (R:u5)(b:AV)(c:List UInt8)(a:Int):Option (Bool):=
 if(a=4) then
  some true
 else
  some false
theorem pX {R:u5}(n:Nat)(hR:R.ok n){b:AV}{c:List UInt8}{d:Int}(e:St){r:Bool}(h:fI R b c d=some r):
 oE 78 bK R.n (n+1) 20 [1,1,0,1,0,1,1,1,1,0,1] [(1,b),(3,(.str c)),(11,(.int .i64 d)),(29,(.bool false))] e .normal [(29,.bool r)] e:=by
 revert h;unfold fI;refine aU (fun a=>?_) (fun a=>?_)
 ·intro h;obtain rfl:=b9 h;exact aK (hs:=[.aM,.dec true,.run 1]) (want:=[29]) (by kernel_rfl) (aG (eG a) eE)
 ·intro h;obtain rfl:=b9 h;exact aK (hs:=[.aM,.dec false,.run 1]) (want:=[29]) (by kernel_rfl) (aG (dP a) eE)
def jR (R : u5) (g : Int) (h : Bool) (i : Int) (j : List UInt8) (k : AV) (l : AV) (m : St) : Option (List UInt8 × St) :=
 (oQ 48 (.agg [(.int .i64 g),(.bool h),(.int .i64 i),(.str j),k,l]) m).bind fun(c,e)=>
 (shift c 0).bind fun f=>
 (loadAt C0.P e 3 f).bind fun o=>
 (dN .i64 o).bind fun p=>
 (eV (aY C0.P (C0.cQ 20) 90 1 [(0,(.int .u8 (IntKind.wrap .u8 p)))]) e).bind fun(q,a)=>
 (strOf a q).bind fun b=>
 (loadAt C0.P a 3 f).bind fun r=>
 (dN .i64 r).bind fun d=>
 if(d=1) then
  (shift c 1).bind fun s=>
  (loadAt C0.P a 4 s).bind fun t=>
  (zP t).bind fun u=>
  if u=true then
   (lB b [1]).bind fun v=>
   some (v,a)
  else
   (lB b [0]).bind fun w=>
   some (w,a)
 else
  if(d=2) then
   (shift c 2).bind fun x=>
   (loadAt C0.P a 2 x).bind fun y=>
   (dN .i64 y).bind fun z=>
   (kK R.n (IntKind.wrap .u64 ((IntKind.wrap .u64 z)+9223372036854775808)) a).bind fun(A,B)=>
   (lB b A).bind fun C=>
   some (C,B)
  else
   if (d = 3) then
    (jC R c b d).bind fun D=>
    if D=true then
     (shift c 3).bind fun E=>
     (loadAt C0.P a 9 E).bind fun F=>
     (eY F).bind fun G=>
     (fO R.n G).bind fun H=>
     (lB b H).bind fun I=>
     some (I,a)
    else
     if(d=5) then
      (fJ R c b d).bind fun J=>
      if J=true then
       (bX R c b a).bind fun(K,L)=>
       (lB K [0]).bind fun M=>
       some (M,L)
      else
       some (b,a)
     else
      (dU R c b d).bind fun N=>
      if N=true then
       (bX R c b a).bind fun(O,Q)=>
       (lB O [0]).bind fun S=>
       some (S,Q)
      else
       some (b,a)
   else
    (fI R c b d).bind fun T=>
    if T=true then
     (shift c 3).bind fun U=>
     (loadAt C0.P a 9 U).bind fun V=>
     (eY V).bind fun W=>
     (fO R.n W).bind fun X=>
     (lB b X).bind fun Y=>
     some (Y,a)
    else
     if(d=5) then
      (fJ R c b d).bind fun Z=>
      if Z=true then
        (bX R c b a).bind fun(a0,a1)=>
        (lB a0 [0]).bind fun a2=>
        some (a2,a1)
      else
        some (b,a)
     else
      (dU R c b d).bind fun a3=>
      if a3=true then
        (bX R c b a).bind fun(a4,a5)=>
        (lB a4 [0]).bind fun a6=>
        some (a6,a5)
      else
        some (b,a)
theorem sM {R : u5} (n : Nat) (hR : R.ok n) {q : Int} {s : Bool} {t : Int} {u : List UInt8} {v : AV} {w : AV} {x : St} {r : List UInt8 × St} (h : jR R q s t u v w x = some r):
 aR (aW C0 bK R.n (n+2)) false 20 [(.agg [(.int .i64 q),(.bool s),(.int .i64 t),(.str u),v,w])] x (.str r.1) r.2:=by
 revert h;unfold jR;refine aA fun o D=>?_;obtain⟨E,F⟩:=o;refine aA fun y z=>aA fun f1 G=>aA fun H I=>?_
 obtain rfl:=bE I;refine aA fun o J=>?_;obtain⟨K,a⟩:=o;refine aA fun L M=>aA fun f2 N=>aA fun O P=>?_
 obtain rfl:=bE P;have q9003:=aG N<|aG z<|aG (qB M)<|aG J<|aG G<|aG z<|aG (pE D) eE
 let q8004:List Hint:=[.cA E F,.run 1,.val y,.val (.int .i64 H),.run 1,.cA K a,.val (.str L),.run 1,.val y,.val (.int .i64 O),.aM]
 refine aU (fun b=>?_) (fun b=>?_)
 ·refine aA fun A B=>aA fun f3 C=>aA fun f4 Q=>?_
  obtain rfl:=BE Q;refine aU (fun c=>?_) (fun c=>?_)
  ·subst c;refine aA fun S T=>?_;intro h;obtain rfl:=b9 h;exact dE (hs:=q8004 ++ [.dec true,.run 1,.aM,.val A,.val (.bool true),.aM,.run 1,.val (.str S),.run 1]) (by kernel_rfl) (aG (fV T)<|aG C<|aG B<|aG (eG b) q9003)
  ·obtain rfl:=bF c;refine aA fun U V=>?_;intro h;obtain rfl:=b9 h;exact dE (hs:=q8004 ++ [.dec true,.run 1,.aM,.val A,.val (.bool false),.aM,.run 1,.val (.str U),.run 1]) (by kernel_rfl) (aG (fV V)<|aG C<|aG B<|aG (eG b) q9003)
 ·have q9004:=aG (dP b) q9003
  let q8005:List Hint:=q8004 ++ [.dec false,.run 1,.aM]
  refine aU (fun d=>?_) (fun d=>?_)
  ·refine aA fun W X=>aA fun f5 Y=>aA fun Z a0=>?_
   obtain rfl:=bE a0;refine aA fun o a1=>?_;obtain⟨a2,a3⟩:=o;refine aA fun a4 a5=>?_;intro h;obtain rfl:=b9 h;exact dE (hs:=q8005 ++ [.dec true,.run 1,.aM,.run 1,.val W,.val (.int .i64 Z),.run 2,.call (.str a2) a3,.val (.str a4),.run 1]) (by kernel_rfl) (aG (fV a5)<|aG (yR n a1)<|aG Y<|aG X<|aG (eG d) q9004)
  ·have q9005:=aG (dP d) q9004
   let q8006:List Hint:=q8005 ++ [.dec false,.run 1,.aM]
   refine aU (fun e=>?_) (fun e=>?_)
   ·refine aA fun f6 a6=>?_;have q9006:=aG (qQ n hR a a6)<|aG (eG e) q9005
    let q8007:List Hint:=q8006 ++ [.dec true,.run 1]
    refine aU (fun f=>?_) (fun f=>?_)
    ·subst f;refine aA fun a7 a8=>aA fun f7 a9=>aA fun b0 b1=>?_
     obtain rfl:=cC b1;refine aA fun b2 b3=>aA fun b4 b5=>?_
     intro h;obtain rfl:=b9 h;exact dE (hs:=q8007 ++ [.fT [1,3,11,29] .normal [(29,(.bool true))] a,.aM,.run 1,.val a7,.val (.str b0),.call (.str b2) a,.val (.str b4),.run 1]) (by kernel_rfl) (aG (fV b5)<|aG (nV n a b3)<|aG a9<|aG a8 q9006)
    ·obtain rfl:=bF f;let q8008:List Hint:=q8007 ++ [.fT [1,3,11,29] .normal [(29,(.bool false))] a,.aM]
     refine aU (fun g=>?_) (fun g=>?_)
     ·refine aA fun f8 b6=>?_;have q9007:=aG (kV n hR a b6)<|aG (eG g) q9006
      refine aU (fun i=>?_) (fun i=>?_)
      ·subst i;refine aA fun o b7=>?_;obtain⟨b8,c0⟩:=o;refine aA fun c1 c2=>?_;intro h;obtain rfl:=b9 h;exact dE (hs:=q8008 ++ [.dec true,.run 1,.fT [1,3,11,37] .normal [(37,(.bool true))] a,.aM,.run 1,.nW [1,3,4] .normal [(3,(.str b8))] c0,.run 1,.val (.str c1),.run 1]) (by kernel_rfl) (aG (fV c2)<|aG (eI n hR b7) q9007)
      ·obtain rfl:=bF i;intro h;obtain rfl:=b9 h;exact dE (hs:=q8008 ++ [.dec true,.run 1,.fT [1,3,11,37] .normal [(37,(.bool false))] a,.aM,.run 2]) (by kernel_rfl) (q9007)
     ·refine aA fun f9 c3=>?_;have q9008:=aG (kI n hR a c3)<|aG (dP g) q9006
      refine aU (fun j=>?_) (fun j=>?_)
      ·subst j;refine aA fun o c4=>?_;obtain⟨c5,c6⟩:=o;refine aA fun c7 c8=>?_;intro h;obtain rfl:=b9 h;exact dE (hs:=q8008 ++ [.dec false,.run 1,.fT [1,3,11,37] .normal [(37,(.bool true))] a,.aM,.run 1,.nW [1,3,4] .normal [(3,(.str c5))] c6,.run 1,.val (.str c7),.run 1]) (by kernel_rfl) (aG (fV c8)<|aG (eI n hR c4) q9008)
      ·obtain rfl:=bF j;intro h;obtain rfl:=b9 h;exact dE (hs:=q8008 ++ [.dec false,.run 1,.fT [1,3,11,37] .normal [(37,(.bool false))] a,.aM,.run 2]) (by kernel_rfl) (q9008)
   ·refine aA fun g0 c9=>?_;have q9009:=aG (pX n hR a c9)<|aG (dP e) q9005
    let q8009:List Hint:=q8006 ++ [.dec false,.run 1]
    refine aU (fun k=>?_) (fun k=>?_)
    ·subst k;refine aA fun d0 d1=>aA fun g1 d2=>aA fun d3 d4=>?_
     obtain rfl:=cC d4;refine aA fun d5 d6=>aA fun d7 d8=>?_
     intro h;obtain rfl:=b9 h;exact dE (hs:=q8009 ++ [.fT [1,3,11,29] .normal [(29,(.bool true))] a,.aM,.run 1,.val d0,.val (.str d3),.call (.str d5) a,.val (.str d7),.run 1]) (by kernel_rfl) (aG (fV d8)<|aG (nV n a d6)<|aG d2<|aG d1 q9009)
    ·obtain rfl:=bF k;let q8010:List Hint:=q8009 ++ [.fT [1,3,11,29] .normal [(29,(.bool false))] a,.aM]
     refine aU (fun l=>?_) (fun l=>?_)
     ·refine aA fun g2 d9=>?_;have q9010:=aG (kV n hR a d9)<|aG (eG l) q9009
      refine aU (fun m=>?_) (fun m=>?_)
      ·subst m;refine aA fun o e0=>?_;obtain⟨e1,e2⟩:=o;refine aA fun e3 e4=>?_;intro h;obtain rfl:=b9 h;exact dE (hs:=q8010 ++ [.dec true,.run 1,.fT [1,3,11,37] .normal [(37,(.bool true))] a,.aM,.run 1,.nW [1,3,4] .normal [(3,(.str e1))] e2,.run 1,.val (.str e3),.run 1]) (by kernel_rfl) (aG (fV e4)<|aG (eI n hR e0) q9010)
      ·obtain rfl:=bF m;intro h;obtain rfl:=b9 h;exact dE (hs:=q8010 ++ [.dec true,.run 1,.fT [1,3,11,37] .normal [(37,(.bool false))] a,.aM,.run 2]) (by kernel_rfl) (q9010)
     ·refine aA fun g3 e5=>?_;have q9011:=aG (kI n hR a e5)<|aG (dP l) q9009
      refine aU (fun p=>?_) (fun p=>?_)
      ·subst p;refine aA fun o e6=>?_;obtain⟨e7,e8⟩:=o;refine aA fun e9 f0=>?_;intro h;obtain rfl:=b9 h;exact dE (hs:=q8010 ++ [.dec false,.run 1,.fT [1,3,11,37] .normal [(37,(.bool true))] a,.aM,.run 1,.nW [1,3,4] .normal [(3,(.str e7))] e8,.run 1,.val (.str e9),.run 1]) (by kernel_rfl) (aG (fV f0)<|aG (eI n hR e6) q9011)
      ·obtain rfl:=bF p;intro h;obtain rfl:=b9 h;exact dE (hs:=q8010 ++ [.dec false,.run 1,.fT [1,3,11,37] .normal [(37,(.bool false))] a,.aM,.run 2]) (by kernel_rfl) (q9011)
def Mm (R:Nat):Nat→u5
 | 0=>⟨R,(fun _ _ _ _ _ _ _=>none)⟩
 | k+1=>⟨R,(fun a0 a1 a2 a3 a4 a5 st=>jR (Mm R k) a0 a1 a2 a3 a4 a5 st)⟩
theorem Mn (R:Nat):∀ k,(Mm R k).n=R
 | 0=>rfl
 | _+1=>rfl
theorem KI (R:Nat):∀ k n,2 * k≤n→(Mm R k).ok n
 | 0,n,_=>(fun _ _ _ _ _ _ _ _ _ _ h=>nomatch h)
 | k + 1, n, hn =>
   fun m hm a0 a1 a2 a3 a4 a5 st r h=>by
    obtain⟨j,rfl⟩:∃ j,m=j+2:=⟨m - 2,by omega⟩
    have:=sM j (KI R k j (by omega)) h
    rw[Mn] at this
    exact this
def iW (R:Nat)(a0:Int)(a1:Bool)(a2:Int)(a3:List UInt8)(a4:AV)(a5:AV)(st:St):Option (List UInt8×St):=jR (Mm R 4000) a0 a1 a2 a3 a4 a5 st
theorem pU {R:Nat}(n:Nat){a0:Int}{a1:Bool}{a2:Int}{a3:List UInt8}{a4:AV}{a5:AV}{st:St}{r:List UInt8×St}(h:iW R a0 a1 a2 a3 a4 a5 st=some r):aR (aW C0 bK R (n+8002)) false 20 [(.agg [.int .i64 a0,.bool a1,.int .i64 a2,.str a3,a4,a5])] st (.str r.1) r.2:=by
 have:=sM (n+8000) (KI R 4000 _ (by omega)) h
 rw[Mn] at this
 exact this
def dW (R : Nat) (b : AV) (i : Nat) (j : Nat) (k : AV) (l : Int) (c : List UInt8) (m : List UInt8) (n : Nat) (o : Bool) (d : Bool) (e : Int) (a : St) : Option (Bool × St) :=
 if d=true then
  some (true,a)
 else
  (bA C0.P 22 b (.int .i64 e)).bind fun f=>
  (loadAt C0.P a 9 f).bind fun g=>
  (eY g).bind fun h=>
  if(h=c) then
   some (true,a)
  else
   some (false,a)
theorem n8 {R:Nat}(n:Nat){c:AV}{d:Nat}{e:Nat}{f:AV}{g:Int}{i:List UInt8}{j:List UInt8}{k:Nat}{l:Bool}{m:Bool}{o:Int}{p:St}{r:Bool×St}(h:dW R c d e f g i j k l m o p=some r):
 oE 118 bK R (n+8002) 12 [1,1,1,0,1,0,0,1,0,0,1,1,0,1,0,0,1,0] [(1,c),(4,(.ref d 0)),(5,(.ref e 0)),(6,f),(7,(.int .i64 g)),(8,(.str i)),(9,(.str j)),(10,(.ref k 0)),(11,(.bool l)),(12,(.bool m)),(13,(.int .i64 o))] p .normal [(12,.bool r.1)] r.2:=by
 revert h;unfold dW;refine aU (fun a=>?_) (fun a=>?_)
 ·subst a;intro h;obtain rfl:=b9 h;exact aK (hs:=[.aM,.run 4]) (want:=[12]) (by kernel_rfl) .nil
 ·obtain rfl:=bF a;refine aA fun q s=>aA fun w t=>aA fun u v=>?_
  obtain rfl:=cC v;refine aU (fun b=>?_) (fun b=>?_)
  ·intro h;obtain rfl:=b9 h;exact aK (hs:=[.aM,.run 4,.val q,.val (.str u),.run 1,.dec true,.run 2]) (want:=[12]) (by kernel_rfl) (aG (dM b)<|aG t<|aG s eE)
  ·intro h;obtain rfl:=b9 h;exact aK (hs:=[.aM,.run 4,.val q,.val (.str u),.run 1,.dec false,.run 2]) (want:=[12]) (by kernel_rfl) (aG (cL b)<|aG t<|aG s eE)
def cR (R : Nat) (a : AV) (c : Nat) (d : Nat) (e : AV) (f : Int) (g : List UInt8) (h : List UInt8) (i : Nat) (j : Bool) : Nat → Bool → Int → St → Option ((Bool × St))
 | 0,_,_,_=>none
 | r + 1, k, b, l =>
   (lenOf a).bind fun n6342=>
   if(b<(n6342:Int)) then
    (dW R a c d e f g h i j k b l).bind fun(m,n)=>
    cR R a c d e f g h i j r m (IntKind.wrap .i64 (b+1)) n
   else
    some (k,l)
def fP (o:(Bool×St)):cE×List (Nat×AV)×St:=match o with
 | (a0,a1)=>((.exit 2),[(12,.bool a0)],a1)
theorem o8 (R n:Nat)(f:AV)(g:Nat)(i:Nat)(j:AV)(l:Int)(m:List UInt8)(p:List UInt8)(q:Nat)(s:Bool):∀(r:Nat) (b:Bool) (a:Int) (c:St) (o:(Bool×St)),cR R f g i j l m p q s r b a c=some o →
 jL 118 (jA (fun fr k=>cZ C0 (aW C0 bK R (n+8002)) 12 R none (dA C0.P 12 [1,1,1,0,1,0,0,1,0,0,1,1,0,1,0,0]) fr k) r) (dI (dA C0.P 12 [1,1,1,0,1,0,0,1,0,0,1,1,0,1,0,0])) [(1,f),(4,(.ref g 0)),(5,(.ref i 0)),(6,j),(7,(.int .i64 l)),(8,(.str m)),(9,(.str p)),(10,(.ref q 0)),(11,(.bool s)),(12,(.bool b)),(13,(.int .i64 a))] c (fP o).1 (fP o).2.1 (fP o).2.2:=by
 intro r
 induction r with
 | zero=>intro b a c o h; exact nomatch h
 | succ r ih =>
   intro b a c o
   unfold cR;refine aA fun n6342 u=>?_;refine aU (fun d=>?_) (fun d=>?_)
   ·refine aA fun o x=>?_;obtain⟨v,w⟩:=o;intro h;exact cS (aK (hs:=[.run 2,.val (.int .i64 (n6342:Int)),.dec true,.aM,.nW [1,4,5,6,7,8,9,10,11,12,13] .normal [(12,(.bool v))] w,.run 3]) (want:=[1,4,5,6,7,8,9,10,11,12,13]) (by kernel_rfl) (.cons (n8 n x)<|.cons (decide_eq_true d)<|.cons (cV (P:=C0.P) (t:=22) (e:=9) (by kernel_rfl) u) .nil)) (ih v (IntKind.wrap .i64 (a+1)) w _ h)
   ·intro h;obtain rfl:=b9 h;exact bI (aK (hs:=[.run 2,.val (.int .i64 (n6342:Int)),.dec false,.aM]) (want:=[12]) (by kernel_rfl) (.cons (decide_eq_false d)<|.cons (cV (P:=C0.P) (t:=22) (e:=9) (by kernel_rfl) u) .nil)) (by kernel_rfl)
def eM (R:Nat)(a:AV)(b:Nat)(c:Nat)(d:AV)(e:Int)(f:List UInt8)(g:List UInt8)(h:Nat)(i:Bool)(j:St):Option (Bool×St):=
 (cR R a b c d e f g h i R false 0 j).bind fun(k,l)=>
 some (k,l)
theorem oI {R:Nat}(n:Nat){a:AV}{b:Nat}{c:Nat}{d:AV}{e:Int}{f:List UInt8}{g:List UInt8}{i:Nat}{j:Bool}{k:St}{r:Bool×St}(h:eM R a b c d e f g i j k=some r):
 oE 118 bK R (n+8002) 12 [1,1,1,0,1,0,0,1,0,0,1,1,0,1] [(1,a),(4,(.ref b 0)),(5,(.ref c 0)),(6,d),(7,(.int .i64 e)),(8,(.str f)),(9,(.str g)),(10,(.ref i 0)),(11,(.bool j)),(12,(.bool false)),(13,(.int .i64 0))] k .normal [(12,.bool r.1)] r.2:=by
 revert h;unfold eM;refine aA fun o l=>?_;obtain⟨m,p⟩:=o;intro h;obtain rfl:=b9 h;exact aK (hs:=[.aM,.abs [1,4,5,6,7,8,9,10,11,12,13] (.exit 2) [(12,(.bool m))] p]) (want:=[12]) (by kernel_rfl) (aG (bY (o8 R n a b c d e f g i j R false 0 k _ l)) eE)
def bS (R : Nat) (j : AV) (k : Nat) (l : Nat) (m : AV) (n : Int) (a : List UInt8) (c : List UInt8) (b : St) : Option (List UInt8 × List UInt8 × St) :=
 if(c=[61]) then
  (gW R a b).bind fun(d,e)=>
  some (a,d,e)
 else
  if(c=[60]) then
   some ([],a,b)
  else
   if(c=[60,61]) then
    (gW R a b).bind fun(f,g)=>
    some ([],f,g)
   else
    if(c=[62]) then
     (gW R a b).bind fun(h,i)=>
     some (h,[],i)
    else
     some (a,[],b)
theorem iI {R : Nat} (n : Nat) {e : AV} {f : Nat} {g : Nat} {i : AV} {j : Int} {k : List UInt8} {l : List UInt8} {m : St} {r : List UInt8 × List UInt8 × St} (h : bS R e f g i j k l m = some r):
 oE 118 bK R (n+8002) 12 [1,1,1,0,1,0,0,1,0,0,1,1,1,1,1,1,1,0,1] [(1,e),(4,(.ref f 0)),(5,(.ref g 0)),(6,i),(7,(.int .i64 j)),(14,(.str k)),(15,(.str [])),(16,(.str [])),(73,(.str l))] m .normal [(15,.str r.1),(16,.str r.2.1)] r.2.2:=by
 revert h;unfold bS;refine aU (fun c=>?_) (fun c=>?_)
 ·refine aA fun o p=>?_;obtain⟨q,s⟩:=o;intro h;obtain rfl:=b9 h;exact aK (hs:=[.aM,.dec true,.run 1,.aM,.run 2,.call (.str q) s,.run 2]) (want:=[15,16]) (by kernel_rfl) (aG (nK (n+8001) p)<|aG (dM c) eE)
 ·have q9012:=aG (cL c) eE
  let q8011:List Hint:=[.aM,.dec false,.run 1,.aM]
  refine aU (fun a=>?_) (fun a=>?_)
  ·intro h;obtain rfl:=b9 h;exact aK (hs:=q8011 ++ [.dec true,.run 1,.aM,.run 2]) (want:=[15,16]) (by kernel_rfl) (aG (dM a) q9012)
  ·refine aU (fun b=>?_) (fun b=>?_)
   ·refine aA fun o t=>?_;obtain⟨u,v⟩:=o;intro h;obtain rfl:=b9 h;exact aK (hs:=q8011 ++ [.dec false,.run 1,.aM,.dec true,.run 1,.aM,.run 1,.call (.str u) v,.run 1]) (want:=[15,16]) (by kernel_rfl) (aG (nK (n+8001) t)<|aG (dM b)<|aG (cL a) q9012)
   ·refine aU (fun d=>?_) (fun d=>?_)
    ·refine aA fun o w=>?_;obtain⟨x,y⟩:=o;intro h;obtain rfl:=b9 h;exact aK (hs:=q8011 ++ [.dec false,.run 1,.aM,.dec false,.run 1,.aM,.dec true,.run 1,.aM,.run 1,.call (.str x) y,.run 1]) (want:=[15,16]) (by kernel_rfl) (aG (nK (n+8001) w)<|aG (dM d)<|aG (cL b)<|aG (cL a) q9012)
    ·intro h;obtain rfl:=b9 h;exact aK (hs:=q8011 ++ [.dec false,.run 1,.aM,.dec false,.run 1,.aM,.dec false,.run 1,.aM,.run 2]) (want:=[15,16]) (by kernel_rfl) (aG (cL d)<|aG (cL b)<|aG (cL a) q9012)
def bZ (R:Nat)(e:AV)(f:Nat)(a:Nat)(g:AV)(h:Int)(b:List UInt8)(i:List UInt8)(c:St):Option (St):=
 (storeAt C0.P c 9 (.ref a 1) (.str b)).bind fun d=>
 some d
theorem iA {R:Nat}(n:Nat){a:AV}{b:Nat}{c:Nat}{d:AV}{e:Int}{f:List UInt8}{g:List UInt8}{i:St}{r:St}(h:bZ R a b c d e f g i=some r):
 oE 118 bK R (n+8002) 12 [1,1,1,0,1,0,0,1,0,0,1,1,1,1,1,1,1,1,0,1] [(1,a),(4,(.ref b 0)),(5,(.ref c 0)),(6,d),(7,(.int .i64 e)),(15,(.str f)),(16,(.str g)),(95,(.bool true))] i .normal [] r:=by
 revert h;unfold bZ;refine aA fun j k=>?_;intro h;obtain rfl:=b9 h;exact aK (hs:=[.aM,.run 3,.cA AV.undef j]) (want:=[]) (by kernel_rfl) (aG (aN k) eE)
def cM (R:Nat)(a:AV)(b:Nat)(c:Nat)(d:AV)(e:Int)(f:List UInt8)(g:List UInt8):Option (Unit):=
 some ()
theorem gO {R:Nat}(n:Nat){a:AV}{b:Nat}{c:Nat}{d:AV}{e:Int}{f:List UInt8}{g:List UInt8}(i:St){r:Unit}(h:cM R a b c d e f g=some r):
 oE 118 bK R (n+8002) 12 [1,1,1,0,1,0,0,1,0,0,1,1,1,1,1,1,1,1,0,1] [(1,a),(4,(.ref b 0)),(5,(.ref c 0)),(6,d),(7,(.int .i64 e)),(15,(.str f)),(16,(.str g)),(95,(.bool false))] i .normal [] i:=by
 revert h;unfold cM;intro h;obtain rfl:=b9 h;exact aK (hs:=[.aM]) (want:=[]) (by kernel_rfl) .nil
def eH (R : Nat) (f : AV) (g : Nat) (a : Nat) (d : AV) (e : Int) (r : St) : Option (St) :=
 (bA C0.P 26 d (.int .i64 e)).bind fun C=>
 (loadAt C0.P r 28 C).bind fun D=>
 (aD D).bind fun(E,F,G,H,I,J,K,L,M,N)=>
 (kU R E F G H I J K L M N r).bind fun(n,q,O,Q,S,T,U,V,s,k)=>
 (storeAt C0.P (St.push k (.cells 25 true [(.int .i64 0),(.bool false),(.int .i64 0),(.str []),AV.aF,AV.aF])) 25 (.ref (St.next k) 0) (.agg [(.int .i64 O),(.bool Q),(.int .i64 S),(.str T),U,V])).bind fun W=>
 (eM R f g a d e n q (St.next k) s W).bind fun(X,j)=>
 if s = true then
  if X = true then
   (loadAt C0.P j 9 (.ref a 0)).bind fun Y=>
   (eY Y).bind fun t=>
   if (t = []) then
    (storeAt C0.P j 9 (.ref a 0) (.str n)).bind fun u=>
    (loadAt C0.P u 25 (.ref (St.next k) 0)).bind fun Z=>
    (aQ Z).bind fun(a0,a1,a2,a3,a4,a5)=>
    (iY R a0 a1 a2 a3 a4 a5 u).bind fun(a6,a7,a8,a9,b0,b1,b2)=>
    (iW R a6 a7 a8 a9 b0 b1 b2).bind fun(b3,b4)=>
    (bS R f g a d e b3 q b4).bind fun(o,b,h)=>
    (loadAt C0.P h 9 (.ref a 1)).bind fun b5=>
    (eY b5).bind fun v=>
    if (!(strLt o v || gT o v)) = true then
     (bZ R f g a d e o b h).bind fun l=>
     if(b=[]) then
      some l
     else
      (loadAt C0.P l 9 (.ref a 2)).bind fun b6=>
      (eY b6).bind fun w=>
      if(w=[]) then
       (storeAt C0.P l 9 (.ref a 2) (.str b)).bind fun b7=>
       some b7
      else
       if(strLt b w)=true then
        (storeAt C0.P l 9 (.ref a 2) (.str b)).bind fun b8=>
        some b8
       else
        some l
    else
     (cM R f g a d e o b).bind fun _=>
     if(b=[]) then
      some h
     else
      (loadAt C0.P h 9 (.ref a 2)).bind fun b9=>
      (eY b9).bind fun x=>
      if(x=[]) then
       (storeAt C0.P h 9 (.ref a 2) (.str b)).bind fun c0=>
       some c0
      else
       if(strLt b x)=true then
        (storeAt C0.P h 9 (.ref a 2) (.str b)).bind fun c1=>
        some c1
       else
        some h
   else
    if (t = n) then
     (storeAt C0.P j 9 (.ref a 0) (.str n)).bind fun y=>
     (loadAt C0.P y 25 (.ref (St.next k) 0)).bind fun c2=>
     (aQ c2).bind fun(c3,c4,c5,c6,c7,c8)=>
     (iY R c3 c4 c5 c6 c7 c8 y).bind fun(c9,d0,d1,d2,d3,d4,d5)=>
     (iW R c9 d0 d1 d2 d3 d4 d5).bind fun(d6,d7)=>
     (bS R f g a d e d6 q d7).bind fun(p,c,i)=>
     (loadAt C0.P i 9 (.ref a 1)).bind fun d8=>
     (eY d8).bind fun z=>
     if (!(strLt p z || gT p z)) = true then
      (bZ R f g a d e p c i).bind fun m=>
      if(c=[]) then
        some m
      else
        (loadAt C0.P m 9 (.ref a 2)).bind fun d9=>
        (eY d9).bind fun A=>
        if(A=[]) then
        (storeAt C0.P m 9 (.ref a 2) (.str c)).bind fun e0=>
        some e0
        else
        if(strLt c A)=true then
         (storeAt C0.P m 9 (.ref a 2) (.str c)).bind fun e1=>
         some e1
        else
         some m
     else
      (cM R f g a d e p c).bind fun _=>
      if(c=[]) then
        some i
      else
        (loadAt C0.P i 9 (.ref a 2)).bind fun e2=>
        (eY e2).bind fun B=>
        if(B=[]) then
        (storeAt C0.P i 9 (.ref a 2) (.str c)).bind fun e3=>
        some e3
        else
        if(strLt c B)=true then
         (storeAt C0.P i 9 (.ref a 2) (.str c)).bind fun e4=>
         some e4
        else
         some i
    else
     some j
  else
   some j
 else
  some j
theorem q9 {R : Nat} (n : Nat) {H : AV} {I : Nat} {J : Nat} {K : AV} {L : Int} {M : St} {r : St} (h : eH R H I J K L M = some r):
 oE 118 bK R (n+8002) 12 [1,1,1,0,1,0,0,1,0] [(1,H),(4,(.ref I 0)),(5,(.ref J 0)),(6,K),(7,(.int .i64 L))] M .normal [] r:=by
 revert h;unfold eH;refine aA fun a0 a1=>aA fun k1 a2=>aA fun o a3=>?_
 obtain⟨a4,a5,a6,a7,a8,a9,b0,b1,b2,b3⟩:=o;obtain rfl:=aC a3;refine aA fun o b4=>?_;obtain⟨N,O,P,Q,S,T,U,V,k2,W⟩:=o;refine aA fun X b5=>aA fun o b6=>?_
 obtain⟨b7,e⟩:=o;have q9013:=aG (oI n b6)<|aG (aN b5)<|aG (zX (n+8001) b4)<|aG a2<|aG a1 eE
 let q8012:List Hint:=[.aM,.run 2,.val a0,.val (aJ a4 a5 a6 a7 a8 a9 b0 b1 b2 b3)]
 refine aU (fun f=>?_) (fun f=>?_)
 ·subst f;let q8013:List Hint:=q8012 ++ [.call (.tuple [(.str N),(.str O),(bD P Q S T U V),(.bool true)]) W,.run 8,.cA AV.undef X,.run 3]
  refine aU (fun g=>?_) (fun g=>?_)
  ·subst g;refine aA fun k3 Y=>aA fun Z b8=>?_
   obtain rfl:=cC b8;have q9014:=aG Y q9013
   let q8014:List Hint:=q8013 ++ [.nW [1,4,5,6,7,8,9,10,11,12,13] .normal [(12,(.bool true))] e,.run 8,.val (.str Z)]
   refine aU (fun i=>?_) (fun i=>?_)
   ·refine aA fun c0 c1=>aA fun k4 c2=>aA fun o c3=>?_
    obtain⟨c4,c5,c6,c7,c8,c9⟩:=o;obtain rfl:=aO c3;refine aA fun o d0=>?_;obtain⟨d1,d2,d3,d4,d5,d6,d7⟩:=o;refine aA fun o d8=>?_;obtain⟨d9,e0⟩:=o;refine aA fun o e1=>?_;obtain⟨e2,e3,j⟩:=o;refine aA fun k5 e4=>aA fun e5 e6=>?_
    obtain rfl:=cC e6;have q9015:=aG e4<|aG (iI n e1)<|aG (pU n d8)<|aG (pV (n+4001) d0)<|aG c2<|aG (aN c1)<|aG (zO i) q9014
    let q8015:List Hint:=q8014 ++ [.dec false,.run 3,.aM,.run 2,.cA AV.undef c0,.val (bD c4 c5 c6 c7 c8 c9),.call (bD d1 d2 d3 d4 d5 d6) d7,.call (.str d9) e0,.run 4,.nW [1,4,5,6,7,14,15,16,73] .normal [(15,(.str e2)),(16,(.str e3))] j,.run 3,.val (.str e5)]
    refine aU (fun k=>?_) (fun k=>?_)
    ·refine aA fun e7 e8=>?_;have q9016:=aG (iA n e8)<|aG k q9015
     let q8016:List Hint:=q8015 ++ [.dec true,.fT [1,4,5,6,7,15,16,95] .normal [] e7,.run 1]
     refine aU (fun l=>?_) (fun l=>?_)
     ·intro h;obtain rfl:=b9 h;exact aK (hs:=q8016 ++ [.dec false,.run 2,.aM]) (want:=[]) (by kernel_rfl) (aG (zO l) q9016)
     ·refine aA fun k6 m=>aA fun p e9=>?_
      obtain rfl:=cC e9;have q9017:=aG m<|aG (wT l) q9016
      let q8017:List Hint:=q8016 ++ [.dec true,.run 3,.val (.str p)]
      refine aU (fun a=>?_) (fun a=>?_)
      ·refine aA fun f0 f1=>?_;intro h;obtain rfl:=b9 h;exact aK (hs:=q8017 ++ [.dec true,.run 3,.aM,.run 3,.cA AV.undef f0]) (want:=[]) (by kernel_rfl) (aG (aN f1)<|aG (dM a) q9017)
      ·refine aU (fun q=>?_) (fun q=>?_)
       ·refine aA fun f2 f3=>?_;intro h;obtain rfl:=b9 h;exact aK (hs:=q8017 ++ [.dec false,.run 4,.val (.str p),.dec true,.run 2,.aM,.run 3,.cA AV.undef f2]) (want:=[]) (by kernel_rfl) (aG (aN f3)<|aG q<|aG m<|aG (cL a) q9017)
       ·intro h;obtain rfl:=b9 h;exact aK (hs:=q8017 ++ [.dec false,.run 4,.val (.str p),.dec false,.run 2,.aM]) (want:=[]) (by kernel_rfl) (aG (bF q)<|aG m<|aG (cL a) q9017)
    ·refine aA fun _o f4=>?_;have q9018:=aG (gO n j f4)<|aG (bF k) q9015
     let q8018:List Hint:=q8015 ++ [.dec false,.fT [1,4,5,6,7,15,16,95] .normal [] j,.run 1]
     refine aU (fun s=>?_) (fun s=>?_)
     ·intro h;obtain rfl:=b9 h;exact aK (hs:=q8018 ++ [.dec false,.run 2,.aM]) (want:=[]) (by kernel_rfl) (aG (zO s) q9018)
     ·refine aA fun k7 t=>aA fun u f5=>?_
      obtain rfl:=cC f5;have q9019:=aG t<|aG (wT s) q9018
      let q8019:List Hint:=q8018 ++ [.dec true,.run 3,.val (.str u)]
      refine aU (fun b=>?_) (fun b=>?_)
      ·refine aA fun f6 f7=>?_;intro h;obtain rfl:=b9 h;exact aK (hs:=q8019 ++ [.dec true,.run 3,.aM,.run 3,.cA AV.undef f6]) (want:=[]) (by kernel_rfl) (aG (aN f7)<|aG (dM b) q9019)
      ·refine aU (fun v=>?_) (fun v=>?_)
       ·refine aA fun f8 f9=>?_;intro h;obtain rfl:=b9 h;exact aK (hs:=q8019 ++ [.dec false,.run 4,.val (.str u),.dec true,.run 2,.aM,.run 3,.cA AV.undef f8]) (want:=[]) (by kernel_rfl) (aG (aN f9)<|aG v<|aG t<|aG (cL b) q9019)
       ·intro h;obtain rfl:=b9 h;exact aK (hs:=q8019 ++ [.dec false,.run 4,.val (.str u),.dec false,.run 2,.aM]) (want:=[]) (by kernel_rfl) (aG (bF v)<|aG t<|aG (cL b) q9019)
   ·have q9020:=aG Y<|aG (wT i) q9014
    let q8020:List Hint:=q8014 ++ [.dec true,.run 2,.val (.str Z),.run 1]
    refine aU (fun w=>?_) (fun w=>?_)
    ·refine aA fun g0 g1=>aA fun k8 g2=>aA fun o g3=>?_
     obtain⟨g4,g5,g6,g7,g8,g9⟩:=o;obtain rfl:=aO g3;refine aA fun o h0=>?_;obtain⟨h1,h2,h3,h4,h5,h6,h7⟩:=o;refine aA fun o h8=>?_;obtain⟨h9,i0⟩:=o;refine aA fun o i1=>?_;obtain⟨i2,i3,x⟩:=o;refine aA fun k9 i4=>aA fun i5 i6=>?_
     obtain rfl:=cC i6;have q9021:=aG i4<|aG (iI n i1)<|aG (pU n h8)<|aG (pV (n+4001) h0)<|aG g2<|aG (aN g1)<|aG (zO w) q9020
     let q8021:List Hint:=q8020 ++ [.dec false,.run 2,.aM,.run 2,.cA AV.undef g0,.val (bD g4 g5 g6 g7 g8 g9),.call (bD h1 h2 h3 h4 h5 h6) h7,.call (.str h9) i0,.run 4,.nW [1,4,5,6,7,14,15,16,73] .normal [(15,(.str i2)),(16,(.str i3))] x,.run 3,.val (.str i5)]
     refine aU (fun y=>?_) (fun y=>?_)
     ·refine aA fun i7 i9=>?_;have q9022:=aG (iA n i9)<|aG y q9021
      let q8022:List Hint:=q8021 ++ [.dec true,.fT [1,4,5,6,7,15,16,95] .normal [] i7,.run 1]
      refine aU (fun z=>?_) (fun z=>?_)
      ·intro h;obtain rfl:=b9 h;exact aK (hs:=q8022 ++ [.dec false,.run 2,.aM]) (want:=[]) (by kernel_rfl) (aG (zO z) q9022)
      ·refine aA fun l0 A=>aA fun B j0=>?_
       obtain rfl:=cC j0;have q9023:=aG A<|aG (wT z) q9022
       let q8023:List Hint:=q8022 ++ [.dec true,.run 3,.val (.str B)]
       refine aU (fun c=>?_) (fun c=>?_)
       ·refine aA fun j1 j2=>?_;intro h;obtain rfl:=b9 h;exact aK (hs:=q8023 ++ [.dec true,.run 3,.aM,.run 3,.cA AV.undef j1]) (want:=[]) (by kernel_rfl) (aG (aN j2)<|aG (dM c) q9023)
       ·refine aU (fun C=>?_) (fun C=>?_)
        ·refine aA fun j3 j4=>?_;intro h;obtain rfl:=b9 h;exact aK (hs:=q8023 ++ [.dec false,.run 4,.val (.str B),.dec true,.run 2,.aM,.run 3,.cA AV.undef j3]) (want:=[]) (by kernel_rfl) (aG (aN j4)<|aG C<|aG A<|aG (cL c) q9023)
        ·intro h;obtain rfl:=b9 h;exact aK (hs:=q8023 ++ [.dec false,.run 4,.val (.str B),.dec false,.run 2,.aM]) (want:=[]) (by kernel_rfl) (aG (bF C)<|aG A<|aG (cL c) q9023)
     ·refine aA fun _o j5=>?_;have q9024:=aG (gO n x j5)<|aG (bF y) q9021
      let q8024:List Hint:=q8021 ++ [.dec false,.fT [1,4,5,6,7,15,16,95] .normal [] x,.run 1]
      refine aU (fun D=>?_) (fun D=>?_)
      ·intro h;obtain rfl:=b9 h;exact aK (hs:=q8024 ++ [.dec false,.run 2,.aM]) (want:=[]) (by kernel_rfl) (aG (zO D) q9024)
      ·refine aA fun l1 E=>aA fun F j6=>?_
       obtain rfl:=cC j6;have q9025:=aG E<|aG (wT D) q9024
       let q8025:List Hint:=q8024 ++ [.dec true,.run 3,.val (.str F)]
       refine aU (fun d=>?_) (fun d=>?_)
       ·refine aA fun j7 j8=>?_;intro h;obtain rfl:=b9 h;exact aK (hs:=q8025 ++ [.dec true,.run 3,.aM,.run 3,.cA AV.undef j7]) (want:=[]) (by kernel_rfl) (aG (aN j8)<|aG (dM d) q9025)
       ·refine aU (fun G=>?_) (fun G=>?_)
        ·refine aA fun j9 k0=>?_;intro h;obtain rfl:=b9 h;exact aK (hs:=q8025 ++ [.dec false,.run 4,.val (.str F),.dec true,.run 2,.aM,.run 3,.cA AV.undef j9]) (want:=[]) (by kernel_rfl) (aG (aN k0)<|aG G<|aG E<|aG (cL d) q9025)
        ·intro h;obtain rfl:=b9 h;exact aK (hs:=q8025 ++ [.dec false,.run 4,.val (.str F),.dec false,.run 2,.aM]) (want:=[]) (by kernel_rfl) (aG (bF G)<|aG E<|aG (cL d) q9025)
    ·intro h;obtain rfl:=b9 h;exact aK (hs:=q8020 ++ [.dec true,.run 2,.aM]) (want:=[]) (by kernel_rfl) (aG (wT w) q9020)
  ·obtain rfl:=bF g;intro h;obtain rfl:=b9 h;exact aK (hs:=q8013 ++ [.nW [1,4,5,6,7,8,9,10,11,12,13] .normal [(12,(.bool false))] e,.run 8,.aM]) (want:=[]) (by kernel_rfl) (q9013)
 ·obtain rfl:=bF f;intro h;obtain rfl:=b9 h;exact aK (hs:=q8012 ++ [.call (.tuple [(.str N),(.str O),(bD P Q S T U V),(.bool false)]) W,.run 8,.cA AV.undef X,.run 3,.nW [1,4,5,6,7,8,9,10,11,12,13] .normal [(12,(.bool b7))] e,.run 6,.aM]) (want:=[]) (by kernel_rfl) (q9013)
def eA (R : Nat) (c : AV) (d : Nat) (e : Nat) (a : AV) : Nat → Int → St → Option ((St))
 | 0,_,_=>none
 | r + 1, b, f =>
   (lenOf a).bind fun n6730=>
   if(b<(n6730:Int)) then
    (eH R c d e a b f).bind fun g=>
    eA R c d e a r (IntKind.wrap .i64 (b+1)) g
   else
    some f
def jB (o:(St)):cE×List (Nat×AV)×St:=match o with
 | a0=>((.exit 0),[],a0)
theorem sC (R n:Nat)(d:AV)(f:Nat)(g:Nat)(i:AV):∀(r:Nat) (a:Int) (b:St) (o:(St)),eA R d f g i r a b=some o →
 jL 118 (jA (fun fr k=>cZ C0 (aW C0 bK R (n+8002)) 12 R none (dA C0.P 12 [1,1,1,0,1,0,0]) fr k) r) (dI (dA C0.P 12 [1,1,1,0,1,0,0])) [(1,d),(4,(.ref f 0)),(5,(.ref g 0)),(6,i),(7,(.int .i64 a))] b (jB o).1 (jB o).2.1 (jB o).2.2:=by
 intro r
 induction r with
 | zero=>intro a b o h; exact nomatch h
 | succ r ih =>
   intro a b o
   unfold eA;refine aA fun n6730 j=>?_;refine aU (fun c=>?_) (fun c=>?_)
   ·refine aA fun l m=>?_;intro h;exact cS (aK (hs:=[.run 2,.val (.int .i64 (n6730:Int)),.dec true,.aM,.nW [1,4,5,6,7] .normal [] l,.run 3]) (want:=[1,4,5,6,7]) (by kernel_rfl) (.cons (q9 n m)<|.cons (decide_eq_true c)<|.cons (cV (P:=C0.P) (t:=26) (e:=28) (by kernel_rfl) j) .nil)) (ih (IntKind.wrap .i64 (a+1)) l _ h)
   ·intro h;obtain rfl:=b9 h;exact bI (aK (hs:=[.run 2,.val (.int .i64 (n6730:Int)),.dec false,.aM]) (want:=[]) (by kernel_rfl) (.cons (decide_eq_false c)<|.cons (cV (P:=C0.P) (t:=26) (e:=28) (by kernel_rfl) j) .nil)) (by kernel_rfl)
def iF (R:Nat)(a:AV)(b:Nat)(c:Nat)(d:AV)(e:St):Option (St):=
 (eA R a b c d R 0 e).bind fun f=>
 some f
theorem sI {R:Nat}(n:Nat){a:AV}{b:Nat}{c:Nat}{d:AV}{e:St}{r:St}(h:iF R a b c d e=some r):
 oE 118 bK R (n+8002) 12 [1,1,1,0,1] [(1,a),(4,(.ref b 0)),(5,(.ref c 0)),(6,d),(7,(.int .i64 0))] e .normal [] r:=by
 revert h;unfold iF;refine aA fun f g=>?_;intro h;obtain rfl:=b9 h;exact aK (hs:=[.aM,.abs [1,4,5,6,7] (.exit 0) [] f]) (want:=[]) (by kernel_rfl) (aG (bY (sC R n a b c d R 0 e _ g)) eE)
def jJ (R:Nat)(e:Int)(f:List UInt8)(g:Int)(h:Bool)(i:Int)(j:List UInt8)(k:AV)(l:AV)(m:AV)(n:AV)(o:AV)(p:St):Option (List UInt8×List UInt8×List UInt8×St):=
 (oQ 28 (.agg [(.int .i64 e),(.str f),(.int .i64 g),(.bool h),(.int .i64 i),(.str j),k,l,m,n]) p).bind fun(q,a)=>
 (storeAt C0.P (St.push (St.push a (.cells 35 true [(.str []),(.str []),(.str [])])) (.cells 35 true [(.str []),(.str []),(.str [])])) 35 (.ref (St.next (St.push a (.cells 35 true [(.str []),(.str []),(.str [])]))) 0) (.agg [(.str []),(.str []),(.str [])])).bind fun b=>
 (loadAt C0.P b 28 q).bind fun r=>
 (aD r).bind fun(s,t,u,v,w,x,y,z,A,B)=>
 (jZ R s t u v w x y z A B b).bind fun(C,D)=>
 (iF R o (St.next a) (St.next (St.push a (.cells 35 true [(.str []),(.str []),(.str [])]))) C D).bind fun c=>
 (loadAt C0.P c 35 (.ref (St.next (St.push a (.cells 35 true [(.str []),(.str []),(.str [])]))) 0)).bind fun E=>
 (qT E).bind fun(F,G,H)=>
 (storeAt C0.P c 35 (.ref (St.next a) 0) (.agg [(.str F),(.str G),(.str H)])).bind fun d=>
 (loadAt C0.P d 35 (.ref (St.next a) 0)).bind fun I=>
 (qT I).bind fun(J,K,L)=>
 some (J,K,L,d)
theorem yH {R:Nat}(n:Nat){a:Int}{b:List UInt8}{c:Int}{d:Bool}{e:Int}{f:List UInt8}{g:AV}{i:AV}{j:AV}{k:AV}{l:AV}{m:St}{r:List UInt8×List UInt8×List UInt8×St}(h:jJ R a b c d e f g i j k l m=some r):
 aR (aW C0 bK R (n+8003)) false 12 [(.agg [(.int .i64 a),(.str b),(.int .i64 c),(.bool d),(.int .i64 e),(.str f),g,i,j,k]),l] m (.agg [.str r.1,.str r.2.1,.str r.2.2.1]) r.2.2.2:=by
 revert h;unfold jJ;refine aA fun o p=>?_;obtain⟨q,s⟩:=o;refine aA fun t u=>aA fun Z v=>aA fun o w=>?_
 obtain⟨x,y,z,A,B,C,D,E,F,G⟩:=o;obtain rfl:=aC w;refine aA fun o H=>?_;obtain⟨I,J⟩:=o;refine aA fun K L=>aA fun a0 M=>aA fun o N=>?_
 obtain⟨O,P,Q⟩:=o;obtain rfl:=tD N;refine aA fun S T=>aA fun a1 U=>aA fun o V=>?_
 obtain⟨W,X,Y⟩:=o;obtain rfl:=tD V;intro h;obtain rfl:=b9 h;exact dE (hs:=[.cA q s,.run 3,.cA AV.undef t,.val (aJ x y z A B C D E F G),.call I J,.run 2,.nW [1,4,5,6,7] .normal [] K,.val (DH O P Q),.cA AV.undef S,.val (DH W X Y)]) (by kernel_rfl) (aG U<|aG (aN T)<|aG M<|aG (sI n L)<|aG (oO (n+4001) H)<|aG v<|aG (aN u)<|aG (pE p) eE)
end
end Go.Proofs.YthodfojhbbendaaGreatDoor
end
section
set_option linter.all false
set_option maxRecDepth 100000
set_option maxHeartbeats 1000000
namespace Go.Proofs.YthodfojhbbendaaGreatDoor
open Go Go.Ev
noncomputable section
attribute [local congr] n7 sW
instance t5:nT C0.P 5 false 1:=⟨by kernel_rfl,by kernel_rfl⟩
theorem QS {id m k off:Nat}{cap:Option Nat}(h:k<m):bA C0.P 90 (.j9 id off m 1 cap) (.int .i64 (k:Int))=.some (.ref id (off+k)):=by
 obtain⟨e,bs,z,t1,t2,t3,t4,t5,t6,t7,t8⟩:=(inferInstance:xO C0.P 90 1).ok
 show(C0.P.underlying 90).bind _=_
 rw[t1]
 show(size? C0.P e).bind _=_
 rw[t2]
 show cond _ _ _=_
 rw[eW (show(Nat.blt k m && Nat.beq 1 1)=true by rw[show Nat.blt k m=true from Nat.ble_eq_true_of_le h]; rfl),Nat.mul_one]
theorem QQ {id m k:Nat}{st:St}{t:TypeId}{u:Bool}{cs:List AV}(hg:st.aS.get id=.some (.cells t u cs))(h:k≤m)(hm:m≤cs.length):y8 C0.P st 90 (.j9 id 0 m 1 none) none (.some (.int .i64 (k:Int))) none=.some (.j9 id 0 k 1 none):=by
 obtain⟨e,bs,z,t1,t2,t3,t4,t5,t6,t7,t8⟩:=(inferInstance:xO C0.P 90 1).ok
 unfold y8
 simp only[hg]
 unfold BL
 rw[t1,Option.bind_some]
 simp only[t2,Option.bind_some]
 have c1:(!Nat.beq 1 1 || !Nat.ble m ((cs.length - 0) / 1))=false:=by
  rw[Nat.sub_zero,Nat.div_one,Nat.ble_eq_true_of_le hm]; rfl
 rw[tR c1]
 have e1:within (.int .i64 (k:Int)) ((cs.length - 0) / 1)=.some k:=by
  show cond (Nat.ble k ((cs.length - 0) / 1)) (Option.some k) none=_
  rw[Nat.sub_zero,Nat.div_one,eW (Nat.ble_eq_true_of_le (Nat.le_trans h hm))]
 simp only[bounds,Af,FB,Fe,e1,Option.bind_some,Option.bind_none]
 have c2:(Nat.blt 0 ((cs.length - 0) / 1) || Nat.beq 0 0)=true:=Bool.or_true _
 rw[eW c2,Nat.zero_mul,Nat.sub_zero]
theorem KQ (s:List UInt8):(eO s).length=s.length:=by simp[eO]
theorem Ns {id m:Nat}{st:St}{t:TypeId}{u:Bool}{l:List UInt8}{cap:Option Nat}(hg:st.aS.get id=.some (.cells t u (eO l)))(hm:m≤l.length):strOf st (.j9 id 0 m 1 cap)=.some (l.take m):=by
 show(eD st m (.j9 id 0 m 1 cap) 1).bind _=_
 have c1:(Nat.ble m m && Nat.beq 1 1)=true:=by rw[Nat.ble_eq_true_of_le (Nat.le_refl _)]; rfl
 simp only[eD,hg,eW c1,range?]
 rw[eW (Nat.ble_eq_true_of_le (by rw[KQ]; omega)),List.drop_zero,Nat.mul_one]
 have:(eO l).take m=eO (l.take m):=by unfold eO; rw[List.map_take]
 rw[this]
 exact oG _
theorem Ph {l:List UInt8}{i:Nat}(h:i<l.length):(eO l)[i]? =.some (.int .u8 (l[i].toNat:Int)):=by
 unfold eO
 rw[List.getElem?_map,List.getElem?_eq_getElem h]; rfl
theorem Q8 {s:List UInt8}{st:St}(h:s.length≤30000000):eV (C5 5 s) st=.some (.j9 st.next 0 s.length 1 none,st.push (.cells 5 false (eO s))):=by
 unfold C5
 rw[eW (Nat.ble_eq_true_of_le (show s.length≤iL by unfold iL; omega))]
 rfl
theorem OQ {n:Nat}(h:n≤30000000):IntKind.wrap .i64 (((n+1:Nat):Int) - 1)=(n:Int):=by
 rw[wrap64 (by omega) (by omega)]; omega
theorem Q7 (b:UInt8):IntKind.wrap .u8 ((b.toNat:Int)+1)=((b+1).toNat:Int):=by
 have:b.toNat<256:=b.toNat_lt
 rw[UInt8.toNat_add]
 show((b.toNat:Int)+1) % 256=_
 have:(1:UInt8).toNat=1:=rfl
 rw[this]
 omega
def Cx (s:List UInt8):Nat→Nat
 | 0=>0
 | n+1=>if s[n]? =.some 255 then Cx s n else n+1
theorem EA (s:List UInt8):∀ n,Cx s n≤n
 | 0=>Nat.le_refl _
 | n + 1 => by
   unfold Cx
   split
   ·exact Nat.le_succ_of_le (EA s n)
   ·exact Nat.le_refl _
def uE (s:List UInt8):List UInt8:=match Cx s s.length with
 | 0=>[]
 | n+1=>s.take n ++ [(s[n]?.getD 0)+1]
theorem Q4 {b:UInt8}:((b.toNat:Int)=255)↔b=255:=by
 constructor
 ·intro h
  apply UInt8.toNat_inj.1
  show b.toNat=255
  omega
 ·rintro rfl; rfl
theorem HC {R : Nat} {s : List UInt8} (hs : s.length ≤ 30000000) {st : St} {id : Nat} (hg : st.aS.get id = .some (.cells 5 false (eO s))) {φ : AV × St → Prop} : ∀ (r m : Nat), m ≤ s.length → m < r → φ (.j9 id 0 (Cx s m) 1 none, st) → T φ (iE R r (.j9 id 0 m 1 none) st)
 | 0,_,_,h,_=>absurd h (Nat.not_lt_zero _)
 | r + 1, 0, _, _, hφ => by
   unfold iE
   refine T.step (show lenOf (.j9 id 0 0 1 none)=.some 0 from rfl) ?_
   refine T.gY (by omega) ?_
   exact T.some hφ
 | r + 1, m + 1, hm, hr, hφ => by
   unfold iE
   refine T.step (show lenOf (.j9 id 0 (m+1) 1 none)=.some (m+1) from rfl) ?_
   refine T.fA (by omega) ?_
   rw[OQ (by omega)]
   refine T.step (QS (Nat.lt_succ_self m)) ?_
   rw[Nat.zero_add]
   refine T.step (DD hg (Ph (by omega))) ?_
   refine T.step Pm ?_
   by_cases e:s[m]=255
   ·refine T.fA (Q4.2 e) ?_
    refine T.step (QQ hg (Nat.le_succ m) (by rw[KQ]; exact hm)) ?_
    refine HC hs hg r m (by omega) (by omega) ?_
    have:Cx s (m+1)=Cx s m:=by
     show(if s[m]? =.some 255 then Cx s m else m+1)=_
     rw[if_pos (by rw[List.getElem?_eq_getElem (by omega),e])]
    rw[← this]; exact hφ
   ·refine T.gY (fun h=>e (Q4.1 h)) ?_
    have:Cx s (m+1)=m+1:=by
     show(if s[m]? =.some 255 then Cx s m else m+1)=_
     rw[if_neg]
     rw[List.getElem?_eq_getElem (by omega)]
     exact fun h=>e (Option.some.inj h)
    rw[this] at hφ
    exact T.some hφ
theorem Kd {R:Nat}:∀(r:Nat) (x:AV) (st:St),fE R r x st=iE R r x st
 | 0,_,_=>rfl
 | r + 1, x, st => by
   unfold fE iE
   simp only[Kd r]
theorem OI {s:List UInt8}{n:Nat}(hn:n<s.length){b:UInt8}:(s.set n b).take (n+1)=s.take n ++ [b]:=by
 apply List.ext_getElem?
 intro i
 rw[List.getElem?_take,List.getElem?_append,List.length_take,Nat.min_eq_left (by omega)]
 split <;> rename_i h1
 ·split <;> rename_i h2
  ·rw[List.getElem?_set_ne (by omega),List.getElem?_take,if_pos h2]
  ·have:i=n:=by omega
   subst this
   rw[List.getElem?_set_self (by omega),Nat.sub_self]; rfl
 ·rw[if_neg (by omega),List.getElem?_eq_none (by simp; omega)]
theorem OG {s:List UInt8}{n:Nat}{b:UInt8}:(eO s).set n (.int .u8 (b.toNat:Int))=eO (s.set n b):=by
 unfold eO
 rw[List.map_set]
theorem Oa {s:List UInt8}{n:Nat}(hs:s.length≤30000000)(e:Cx s s.length=n+1){st:St}{id:Nat}(hg:st.aS.get id=.some (.cells 5 false (eO s))){α:Type}{φ:α→Prop}{k:St→Option α}
 (h:T φ (k (st.put id (.cells 5 false (eO (s.set n ((s[n]?.getD 0)+1))))))):
 T φ (Option.bind (bA C0.P 90 (.j9 id 0 (n+1) 1 none) (.int .i64 (IntKind.wrap .i64 (((n+1:Nat):Int) - 1)))) fun x=>Option.bind (loadAt C0.P st 5 x) fun y=>Option.bind (dN .u8 y) fun i=>Option.bind (storeAt C0.P st 5 x (.int .u8 (IntKind.wrap .u8 (i+1)))) fun st1=>k st1):=by
 have hl:=EA s s.length
 rw[OQ (by omega)]
 refine T.step (QS (Nat.lt_succ_self n)) ?_
 rw[Nat.zero_add]
 refine T.step (DD hg (Ph (by omega))) ?_
 refine T.step Pm ?_
 rw[Q7]
 refine T.step (Bj hg (by rw[KQ]; omega) Kq rfl) ?_
 rw[OG]
 rw[List.getElem?_eq_getElem (by omega),Option.getD_some] at h
 exact h
theorem JM {R:Nat}{s:List UInt8}(hs:s.length≤30000000)(hR:100000000<R){st:St}{φ:List UInt8×St→Prop}(h:∀ st1,KN st st1→φ (uE s,st1)):T φ (sN R s st):=by
 unfold sN rN pQ nP
 refine T.step (Q8 hs) ?_
 refine T.bind ?_
 refine T.bind (HC hs (mZ _ _) R s.length (Nat.le_refl _) (by omega) ?_)
 refine T.some ?_
 have hl:=EA s s.length
 rcases e:Cx s s.length with _ | n
 ·refine T.step (show lenOf (.j9 st.next 0 0 1 none)=.some 0 from rfl) ?_
  refine T.gY (by omega) ?_
  refine T.step rfl ?_
  refine T.step (Ns (mZ _ _) (Nat.zero_le _)) ?_
  refine T.some ?_
  have:uE s=s.take 0:=by unfold uE; rw[e]; rfl
  rw[← this]
  exact h _ (by repeat' (first | exact KN.refl | exact KN.refl | refine KN.dX ?_ | refine KN.loc ?_ ?_ | ((try simp only[aB,aE]) <;> omega)))
 ·refine T.step (show lenOf (.j9 st.next 0 (n+1) 1 none)=.some (n+1) from rfl) ?_
  refine T.fA (by omega) ?_
  refine T.bind ?_
  refine T.step (show lenOf (.j9 st.next 0 (n+1) 1 none)=.some (n+1) from rfl) ?_
  refine Oa hs e (mZ _ _) ?_
  refine T.some ?_
  refine T.step (Ns (i7 _ _ _) (by rw[List.length_set]; omega)) ?_
  refine T.some ?_
  rw[OI (by omega)]
  have:uE s=s.take n ++ [(s[n]?.getD 0)+1]:=by unfold uE; rw[e]
  rw[← this]
  exact h _ (by repeat' (first | exact KN.refl | exact KN.refl | refine KN.dX ?_ | refine KN.loc ?_ ?_ | ((try simp only[aB,aE]) <;> omega)))
theorem JC {R:Nat}{s:List UInt8}(hs:s.length≤30000000)(hR:100000000<R){st:St}{φ:List UInt8×St→Prop}(h:∀ st1,KN st st1→φ (uE s,st1)):T φ (gW R s st):=by
 unfold gW kC
 refine T.step (Q8 hs) ?_
 refine T.bind ?_
 refine T.bind ?_
 rw[Kd]
 refine(HC hs (mZ _ _) R s.length (Nat.le_refl _) (by omega) ?_)
 refine T.some ?_
 have hl:=EA s s.length
 rcases e:Cx s s.length with _ | n
 ·refine T.step (show lenOf (.j9 st.next 0 0 1 none)=.some 0 from rfl) ?_
  refine T.fA (by omega) ?_
  refine T.some ?_
  have:uE s=[]:=by unfold uE; rw[e]
  rw[← this]
  exact h _ (by repeat' (first | exact KN.refl | exact KN.refl | refine KN.dX ?_ | refine KN.loc ?_ ?_ | ((try simp only[aB,aE]) <;> omega)))
 ·refine T.step (show lenOf (.j9 st.next 0 (n+1) 1 none)=.some (n+1) from rfl) ?_
  refine T.gY (by omega) ?_
  refine Oa hs e (mZ _ _) ?_
  refine T.step (Ns (i7 _ _ _) (by rw[List.length_set]; omega)) ?_
  refine T.some ?_
  rw[OI (by omega)]
  have:uE s=s.take n ++ [(s[n]?.getD 0)+1]:=by unfold uE; rw[e]
  rw[← this]
  exact h _ (by repeat' (first | exact KN.refl | exact KN.refl | refine KN.dX ?_ | refine KN.loc ?_ ?_ | ((try simp only[aB,aE]) <;> omega)))
end
end Go.Proofs.YthodfojhbbendaaGreatDoor
end
section
set_option linter.all false
set_option maxRecDepth 100000
set_option maxHeartbeats 1000000
namespace Go.Proofs.YthodfojhbbendaaGreatDoor
open Go Go.Ev
noncomputable section
attribute [local congr] n7 sW
def Fq (s:List UInt8):List UInt8:=s.flatMap fun b=>if b=0 then [0,255] else [b]
def DP (s:List UInt8):List UInt8:=Fq s ++ [0,1]
theorem EK (a b:List UInt8):Fq (a ++ b)=Fq a ++ Fq b:=List.flatMap_append
theorem Ek:∀{s:List UInt8},(∀ k:Nat,s[k]? ≠.some 0)→Fq s=s
 | [],_=>rfl
 | b :: s, h => by
   have h0:b≠0:=fun e=>h 0 (by rw[e]; rfl)
   show(if b=0 then [0,255] else [b]) ++ Fq s=b :: s
   rw[if_neg h0,Ek fun k=>h (k+1)]; rfl
theorem CW:∀ s:List UInt8,(Fq s).length≤2 * s.length
 | []=>Nat.le_refl _
 | b :: s => by
   show((if b=0 then [0,255] else [b]) ++ Fq s).length≤2 * (s.length+1)
   have:=CW s
   rw[List.length_append]
   split <;> simp <;> omega
theorem KE : ∀ (n : Nat) (s : List UInt8), s.length ≤ n → Go.Lib.replaceK [0] [0, 255] (Go.Lib.count s [0]) s = Fq s
 | n, s, hn => by
   have hge:-1≤Go.Lib.index s [0]:=Go.Lib.index_ge s [0]
   by_cases hm:Go.Lib.index s [0]= -1
   ·rw[Go.Lib.count_miss hm]
    rw[Go.Lib.index_one] at hm
    rw[Ek (Go.Lib.indexByte_none hm)]
    rfl
   ·obtain⟨i,hi⟩:∃ i:Nat,Go.Lib.index s [0]=i:=⟨(Go.Lib.index s [0]).toNat,by omega⟩
    rw[Go.Lib.count_hit (by simp) hi,Nat.add_comm 1,Go.Lib.replaceK_hit _ _ _ _ _ hi]
    rw[Go.Lib.index_one] at hi
    obtain⟨h1,h2⟩:=Go.Lib.indexByte_some hi
    have hl:i<s.length:=(List.getElem?_eq_some_iff.1 h1).1
    have e:s=s.take i ++ 0 :: s.drop (i+1):=by
     have:s[i]=0:=(List.getElem?_eq_some_iff.1 h1).2
     rw[← this,← List.drop_eq_getElem_cons hl,List.take_append_drop]
    have e1:Fq (s.take i)=s.take i:=Ek fun k hk=>by
     rw[List.getElem?_take] at hk
     split at hk
     ·rename_i hlt
      exact h2 k hlt hk
     ·cases hk
    cases n with
    | zero=>omega
    | succ n =>
      show s.take i ++ [0,255] ++ Go.Lib.replaceK [0] [0,255] (Go.Lib.count (s.drop (i+1)) [0]) (s.drop (i+1))=Fq s
      rw[KE n (s.drop (i+1)) (by rw[List.length_drop]; omega)]
      rw[show Fq s=Fq (s.take i ++ 0 :: s.drop (i+1)) from congrArg Fq e,EK,e1]
      show _=s.take i ++ ([0,255] ++ Fq (s.drop (i+1)))
      rw[List.append_assoc]
theorem JT (s:List UInt8):Go.Lib.replaceAll s [0] [0,255]=Fq s:=by
 unfold Go.Lib.replaceAll Go.Lib.replace
 rw[if_neg (by decide)]
 have:Go.Lib.replaceNum s [0] (-1)=Go.Lib.count s [0]:=if_pos (.inl (by decide))
 rw[this]
 exact KE s.length s (Nat.le_refl _)
structure yG (st:St):Prop where
 num:isNum (st.old 0 0)=true
theorem yG.eq {st st1:St}(h:yG st)(k:st1.old=st.old):yG st1:=⟨by rw[k]; exact h.num⟩
theorem yG.kn {st st1:St}(h:yG st)(k:KN st st1):yG st1:=h.eq k.2.2
theorem P7 {R:Nat}{s:List UInt8}{st:St}(hO:yG st)(hs:s.length≤10000000){φ:List UInt8×St→Prop}(h:φ (DP s,st)):T φ (rG R s st):=by
 unfold rG
 have e:QD R s [0] [0,255] st=.some (Fq s,st):=by
  unfold QD QL
  rw[eW (by rw[hO.num]; simp; omega),Option.map_some,JT]
 refine T.step e ?_
 have:=CW s
 refine T.step (lS (by simp only[List.length_cons,List.length_nil]; omega)) ?_
 exact T.some h
theorem FD {R : Nat} {s : List UInt8} (hs : s.length ≤ 10000000) {φ : List UInt8 → Prop} (h : φ (Fq s)) : ∀ (r i : Nat), i ≤ s.length → s.length - i < r → T φ (eT R s r (Fq (s.take i)) (i : Int))
 | 0,_,_,hr=>absurd hr (Nat.not_lt_zero _)
 | r + 1, i, hi, hr => by
   unfold eT hU
   have el:=CW (s.take i)
   rw[List.length_take] at el
   by_cases hlt:i<s.length
   ·refine T.fA (by omega) ?_
    have e1:IntKind.wrap .i64 ((i:Int)+1)=((i+1:Nat):Int):=by rw[wrap64 (by omega) (by omega)]; omega
    rw[e1]
    refine T.bind ?_
    refine T.step (An (Nat.le_succ i) hlt) ?_
    have e2:(s.take (i+1)).drop i=[s[i]]:=by
     rw[List.take_add_one,List.getElem?_eq_getElem hlt,Option.toList_some,List.drop_append_of_le_length (by rw[List.length_take]; omega),List.drop_eq_nil_of_le (by rw[List.length_take]; omega),List.nil_append]
    rw[e2]
    refine T.step (lS (by simp only[List.length_cons,List.length_nil]; omega)) ?_
    have e3:zK s (i:Int)=.some (s[i].toNat:Int):=by
     show(s[i]?).bind _=_
     rw[List.getElem?_eq_getElem hlt]; rfl
    refine T.step e3 ?_
    have e4:Fq (s.take (i+1))=Fq (s.take i) ++ (if s[i]=0 then [0,255] else [s[i]]):=by
     rw[List.take_add_one,List.getElem?_eq_getElem hlt,Option.toList_some,EK]
     show _ ++ ((if s[i]=0 then [0,255] else [s[i]]) ++ [])=_
     rw[List.append_nil]
    by_cases hz:s[i]=0
    ·refine T.fA (by rw[hz]; rfl) ?_
     refine T.step (lS (by simp only[List.length_append,List.length_cons,List.length_nil]; omega)) ?_
     refine T.some ?_
     have:=FD (R:=R) hs h r (i+1) hlt (by omega)
     rw[e4,if_pos hz] at this
     rw[hz,List.append_assoc]
     exact this
    ·refine T.gY (fun e=>hz (by apply UInt8.toNat_inj.1; show s[i].toNat=0; omega)) ?_
     refine T.some ?_
     have:=FD (R:=R) hs h r (i+1) hlt (by omega)
     rw[e4,if_neg hz] at this
     exact this
   ·refine T.gY (by omega) ?_
    rw[List.take_of_length_le (by omega)]
    exact T.some h
theorem NY {R:Nat}(hR:100000000<R){s:List UInt8}(hs:s.length≤10000000){φ:List UInt8→Prop}(h:φ (DP s)):T φ (fO R s):=by
 unfold fO jH
 refine T.bind ?_
 refine T.bind (FD hs ?_ R 0 (Nat.zero_le _) (by omega))
 refine T.some ?_
 have:=CW s
 refine T.step (lS (by simp only[List.length_cons,List.length_nil]; omega)) ?_
 exact T.some h
def b8 (n:Nat):UInt8:=UInt8.ofNat (n % 256)
def tb (n:Nat):Nat→List UInt8
 | 0=>[]
 | i+1=>b8 (n / 256 ^ i) :: tb n i
theorem Az (n:Nat):∀ i,(tb n i).length=i
 | 0=>rfl
 | i+1=>congrArg (· +1) (Az n i)
theorem MD (n:Nat):((b8 n).toNat:Int)=((n % 256:Nat):Int):=by
 unfold b8
 rw[UInt8.toNat_ofNat']
 congr 1
 omega
theorem OE (n:Nat):IntKind.wrap .u8 (n:Int)=((b8 n).toNat:Int):=by
 rw[MD]
 show(n:Int) % 256=_
 omega
theorem Ni {k:Nat}{b:UInt8}{l:List UInt8}:(List.replicate (k+1) 0 ++ l).set k b=List.replicate k 0 ++ b :: l:=by
 rw[List.replicate_succ',List.append_assoc,List.set_append_right _ _ (by simp),List.length_replicate,Nat.sub_self]
 rfl
theorem P1 (i:Nat):2 ^ (8 * i)=256 ^ i:=by rw[Nat.pow_mul]
theorem M1 {R : Nat} {n : Nat} {id : Nat} {φ : St → Prop} {st0 : St} (h : ∀ st, KN st0 st → st.aS.get id = .some (.cells 5 true (eO (tb n 8))) → φ st) (hid : st0.next ≤ id) :
 ∀(r i:Nat) {st:St},i≤8→8 - i<r→KN st0 st→st.aS.get id=.some (.cells 5 true (eO (List.replicate (8 - i) 0 ++ tb n i)))→T φ (jP R (n:Int) (.j9 id 0 8 1 (.some 8)) 8 r (i:Int) st)
 | 0,_,_,_,hr,_,_=>absurd hr (Nat.not_lt_zero _)
 | r + 1, i, st, hi, hr, hK, hg => by
   unfold jP lC
   by_cases hlt:i<8
   ·refine T.fA (by omega) ?_
    refine T.bind ?_
    have e1:IntKind.wrap .i64 (8 * (i:Int))=((8 * i:Nat):Int):=by rw[wrap64 (by omega) (by omega)]; omega
    rw[e1]
    have e2:pA .shr .u64 (n:Int) .i64 ((8 * i:Nat):Int)=.some (.int .u64 ((n / 256 ^ i:Nat):Int)):=by
     show(if((8 * i:Nat):Int)<0 then none else Option.some (AV.int .u64 ((n:Int).fdiv (2 ^ (min ((8 * i:Nat):Int).toNat 64)))))=_
     rw[if_neg (by omega),Int.toNat_natCast,Nat.min_eq_left (by omega)]
     congr 2
     rw[Int.fdiv_eq_ediv_of_nonneg _ (Int.le_of_lt (Int.pow_pos (by decide)))]
     rw[← P1]
     norm_cast
    refine T.step e2 ?_
    refine T.step Pm ?_
    have e3:IntKind.wrap .i64 (7 - (i:Int))=((7 - i:Nat):Int):=by rw[wrap64 (by omega) (by omega)]; omega
    rw[e3]
    refine T.step (QS (by omega)) ?_
    rw[OE,Nat.zero_add]
    refine T.step (Bj hg (by rw[KQ,List.length_append,List.length_replicate,Az]; omega) Kq rfl) ?_
    refine T.some ?_
    have e4:IntKind.wrap .i64 ((i:Int)+1)=((i+1:Nat):Int):=by rw[wrap64 (by omega) (by omega)]; omega
    rw[e4]
    refine M1 h hid r (i+1) hlt (by omega) (hK.loc hid) ?_
    rw[i7,OG,show 8 - i=(7 - i)+1 from by omega,Ni,show 8 - (i+1)=7 - i from by omega]
    rfl
   ·refine T.gY (by omega) ?_
    have:i=8:=by omega
    subst this
    exact T.some (h st hK hg)
theorem Lp {R:Nat}(hR:100000000<R){n:Nat}{st:St}{φ:List UInt8×St→Prop}(h:∀ st1,KN st st1→φ (tb n 8,st1)):T φ (tX R (n:Int) st):=by
 unfold tX oM
 have e:eV (pB C0.P 90 (.int .i64 8) (.int .i64 8)) st=.some (.j9 st.next 0 8 1 (.some 8),st.push (.cells 5 true (eO (List.replicate 8 0)))):=by kernel_rfl
 refine T.step e ?_
 refine T.step (show lenOf (.j9 st.next 0 8 1 (.some 8))=.some 8 from rfl) ?_
 refine T.bind ?_
 refine T.bind (M1 (st0:=st) (id:=st.next) (fun st1 k hg=>?_) (Nat.le_refl _) R 0 (Nat.zero_le _) (by omega) (KN.refl.dX) (mZ _ _))
 refine T.some ?_
 refine T.step (Ns hg (by rw[Az]; exact Nat.le_refl _)) ?_
 rw[List.take_of_length_le (by rw[Az]; exact Nat.le_refl _)]
 exact T.some (h st1 k)
theorem Mb {f:Bool}{b:UInt8}{st:St}(hf:f=false):eV (aY C0.P f 90 1 [(0,(.int .u8 (b.toNat:Int)))]) st=.some (.sl st.next 1 1 1 (.some 1) [.int .u8 (b.toNat:Int)],st.push (.nE 1)):=by
 subst hf
 exact zJ (P:=C0.P) (t:=90) (sz:=1) st rfl rfl (by decide)
theorem N0 {b:UInt8}{st:St}{id:Nat}:strOf st (.sl id 1 1 1 (.some 1) [.int .u8 (b.toNat:Int)])=.some [b]:=by
 show(bytesOf [.int .u8 (b.toNat:Int)])=_
 exact oG [b]
theorem Hv {R : Nat} {n : Nat} (hn : n < 18446744073709551616) {φ : List UInt8 × St → Prop} {st0 : St} (h : ∀ st, KN st0 st → φ (tb n 8, st)) :
 ∀(r i:Nat) {st:St},i≤8→8 - i<r→KN st0 st→T φ (eN R r ((n / 256 ^ i:Nat):Int) (tb n i) (i:Int) st)
 | 0,_,_,_,hr,_=>absurd hr (Nat.not_lt_zero _)
 | r + 1, i, st, hi, hr, hK => by
   unfold eN gK
   by_cases hlt:i<8
   ·refine T.fA (by omega) ?_
    refine T.bind ?_
    have e1:∀ m:Nat,Int.tmod (m:Int) 256=((m % 256:Nat):Int):=fun m=>by
     rw[Int.tmod_eq_emod_of_nonneg (by omega)]; omega
    have e2:∀ m:Nat,m≤n→IntKind.wrap .u64 (Int.tdiv (m:Int) 256)=((m / 256:Nat):Int):=fun m hm=>by
     rw[Int.tdiv_eq_ediv_of_nonneg (by omega)]
     show((m:Int) / 256) % 18446744073709551616=_
     omega
    have q:n / 256 ^ (i+1)=n / 256 ^ i / 256:=by rw[Nat.pow_succ,Nat.div_div_eq_div_mul]
    have q2:n / 256 ^ i≤n:=Nat.div_le_self _ _
    rw[e1,e2 _ q2,← q,OE,show b8 (n / 256 ^ i % 256)=b8 (n / 256 ^ i) from by unfold b8; rw[Nat.mod_mod]]
    refine T.step (Mb rfl) ?_
    refine T.step N0 ?_
    refine T.step (lS (by rw[Az]; simp only[List.length_cons,List.length_nil]; omega)) ?_
    refine T.some ?_
    have e4:IntKind.wrap .i64 ((i:Int)+1)=((i+1:Nat):Int):=by rw[wrap64 (by omega) (by omega)]; omega
    rw[e4]
    exact Hv hn h r (i+1) hlt (by omega) hK.dX
   ·refine T.gY (by omega) ?_
    have:i=8:=by omega
    subst this
    exact T.some (h st hK)
theorem NS {R:Nat}(hR:100000000<R){n:Nat}(hn:n<18446744073709551616){st:St}{φ:List UInt8×St→Prop}(h:∀ st1,KN st st1→φ (tb n 8,st1)):T φ (kK R (n:Int) st):=by
 unfold kK j7
 refine T.bind ?_
 have:=Hv (R:=R) hn (φ:=fun a=>T (fun a=>T φ (.some (a.1,a.2))) (.some (a.1,a.2))) (fun st1 k=>T.some (T.some (h st1 k))) R 0 (Nat.zero_le _) (by omega) (KN.refl (st:=st))
 rw[Nat.pow_zero,Nat.div_one] at this
 exact T.bind this
theorem Q5 {n : Nat} (h : n < 18446744073709551616) : n ^^^ 9223372036854775808 = (n + 9223372036854775808) % 18446744073709551616 := by
 rcases Nat.lt_or_ge n 9223372036854775808 with h1 | h1
 ·rw[Nat.mod_eq_of_lt (by omega)]
  have e:(9223372036854775808:Nat)=2 ^ 63:=by decide
  apply Nat.eq_of_testBit_eq
  intro i
  rw[Nat.testBit_xor,e,Nat.testBit_two_pow,Nat.add_comm]
  by_cases hi:63=i
  ·subst hi
   rw[Nat.testBit_two_pow_add_eq,Nat.testBit_lt_two_pow (by rw[← e]; exact h1)]
   rfl
  ·rw[decide_eq_false hi,Bool.xor_false]
   rcases Nat.lt_or_ge i 63 with h2 | h2
   ·rw[Nat.testBit_two_pow_add_gt h2]
   ·have h3:63<i:=by omega
    have q1:n<2 ^ i:=Nat.lt_of_lt_of_le (by rw[← e]; exact h1) (Nat.pow_le_pow_right (by decide) (Nat.le_of_lt h3))
    have q2:2 ^ 63+n<2 ^ i:=Nat.lt_of_lt_of_le (show 2 ^ 63+n<2 ^ 64 by omega) (Nat.pow_le_pow_right (by decide) h3)
    rw[Nat.testBit_lt_two_pow q1,Nat.testBit_lt_two_pow q2]
 ·obtain⟨m,rfl⟩:∃ m,n=9223372036854775808+m:=⟨n - 9223372036854775808,by omega⟩
  have e:(9223372036854775808:Nat)=2 ^ 63:=by decide
  have hm:m<9223372036854775808:=by omega
  have q:(9223372036854775808+m+9223372036854775808) % 18446744073709551616=m:=by omega
  rw[q]
  apply Nat.eq_of_testBit_eq
  intro i
  rw[Nat.testBit_xor,e,Nat.testBit_two_pow]
  by_cases hi:63=i
  ·subst hi
   rw[Nat.testBit_two_pow_add_eq,Nat.testBit_lt_two_pow (by rw[← e]; exact hm)]
   rfl
  ·rw[decide_eq_false hi,Bool.xor_false]
   rcases Nat.lt_or_ge i 63 with h2 | h2
   ·rw[Nat.testBit_two_pow_add_gt h2]
   ·have h3:63<i:=by omega
    have q1:m<2 ^ i:=Nat.lt_of_lt_of_le (by rw[← e]; exact hm) (Nat.pow_le_pow_right (by decide) (Nat.le_of_lt h3))
    have q2:2 ^ 63+m<2 ^ i:=Nat.lt_of_lt_of_le (show 2 ^ 63+m<2 ^ 64 by omega) (Nat.pow_le_pow_right (by decide) h3)
    rw[Nat.testBit_lt_two_pow q1,Nat.testBit_lt_two_pow q2]
def OD (n:Int):Nat:=((IntKind.wrap .u64 n+9223372036854775808) % 18446744073709551616).toNat
theorem wrap_u64 (n:Int):IntKind.wrap .u64 n=n % 18446744073709551616:=rfl
theorem PV (n:Int):OD n<18446744073709551616:=by unfold OD; omega
theorem NM (n:Int):IntKind.wrap .u64 (IntKind.wrap .u64 n+9223372036854775808)=(OD n:Int):=by
 rw[wrap_u64]
 unfold OD
 omega
theorem O2 (n:Int):PE .u64 (IntKind.wrap .u64 n) 9223372036854775808=(OD n:Int):=by
 have h1:0≤IntKind.wrap .u64 n∧IntKind.wrap .u64 n<18446744073709551616:=by rw[wrap_u64]; omega
 obtain⟨m,hm⟩:∃ m:Nat,IntKind.wrap .u64 n=m:=⟨(IntKind.wrap .u64 n).toNat,by omega⟩
 unfold OD
 rw[hm] at h1 ⊢
 unfold PE
 rw[wrap_u64]
 show(((BitVec.ofInt 64 (m:Int) ^^^ BitVec.ofInt 64 9223372036854775808).toNat:Nat):Int) % 18446744073709551616=_
 rw[BitVec.toNat_xor]
 have e1:(BitVec.ofInt 64 (m:Int)).toNat=m:=by
  rw[BitVec.toNat_ofInt]; omega
 have e2:(BitVec.ofInt 64 9223372036854775808).toNat=9223372036854775808:=by decide
 rw[e1,e2,Q5 (by omega)]
 omega
end
end Go.Proofs.YthodfojhbbendaaGreatDoor
end
