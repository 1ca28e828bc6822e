/- PlanChooses, part 11 of 11 of its proof (what is proved: whatever the text is, the law answers true; conditions: those each theorem states). Joined and shortened by a program. In order: PnZ | SxI | SxJ | SxM | SynL | SxO | SynP | SynQ | SynR | SynU | SynV | SynW | SynXc | SynXd | PnJ: Both plans, of whatever expression and whatever indexes. | PnK: PlanChooses: whatever the text and the indexes are, the law answers true. | PnL: PlanChooses: the walk, out of what the row tells of the world's own memory: a number, and  -/
import Derived.Test.YthodfojhbbendaaGreatDoorPi
import Derived.Test.YthodfojhbbendaaGreatDoorPj
import Derived.Test.YthodfojhbbendaaGreatDoorPg
import Derived.Test.YthodfojhbbendaaGreatDoorPh
import Derived.Lib.ParseIntBTie
import Derived.Test.YthodfojhbbendaaGreatDoorRows
import Derived.WalkKit
import Derived.ProofKit
import Derived.LaidMore
import Derived.OpenShut
import Derived.ChangeOld
import Derived.Below
import Derived.Stop.Joined
import Derived.MakeChecks
section
set_option linter.all false
set_option maxRecDepth 100000
namespace Go.Proofs.YthodfojhbbendaaGreatDoor
open Go Go.Ev
noncomputable section
theorem B8 (R n:Nat)(st:St)(r:Bool)(h:Jb R=some r):aR (aW C0 bK R (n+1)) false 10 [] st (.bool r) st:=by
 obtain rfl:=b9 h;exact kQ (by kernel_rfl) st
def jM (R : Nat) (d : List UInt8) (a : St) : Option (Int × List UInt8 × Int × Bool × Int × List UInt8 × AV × AV × AV × AV × Bool × St) :=
 if((List.length d:Int)>1000) then
  (storeAt C0.P (St.push a (.cells 28 true [(.int .i64 0),(.str []),(.int .i64 0),(.bool false),(.int .i64 0),(.str []),AV.aF,AV.aF,AV.aF,AV.aF])) 28 (.ref (St.next a) 0) (.agg [(.int .i64 0),(.str []),(.int .i64 0),(.bool false),(.int .i64 0),(.str []),AV.aF,AV.aF,AV.aF,AV.aF])).bind fun e=>
  (loadAt C0.P e 28 (.ref (St.next a) 0)).bind fun r=>
  (aD r).bind fun(s,t,u,v,w,x,y,z,A,B)=>
  some (s,t,u,v,w,x,y,z,A,B,false,e)
 else
  (lB [68,69,76,69,84,69,32,70,82,79,77,32,116,32,87,72,69,82,69,32] d).bind fun C=>
  (rK R C (St.push a (.cells 28 true [(.int .i64 0),(.str []),(.int .i64 0),(.bool false),(.int .i64 0),(.str []),AV.aF,AV.aF,AV.aF,AV.aF]))).bind fun(D,E,F,G,H,I,J,K,L,M,N,O,Q,S,T,U,V,W,X,Y,Z,a0,a1,a2,a3,a4,a5,a6,a7,a8,a9,d4,b0,b)=>
  (storeAt C0.P (St.push b (.cells 58 true [(.int .i64 0),(.str []),(.str []),(.int .i64 0),(.str []),(.int .i64 0),(.bool false),(.int .i64 0),(.str []),AV.aF,AV.aF,AV.aF,AV.aF,AV.aF,AV.aF,(.int .i64 0),(.str []),(.int .i64 0),(.bool false),(.int .i64 0),(.str []),AV.aF,AV.aF,AV.aF,AV.aF,AV.aF,(.bool false),(.bool false),(.str []),(.bool false),(.int .i64 0)])) 58 (.ref (St.next b) 0) (.agg [(.int .i64 D),(.str E),(.str F),(.int .i64 G),(.str H),(.int .i64 I),(.bool J),(.int .i64 K),(.str L),M,N,O,Q,S,T,(.int .i64 U),(.str V),(.int .i64 W),(.bool X),(.int .i64 Y),(.str Z),a0,a1,a2,a3,a4,(.bool a5),(.bool a6),(.str a7),(.bool a8),(.int .i64 a9)])).bind fun c=>
  (loadAt C0.P c 28 (.ref (St.next b) 15)).bind fun b1=>
  (aD b1).bind fun(f,g,h,i,j,k,l,m,n,o)=>
  if(b0=0) then
   (storeAt C0.P c 28 (.ref (St.next a) 0) (.agg [(.int .i64 f),(.str g),(.int .i64 h),(.bool i),(.int .i64 j),(.str k),l,m,n,o])).bind fun p=>
   (loadAt C0.P p 28 (.ref (St.next a) 0)).bind fun b2=>
   (aD b2).bind fun(b3,b4,b5,b6,b7,b8,b9,c0,c1,c2)=>
   some (b3,b4,b5,b6,b7,b8,b9,c0,c1,c2,true,p)
  else
   (storeAt C0.P c 28 (.ref (St.next a) 0) (.agg [(.int .i64 f),(.str g),(.int .i64 h),(.bool i),(.int .i64 j),(.str k),l,m,n,o])).bind fun q=>
   (loadAt C0.P q 28 (.ref (St.next a) 0)).bind fun c3=>
   (aD c3).bind fun(c4,c5,c6,c7,c8,c9,d0,d1,d2,d3)=>
   some (c4,c5,c6,c7,c8,c9,d0,d1,d2,d3,false,q)
theorem yK {R:Nat}(n:Nat){c:List UInt8}{d:St}{r:Int×List UInt8×Int×Bool×Int×List UInt8×AV×AV×AV×AV×Bool×St}(h:jM R c d=some r):
 aR (aW C0 bK R (n+24007)) false 9 [(.str c)] d (.tuple [(.agg [.int .i64 r.1,.str r.2.1,.int .i64 r.2.2.1,.bool r.2.2.2.1,.int .i64 r.2.2.2.2.1,.str r.2.2.2.2.2.1,r.2.2.2.2.2.2.1,r.2.2.2.2.2.2.2.1,r.2.2.2.2.2.2.2.2.1,r.2.2.2.2.2.2.2.2.2.1]),(.bool r.2.2.2.2.2.2.2.2.2.2.1)]) r.2.2.2.2.2.2.2.2.2.2.2:=by
 revert h;unfold jM;refine aU (fun a=>?_) (fun a=>?_)
 ·refine aA fun e f=>aA fun f1 g=>aA fun o i=>?_
  obtain⟨j,k,l,m,p,q,s,t,u,v⟩:=o;obtain rfl:=aC i;intro h;obtain rfl:=b9 h;exact dE (hs:=[.run 4,.dec true,.aM,.run 1,.cA AV.undef e,.run 1,.val (aJ j k l m p q s t u v)]) (by kernel_rfl) (aG g<|aG (aN f)<|aG (decide_eq_true a) eE)
 ·refine aA fun w x=>aA fun o y=>?_
  obtain⟨z,A,B,C,D,E,F,G,H,I,J,K,L,M,N,O,P,Q,S,T,U,V,W,X,Y,Z,a0,a1,a2,a3,a4,a5,a6,a7⟩:=o;refine aA fun a8 a9=>aA fun f2 b0=>aA fun o b1=>?_
  obtain⟨b2,b3,b4,b5,b6,b7,b8,c0,c1,c2⟩:=o;obtain rfl:=aC b1;have q9001:=aG b0<|aG (aN a9)<|aG (Dp n y)<|aG (fV x)<|aG (decide_eq_false a) eE
  let q8001:List Hint:=[.run 4,.dec false,.aM,.run 1,.val (.str w),.call (.tuple [(aP z A B C D E F G H I J K L M N O P Q S T U V W X Y Z a0 a1 a2 a3 a4),(.int .i64 a5),(.int .i64 a6)]) a7,.run 5,.cA AV.undef a8,.run 3,.val (aJ b2 b3 b4 b5 b6 b7 b8 c0 c1 c2),.run 1]
  refine aU (fun b=>?_) (fun b=>?_)
  ·refine aA fun c3 c4=>aA fun f3 c5=>aA fun o c6=>?_
   obtain⟨c7,c8,c9,d0,d1,d2,d3,d4,d5,d6⟩:=o;obtain rfl:=aC c6;intro h;obtain rfl:=b9 h;exact dE (hs:=q8001 ++ [.dec true,.cA AV.undef c3,.run 1,.val (aJ c7 c8 c9 d0 d1 d2 d3 d4 d5 d6)]) (by kernel_rfl) (aG c5<|aG (aN c4)<|aG (eG b) q9001)
  ·refine aA fun d7 d8=>aA fun f4 d9=>aA fun o e0=>?_
   obtain⟨e1,e2,e3,e4,e5,e6,e7,e8,e9,f0⟩:=o;obtain rfl:=aC e0;intro h;obtain rfl:=b9 h;exact dE (hs:=q8001 ++ [.dec false,.cA AV.undef d7,.run 1,.val (aJ e1 e2 e3 e4 e5 e6 e7 e8 e9 f0)]) (by kernel_rfl) (aG d9<|aG (aN d8)<|aG (dP b) q9001)
def eK (R:Nat)(b:AV)(l:Nat)(c:AV)(d:Int)(a:St):Option (AV×St):=
 (bA C0.P 22 b (.int .i64 d)).bind fun e=>
 (loadAt C0.P a 9 e).bind fun f=>
 (eY f).bind fun g=>
 (eV (aY C0.P (C0.cQ 3) 22 1 [(0,(.str g))]) a).bind fun(h,i)=>
 (cX C0.P (C0.cQ 3) i #[22,22] c h).bind fun(j,k)=>
 some (j,k)
theorem o9 {R:Nat}(n:Nat){a:AV}{b:Nat}{c:AV}{d:Int}{e:St}{r:AV×St}(h:eK R a b c d e=some r):
 oE 60 bK R (n+24007) 3 [1,1,1,1,0,1,0,0,1,0] [(1,a),(5,(.ref b 0)),(7,c),(8,(.int .i64 d))] e .normal [(7,r.1)] r.2:=by
 revert h;unfold eK;refine aA fun f g=>aA fun u i=>aA fun j k=>?_
 obtain rfl:=cC k;refine aA fun o l=>?_;obtain⟨m,p⟩:=o;refine aA fun o q=>?_;obtain⟨s,t⟩:=o;intro h;obtain rfl:=b9 h;exact aK (hs:=[.aM,.run 3,.val f,.val (.str j),.cA m p,.cA s t,.run 1]) (want:=[7]) (by kernel_rfl) (aG q<|aG l<|aG i<|aG g eE)
def cY (R : Nat) (b : AV) (e : Nat) : Nat → AV → Int → St → Option ((AV × St))
 | 0,_,_,_=>none
 | r + 1, c, a, d =>
   (lenOf b).bind fun n6941=>
   if(a<(n6941:Int)) then
    if(a<8) then
     (eK R b e c a d).bind fun(f,g)=>
     cY R b e r f (IntKind.wrap .i64 (a+1)) g
    else
     some (c,d)
   else
    some (c,d)
def gN (o:(AV×St)):cE×List (Nat×AV)×St:=match o with
 | (a0,a1)=>((.exit 0),[(7,a0)],a1)
theorem p8 (R n : Nat) (i : AV) (j : Nat) : ∀ (r : Nat) (b : AV) (a : Int) (c : St) (o : (AV × St)), cY R i j r b a c = some o →
 jL 60 (jA (fun fr k=>cZ C0 (aW C0 bK R (n+24007)) 3 R none (dA C0.P 3 [1,1,1,1,0,1,0,0]) fr k) r) (dI (dA C0.P 3 [1,1,1,1,0,1,0,0])) [(1,i),(5,(.ref j 0)),(7,b),(8,(.int .i64 a))] c (gN o).1 (gN o).2.1 (gN o).2.2:=by
 intro r
 induction r with
 | zero=>intro b a c o h; exact nomatch h
 | succ r ih =>
   intro b a c o
   unfold cY;refine aA fun n6941 f=>?_;refine aU (fun d=>?_) (fun d=>?_)
   ·refine aU (fun g=>?_) (fun g=>?_)
    ·refine aA fun o p=>?_;obtain⟨l,m⟩:=o;intro h;exact cS (aK (hs:=[.run 2,.val (.int .i64 (n6941:Int)),.dec true,.run 2,.dec true,.run 1,.aM,.nW [1,5,7,8] .normal [(7,l)] m,.run 3]) (want:=[1,5,7,8]) (by kernel_rfl) (.cons (o9 n p)<|.cons (decide_eq_true g)<|.cons (decide_eq_true d)<|.cons (cV (P:=C0.P) (t:=22) (e:=9) (by kernel_rfl) f) .nil)) (ih l (IntKind.wrap .i64 (a+1)) m _ h)
    ·intro h;obtain rfl:=b9 h;exact bI (aK (hs:=[.run 2,.val (.int .i64 (n6941:Int)),.dec true,.run 2,.dec false,.run 1,.aM]) (want:=[7]) (by kernel_rfl) (.cons (decide_eq_false g)<|.cons (decide_eq_true d)<|.cons (cV (P:=C0.P) (t:=22) (e:=9) (by kernel_rfl) f) .nil)) (by kernel_rfl)
   ·intro h;obtain rfl:=b9 h;exact bI (aK (hs:=[.run 2,.val (.int .i64 (n6941:Int)),.dec false,.run 2,.aM]) (want:=[7]) (by kernel_rfl) (.cons (decide_eq_false d)<|.cons (cV (P:=C0.P) (t:=22) (e:=9) (by kernel_rfl) f) .nil)) (by kernel_rfl)
def fG (R:Nat)(a:AV)(b:Nat)(c:AV)(d:St):Option (AV×St):=
 (cY R a b R c 0 d).bind fun(e,f)=>
 some (e,f)
theorem pN {R:Nat}(n:Nat){a:AV}{b:Nat}{c:AV}{d:St}{r:AV×St}(h:fG R a b c d=some r):
 oE 60 bK R (n+24007) 3 [1,1,1,1,0,1] [(1,a),(5,(.ref b 0)),(7,c),(8,(.int .i64 0))] d .normal [(7,r.1)] r.2:=by
 revert h;unfold fG;refine aA fun o e=>?_;obtain⟨f,g⟩:=o;intro h;obtain rfl:=b9 h;exact aK (hs:=[.aM,.abs [1,5,7,8] (.exit 0) [(7,f)] g]) (want:=[7]) (by kernel_rfl) (aG (bY (p8 R n a b R c 0 d _ e)) eE)
def gH (R : Nat) (D : List UInt8) (E : AV) (F : St) : Option (Bool × St) :=
 (jM R D F).bind fun(G,H,I,J,K,L,M,N,O,Q,S,a)=>
 (storeAt C0.P (St.push a (.cells 28 true [(.int .i64 0),(.str []),(.int .i64 0),(.bool false),(.int .i64 0),(.str []),AV.aF,AV.aF,AV.aF,AV.aF])) 28 (.ref (St.next a) 0) (.agg [(.int .i64 G),(.str H),(.int .i64 I),(.bool J),(.int .i64 K),(.str L),M,N,O,Q])).bind fun x=>
 if S = true then
  (eV (aY C0.P (C0.cQ 3) 22 0 []) x).bind fun(T,U)=>
  (fG R E (St.next a) T U).bind fun(y,b)=>
  (Jb R).bind fun V=>
  if V = true then
   (loadAt C0.P b 28 (.ref (St.next a) 0)).bind fun W=>
   (aD W).bind fun(c,d,e,f,g,h,i,j,k,l)=>
   (uF R c d e f g h i j k l y b).bind fun(X,Y,Z,z)=>
   (loadAt C0.P z 28 (.ref (St.next a) 0)).bind fun a0=>
   if AV.beq a0 (.agg [(.int .i64 c), (.str d), (.int .i64 e), (.bool f), (.int .i64 g), (.str h), i, j, k, l]) = true then
    (jJ R c d e f g h i j k l y z).bind fun(a1,a2,a3,m)=>
    ((AB C0.P .eql 35 (.tmp 0) (.tmp 1) (.agg [(.str X),(.str Y),(.str Z)]) (.agg [(.str a1),(.str a2),(.str a3)])).bind zP).bind fun a4=>
    if a4 = true then
     (loadAt C0.P m 28 (.ref (St.next a) 0)).bind fun a5=>
     (aD a5).bind fun(n,o,p,q,r,s,t,u,v,w)=>
     (pD R n o p q r s t u v w m).bind fun(a6,A)=>
     (loadAt C0.P A 28 (.ref (St.next a) 0)).bind fun a7=>
     if AV.beq a7 (.agg [(.int .i64 n), (.str o), (.int .i64 p), (.bool q), (.int .i64 r), (.str s), t, u, v, w]) = true then
      (lenOf a6).bind fun n7012=>
      (jZ R n o p q r s t u v w A).bind fun(a8,B)=>
      (lenOf a8).bind fun n7017=>
      if((n7012:Int)=(n7017:Int)) then
        (pD R 0 [] 0 false 0 [] AV.aF AV.aF AV.aF AV.aF B).bind fun(a9,C)=>
        (lenOf a9).bind fun n7023=>
        if((n7023:Int)=0) then
         some (true,C)
        else
         some (false,C)
      else
        some (false,B)
     else
      none
    else
     some (false,m)
   else
    none
  else
   some (false,b)
 else
  (Jb R).bind fun b0=>
  some (b0,x)
theorem u0 {R : Nat} (n : Nat) {j : List UInt8} {k : AV} {l : St} {r : Bool × St} (h : gH R j k l = some r):
 aR (aW C0 bK R (n+24008)) false 3 [(.str j),k] l (.bool r.1) r.2:=by
 revert h;unfold gH;refine aA fun o a1=>?_;obtain⟨m,p,q,s,u,v,w,x,y,z,d9,A⟩:=o;refine aA fun a a2=>?_;have q9002:=aG (aN a2)<|aG (yK n a1) eE
 refine aU (fun c=>?_) (fun c=>?_)
 ·subst c;refine aA fun o a3=>?_;obtain⟨a4,a5⟩:=o;refine aA fun o a6=>?_;obtain⟨a7,b⟩:=o;refine aA fun e0 a8=>?_;have q9003:=aG (B8 R (n+24006) b _ a8)<|aG (pN n a6)<|aG a3 q9002
  let q8002:List Hint:=[.run 2,.call (.tuple [(aJ m p q s u v w x y z),(.bool true)]) A,.run 4,.cA AV.undef a,.run 3,.aM,.cA a4 a5,.run 2,.nW [1,5,7,8] .normal [(7,a7)] b]
  refine aU (fun d=>?_) (fun d=>?_)
  ·subst d;refine aA fun e1 B=>aA fun o a9=>?_
   obtain⟨C,D,E,F,G,H,I,J,K,L⟩:=o;obtain rfl:=aC a9;refine aA fun o b0=>?_;obtain⟨b1,b2,b3,b4⟩:=o;refine aA fun e2 b5=>?_;have q9004:=aG (F5 (n+12001) b0)<|aG B<|aG B q9003
   let q8003:List Hint:=q8002 ++ [.call (.bool true) b,.run 1,.val (aJ C D E F G H I J K L),.run 1,.val (aJ C D E F G H I J K L),.run 1,.call (DH b1 b2 b3) b4]
   refine aU (fun M=>?_) (fun M=>?_)
   ·refine aA fun o b6=>?_;obtain⟨b7,b8,c0,c1⟩:=o;refine aA fun e3 c2=>?_;have q9005:=aG (Nl c2)<|aG (yH (n+16004) b6)<|aG (jQ b5 M) q9004
    let q8004:List Hint:=q8003 ++ [.call (DH b7 b8 c0) c1]
    refine aU (fun f=>?_) (fun f=>?_)
    ·subst f;refine aA fun e4 N=>aA fun o c3=>?_
     obtain⟨O,Q,S,T,U,V,W,X,Y,Z⟩:=o;obtain rfl:=aC c3;refine aA fun o c4=>?_;obtain⟨c5,c6⟩:=o;refine aA fun e5 c7=>?_;have q9006:=aG (rZ (n+20006) c4)<|aG N<|aG N q9005
     let q8005:List Hint:=q8004 ++ [.val (.bool true),.run 2,.val (aJ O Q S T U V W X Y Z),.val (aJ O Q S T U V W X Y Z),.call c5 c6]
     refine aU (fun a0=>?_) (fun a0=>?_)
     ·refine aA fun n7012 c8=>aA fun o c9=>?_
      obtain⟨d0,d1⟩:=o;refine aA fun n7017 d2=>?_;have q9007:=aG (cV (P:=C0.P) (t:=26) (e:=28) (by kernel_rfl) d2)<|aG (oO (n+20006) c9)<|aG (cV (P:=C0.P) (t:=26) (e:=28) (by kernel_rfl) c8)<|aG (jQ c7 a0) q9006
      let q8006:List Hint:=q8005 ++ [.val (.int .i64 (n7012:Int)),.call d0 d1,.val (.int .i64 (n7017:Int))]
      refine aU (fun g=>?_) (fun g=>?_)
      ·refine aA fun o d3=>?_;obtain⟨d4,d5⟩:=o;refine aA fun n7023 d6=>?_;have q9008:=aG (cV (P:=C0.P) (t:=26) (e:=28) (by kernel_rfl) d6)<|aG (rZ (n+20006) d3)<|aG (eG g) q9007
       let q8007:List Hint:=q8006 ++ [.dec true,.run 3,.call d4 d5,.val (.int .i64 (n7023:Int))]
       refine aU (fun i=>?_) (fun i=>?_)
       ·intro h;obtain rfl:=b9 h;exact dE (hs:=q8007 ++ [.dec true,.run 2]) (by kernel_rfl) (aG (eG i) q9008)
       ·intro h;obtain rfl:=b9 h;exact dE (hs:=q8007 ++ [.dec false,.run 2]) (by kernel_rfl) (aG (dP i) q9008)
      ·intro h;obtain rfl:=b9 h;exact dE (hs:=q8006 ++ [.dec false,.run 4]) (by kernel_rfl) (aG (dP g) q9007)
     ·exact fun h=>nomatch h
    ·obtain rfl:=bF f;intro h;obtain rfl:=b9 h;exact dE (hs:=q8004 ++ [.val (.bool false),.run 6]) (by kernel_rfl) (q9005)
   ·exact fun h=>nomatch h
  ·obtain rfl:=bF d;intro h;obtain rfl:=b9 h;exact dE (hs:=q8002 ++ [.call (.bool false) b,.run 7]) (by kernel_rfl) (q9003)
 ·obtain rfl:=bF c;refine aA fun d7 d8=>?_;intro h;obtain rfl:=b9 h;exact dE (hs:=[.run 2,.call (.tuple [(aJ m p q s u v w x y z),(.bool false)]) A,.run 4,.cA AV.undef a,.run 3,.aM,.call (.bool d7) a,.run 1]) (by kernel_rfl) (aG (B8 R (n+24006) a _ d8) q9002)
end
end Go.Proofs.YthodfojhbbendaaGreatDoor
end
section
set_option linter.all false
set_option maxRecDepth 100000
namespace Go.Proofs.YthodfojhbbendaaGreatDoor
open Go Go.Ev
noncomputable section
theorem OA (R:Nat)(c:UInt8):p6 R (c.toNat:Int)=some (Lk c.toNat):=LD 2000000 c
theorem Lm (R:Nat)(c:UInt8):nN R (c.toNat:Int)=some (BW c.toNat):=M7 2000000 c
theorem Of (R:Nat)(c:UInt8):nR R (c.toNat:Int)=some (Fb c.toNat):=MS 2000000 c
theorem Oh (R:Nat)(c:UInt8):qY R (c.toNat:Int)=some (vV c.toNat):=Ll 2000000 c
theorem Qb (R:Nat)(s:List UInt8):xC R s=some (isKey s):=by
 obtain⟨st',h⟩:=P4 2000000 s St.empty (by omega)
 unfold xC
 rw[h]; rfl
theorem Js (R:Nat)(s:List UInt8)(hs:s.length≤1000000)(h1:1≤s.length):mH R s=some (match oA (s.drop 1) with
 | some (t,n)=>(t,((1+n:Nat):Int))
 | none=>([],0)):=by
 obtain⟨st',h⟩:=L8 2000000 s St.empty hs h1 (by omega)
 unfold mH
 rw[h]
 cases oA (List.drop 1 s) <;> rfl
theorem G6 (R:Nat)(s t:List UInt8)(hs:s.length≤1000000)(h:unhex s=some t):qE R s=some (t,true):=by
 obtain⟨st',h1,_⟩:=MC 2000000 s St.empty hs (by omega)
 unfold qE
 rw[h1 t h]; rfl
theorem LV (R:Nat)(s:List UInt8)(hs:s.length≤1000000)(h:unhex s=none):∃ t,qE R s=some (t,false):=by
 obtain⟨st',_,h1⟩:=MC 2000000 s St.empty hs (by omega)
 obtain⟨t,h2⟩:=h1 h
 unfold qE
 rw[h2]
 exact⟨t,rfl⟩
theorem Q2 (R:Nat)(s:List UInt8)(hs:s.length≤1000000)(hw:∀ c ∈ s,vV c.toNat=true)(h0:∀(h:0<s.length),Lk s[0].toNat=true)(h1:0<s.length):oZ R s=some (decide (s.length≤16)):=O1 2000000 s hs (by omega) hw h0 h1
theorem tB : ∀ (l : List UInt8) (t : List UInt8) (n : Nat), oA l = some (t, n) → t.length < n ∧ n ≤ l.length
 | [],t,n,h=>by cases h
 | [c], t, n, h => by
   by_cases hc:c=39
   ·simp[oA,hc] at h
    obtain⟨rfl,rfl⟩:=h
    simp
   ·rw[FC _ hc] at h
    simp[oA] at h
 | c :: d :: r, t, n, h => by
   by_cases hc:c=39
   ·by_cases hd:d=39
    ·simp only[oA,hc,hd,if_true] at h
     obtain⟨⟨u,m⟩,h1,h2⟩:=Option.map_eq_some_iff.1 h
     cases h2
     have:=tB r u m h1
     simp; omega
    ·simp[oA,hc,hd] at h
     obtain⟨rfl,rfl⟩:=h
     simp
   ·rw[FC _ hc] at h
    obtain⟨⟨u,m⟩,h1,h2⟩:=Option.map_eq_some_iff.1 h
    cases h2
    have:=tB (d :: r) u m h1
    simp at this ⊢; omega
def runK (pm:Int→Option Bool)(s:List UInt8):Nat→Int→Option Int
 | 0,_=>none
 | r+1,i=>Option.bind (if i<(List.length s:Int) then Option.bind (zK s i) fun c=>Option.bind (pm c) fun b=>some b else some false) fun b=>if b=true then runK pm s r (IntKind.wrap .i64 (i+1)) else some i
theorem Jx {pm:Int→Option Bool}{p:Nat→Bool}(hpm:∀ c:UInt8,pm (c.toNat:Int)=some (p c.toNat))(s:List UInt8)(hs:s.length≤1000000):∀(r k:Nat),k≤s.length→s.length - k<r→runK pm s r (k:Int)=some ((k+iJ p s k:Nat):Int):=by
 intro r
 induction r with
 | zero=>intro k h1 h2; omega
 | succ r ih =>
   intro k h1 h2
   unfold runK
   by_cases hlt:k<s.length
   ·rw[if_pos (by omega),tG hlt,Option.bind_some,hpm,Option.bind_some,Option.bind_some]
    by_cases hp:p s[k].toNat=true
    ·rw[if_pos hp,w1 (by omega),ih (k+1) hlt (by omega),BM hlt hp,Nat.add_assoc]
    ·rw[if_neg hp,Hi hlt hp]; rfl
   ·rw[if_neg (by omega),Option.bind_some,if_neg (by simp),G7 (by omega)]; rfl
theorem DT (R:Nat)(s:List UInt8)(i0:Int):∀ r i,fW R s i0 r i=runK (qY R) s r i
 | 0,_=>rfl
 | r+1,i=>by unfold fW runK iS; simp only[DT R s i0 r]
theorem DY (R:Nat)(s:List UInt8)(i0:Int):∀ r i,fY R s i0 r i=runK (nN R) s r i
 | 0,_=>rfl
 | r+1,i=>by unfold fY runK j0; simp only[DY R s i0 r]
theorem L0 (R:Nat)(s:List UInt8)(k:Nat)(hs:s.length≤1000000)(hk:k≤s.length)(hR:s.length<R):mF R s (k:Int)=some ((iJ vV s k:Nat):Int):=by
 have:=pF vV s k hk
 unfold mF kX
 rw[DT,Jx (Oh R) s hs R k hk (by omega),Option.bind_some,Option.bind_some,wrap64 (by omega) (by omega)]
 congr 1; omega
theorem LG (R:Nat)(s:List UInt8)(k:Nat)(hs:s.length≤1000000)(hk:k≤s.length)(hR:s.length<R):mP R s (k:Int)=some ((iJ BW s k:Nat):Int):=by
 have:=pF BW s k hk
 unfold mP l4
 rw[DY,Jx (Lm R) s hs R k hk (by omega),Option.bind_some,Option.bind_some,wrap64 (by omega) (by omega)]
 congr 1; omega
theorem mG {P:Program}{T:TypeId}[nT P T true 3]{st:St}{id t:Nat}{u:Bool}{a b c:AV}(h:st.aS.get id=some (.cells t u [a,b,c]))(x:Int)(y:List UInt8)(z r:Int):
 ∃ st',((storeAt P st T (.ref id 0) (.agg [.int .i64 x,.str y,.int .i64 z])).bind fun s1=>(loadAt P s1 T (.ref id 0)).bind fun v=>(bU v).bind fun q=>some (q.1,q.2.1,q.2.2,r,s1))=some (x,y,z,r,st'):=by
 refine⟨st.put id (.cells t u [.int .i64 x,.str y,.int .i64 z]),?_⟩
 rw[B2 (new:=[.int .i64 x,.str y,.int .i64 z]) h rfl rfl rfl,Option.bind_some,xF (i7 _ _ _) rfl]
 rfl
theorem Mh (st:St)(t:Nat)(cs:List AV):(st.push (.cells t true cs)).aS.get st.next=some (.cells t true cs):=mZ st _
def eU (p:Nat→Bool)(s:List UInt8)(k:Nat):List UInt8:=(s.drop k).takeWhile fun c=>p c.toNat
theorem BC (p:Nat→Bool)(s:List UInt8)(k:Nat):(eU p s k).length=iJ p s k:=rfl
theorem GO {p:Nat→Bool}{s:List UInt8}{k:Nat}(hk:k≤s.length):(s.take (k+iJ p s k)).drop k=eU p s k:=by
 rw[List.drop_take,Nat.add_sub_cancel_left]
 unfold iJ eU
 generalize s.drop k=l
 have:=List.takeWhile_append_dropWhile (p:=fun c:UInt8=>p c.toNat) (l:=l)
 conv=>lhs; rw[← this]
 rw[List.take_left']
 simp
theorem Bc {α:Type}{p:α→Bool}:∀{l:List α} {c:α},c ∈ l.takeWhile p→p c=true
 | a :: l, c, h => by
   rw[List.takeWhile_cons] at h
   split at h
   ·rcases List.mem_cons.1 h with rfl | h
    ·assumption
    ·exact Bc h
   ·cases h
theorem GH {p:Nat→Bool}{s:List UInt8}{k:Nat}:∀ c ∈ eU p s k,p c.toNat=true:=fun c hc=>Bc (p:=fun c:UInt8=>p c.toNat) hc
theorem C3 {p:Nat→Bool}{s:List UInt8}{k:Nat}(h:k<s.length)(hp:p s[k].toNat=true):∃ r,eU p s k=s[k] :: r:=by
 unfold eU
 rw[drop_cons h,List.takeWhile_cons_of_pos (p:=fun c:UInt8=>p c.toNat) hp]
 exact⟨_,rfl⟩
theorem M5 (s:List UInt8)(k:Nat)(hs:s.length≤1000000)(hk:k<s.length)(hl:Lk s[k].toNat=true)(R:Nat):
 qV R s (k:Int)=some (if isKey (eU vV s k) then(2,eU vV s k,(k:Int),((iJ vV s k:Nat):Int)) else(1,eU vV s k,(k:Int),if iJ vV s k≤16 then((iJ vV s k:Nat):Int) else 0)):=by
 have hW:vV s[k].toNat=true:=by simp[vV,hl]
 have hle:=pF vV s k (by omega)
 obtain⟨r,hr⟩:=C3 hk hW
 have hn:oZ 2000000 (eU vV s k)=some (decide ((eU vV s k).length≤16)):=Q2 _ _ (by rw[BC]; omega) GH (by rw[hr]; intro _; exact hl) (by rw[hr]; simp)
 rw[BC] at hn
 unfold qV BI
 rw[L0 2000000 s k hs (by omega) (by omega),Option.bind_some,wN (by omega),An (by omega) (by omega),GO (by omega),Option.bind_some]
 rw[B2 (cs:=[.int .i64 0,.str [],.int .i64 0]) (new:=[.int .i64 1,.str (eU vV s k),.int .i64 (k:Int)]) (Mh _ _ _) rfl rfl rfl,Option.bind_some,DD (off:=1) (i7 _ _ _) rfl,Option.bind_some]
 simp only[eY,Option.bind_some]
 rw[Qb,Option.bind_some]
 by_cases hkey:isKey (eU vV s k)=true
 ·rw[if_pos hkey,if_pos hkey]
  rw[Bj (off:=0) (i7 _ _ _) (by simp) rfl rfl,Option.bind_some,xF (i7 _ _ _) rfl,Option.bind_some]
  have e0:((((St.empty.push (.cells 129 true [.int .i64 0,.str [],.int .i64 0])).push (.cells 129 true [.int .i64 0,.str [],.int .i64 0])).put (St.empty.push (.cells 129 true [.int .i64 0,.str [],.int .i64 0])).next (.cells 129 true [.int .i64 1,.str (eU vV s k),.int .i64 (k:Int)])).put (St.empty.push (.cells 129 true [.int .i64 0,.str [],.int .i64 0])).next (.cells 129 true (List.set [.int .i64 1,.str (eU vV s k),.int .i64 (k:Int)] 0 (.int .i64 2)))).aS.get St.empty.next=some (.cells 129 true [.int .i64 0,.str [],.int .i64 0]):=by
   rw[A7 _ (by decide),A7 _ (by decide),xZ _ (by decide),mZ]
  obtain⟨st',h⟩:=mG (P:=C0.P) (T:=129) e0 2 (eU vV s k) (k:Int) ((iJ vV s k:Nat):Int)
  exact congrArg (Option.map _) h
 ·rw[if_neg hkey,if_neg hkey,hn,Option.bind_some]
  have e0:(((St.empty.push (.cells 129 true [.int .i64 0,.str [],.int .i64 0])).push (.cells 129 true [.int .i64 0,.str [],.int .i64 0])).put (St.empty.push (.cells 129 true [.int .i64 0,.str [],.int .i64 0])).next (.cells 129 true [.int .i64 1,.str (eU vV s k),.int .i64 (k:Int)])).aS.get St.empty.next=some (.cells 129 true [.int .i64 0,.str [],.int .i64 0]):=by
   rw[A7 _ (by decide),xZ _ (by decide),mZ]
  by_cases h16:iJ vV s k≤16
  ·rw[decide_eq_true h16,if_pos rfl,if_pos h16,xF (i7 _ _ _) rfl,Option.bind_some]
   obtain⟨st',h⟩:=mG (P:=C0.P) (T:=129) e0 1 (eU vV s k) (k:Int) ((iJ vV s k:Nat):Int)
   exact congrArg (Option.map _) h
  ·rw[decide_eq_false h16,if_neg (by simp),if_neg h16,xF (i7 _ _ _) rfl,Option.bind_some]
   obtain⟨st',h⟩:=mG (P:=C0.P) (T:=129) e0 1 (eU vV s k) (k:Int) 0
   exact congrArg (Option.map _) h
end
end Go.Proofs.YthodfojhbbendaaGreatDoor
end
section
set_option linter.all false
set_option maxRecDepth 100000
namespace Go.Proofs.YthodfojhbbendaaGreatDoor
open Go Go.Ev
noncomputable section
def QY:List (List UInt8):=[[60,62],[60,61],[62,61]]
def NK:List UInt8:=[61,60,62,43,45,42,40,41,123,125,91,93,44,58,46]
def De:List (List UInt8):=QY ++ NK.map fun c=>[c]
def H6 (t:List UInt8):Option (List UInt8):=De.find? fun w=>decide (t.take w.length=w)
theorem Kv (R:Nat)(t w:List UInt8):kL R t w=some (decide (t.take w.length=w)):=by
 unfold kL lU jF
 by_cases h:w.length≤t.length
 ·rw[if_pos (by omega),show(0:Int)=((0:Nat):Int) from rfl,An (by omega) h,List.drop_zero,Option.bind_some]
  by_cases e:t.take w.length=w
  ·rw[if_pos e,decide_eq_true e]; rfl
  ·rw[if_neg e,decide_eq_false e]; rfl
 ·rw[if_neg (by omega),decide_eq_false]
  ·rfl
  ·intro e
   have:=congrArg List.length e
   rw[List.length_take] at this
   omega
theorem Gq {s:List UInt8}{k:Nat}(h:k≤s.length):Bn s (k:Int) ((s.length:Nat):Int)=some (s.drop k):=by
 rw[An h (Nat.le_refl _),List.take_length]
theorem Kt (R : Nat) (s : List UInt8) (k : Nat) (hk : k ≤ s.length) (d t0 : Nat) (u : Bool) (a b c : AV) (ks : List (List UInt8)) (x : AV) (st : St) (hx : Sl st 1 x (ks.map AV.str)) (hl : ks.length ≤ 1000000) (hd : st.aS.get d = some (.cells t0 u [a, b, c])) : ∀ (r i : Nat), i ≤ ks.length → ks.length - i < r →
 ∃ st', iM R s (k : Int) d x (ks.length : Int) r (i : Int) st = some (match (ks.drop i).find? (fun w => decide ((s.drop k).take w.length = w)) with
  | some w=>.inl ((w.length:Int),st')
  | none=>.inr st)∧ ∀ w,(ks.drop i).find? (fun w=>decide ((s.drop k).take w.length=w))=some w→st'.aS.get d=some (.cells t0 u [.int .i64 6,.str w,.int .i64 (k:Int)]):=by
 intro r
 induction r with
 | zero=>intro i h1 h2; omega
 | succ r ih =>
   intro i h1 h2
   unfold iM
   by_cases hlt:i<ks.length
   ·rw[if_pos (by omega)]
    rw[show(Option.bind (bA C0.P 22 x (.int .i64 (i:Int))) _:Option ((Int×St) ⊕ St))=_ from Hg (P:=C0.P) (t:=22) (t':=9) (kd:=.i64) (fun w=>(Bn s (k:Int) (List.length s:Nat)).bind fun q=>(kL R q w).bind fun b=>if b=true then(storeAt C0.P st 129 (.ref d 0) (.agg [(.int .i64 6),(.str w),(.int .i64 (k:Int))])).bind fun s1=>some (.inl ((List.length w:Int),s1)) else iM R s (k:Int) d x (ks.length:Int) r (IntKind.wrap .i64 ((i:Int)+1)) st) hx hlt]
    rw[List.drop_eq_getElem_cons hlt,Gq hk,Option.bind_some,Kv,Option.bind_some,List.find?_cons]
    by_cases e:(s.drop k).take ks[i].length=ks[i]
    ·rw[decide_eq_true e,if_pos rfl,B2 (new:=[.int .i64 6,.str ks[i],.int .i64 (k:Int)]) hd rfl rfl rfl,Option.bind_some]
     refine⟨_,rfl,fun w hw=>?_⟩
     obtain rfl:=Option.some.inj hw
     exact i7 _ _ _
    ·rw[decide_eq_false e,if_neg (by simp),w1 (by omega)]
     exact ih (i+1) hlt (by omega)
   ·have e0:ks.drop i=[]:=List.drop_eq_nil_of_le (by omega)
    rw[if_neg (by omega),e0]
    exact⟨st,rfl,fun w hw=>by cases hw⟩
def wQ (s : List UInt8) (k : Nat) : Option (Int × List UInt8 × Nat) :=
 match s[k]? with
 | none=>none
 | some c =>
   if c=120∧s[k+1]? =some 39 then(oA (s.drop (k+2))).bind fun q=>(unhex q.1).map fun b=>(5,b,q.2+2)
   else if Lk c.toNat=true then
    (if isKey (eU vV s k) then some (2,eU vV s k,iJ vV s k) else if iJ vV s k≤16 then some (1,eU vV s k,iJ vV s k) else none)
   else if BW c.toNat=true then(if GD (eU BW s k) then some (3,eU BW s k,iJ BW s k) else none)
   else if c=39 then(oA (s.drop (k+1))).map fun q=>(4,q.1,q.2+1)
   else(H6 (s.drop k)).map fun w=>(6,w,w.length)
theorem Q1 (c:UInt8):((c.toNat:Int)=120)↔c=120:=by
 constructor
 ·intro h
  have:c.toNat=120:=by omega
  exact UInt8.toNat_inj.1 this
 ·rintro rfl; rfl
theorem Q0 (R:Nat)(s:List UInt8)(k:Nat)(hs:s.length≤1000000)(hk:k<s.length):
 nZ R s (k:Int) (s[k].toNat:Int)=some (decide (s[k]=120∧s[k+1]? =some 39)):=by
 unfold nZ
 by_cases h1:s[k]=120
 ·rw[if_pos ((Q1 _).2 h1),w1 (by omega)]
  by_cases h2:k+1<s.length
  ·rw[if_pos (by omega),tG h2,Option.bind_some,List.getElem?_eq_getElem h2]
   by_cases h3:s[k+1]=39
   ·rw[if_pos ((OW _).2 h3),decide_eq_true ⟨h1,by rw[h3]⟩]
   ·rw[if_neg (fun h=>h3 ((OW _).1 h)),decide_eq_false (fun h=>h3 (Option.some.inj h.2))]
  ·rw[if_neg (by omega),List.getElem?_eq_none (by omega),decide_eq_false (fun h=>by cases h.2)]
 ·rw[if_neg (fun h=>h1 ((Q1 _).1 h)),decide_eq_false (fun h=>h1 h.1)]
theorem Oz (R : Nat) (w : List UInt8) (c : UInt8) (r : List UInt8) (hw : w = c :: r) : fM R (c.toNat : Int) (w.length : Int) w = some (!GD w) := by
 unfold fM GD
 have hh:w.head?=some c:=by rw[hw]; rfl
 rw[hh]
 by_cases h1:1<w.length
 ·rw[if_pos (by omega),decide_eq_true h1,Bool.true_and]
  by_cases h2:c=48
  ·rw[if_pos ((Qo _).2 h2),h2]; rfl
  ·rw[if_neg (fun h=>h2 ((Qo _).1 h))]
   have:(some c == some (48:UInt8))=false:=by simpa using h2
   rw[this]
   by_cases h3:w.length>19
   ·rw[if_pos (by omega),decide_eq_false (by omega:¬ w.length≤19)]; rfl
   ·rw[if_neg (by omega),decide_eq_true (by omega:w.length≤19)]
    by_cases h4:w.length<19
    ·rw[if_neg (by omega),decide_eq_true h4]; rfl
    ·rw[if_pos (by omega),decide_eq_false h4]
     show(if(!(strLt w A0 || gT w A0))=true then some true else some false)=_
     cases(strLt w A0 || gT w A0) <;> rfl
 ·rw[if_neg (by omega),decide_eq_false h1,decide_eq_true (by omega:w.length≤19),decide_eq_true (by omega:w.length<19)]; rfl
theorem NI (t:Nat)(cs:List AV):(St.empty.push (.cells t true cs)).aS.get St.empty.next=some (.cells t true cs):=mZ _ _
theorem Np (R : Nat) (s : List UInt8) (k : Nat) (hs : s.length ≤ 1000000) (hk : k < s.length) : ∃ a b c, sQ R s (k : Int) = some (match wQ s k with
 | some (kd,w,n)=>(kd,w,(k:Int),((n:Nat):Int))
 | none=>(a,b,c,0)):=by
 have key:∃ a b c st',Ae 2000000 s (k:Int) St.empty=some (match wQ s k with
  | some (kd,w,n)=>(kd,w,(k:Int),((n:Nat):Int),st')
  | none=>(a,b,c,0,st')):=by
  unfold Ae wQ
  rw[tG hk,Option.bind_some,Q0 _ s k hs hk,Option.bind_some,List.getElem?_eq_getElem hk]
  simp only
  by_cases hx:s[k]=120∧s[k+1]? =some 39
  ·obtain⟨h2,_⟩:=List.getElem?_eq_some_iff.1 hx.2
   rw[decide_eq_true hx,if_pos rfl,if_pos hx,w1 (by omega),Gq (by omega),Option.bind_some,Js _ _ (by rw[List.length_drop]; omega) (by rw[List.length_drop]; omega),Option.bind_some,List.drop_drop,show k+1+1=k+2 from rfl]
   cases hq:oA (s.drop (k+2)) with
   | none =>
     simp only
     rw[G6 2000000 [] [] (by simp) rfl,Option.bind_some]
     simp only[iO,if_true,Option.bind_some]
     obtain⟨st',h⟩:=mG (P:=C0.P) (T:=129) (NI 129 [.int .i64 0,.str [],.int .i64 0]) 0 [] (k:Int) 0
     exact⟨_,_,_,st',h⟩
   | some q =>
     obtain⟨t,n⟩:=q
     have hl:=tB _ _ _ hq
     rw[List.length_drop] at hl
     simp only[Option.bind_some]
     cases hu:unhex t with
     | none =>
       obtain⟨b,hb⟩:=LV 2000000 t (by omega) hu
       rw[hb,Option.bind_some]
       simp only[iO]
       rw[if_neg (by omega)]
       simp only[if_true,Bool.false_eq_true,if_false,Option.bind_some]
       obtain⟨st',h⟩:=mG (P:=C0.P) (T:=129) (NI 129 [.int .i64 0,.str [],.int .i64 0]) 0 [] (k:Int) 0
       exact⟨_,_,_,st',h⟩
     | some b =>
       rw[G6 2000000 t b (by omega) hu,Option.bind_some]
       simp only[iO]
       rw[if_neg (by omega)]
       simp only[if_true,Bool.false_eq_true,if_false,Option.bind_some]
       rw[show(((1+n:Nat):Int)+1)=(((1+n:Nat):Int)+((1:Nat):Int)) from rfl,wN (by omega)]
       obtain⟨st',h⟩:=mG (P:=C0.P) (T:=129) (NI 129 [.int .i64 0,.str [],.int .i64 0]) 5 b (k:Int) ((1+n+1:Nat):Int)
       refine⟨0,[],0,st',h.trans ?_⟩
       simp only[Option.map_some]
       rw[show 1+n+1=n+2 by omega]
  ·rw[decide_eq_false hx,if_neg (by simp),if_neg hx,OA,Option.bind_some]
   by_cases hL:Lk s[k].toNat=true
   ·rw[if_pos hL,if_pos hL,M5 s k hs hk hL,Option.bind_some]
    by_cases hkey:isKey (eU vV s k)=true
    ·rw[if_pos hkey,if_pos hkey]
     obtain⟨st',h⟩:=mG (P:=C0.P) (T:=129) (NI 129 [.int .i64 0,.str [],.int .i64 0]) 2 (eU vV s k) (k:Int) ((iJ vV s k:Nat):Int)
     exact⟨0,[],0,st',h⟩
    ·rw[if_neg hkey,if_neg hkey]
     by_cases h16:iJ vV s k≤16
     ·rw[if_pos h16,if_pos h16]
      obtain⟨st',h⟩:=mG (P:=C0.P) (T:=129) (NI 129 [.int .i64 0,.str [],.int .i64 0]) 1 (eU vV s k) (k:Int) ((iJ vV s k:Nat):Int)
      exact⟨0,[],0,st',h⟩
     ·rw[if_neg h16,if_neg h16]
      obtain⟨st',h⟩:=mG (P:=C0.P) (T:=129) (NI 129 [.int .i64 0,.str [],.int .i64 0]) 1 (eU vV s k) (k:Int) 0
      exact⟨_,_,_,st',h⟩
   ·rw[if_neg hL,if_neg hL,Lm,Option.bind_some]
    by_cases hD:BW s[k].toNat=true
    ·have hle:=pF BW s k (by omega)
     obtain⟨r,hr⟩:=C3 hk hD
     rw[if_pos hD,if_pos hD,LG 2000000 s k hs (by omega) (by omega),Option.bind_some,wN (by omega),An (by omega) (by omega),GO (by omega),Option.bind_some]
     rw[show fM 2000000 (s[k].toNat:Int) ((iJ BW s k:Nat):Int) (eU BW s k)=_ from Oz 2000000 (eU BW s k) s[k] r hr,Option.bind_some]
     cases GD (eU BW s k) with
     | true =>
       simp only[Bool.not_true,Bool.false_eq_true,if_false,if_true]
       obtain⟨st',h⟩:=mG (P:=C0.P) (T:=129) (NI 129 [.int .i64 0,.str [],.int .i64 0]) 3 (eU BW s k) (k:Int) ((iJ BW s k:Nat):Int)
       exact⟨0,[],0,st',h⟩
     | false =>
       simp only[Bool.not_false,Bool.false_eq_true,if_false,if_true]
       obtain⟨st',h⟩:=mG (P:=C0.P) (T:=129) (NI 129 [.int .i64 0,.str [],.int .i64 0]) 0 [] (k:Int) 0
       exact⟨_,_,_,st',h⟩
    ·rw[if_neg hD,if_neg hD]
     by_cases hq:s[k]=39
     ·rw[if_pos ((OW _).2 hq),if_pos hq,Gq (by omega),Option.bind_some,Js _ _ (by rw[List.length_drop]; omega) (by rw[List.length_drop]; omega),Option.bind_some,List.drop_drop]
      cases hb:oA (s.drop (k+1)) with
      | none =>
        simp only
        obtain⟨st',h⟩:=mG (P:=C0.P) (T:=129) (NI 129 [.int .i64 0,.str [],.int .i64 0]) 4 [] (k:Int) 0
        exact⟨_,_,_,st',h⟩
      | some q =>
        obtain⟨t,n⟩:=q
        simp only[Option.map_some]
        obtain⟨st',h⟩:=mG (P:=C0.P) (T:=129) (NI 129 [.int .i64 0,.str [],.int .i64 0]) 4 t (k:Int) ((1+n:Nat):Int)
        exact⟨0,[],0,st',h.trans (by rw[Nat.add_comm 1 n])⟩
     ·rw[if_neg (fun h=>hq ((OW _).1 h)),if_neg hq]
      have e:∀ st,eV (aY C0.P (C0.cQ 119) 22 18 [(0,(.str [60,62])),(1,(.str [60,61])),(2,(.str [62,61])),(3,(.str [61])),(4,(.str [60])),(5,(.str [62])),(6,(.str [43])),(7,(.str [45])),(8,(.str [42])),(9,(.str [40])),(10,(.str [41])),(11,(.str [123])),(12,(.str [125])),(13,(.str [91])),(14,(.str [93])),(15,(.str [44])),(16,(.str [58])),(17,(.str [46]))]) st=some (.sl st.next 18 18 1 (some 18) (De.map AV.str),st.push (.nE 18)):=fun st=>by kernel_rfl
      rw[e,Option.bind_some]
      simp only[lenOf,Option.bind_some]
      have hx0:Sl ((St.empty.push (.cells 129 true [.int .i64 0,.str [],.int .i64 0])).push (.nE 18)) 1 (.sl (St.empty.push (.cells 129 true [.int .i64 0,.str [],.int .i64 0])).next 18 18 1 (some 18) (De.map AV.str)) (De.map AV.str):=.inr ⟨_,_,_,_,rfl,rfl,Nat.lt_succ_self _,.inl rfl⟩
      have hd0:((St.empty.push (.cells 129 true [.int .i64 0,.str [],.int .i64 0])).push (.nE 18)).aS.get St.empty.next=some (.cells 129 true [.int .i64 0,.str [],.int .i64 0]):=by
       rw[xZ _ (by decide),mZ]
      obtain⟨st1,h1,h2⟩:=Kt 2000000 s k (by omega) St.empty.next 129 true _ _ _ De _ _ hx0 (by decide) hd0 2000000 0 (by decide) (by decide)
      have h1':iM 2000000 s (k:Int) St.empty.next (.sl (St.empty.push (.cells 129 true [.int .i64 0,.str [],.int .i64 0])).next 18 18 1 (some 18) (De.map AV.str)) ((18:Nat):Int) 2000000 0 ((St.empty.push (.cells 129 true [.int .i64 0,.str [],.int .i64 0])).push (.nE 18))=_:=h1
      rw[h1',Option.bind_some,List.drop_zero]
      rw[List.drop_zero] at h2
      unfold H6
      cases hf:De.find? (fun w=>decide ((s.drop k).take w.length=w)) with
      | none =>
        simp only
        obtain⟨st',h⟩:=mG (P:=C0.P) (T:=129) hd0 0 [] (k:Int) 0
        exact⟨_,_,_,st',h⟩
      | some w =>
        simp only[Option.map_some]
        rw[xF (h2 w hf) rfl,Option.bind_some]
        exact⟨0,[],0,st1,rfl⟩
 obtain⟨a,b,c,st',h⟩:=key
 refine⟨a,b,c,?_⟩
 unfold sQ
 rw[h]
 cases wQ s k <;> rfl
end
end Go.Proofs.YthodfojhbbendaaGreatDoor
end
section
set_option linter.all false
set_option maxRecDepth 100000
namespace Go.Proofs.YthodfojhbbendaaGreatDoor
open Go Go.Ev
noncomputable section
theorem EZ {t w:List UInt8}(h:H6 t=some w):1≤w.length∧w.length≤t.length:=by
 unfold H6 at h
 have h1:=List.mem_of_find?_eq_some h
 have h2:=List.find?_some h
 simp only[decide_eq_true_eq] at h2
 constructor
 ·have:∀ w ∈ De,1≤w.length:=by decide
  exact this w h1
 ·have:=congrArg List.length h2
  rw[List.length_take] at this
  omega
theorem Ep {s : List UInt8} {k : Nat} {kd : Int} {w : List UInt8} {n : Nat} (hk : k < s.length) (h : wQ s k = some (kd, w, n)) : 1 ≤ n ∧ k + n ≤ s.length := by
 unfold wQ at h
 rw[List.getElem?_eq_getElem hk] at h
 simp only at h
 split at h
 ·rename_i hx
  obtain⟨h2,_⟩:=List.getElem?_eq_some_iff.1 hx.2
  obtain⟨⟨t,m⟩,h3,h4⟩:=Option.bind_eq_some_iff.1 h
  obtain⟨b,h5,h6⟩:=Option.map_eq_some_iff.1 h4
  cases h6
  have:=tB _ _ _ h3
  rw[List.length_drop] at this
  omega
 ·split at h
  ·rename_i hL
   have h1:=pF vV s k (by omega)
   have h2:=BM (p:=vV) hk (by simp[vV,hL])
   split at h
   ·cases h; omega
   ·split at h
    ·cases h; omega
    ·cases h
  ·split at h
   ·rename_i hD
    have h1:=pF BW s k (by omega)
    have h2:=BM (p:=BW) hk hD
    split at h
    ·cases h; omega
    ·cases h
   ·split at h
    ·obtain⟨⟨t,m⟩,h3,h4⟩:=Option.map_eq_some_iff.1 h
     cases h4
     have:=tB _ _ _ h3
     rw[List.length_drop] at this
     omega
    ·obtain⟨w',h3,h4⟩:=Option.map_eq_some_iff.1 h
     cases h4
     have:=EZ h3
     rw[List.length_drop] at this
     omega
theorem Cf (l:List W)(w:W):lR l ++ Bw w=lR (l ++ [w]):=by simp[lR]
def tk (s : List UInt8) : Nat → Nat → List W × Option Nat
 | 0,_=>([],none)
 | f + 1, j => if j < s.length then (match wQ s j with
  | none=>([],some j)
  | some (kd,w,n)=>((kd,w,(j:Int)) :: (tk s f (j+n+iJ Fb s (j+n))).1,(tk s f (j+n+iJ Fb s (j+n))).2))
   else([],none)
def nM (s:List UInt8):List W×Option Nat:=tk s (s.length+1) (iJ Fb s 0)
end
end Go.Proofs.YthodfojhbbendaaGreatDoor
end
section
set_option linter.all false
set_option maxRecDepth 100000
set_option maxHeartbeats 1000000
namespace Go.Proofs.YthodfojhbbendaaGreatDoor
open Go Go.Ev
noncomputable section
attribute [local congr] n7 sW
theorem DX (R:Nat)(s:List UInt8)(i0:Int):∀ r i,fX R s i0 r i=N8 (nR R) s r i
 | 0,_=>rfl
 | r+1,i=>by unfold fX N8; simp only[DX R s i0 r]
theorem GM (R:Nat)(s:List UInt8)(k:Nat)(hs:s.length≤1000000)(hk:k≤s.length)(hR:s.length<R):kM R s (k:Int)=.some ((iJ Fb s k:Nat):Int):=by
 have:=pF Fb s k hk
 unfold kM lA
 rw[DX,NU (Of R) s hs R k hk (by omega),Option.bind_some,Option.bind_some,wrap64 (by omega) (by omega)]
 congr 1; omega
def vH (s:List UInt8):List W:=(nM s).1 ++ [(0,[],(s.length:Int))]
theorem EG (w:W):(Bw w).all AV.one=true:=rfl
theorem IF {R : Nat} {s : List UInt8} (hs : s.length ≤ 2000) (hR : s.length < R) {st0 : St} {φ : (AV × Int × Int × St) ⊕ (AV × St) → Prop} {l : List W} {e : Option Nat}
 (hb:∀ j st1,e=.some j→KN st0 st1→φ (.inl (.aF,(j:Int),110,st1)))
 (hg:∀ x st1,e=none→Sl st1 3 x (lR l)→(∀ id,eL x id→st0.next≤id)→l.length≤s.length→KN st0 st1→φ (.inr (x,st1))):
 ∀ (r f k : Nat) {x : AV} {st : St} {acc : List W}, Sl st 3 x (lR acc) → KN st0 st → (∀ id, eL x id → st0.next ≤ id) → k ≤ s.length → s.length - k < r → s.length - k < f → acc.length ≤ k → acc ++ (tk s f k).1 = l → (tk s f k).2 = e →
  T φ (kP R s r x (k:Int) st)
 | 0,f,k,_,_,_,_,_,_,_,hr,_,_,_,_=>by omega
 | r+1,0,k,_,_,_,_,_,_,_,_,hf,_,_,_=>by omega
 | r + 1, f + 1, k, x, st, acc, hx, hK, hfm, hk, hr, hf, ha, hl, he => by
   have hKl:=hK.1
   unfold kP
   unfold tk at hl he
   by_cases hlt:k<s.length
   ·refine T.fA (by omega) ?_
    rw[if_pos hlt] at hl he
    obtain⟨a,b,c,hn⟩:=Np R s k (by omega) hlt
    refine T.step hn ?_
    cases hw:wQ s k with
    | none =>
      rw[hw] at hl he
      dsimp only
      repeat(refine T.step (by simp(disch:=(first | ((repeat(first | rw[aB] | rw[aE] | rw[List.length_cons] | rw[List.length_nil])) <;> omega) | (refine(?_:_∧True).1; constructor; simp only[aL, *]; exact True.intro))) only[aX]; try exact rfl) ?_)
      refine T.fA rfl ?_
      exact T.some (hb k _ he.symm (by repeat' (first | exact hK | exact KN.refl | refine KN.dX ?_ | refine KN.loc ?_ ?_ | ((try simp only[aB,aE]) <;> omega))))
    | some q =>
      obtain⟨kd,w,n⟩:=q
      rw[hw] at hl he
      dsimp only at hl he ⊢
      obtain⟨l1,l2⟩:=Ep hlt hw
      have hbl:=pF Fb s (k+n) (by omega)
      repeat(refine T.step (by simp(disch:=(first | ((repeat(first | rw[aB] | rw[aE] | rw[List.length_cons] | rw[List.length_nil])) <;> omega) | (refine(?_:_∧True).1; constructor; simp only[aL, *]; exact True.intro))) only[aX]; try exact rfl) ?_)
      refine T.gY (by omega) ?_
      repeat(refine T.step (by simp(disch:=(first | ((repeat(first | rw[aB] | rw[aE] | rw[List.length_cons] | rw[List.length_nil])) <;> omega) | (refine(?_:_∧True).1; constructor; simp only[aL, *]; exact True.intro))) only[aX]; try exact rfl) ?_)
      have hK1:KN st0 ((st.push (.cells 129 true [.int .i64 0,.str [],.int .i64 0])).put st.next (.cells 129 true [.int .i64 kd,.str w,.int .i64 (k:Int)])):=KN.loc (KN.dX hK) hK.1
      have hx1:Sl ((st.push (.cells 129 true [.int .i64 0,.str [],.int .i64 0])).put st.next (.cells 129 true [.int .i64 kd,.str w,.int .i64 (k:Int)])) 3 x (lR acc):=Sl.put (hx.push _) (fun h=>absurd (Sl.uM hx h) (by omega))
      refine PU (t:=121) (v:=.agg (Bw (kd,w,(k:Int)))) hK1 hx1 hfm rfl (EG _) (by rw[Am]; simp only[iL]; omega) (by decide) fun x' st2 K2 S2 hf2 hg2 hn2=>?_
      have e1:IntKind.wrap .i64 ((k:Int)+(n:Int))=((k+n:Nat):Int):=wN (by omega)
      have e2:IntKind.wrap .i64 (((k+n:Nat):Int)+((iJ Fb s (k+n):Nat):Int))=((k+n+iJ Fb s (k+n):Nat):Int):=wN (by omega)
      rw[e1]
      refine T.step (GM R s (k+n) (by omega) (by omega) hR) ?_
      rw[e2]
      have S3:Sl st2 3 x' (lR (acc ++ [(kd,w,(k:Int))])):=by rw[← Cf]; exact S2
      exact IF hs hR hb hg r f (k+n+iJ Fb s (k+n)) S3 K2 hf2 (by omega) (by omega) (by omega) (by simp; omega) (by rw[List.append_assoc]; exact hl) he
   ·refine T.gY (by omega) ?_
    rw[if_neg hlt] at hl he
    simp only[List.append_nil] at hl
    exact T.some (hg _ _ he.symm (by rw[← hl]; exact hx) hfm (by rw[← hl]; omega) hK)
theorem NQ {R:Nat}{s:List UInt8}(hs:s.length≤2000)(hR:3000<R){st:St}{φ:AV×Int×Int×St→Prop}
 (hb:∀ j st1,(nM s).2=.some j→KN st st1→φ (.aF,(j:Int),110,st1))
 (hg:∀ x st1,(nM s).2=none→Row 3 x (lR (vH s))→(nM s).1.length≤s.length→KN st st1→φ (x,0,0,st1)):T φ (z7 R s st):=by
 unfold z7
 have hbl:=pF Fb s 0 (by omega)
 refine T.gY (by omega) ?_
 refine T.step (GM R s 0 (by omega) (by omega) (by omega)) ?_
 rw[Nat.zero_add] at hbl
 refine T.bind (IF (st0:=st) (l:=(nM s).1) (e:=(nM s).2) hs (by omega) (fun j st1 he k1=>T.some (hb j st1 he k1)) (fun x st1 he S1 hf1 hl1 k1=>?_) R (s.length+1) (iJ Fb s 0) (acc:=[]) (Sl.nil st 3) KN.refl (fun id h=>h.elim) hbl (by omega) (by omega) (Nat.zero_le _) rfl rfl)
 refine PU (t:=121) (v:=.agg (Bw (0,[],(s.length:Int)))) k1 S1 hf1 rfl (EG _) (by rw[Am]; simp only[iL]; omega) (by decide) fun x' st2 K2 S2 hf2 hg2 hn2=>?_
 refine T.some (hg _ _ he ?_ hl1 K2)
 have S3:Sl st2 3 x' (lR (vH s)):=by unfold vH; rw[← Cf]; exact S2
 exact S3.row
end
end Go.Proofs.YthodfojhbbendaaGreatDoor
end
section
set_option linter.all false
set_option maxRecDepth 100000
namespace Go.Proofs.YthodfojhbbendaaGreatDoor
open Go Go.Ev
noncomputable section
def val (l:List UInt8):Nat:=l.foldl (fun a c=>a * 10+(c.toNat - 48)) 0
theorem CJ (c:UInt8)(l:List UInt8):val (c :: l)=(c.toNat - 48) * 10 ^ l.length+val l:=by
 have key:∀(l:List UInt8) (a:Nat),l.foldl (fun a c=>a * 10+(c.toNat - 48)) a=a * 10 ^ l.length+val l:=by
  intro l
  induction l with
  | nil=>intro a; simp[val]
  | cons b l ih =>
    intro a
    simp only[List.foldl_cons,List.length_cons,val]
    rw[ih,ih (0 * 10+(b.toNat - 48)),Nat.pow_succ,Nat.add_mul]
    simp only[Nat.zero_mul,Nat.zero_add]
    rw[Nat.mul_assoc,Nat.mul_comm 10]
    omega
 show l.foldl _ (0 * 10+(c.toNat - 48))=_
 rw[key]; simp
theorem Jf {l:List UInt8}(h:∀ c ∈ l,BW c.toNat=true):val l<10 ^ l.length:=by
 induction l with
 | nil=>simp[val]
 | cons c l ih =>
   rw[CJ,List.length_cons,Nat.pow_succ]
   have h1:=ih fun c hc=>h c (List.mem_cons_of_mem _ hc)
   have h2:=h c List.mem_cons_self
   simp only[BW,Bool.and_eq_true,decide_eq_true_eq] at h2
   have h3:(c.toNat - 48) * 10 ^ l.length≤9 * 10 ^ l.length:=Nat.mul_le_mul_right _ (by omega)
   omega
theorem M0 : ∀ {a b : List UInt8}, a.length = b.length → (∀ c ∈ a, BW c.toNat = true) → (∀ c ∈ b, BW c.toNat = true) → (strLt a b || gT a b) = decide (val a ≤ val b)
 | [],[],_,_,_=>rfl
 | x :: a, y :: b, hl, ha, hb => by
   have h1:=M0 (a:=a) (b:=b) (by simpa using hl) (fun c hc=>ha c (List.mem_cons_of_mem _ hc)) (fun c hc=>hb c (List.mem_cons_of_mem _ hc))
   have h2:=ha x List.mem_cons_self
   have h3:=hb y List.mem_cons_self
   simp only[BW,Bool.and_eq_true,decide_eq_true_eq] at h2 h3
   have v1:=Jf fun c hc=>ha c (List.mem_cons_of_mem _ hc)
   have v2:=Jf fun c hc=>hb c (List.mem_cons_of_mem _ hc)
   have hl':a.length=b.length:=by simpa using hl
   rw[CJ,CJ,← hl']
   rw[← hl'] at v2
   simp only[strLt,gT]
   rcases Nat.lt_trichotomy x.toNat y.toNat with h | h | h
   ·have e1:Nat.blt x.toNat y.toNat=true:=Nat.ble_eq_true_of_le h
    rw[e1,Bool.true_or,Bool.true_or]
    symm
    rw[decide_eq_true_eq]
    have:(x.toNat - 48+1) * 10 ^ a.length≤(y.toNat - 48) * 10 ^ a.length:=Nat.mul_le_mul_right _ (by omega)
    rw[Nat.add_mul] at this
    omega
   ·have e1:Nat.blt x.toNat y.toNat=false:=by
     cases e:Nat.blt x.toNat y.toNat with
     | false=>rfl
     | true=>have:=Nat.le_of_ble_eq_true e; omega
    rw[e1,h,Nat.beq_refl,Bool.false_or,Bool.true_and,Bool.true_and,h1]
    exact decide_eq_decide.2 (by omega)
   ·have e1:Nat.blt x.toNat y.toNat=false:=by
     cases e:Nat.blt x.toNat y.toNat with
     | false=>rfl
     | true=>have:=Nat.le_of_ble_eq_true e; omega
    have e2:Nat.beq x.toNat y.toNat=false:=by
     cases e:Nat.beq x.toNat y.toNat with
     | false=>rfl
     | true=>have:=Nat.eq_of_beq_eq_true e; omega
    rw[e1,e2]
    simp only[Bool.false_or,Bool.false_and]
    symm
    rw[decide_eq_false_iff_not]
    have:(y.toNat - 48+1) * 10 ^ a.length≤(x.toNat - 48) * 10 ^ a.length:=Nat.mul_le_mul_right _ (by omega)
    rw[Nat.add_mul] at this
    omega
end
end Go.Proofs.YthodfojhbbendaaGreatDoor
end
section
set_option linter.all false
set_option maxRecDepth 100000
set_option maxHeartbeats 4000000
namespace Go.Proofs.YthodfojhbbendaaGreatDoor
open Go Go.Ev
noncomputable section
attribute [local congr] n7 sW
end
end Go.Proofs.YthodfojhbbendaaGreatDoor
end
section
set_option linter.all false
set_option maxRecDepth 100000
set_option maxHeartbeats 4000000
namespace Go.Proofs.YthodfojhbbendaaGreatDoor
open Go Go.Ev
noncomputable section
attribute [local congr] n7 sW
structure Ql (m:Sm):Prop where
 v:Fits m.v 3999
 w:Fits m.w 3999
 t:m.t.length≤10000000
 f:m.f.length≤10000000
 o:m.o.length≤10000000
 nl:m.names.length≤1000000
 ns:∀ n ∈ m.names,n.length≤10000000
 es:∀ e ∈ m.exprs,Fits e 3999
 cl:m.Lq.length≤1000000
 cs:∀ n ∈ m.Lq,n.length≤10000000
 l:m.l≤9223372036854775807
structure RC (m:Sm)(vk vn nv ev wk wn cv:AV):Prop where
 vk:vk.one=true
 vn:vn.one=true
 nv:nv.one=true
 ev:ev.one=true
 wk:wk.one=true
 wn:wn.one=true
 cv:cv.one=true
theorem RS.Po {m:Sm}{vk vn nv ev wk wn cv:AV}(h:RS m vk vn nv ev wk wn cv):RC m vk vn nv ev wk wn cv:=by
 obtain⟨kcs,h1,h2⟩:=h.exprs
 exact⟨h.v.one.1,h.v.one.2,Row.one h.names,Row.one h1,h.w.one.1,h.w.one.2,Row.one h.Lq⟩
end
end Go.Proofs.YthodfojhbbendaaGreatDoor
end
section
set_option linter.all false
set_option maxRecDepth 100000
set_option maxHeartbeats 4000000
namespace Go.Proofs.YthodfojhbbendaaGreatDoor
open Go Go.Ev
noncomputable section
attribute [local congr] n7 sW
end
end Go.Proofs.YthodfojhbbendaaGreatDoor
end
section
set_option linter.all false
set_option maxRecDepth 100000
set_option maxHeartbeats 1000000
namespace Go.Proofs.YthodfojhbbendaaGreatDoor
open Go Go.Ev
noncomputable section
structure Ad (ws:List W)(z z':Z):Prop where
 le:z.i≤z'.i
 lt:z'.i<ws.length
 d:z'.d=z.d
 e:z.e≠0→z'.e≠0∧z'.i=z.i
theorem Ad.refl {ws:List W}{z:Z}(h:z.i<ws.length):Ad ws z z:=⟨Nat.le_refl _,h,rfl,fun h=>⟨h,rfl⟩⟩
theorem Ad.trans {ws:List W}{a b c:Z}(h:Ad ws a b)(k:Ad ws b c):Ad ws a c:=
 ⟨Nat.le_trans h.le k.le,k.lt,k.d.trans h.d,fun he=>⟨(k.e (h.e he).1).1,(k.e (h.e he).1).2.trans (h.e he).2⟩⟩
theorem Ad.e0 {ws:List W}{a b:Z}(h:Ad ws a b)(k:b.e=0):a.e=0:=by
 by_cases he:a.e=0
 ·exact he
 ·exact absurd k (h.e he).1
theorem DG {ws:List W}{z:Z}{e:Int}(h:z.i<ws.length):Ad ws z (qD z e):=by
 unfold qD
 split
 ·exact⟨Nat.le_refl _,h,rfl,fun he=>absurd (by assumption) he⟩
 ·exact Ad.refl h
theorem FL {z:Z}{e:Int}(he:e≠0):(qD z e).e≠0:=by
 unfold qD
 split
 ·exact he
 ·assumption
theorem Bm {ws:List W}{z:Z}(W:Wf ws)(h:z.i<ws.length)(he:z.e=0)(hk:(wd ws z.i).1≠0):Ad ws z (sL z):=
 ⟨Nat.le_succ _,W.more _ h hk,rfl,fun h=>absurd he h⟩
theorem qZ {ws:List W}{z z1:Z}{k:Int}{s:List UInt8}{b:Bool}(W:Wf ws)(h:z.i<ws.length)(hk:k≠0)(hb:vB ws z k s=(b,z1)):
 Ad ws z z1∧(b=true→z.e=0∧z1.e=0∧z1.i=z.i+1)∧(b=false→z1=z):=by
 unfold vB at hb
 split at hb
 ·rename_i hi
  obtain⟨rfl,rfl⟩:=Prod.mk.inj hb
  obtain⟨h1,h2,h3⟩:=F2 hi
  exact⟨Bm W h h1 (by rw[h2]; exact hk),fun _=>⟨h1,h1,rfl⟩,fun h=>by cases h⟩
 ·obtain⟨rfl,rfl⟩:=Prod.mk.inj hb
  exact⟨Ad.refl h,(fun h=>by cases h),fun _=>rfl⟩
theorem EU {ws:List W}{z:Z}{k:Int}{s:List UInt8}(W:Wf ws)(h:z.i<ws.length)(hk:k≠0):
 Ad ws z (oC ws z k s)∧((oC ws z k s).e=0→z.i<(oC ws z k s).i):=by
 unfold oC
 split
 ·rename_i hi
  obtain⟨h1,h2,h3⟩:=F2 hi
  exact⟨Bm W h h1 (by rw[h2]; exact hk),fun _=>Nat.lt_succ_self _⟩
 ·exact⟨DG h,fun he=>absurd he (FL (by decide))⟩
theorem Gs {ws:List W}{z:Z}(W:Wf ws)(h:z.i<ws.length):
 Ad ws z (lO ws z).2∧((lO ws z).2.e=0→z.i<(lO ws z).2.i)∧(lO ws z).1.length≤2000 * ((lO ws z).2.i - z.i):=by
 unfold lO
 split
 ·rename_i hi
  refine⟨Bm W h hi.1 (by rw[hi.2]; decide),fun _=>Nat.lt_succ_self _,?_⟩
  have:=W.short z.i
  show _≤2000 * (z.i+1 - z.i)
  rw[Nat.add_sub_cancel_left]; exact this
 ·exact⟨DG h,fun he=>absurd he (FL (by decide)),Nat.zero_le _⟩
theorem vR {ws:List W}{z:Z}(h:z.i<ws.length):Ad ws z (gG z)∧(gG z).i=z.i:=by
 unfold gG
 split
 ·refine⟨Ad.trans (b:=y6 z) ⟨Nat.le_refl _,h,rfl,fun h=>⟨h,rfl⟩⟩ (DG h),?_⟩
  unfold qD; split <;> rfl
 ·exact⟨⟨Nat.le_refl _,h,rfl,fun h=>⟨h,rfl⟩⟩,rfl⟩
theorem Iv {z:Z}(h0:0≤z.d)(h1:z.d≤25):(cN z).i=z.i∧(cN z).d=z.d+1∧(z.e≠0→(cN z).e≠0)∧((cN z).e=0→z.d≤23):=by
 have hw:IntKind.wrap .i64 (z.d+1)=z.d+1:=wrap64 (by omega) (by omega)
 have h2:(Av z).d=z.d+1:=hw
 refine⟨Ke,?_,?_,?_⟩
 ·unfold cN qD
  split
  ·split <;> exact h2
  ·exact h2
 ·intro he
  unfold cN
  split
  ·unfold qD
   split
   ·exact(by decide:(3:Int)≠0)
   ·exact he
  ·exact he
 ·intro he
  unfold cN at he
  split at he
  ·exact absurd he (FL (by decide))
  ·omega
theorem OZ {ws:List W}{z z1:Z}(h0:0≤z.d)(h1:z.d≤25)(h:Ad ws (cN z) z1):Ad ws z (F8 z1):=by
 obtain⟨a1,a2,a3,a4⟩:=Iv h0 h1
 refine⟨by have:=h.le; show z.i≤z1.i; omega,h.lt,?_,fun he=>?_⟩
 ·show IntKind.wrap .i64 (z1.d - 1)=z.d
  rw[h.d,a2,wrap64 (by omega) (by omega)]; omega
 ·have:=h.e (a3 he)
  exact⟨this.1,this.2.trans a1⟩
theorem KM {ws:List W}(W:Wf ws):∀(r:Nat) {s:List UInt8} {z:Z},z.i<ws.length→ws.length - z.i<r→s.length+2001 * (ws.length - z.i)≤100000000 →
 ∃ s' z',DL ws r s z=.some (s',z')∧Ad ws z z'∧s'.length≤s.length+2001 * (z'.i - z.i)
 | 0,_,_,_,h,_=>by omega
 | r + 1, s, z, hi, hr, hs => by
   unfold DL
   rcases e:nA ws z [46] with⟨b,z1⟩
   obtain⟨h1,h2,h3⟩:=qZ W hi (by decide) e
   cases b with
   | true =>
     obtain⟨k1,k2,k3⟩:=h2 rfl
     obtain⟨n1,n2,n3⟩:=Gs W h1.lt
     have l1:=n1.le
     have l2:=n1.lt
     simp only
     rw[lS (by simp only[List.length_cons,List.length_nil]; omega),Option.bind_some,lS (by simp only[List.length_append,List.length_cons,List.length_nil]; omega),Option.bind_some]
     obtain⟨s',z',e1,e2,e3⟩:=KM W r (s:=s ++ ([46] ++ (lO ws z1).1)) (z:=(lO ws z1).2) l2 (by omega) (by simp only[List.length_append,List.length_cons,List.length_nil]; omega)
     refine⟨s',z',e1,(h1.trans n1).trans e2,?_⟩
     simp only[List.length_append,List.length_cons,List.length_nil] at e3
     have:=e2.le
     omega
   | false =>
     obtain rfl:=h3 rfl
     exact⟨s,z1,rfl,h1,by omega⟩
theorem Ov {ws:List W}(W:Wf ws){R:Nat}(hR:3000<R){z:Z}(h:z.i<ws.length):
 ∃ s z',Lt ws R z=.some (s,z')∧Ad ws z z'∧(z'.e=0→z.i<z'.i)∧s.length≤2001 * (z'.i - z.i):=by
 obtain⟨n1,n2,n3⟩:=Gs W h
 have hf:=W.Pc
 have l1:=n1.le
 have l2:=n1.lt
 obtain⟨s',z',e1,e2,e3⟩:=KM W R (s:=(lO ws z).1) n1.lt (by omega) (by omega)
 have l3:=e2.le
 exact⟨s',z',e1,n1.trans e2,fun he=>by have:=n2 (e2.e0 he); omega,by omega⟩
theorem Gm {s:List UInt8}{n:Int}(h:sB s=.some n):-9223372036854775808≤n∧n≤9223372036854775807:=by
 unfold sB at h
 split at h
 ·rename_i v hv
  rw[Go.Lib.parseIntB_64] at hv
  obtain⟨h1,h2⟩:=b7 h
  have:=Option.some.inj h2
  subst this
  exact Go.Lib.atoiAll_bounds hv
 ·cases h
def XF (i0:Nat)(z:Z)(e:Ex):Prop:=z.e=0→i0<z.i∧e.wt≤2500 * (z.i - i0)∧e.dp≤z.i - i0∧e.ok
theorem Od {v:Vl}(h:v.s.length≤2000)(hv:v.ok):(AP v).wt≤2100∧(AP v).dp=1∧(AP v).ok:=by
 refine⟨?_,rfl,hv,trivial⟩
 show 100+0+v.s.length+0+0≤2100
 omega
theorem OR {ws : List W} (W : Wf ws) {z : Z} (h : z.i < ws.length) : ∃ e z', MR ws z = .some (e, z') ∧ Ad ws z z' ∧ XF z.i z' e := by
 unfold MR
 rcases e1:sR ws z [78,85,76,76] with⟨b1,z1⟩
 obtain⟨h1,h2,h3⟩:=qZ W h (by decide) e1
 have fin:∀{z2:Z} {v:Vl},Ad ws z z2→(z2.e=0→z.i<z2.i)→v.s.length≤2000→v.ok→Ad ws z (gG z2)∧XF z.i (gG z2) (AP v):=by
  intro z2 v hz hp hv A9
  obtain⟨c1,c2⟩:=vR hz.lt
  obtain⟨w1,w2,w3⟩:=Od hv A9
  refine⟨hz.trans c1,fun he=>?_⟩
  have:=hp (c1.e0 he)
  rw[c2]
  exact⟨this,by omega,by omega,w3⟩
 cases b1 with
 | true =>
   obtain⟨k1,k2,k3⟩:=h2 rfl
   obtain⟨f1,f2⟩:=fin h1 (fun _=>by omega) (v:=V0) (by decide) (fun h=>by cases h)
   exact⟨_,_,rfl,f1,f2⟩
 | false =>
   obtain rfl:=h3 rfl
   simp only
   rcases e2:sR ws z1 [84,82,85,69] with⟨b2,z2⟩
   obtain⟨h4,h5,h6⟩:=qZ W h (by decide) e2
   cases b2 with
   | true =>
     obtain⟨k1,k2,k3⟩:=h5 rfl
     obtain⟨f1,f2⟩:=fin h4 (fun _=>by omega) (v:=⟨1,true,0,[]⟩) (by decide) (fun h=>by cases h)
     exact⟨_,_,rfl,f1,f2⟩
   | false =>
     obtain rfl:=h6 rfl
     simp only
     rcases e3:sR ws z2 [70,65,76,83,69] with⟨b3,z3⟩
     obtain⟨h7,h8,h9⟩:=qZ W h (by decide) e3
     cases b3 with
     | true =>
       obtain⟨k1,k2,k3⟩:=h8 rfl
       obtain⟨f1,f2⟩:=fin h7 (fun _=>by omega) (v:=⟨1,false,0,[]⟩) (by decide) (fun h=>by cases h)
       exact⟨_,_,rfl,f1,f2⟩
     | false =>
       obtain rfl:=h9 rfl
       simp only
       by_cases he:z3.e=0
       ·rw[if_pos he]
        have hs:=W.short z3.i
        by_cases c3:(wd ws z3.i).1=3
        ·rw[if_pos c3]
         have hn:=W.num z3.i c3
         cases ep:sB (wd ws z3.i).2.1 with
         | none=>rw[ep] at hn; cases hn
         | some n =>
           obtain⟨f1,f2⟩:=fin (Bm W h he (by rw[c3]; decide)) (fun _=>Nat.lt_succ_self _) (v:=⟨2,false,n,[]⟩) (Nat.zero_le _) (fun _=>Gm ep)
           exact⟨_,_,rfl,f1,f2⟩
        ·rw[if_neg c3]
         by_cases c4:(wd ws z3.i).1=4
         ·rw[if_pos c4]
          obtain⟨f1,f2⟩:=fin (Bm W h he (by rw[c4]; decide)) (fun _=>Nat.lt_succ_self _) (v:=⟨3,false,0,(wd ws z3.i).2.1⟩) hs (fun h=>by cases h)
          exact⟨_,_,rfl,f1,f2⟩
         ·rw[if_neg c4]
          by_cases c5:(wd ws z3.i).1=5
          ·rw[if_pos c5]
           obtain⟨f1,f2⟩:=fin (Bm W h he (by rw[c5]; decide)) (fun _=>Nat.lt_succ_self _) (v:=⟨4,false,0,(wd ws z3.i).2.1⟩) hs (fun h=>by cases h)
           exact⟨_,_,rfl,f1,f2⟩
          ·rw[if_neg c5]
           exact⟨_,_,rfl,DG h,fun h=>absurd h (FL (by decide))⟩
       ·rw[if_neg he]
        exact⟨_,_,rfl,Ad.refl h,fun h=>absurd h he⟩
end
end Go.Proofs.YthodfojhbbendaaGreatDoor
end
section
set_option linter.all false
set_option maxRecDepth 100000
set_option maxHeartbeats 1000000
namespace Go.Proofs.YthodfojhbbendaaGreatDoor
open Go Go.Ev
noncomputable section
structure Gd (ws:List W)(z:Z):Prop where
 lt:z.i<ws.length
 d0:0≤z.d
 d1:z.d≤25
 d2:z.e=0→z.d≤24
def Md (z:Z):Nat:=if z.e=0 then 10 * (26 - z.d.toNat) else 10
theorem Gd.of {ws:List W}{z z':Z}(h:Gd ws z)(a:Ad ws z z'):Gd ws z':=⟨a.lt,by rw[a.d]; exact h.d0,by rw[a.d]; exact h.d1,fun he=>by rw[a.d]; exact h.d2 (a.e0 he)⟩
theorem AM {ws:List W}{z z':Z}(h:Gd ws z)(a:Ad ws z z'):Md z'≤Md z:=by
 unfold Md
 by_cases he:z'.e=0
 ·rw[if_pos he,if_pos (a.e0 he),a.d]; exact Nat.le_refl _
 ·rw[if_neg he]
  split
  ·have:=h.d1
   have:=h.d0
   omega
  ·exact Nat.le_refl _
theorem MF {ws:List W}{z:Z}(h:Gd ws z):10≤Md z:=by
 unfold Md
 split
 ·have:=h.d1
  have:=h.d0
  omega
 ·exact Nat.le_refl _
theorem MG {ws:List W}{z:Z}(h:Gd ws z)(he:z.e=0):Gd ws (cN z)∧Md (cN z)+10≤Md z:=by
 obtain⟨a1,a2,a3,a4⟩:=Iv h.d0 h.d1
 have:=h.d0
 have:=h.d2 he
 refine⟨⟨by rw[a1]; exact h.lt,by omega,by omega,fun h0=>by have:=a4 h0; omega⟩,?_⟩
 unfold Md
 rw[if_pos he]
 split
 ·rw[a2]; omega
 ·omega
def EF (ws:List W)(z z':Z)(e:Ex):Prop:=Ad ws z z'∧XF z.i z' e
structure PB (ws:List W)(Q:Pr)(k:Nat):Prop where
 b:∀(rank:Int) (z:Z),0≤rank→rank≤6→Gd ws z→Md z+9≤k+rank.toNat→ ∃ e z',Q.b rank z=.some (e,z')∧EF ws z z' e
 n:∀ z:Z,Gd ws z→Md z+6≤k→ ∃ e z',Q.n z=.some (e,z')∧EF ws z z' e
 u:∀ z:Z,Gd ws z→Md z+2≤k→ ∃ e z',Q.u z=.some (e,z')∧EF ws z z' e
theorem PH {s:List UInt8}{x y:Ex}:(EE s x y).wt=100+s.length+(x.wt+y.wt):=by
 show 100+s.length+0+(x.wt+(y.wt+0))+0=_
 omega
theorem Ou {s:List UInt8}{x y:Ex}:(EE s x y).dp=max x.dp y.dp+1:=by
 show max x.dp (max y.dp 0)+1=_
 omega
theorem GZ {v:Vl}(h:v=V0):v.ok:=by subst h; intro h; cases h
theorem PA {s:List UInt8}{x y:Ex}(h:x.ok)(k:y.ok):(EE s x y).ok:=⟨GZ rfl,h,k,trivial⟩
theorem Hb {k:Int}{x:Ex}:(Fs k x).wt=100+x.wt:=by
 show 100+0+0+(x.wt+0)+0=_
 omega
theorem Hj {k:Int}{x:Ex}:(Fs k x).dp=x.dp+1:=by
 show max x.dp 0+1=_
 omega
theorem Ho {k:Int}{x:Ex}(h:x.ok):(Fs k x).ok:=⟨GZ rfl,h,trivial⟩
theorem Ls {ws : List W} {Q : Pr} {k : Nat} (W : Wf ws) (HQ : PB ws Q k) {rank : Int} (h0 : 0 ≤ rank) (h6 : rank < 6) : ∀ (r : Nat) {x : Ex} {z : Z} {i0 : Nat}, Gd ws z → 0 < r → (z.e = 0 → ws.length - z.i < r) → Md z + 8 ≤ k + rank.toNat → XF i0 z x → i0 ≤ z.i →
 ∃ e z',GN ws Q rank r x z=.some (e,z')∧Ad ws z z'∧XF i0 z' e
 | 0,_,_,_,_,h,_,_,_,_=>by omega
 | r + 1, x, z, i0, hG, _, hr, hM, hx, hi => by
   unfold GN
   by_cases he:z.e=0
   ·rw[if_pos he]
    by_cases hk:Bi (wd ws z.i).1 (wd ws z.i).2.1=rank
    ·rw[if_pos hk]
     have ht:=Bm W hG.lt he (GX (by rw[hk]; exact h0))
     have hw:IntKind.wrap .i64 (rank+1)=rank+1:=wrap64 (by omega) (by omega)
     rw[hw]
     have hm:=AM hG ht
     have e1:(rank+1).toNat=rank.toNat+1:=by omega
     obtain⟨y,z2,q1,q2,q3⟩:=HQ.b (rank+1) (sL z) (by omega) (by omega) (hG.of ht) (by rw[e1]; omega)
     rw[q1,Option.bind_some]
     try dsimp only
     obtain⟨c1,c2⟩:=vR q2.lt
     have hA:Ad ws z (gG z2):=(ht.trans q2).trans c1
     have hX:XF i0 (gG z2) (EE (wd ws z.i).2.1 x y):=by
      intro h2
      have h3:=c1.e0 h2
      obtain⟨y1,y2,y3,y4⟩:=q3 h3
      obtain⟨x1,x2,x3,x4⟩:=hx he
      have hs:=W.short z.i
      have et:(sL z).i=z.i+1:=rfl
      rw[c2,PH,Ou]
      exact⟨by omega,by omega,by omega,PA x4 y4⟩
     have hl:z.i+1≤(gG z2).i:=by rw[c2]; exact q2.le
     by_cases h3:rank=3
     ·simp only[h3,if_true]
      exact⟨_,_,rfl,hA,hX⟩
     ·simp only[h3,if_false]
      have hr0:=hr he
      have hlt:=hG.lt
      have hm2:=AM hG hA
      obtain⟨e,z',p1,p2,p3⟩:=Ls W HQ h0 h6 r (hG.of hA) (by omega) (fun _=>by omega) (by omega) hX (by omega)
      exact⟨e,z',p1,hA.trans p2,p3⟩
    ·rw[if_neg hk]
     exact⟨_,_,rfl,Ad.refl hG.lt,hx⟩
   ·rw[if_neg he]
    exact⟨_,_,rfl,Ad.refl hG.lt,hx⟩
theorem zA {ws:List W}{Q:Pr}{k Rn:Nat}(W:Wf ws)(HQ:PB ws Q k)(hR:3000<Rn){rank:Int}(h0:0≤rank)(h6:rank≤6){z:Z}(hG:Gd ws z)(hM:Md z+9≤k+1+rank.toNat):
 ∃ e z',qL ws Q Rn rank z=.some (e,z')∧EF ws z z' e:=by
 unfold qL
 by_cases r6:rank=6
 ·rw[if_pos r6]
  exact HQ.u z hG (by subst r6; simp at hM; omega)
 ·rw[if_neg r6]
  by_cases r2:rank=2
  ·rw[if_pos r2]
   exact HQ.n z hG (by subst r2; simp at hM; omega)
  ·rw[if_neg r2]
   have hw:IntKind.wrap .i64 (rank+1)=rank+1:=wrap64 (by omega) (by omega)
   rw[hw]
   have e1:(rank+1).toNat=rank.toNat+1:=by omega
   obtain⟨x,z1,q1,q2,q3⟩:=HQ.b (rank+1) z (by omega) (by omega) hG (by rw[e1]; omega)
   rw[q1,Option.bind_some]
   try dsimp only
   have hf:=W.Pc
   have hm:=AM hG q2
   obtain⟨e,z',p1,p2,p3⟩:=Ls W HQ h0 (by omega) Rn (hG.of q2) (by omega) (fun _=>by omega) (by omega) q3 q2.le
   exact⟨e,z',p1,q2.trans p2,p3⟩
theorem Pu {ws : List W} {Q : Pr} {k Rn : Nat} (W : Wf ws) (HQ : PB ws Q k) (hR : 3000 < Rn) {z : Z} (hG : Gd ws z) (hM : Md z + 6 ≤ k + 1) : ∃ e z', N5 ws Q Rn z = .some (e, z') ∧ EF ws z z' e := by
 unfold N5
 rcases e1:sR ws z [78,79,84] with⟨b1,z1⟩
 obtain⟨h1,h2,h3⟩:=qZ W hG.lt (by decide) e1
 cases b1 with
 | true =>
   obtain⟨k1,k2,k3⟩:=h2 rfl
   simp only
   have hG1:=hG.of h1
   obtain⟨i1,i2⟩:=MG hG1 k2
   have hm:=AM hG h1
   obtain⟨x,z2,q1,q2,q3⟩:=HQ.n (cN z1) i1 (by omega)
   rw[q1,Option.bind_some]
   try dsimp only
   obtain⟨c1,c2⟩:=vR q2.lt
   have ho:=OZ hG1.d0 hG1.d1 (q2.trans c1)
   refine⟨_,_,rfl,h1.trans ho,fun he=>?_⟩
   have he2:z2.e=0:=c1.e0 he
   obtain⟨x1,x2,x3,x4⟩:=q3 he2
   have ei:(cN z1).i=z1.i:=Ke
   have eo:(F8 (gG z2)).i=z2.i:=c2
   rw[eo,Hb,Hj]
   exact⟨by omega,by omega,by omega,Ho x4⟩
 | false =>
   obtain rfl:=h3 rfl
   simp only
   obtain⟨x,z2,q1,q2,q3⟩:=zA W HQ hR (rank:=3) (by decide) (by decide) hG (by simp; omega)
   rw[q1,Option.bind_some]
   try dsimp only
   try dsimp only
   rcases e3:sR ws z2 [73,83] with⟨b3,z3⟩
   obtain⟨h4,h5,h6⟩:=qZ W q2.lt (by decide) e3
   cases b3 with
   | true =>
     obtain⟨k1,k2,k3⟩:=h5 rfl
     simp only
     rcases e4:sR ws z3 [78,79,84] with⟨b4,z4⟩
     rw[show vB ws z3 2 [78,79,84]=(b4,z4) from e4]
     try dsimp only
     obtain⟨h7,h8,h9⟩:=qZ W h4.lt (by decide) e4
     obtain⟨m1,m2⟩:=EU (ws:=ws) (z:=z4) (k:=2) (s:=[78,85,76,76]) W h7.lt (by decide)
     obtain⟨c1,c2⟩:=vR m1.lt
     have hA:Ad ws z1 (gG (oC ws z4 2 [78,85,76,76])):=(((q2.trans h4).trans h7).trans m1).trans c1
     cases b4 with
     | true =>
       obtain⟨k4,k5,k6⟩:=h8 rfl
       rw[if_pos rfl]
       obtain⟨c3,c4⟩:=vR c1.lt
       refine⟨_,_,rfl,hA.trans c3,fun he=>?_⟩
       have he2:=c1.e0 (c3.e0 he)
       have:=m2 he2
       obtain⟨x1,x2,x3,x4⟩:=q3 (h4.e0 (h7.e0 (m1.e0 he2)))
       rw[c4,c2,Hb,Hb,Hj,Hj]
       exact⟨by omega,by omega,by omega,Ho (Ho x4)⟩
     | false =>
       obtain rfl:=h9 rfl
       rw[if_neg (by decide)]
       refine⟨_,_,rfl,hA,fun he=>?_⟩
       have he2:=c1.e0 he
       have:=m2 he2
       obtain⟨x1,x2,x3,x4⟩:=q3 (h4.e0 (m1.e0 he2))
       rw[c2,Hb,Hj]
       exact⟨by omega,by omega,by omega,Ho x4⟩
   | false =>
     obtain rfl:=h6 rfl
     exact⟨_,_,rfl,q2,q3⟩
theorem Jv {ws:List W}(W:Wf ws){z:Z}(h:z.i<ws.length){n:Nat}:Ad ws z (qS ws z n):=by
 have hm:=(EU (ws:=ws) (z:=z) (k:=6) (s:=[44]) W h (by decide)).1
 unfold qS
 split
 ·split
  ·exact hm.trans (DG hm.lt)
  ·exact DG h
 ·split
  ·exact hm
  ·exact Ad.refl h
theorem EX:∀(l:List Ex) (e:Ex),Lh (l ++ [e])=Lh l+e.wt
 | [],e=>by simp[Lh]
 | a :: l,e=>by simp only[List.cons_append,Lh,EX l e]; omega
theorem Ew:∀(l:List Ex) (e:Ex),NH (l ++ [e])=max (NH l) e.dp
 | [],e=>by simp[NH]
 | a :: l,e=>by simp only[List.cons_append,NH,Ew l e]; omega
theorem EH:∀{l:List Ex} {e:Ex},QA l→e.ok→QA (l ++ [e])
 | [],e,_,h=>⟨h,trivial⟩
 | a :: l,e,h,k=>⟨h.1,EH h.2 k⟩
theorem IH:∀(l:List (List UInt8)) (n:List UInt8),NF (l ++ [n])=NF l+n.length+20
 | [],n=>by simp[NF]
 | a :: l,n=>by simp only[List.cons_append,NF,IH l n]; omega
def LF (i0:Nat)(z:Z)(l:List Ex)(ns:List (List UInt8)):Prop:=z.e=0→i0≤z.i∧Lh l+NF ns≤2500 * (z.i - i0)∧NH l≤z.i - i0∧QA l∧l.length≤z.i - i0∧ns.length≤z.i - i0
theorem KR {ws : List W} {Q : Pr} {k Rn : Nat} (W : Wf ws) (HQ : PB ws Q k) (hR : 3000 < Rn) {stop : List UInt8} : ∀ (r : Nat) {out : List Ex} {z : Z} {i0 : Nat}, Gd ws z → 0 < r → (z.e = 0 → ws.length - z.i < r) → Md z + 9 ≤ k + 1 → LF i0 z out [] →
 ∃ l z',D7 ws Q Rn stop r out z=.some (l,z')∧Ad ws z z'∧LF i0 z' l []
 | 0,_,_,_,_,h,_,_,_=>by omega
 | r + 1, out, z, i0, hG, _, hr, hM, hx => by
   unfold D7
   by_cases he:z.e=0
   ·rw[if_pos he]
    rcases e1:nA ws z stop with⟨b1,z1⟩
    obtain⟨h1,h2,h3⟩:=qZ W hG.lt (by decide) e1
    obtain⟨x0,x1,x2,x3,x4,x5⟩:=hx he
    cases b1 with
    | true =>
      obtain⟨k1,k2,k3⟩:=h2 rfl
      exact⟨_,_,rfl,h1,fun _=>⟨by omega,by omega,by omega,x3,by omega,by omega⟩⟩
    | false =>
      obtain rfl:=h3 rfl
      simp only
      have hc:=Jv W hG.lt (n:=out.length) (z:=z1)
      have hm:=AM hG hc
      obtain⟨y,z5,q1,q2,q3⟩:=zA W HQ hR (rank:=0) (by decide) (by decide) (hG.of hc) (by simp; omega)
      have hf:=W.Pc
      have hlt:=hG.lt
      rw[q1,Option.bind_some,if_pos (by unfold iL; omega)]
      have hA:=hc.trans q2
      have hm2:=AM hG hA
      have hcl:=hc.le
      have hr0:=hr he
      obtain⟨l,z',p1,p2,p3⟩:=KR W HQ hR r (out:=out ++ [y]) (z:=z5) (i0:=i0) (stop:=stop) (hG.of hA) (by omega) (fun h5=>by have:=(q3 h5).1; omega) (by omega) (fun h5=>by
       obtain⟨y1,y2,y3,y4⟩:=q3 h5
       rw[EX,Ew,List.length_append]
       simp only[NF,List.length_cons,List.length_nil] at *
       exact⟨by omega,by omega,by omega,EH x3 y4,by omega,by omega⟩)
      exact⟨l,z',p1,hA.trans p2,p3⟩
   ·rw[if_neg he]
    exact⟨_,_,rfl,Ad.refl hG.lt,hx⟩
theorem KK {ws : List W} {Q : Pr} {k Rn : Nat} (W : Wf ws) (HQ : PB ws Q k) (hR : 3000 < Rn) {stop : List UInt8} : ∀ (r : Nat) {out : List Ex} {ns : List (List UInt8)} {z : Z} {i0 : Nat}, Gd ws z → 0 < r → (z.e = 0 → ws.length - z.i < r) → Md z + 9 ≤ k + 1 → LF i0 z out ns →
 ∃ l ns' z',Cz ws Q Rn stop r out ns z=.some (l,ns',z')∧Ad ws z z'∧LF i0 z' l ns'
 | 0,_,_,_,_,_,h,_,_,_=>by omega
 | r + 1, out, ns, z, i0, hG, _, hr, hM, hx => by
   unfold Cz
   by_cases he:z.e=0
   ·rw[if_pos he]
    rcases e1:nA ws z stop with⟨b1,z1⟩
    obtain⟨h1,h2,h3⟩:=qZ W hG.lt (by decide) e1
    obtain⟨x0,x1,x2,x3,x4,x5⟩:=hx he
    cases b1 with
    | true =>
      obtain⟨k1,k2,k3⟩:=h2 rfl
      exact⟨_,_,_,rfl,h1,fun _=>⟨by omega,by omega,by omega,x3,by omega,by omega⟩⟩
    | false =>
      obtain rfl:=h3 rfl
      simp only
      have hc:=Jv W hG.lt (n:=out.length) (z:=z1)
      obtain⟨n1,n2,n3⟩:=Gs W hc.lt
      have hmu:=(EU (ws:=ws) (k:=6) (s:=[58]) W n1.lt (by decide)).1
      have hB:=(hc.trans n1).trans hmu
      have hm:=AM hG hB
      obtain⟨y,z5,q1,q2,q3⟩:=zA W HQ hR (rank:=0) (by decide) (by decide) (hG.of hB) (by simp; omega)
      have hf:=W.Pc
      have hlt:=hG.lt
      rw[q1,Option.bind_some,if_pos (by unfold iL; omega)]
      have hA:=hB.trans q2
      have hm2:=AM hG hA
      have hcl:=hc.le
      have hnl:=n1.le
      have hul:=hmu.le
      have hr0:=hr he
      obtain⟨l,ns',z',p1,p2,p3⟩:=KK W HQ hR r (out:=out ++ [y]) (ns:=ns ++ [(lO ws (qS ws z1 out.length)).1]) (z:=z5) (i0:=i0) (stop:=stop) (hG.of hA) (by omega) (fun h5=>by have:=(q3 h5).1; omega) (by omega) (fun h5=>by
       obtain⟨y1,y2,y3,y4⟩:=q3 h5
       have hn:=n2 (hmu.e0 (q2.e0 h5))
       rw[EX,Ew,IH,List.length_append,List.length_append]
       simp only[List.length_cons,List.length_nil] at *
       exact⟨by omega,by omega,by omega,EH x3 y4,by omega,by omega⟩)
      exact⟨l,ns',z',p1,hA.trans p2,p3⟩
   ·rw[if_neg he]
    exact⟨_,_,_,rfl,Ad.refl hG.lt,hx⟩
theorem C6 {ws:List W}{z:Z}{k:Int}{s:List UInt8}(h:z.e≠0):vB ws z k s=(false,z):=by
 unfold vB
 rw[if_neg (fun hi=>h (F2 hi).1)]
theorem NR {ws : List W} {Q : Pr} {k Rn : Nat} (W : Wf ws) (HQ : PB ws Q k) (hR : 3000 < Rn) {z : Z} (hG : Gd ws z) (hM : Md z + 2 ≤ k + 1) : ∃ e z', Eb ws Q Rn z = .some (e, z') ∧ EF ws z z' e := by
 obtain⟨a1,a2,a3,a4⟩:=Iv hG.d0 hG.d1
 have hf:=W.Pc
 have hlt:=hG.lt
 have hi0:(cN z).i<ws.length:=by omega
 have fin:∀{e:Ex} {z2:Z},Ad ws (cN z) z2→XF z.i z2 e→EF ws z (F8 z2) e:=fun{e z2} h k=>⟨OZ hG.d0 hG.d1 h,k⟩
 unfold Eb
 by_cases he:z.e=0
 ·obtain ⟨g1, g2⟩ := MG hG he
  rcases e1:nA ws (cN z) [45] with⟨b1,z1⟩
  obtain⟨h1,h2,h3⟩:=qZ W hi0 (by decide) e1
  cases b1 with
  | true =>
    obtain⟨k1,k2,k3⟩:=h2 rfl
    simp only
    have hm:=AM g1 h1
    obtain⟨x,z2,q1,q2,q3⟩:=HQ.u z1 (g1.of h1) (by omega)
    rw[q1,Option.bind_some]
    try dsimp only
    obtain⟨c1,c2⟩:=vR q2.lt
    refine⟨_,_,rfl,fin ((h1.trans q2).trans c1) fun h0=>?_⟩
    obtain⟨x1,x2,x3,x4⟩:=q3 (c1.e0 h0)
    rw[c2,Hb,Hj]
    exact⟨by omega,by omega,by omega,Ho x4⟩
  | false =>
    obtain rfl:=h3 rfl
    simp only
    rcases e2:nA ws (cN z) [40] with⟨b2,z2⟩
    obtain⟨h4,h5,h6⟩:=qZ W hi0 (by decide) e2
    cases b2 with
    | true =>
      obtain⟨k1,k2,k3⟩:=h5 rfl
      simp only
      have hm:=AM g1 h4
      obtain⟨x,z3,q1,q2,q3⟩:=zA W HQ hR (rank:=0) (by decide) (by decide) (g1.of h4) (by simp; omega)
      rw[q1,Option.bind_some]
      try dsimp only
      obtain⟨m1,m2⟩:=EU (ws:=ws) (z:=z3) (k:=6) (s:=[41]) W q2.lt (by decide)
      refine⟨_,_,rfl,fin ((h4.trans q2).trans m1) fun h0=>?_⟩
      obtain⟨x1,x2,x3,x4⟩:=q3 (m1.e0 h0)
      have:=m1.le
      exact⟨by omega,by omega,by omega,x4⟩
    | false =>
      obtain rfl:=h6 rfl
      simp only
      rcases e3:nA ws (cN z) [91] with⟨b3,z3⟩
      obtain⟨h7,h8,h9⟩:=qZ W hi0 (by decide) e3
      cases b3 with
      | true =>
        obtain⟨k1,k2,k3⟩:=h8 rfl
        simp only
        have hm:=AM g1 h7
        obtain⟨l,z4,q1,q2,q3⟩:=KR W HQ hR Rn (out:=[]) (z:=z3) (i0:=z3.i) (stop:=[93]) (g1.of h7) (by omega) (fun _=>by omega) (by omega) (fun _=>⟨Nat.le_refl _,Nat.zero_le _,Nat.zero_le _,trivial,Nat.zero_le _,Nat.zero_le _⟩)
        rw[q1,Option.bind_some]
        try dsimp only
        obtain⟨c1,c2⟩:=vR q2.lt
        refine⟨_,_,rfl,fin ((h7.trans q2).trans c1) fun h0=>?_⟩
        obtain⟨x0,x1,x2,x3,x4,x5⟩:=q3 (c1.e0 h0)
        rw[c2]
        refine⟨by omega,?_,?_,GZ rfl,x3⟩
        ·show 100+0+0+Lh l+0≤_
         simp only[NF] at x1
         omega
        ·show NH l+1≤_
         omega
      | false =>
        obtain rfl:=h9 rfl
        simp only
        rcases e4:nA ws (cN z) [123] with⟨b4,z4⟩
        obtain⟨h10,h11,h12⟩:=qZ W hi0 (by decide) e4
        cases b4 with
        | true =>
          obtain⟨k1,k2,k3⟩:=h11 rfl
          simp only
          have hm:=AM g1 h10
          obtain⟨l,ns,z5,q1,q2,q3⟩:=KK W HQ hR Rn (out:=[]) (ns:=[]) (z:=z4) (i0:=z4.i) (stop:=[125]) (g1.of h10) (by omega) (fun _=>by omega) (by omega) (fun _=>⟨Nat.le_refl _,Nat.zero_le _,Nat.zero_le _,trivial,Nat.zero_le _,Nat.zero_le _⟩)
          rw[q1,Option.bind_some]
          try dsimp only
          obtain⟨c1,c2⟩:=vR q2.lt
          refine⟨_,_,rfl,fin ((h10.trans q2).trans c1) fun h0=>?_⟩
          obtain⟨x0,x1,x2,x3,x4,x5⟩:=q3 (c1.e0 h0)
          rw[c2]
          refine⟨by omega,?_,?_,GZ rfl,x3⟩
          ·show 100+0+0+Lh l+NF ns≤_
           omega
          ·show NH l+1≤_
           omega
        | false =>
          obtain rfl:=h12 rfl
          simp only
          split
          ·obtain⟨s,z5,q1,q2,q3,q4⟩:=Ov W hR hi0
           rw[q1,Option.bind_some]
           try dsimp only
           obtain⟨c1,c2⟩:=vR q2.lt
           refine⟨_,_,rfl,fin (q2.trans c1) fun h0=>?_⟩
           have:=q3 (c1.e0 h0)
           rw[c2]
           refine⟨by omega,?_,?_,GZ rfl,trivial⟩
           ·show 100+s.length+0+0+0≤_
            omega
           ·show 0+1≤_
            omega
          ·obtain⟨e,z5,q1,q2,q3⟩:=OR W hi0
           rw[q1,Option.bind_some]
           try dsimp only
           refine⟨_,_,rfl,fin q2 fun h0=>?_⟩
           obtain⟨x1,x2,x3,x4⟩:=q3 h0
           exact⟨by omega,by omega,by omega,x4⟩
 ·have hb:=a3 he
  have b1:nA ws (cN z) [45]=(false,cN z):=C6 hb
  have b2:nA ws (cN z) [40]=(false,cN z):=C6 hb
  have b3:nA ws (cN z) [91]=(false,cN z):=C6 hb
  have b4:nA ws (cN z) [123]=(false,cN z):=C6 hb
  simp only[b1,b2,b3,b4]
  rw[if_neg (fun h=>hb h.2)]
  obtain⟨e,z5,q1,q2,q3⟩:=OR W hi0
  rw[q1,Option.bind_some]
  try dsimp only
  refine⟨_,_,rfl,fin q2 fun h0=>?_⟩
  obtain⟨x1,x2,x3,x4⟩:=q3 h0
  exact⟨by omega,by omega,by omega,x4⟩
theorem Cs {ws:List W}(W:Wf ws){Rn:Nat}(hR:3000<Rn):∀ k,PB ws (pc ws Rn k) k
 | 0=>⟨(fun rank z _ _ h hm=>by have:=MF h; omega),(fun z h hm=>by have:=MF h; omega),(fun z h hm=>by have:=MF h; omega)⟩
 | k+1=>⟨(fun rank z h0 h6 hG hM=>zA W (Cs W hR k) hR h0 h6 hG hM),(fun z hG hM=>Pu W (Cs W hR k) hR hG hM),(fun z hG hM=>NR W (Cs W hR k) hR hG hM)⟩
theorem P8 {ws:List W}(W:Wf ws){R:Nat}(hR:3000<R){z:Z}(hG:Gd ws z):∃ e z',N4 ws R z=.some (e,z')∧EF ws z z' e:=by
 refine zA W (Cs W hR 4000) hR (by decide) (by decide) hG ?_
 unfold Md
 split
 ·omega
 ·omega
end
end Go.Proofs.YthodfojhbbendaaGreatDoor
end
section
set_option linter.all false
set_option maxRecDepth 100000
set_option maxHeartbeats 1000000
namespace Go.Proofs.YthodfojhbbendaaGreatDoor
open Go Go.Ev
noncomputable section
theorem O0:Fits E0 3999:=⟨by decide,by decide,GZ rfl,trivial⟩
theorem O5 {ws:List W}{i0:Nat}{z:Z}{e:Ex}(h:XF i0 z e)(he:z.e=0)(hz:z.i<ws.length)(hl:ws.length≤1100):Fits e 3999:=by
 obtain⟨h1,h2,h3,h4⟩:=h he
 exact⟨by omega,by omega,h4⟩
theorem Nn {ws:List W}(W:Wf ws)(hl:ws.length≤1100){R:Nat}(hR:3000<R){z:Z}(hG:Gd ws z):
 ∃ e z',Eh ws R z=.some (e,z')∧Ad ws z z'∧(z'.e=0→Fits e 3999):=by
 unfold Eh
 rcases e1:sR ws z [87,72,69,82,69] with⟨b1,z1⟩
 obtain⟨h1,h2,h3⟩:=qZ W hG.lt (by decide) e1
 cases b1 with
 | true =>
   obtain⟨e,z',q1,q2,q3⟩:=P8 W hR (hG.of h1)
   exact⟨e,z',q1,h1.trans q2,fun he=>O5 q3 he q2.lt hl⟩
 | false=>exact⟨_,_,rfl,h1,fun _=>O0⟩
def Og:Z:=⟨0,0,0,0⟩
def SG (m:Sm):Prop:=Fits m.w 3999
theorem Om {ws:List W}(W:Wf ws)(hl:ws.length≤1100){R:Nat}(hR:3000<R){z:Z}(hG:Gd ws z)(hD:G5 ws z):∃ m z',Hf ws R z=.some (m,z')∧Ad ws z z'∧(z'.e=0→SG m):=by
 unfold Hf
 obtain⟨h10,h11,h12⟩:=qZ W hG.lt (by decide) (Lr hD)
 have m1:=(EU (ws:=ws) (z:=sL z) (k:=2) (s:=[70,82,79,77]) W h10.lt (by decide)).1
 have n1:=(Gs W m1.lt).1
 have hA:=(h10.trans m1).trans n1
 obtain⟨w,z5,p1,p2,p3⟩:=Nn W hl hR (hG.of hA)
 rw[p1,Option.bind_some]
 exact⟨_,_,rfl,hA.trans p2,fun he=>p3 he⟩
end
end Go.Proofs.YthodfojhbbendaaGreatDoor
end
section
set_option linter.all false
set_option maxRecDepth 100000
set_option maxHeartbeats 1000000
namespace Go.Proofs.YthodfojhbbendaaGreatDoor
open Go Go.Ev
noncomputable section
theorem Ob:∀(l:List UInt8) (acc:Nat),(∀ c ∈ l,BW c.toNat=true)→acc * 10 ^ l.length+val l<10000000000000000000→Go.Lib.parseUint10 acc l=.ok (acc * 10 ^ l.length+val l)
 | [],acc,_,_=>by simp[Go.Lib.parseUint10,val]
 | c :: r, acc, h, hl => by
   have h2:=h c List.mem_cons_self
   simp only[BW,Bool.and_eq_true,decide_eq_true_eq] at h2
   rw[CJ,List.length_cons,Nat.pow_succ] at hl ⊢
   have hp:1≤10 ^ r.length:=Nat.pos_of_ne_zero (by exact Nat.ne_of_gt (Nat.pow_pos (by omega)))
   have e1:acc * (10 ^ r.length * 10)+((c.toNat - 48) * 10 ^ r.length+val r)=(acc * 10+(c.toNat - 48)) * 10 ^ r.length+val r:=by
    rw[Nat.add_mul,Nat.mul_assoc acc 10,Nat.mul_comm 10]; omega
   rw[e1] at hl ⊢
   have h3:(acc * 10+(c.toNat - 48)) * 1≤(acc * 10+(c.toNat - 48)) * 10 ^ r.length:=Nat.mul_le_mul_left _ hp
   simp only[Go.Lib.parseUint10]
   rw[if_pos ⟨by omega,by omega⟩,if_neg (by omega),if_neg (by omega)]
   exact Ob r _ (fun c hc=>h c (List.mem_cons_of_mem _ hc)) hl
theorem Mg:val A0=9223372036854775807:=by decide
theorem P6 {w:List UInt8}(h0:w≠[])(hd:∀ c ∈ w,BW c.toNat=true)(hn:GD w=true):(sB w).isSome=true:=by
 unfold GD at hn
 simp only[Bool.and_eq_true,decide_eq_true_eq] at hn
 obtain⟨⟨h1,h2⟩,h3⟩:=hn
 have hv:=Jf hd
 have hp:10 ^ w.length≤10 ^ 19:=Nat.pow_le_pow_right (by omega) h2
 have hlt:val w<9223372036854775808:=by
  by_cases hl:w.length<19
  ·have:10 ^ w.length≤10 ^ 18:=Nat.pow_le_pow_right (by omega) (by omega)
   omega
  ·rw[decide_eq_false hl,Bool.false_or] at h3
   rw[M0 (by show w.length=19; omega) hd (by decide),decide_eq_true_eq,Mg] at h3
   omega
 have hq:=Ob w 0 hd (by omega)
 rw[Nat.zero_mul,Nat.zero_add] at hq
 cases w with
 | nil=>exact absurd rfl h0
 | cons c r =>
   have hc:=hd c List.mem_cons_self
   simp only[BW,Bool.and_eq_true,decide_eq_true_eq] at hc
   have e:Go.Lib.parseIntB 64 (c :: r)=.ok ((val (c :: r):Nat):Int):=by
    rw[Go.Lib.parseIntB_64,Go.Lib.atoiAll_plain c r (by omega) (by omega)]
    unfold Go.Lib.parseMag
    rw[if_neg (by simp),hq]
    simp only[Go.Lib.signless]
    rw[if_neg (by omega)]
   unfold sB
   rw[e]
   dsimp only
   rw[eW (Nat.ble_eq_true_of_le (by unfold iL; omega))]; rfl
theorem HM {s : List UInt8} {k : Nat} {kd : Int} {w : List UInt8} {n : Nat} (hk : k < s.length) (h : wQ s k = some (kd, w, n)) : w.length ≤ s.length ∧ kd ≠ 0 ∧ (kd = 3 → (sB w).isSome = true) := by
 unfold wQ at h
 rw[List.getElem?_eq_getElem hk] at h
 dsimp only at h
 split at h
 ·obtain⟨q,h1,h2⟩:=Option.bind_eq_some_iff.1 h
  obtain⟨b,h3,h4⟩:=Option.map_eq_some_iff.1 h2
  cases h4
  have:=tB _ _ _ h1
  have h5:=Cv _ _ h3
  rw[List.length_drop] at this
  exact⟨by omega,by decide,fun h=>absurd h (by decide)⟩
 ·split at h
  ·have hp:=BC vV s k
   have hr:=pF vV s k (by omega)
   split at h
   ·cases h
    exact⟨by omega,by decide,fun h=>absurd h (by decide)⟩
   ·split at h
    ·cases h
     exact⟨by omega,by decide,fun h=>absurd h (by decide)⟩
    ·cases h
  ·split at h
   ·rename_i hD
    have hp:=BC BW s k
    have hr:=pF BW s k (by omega)
    split at h
    ·rename_i hn
     cases h
     obtain⟨r,hr2⟩:=C3 hk hD
     exact⟨by omega,by decide,fun _=>P6 (by rw[hr2]; simp) GH hn⟩
    ·cases h
   ·split at h
    ·obtain⟨q,h1,h2⟩:=Option.map_eq_some_iff.1 h
     cases h2
     have:=tB _ _ _ h1
     rw[List.length_drop] at this
     exact⟨by omega,by decide,fun h=>absurd h (by decide)⟩
    ·obtain⟨v,h1,h2⟩:=Option.map_eq_some_iff.1 h
     cases h2
     have:=EZ h1
     rw[List.length_drop] at this
     exact⟨by omega,by decide,fun h=>absurd h (by decide)⟩
theorem JD {s : List UInt8} : ∀ (f j : Nat), ∀ w ∈ (tk s f j).1, w.2.1.length ≤ s.length ∧ w.1 ≠ 0 ∧ (w.1 = 3 → (sB w.2.1).isSome = true)
 | 0,_,w,h=>by cases h
 | f + 1, j, w, h => by
   unfold tk at h
   split at h
   ·rename_i hlt
    split at h
    ·cases h
    ·rename_i kd v n hw
     rcases List.mem_cons.1 h with rfl | h
     ·exact HM hlt hw
     ·exact JD f _ w h
   ·cases h
theorem Hn {s : List UInt8} : ∀ (f j : Nat), (tk s f j).1.length ≤ s.length - j
 | 0,_=>Nat.zero_le _
 | f + 1, j => by
   unfold tk
   split
   ·rename_i hlt
    split
    ·exact Nat.zero_le _
    ·rename_i kd v n hw
     obtain⟨l1,l2⟩:=Ep hlt hw
     have:=Hn (s:=s) f (j+n+iJ Fb s (j+n))
     simp only[List.length_cons]
     omega
   ·exact Nat.zero_le _
theorem IK {s:List UInt8}:(vH s).length≤s.length+1:=by
 have:=Hn (s:=s) (s.length+1) (iJ Fb s 0)
 unfold vH nM
 simp only[List.length_append,List.length_cons,List.length_nil]
 omega
theorem Me {s:List UInt8}(i:Nat):wd (vH s) i ∈ (nM s).1∨((wd (vH s) i).1=0∧(wd (vH s) i).2.1=[]):=by
 unfold wd vH
 rcases Nat.lt_trichotomy i (nM s).1.length with h | h | h
 ·rw[List.getElem?_append_left h,List.getElem?_eq_getElem h]
  exact .inl (List.getElem_mem h)
 ·rw[List.getElem?_append_right (by omega),h,Nat.sub_self]
  exact .inr ⟨rfl,rfl⟩
 ·rw[List.getElem?_eq_none (by simp; omega)]
  exact .inr ⟨rfl,rfl⟩
theorem Pv {s : List UInt8} (hs : s.length ≤ 2000) : Wf (vH s) := by
 have hl:=IK (s:=s)
 refine⟨fun i hi hk=>?_,fun i=>?_,by omega,fun i hk=>?_⟩
 ·rcases Nat.lt_or_ge (i+1) (vH s).length with h | h
  ·exact h
  ·exfalso
   have e:i=(nM s).1.length:=by
    unfold vH at h hi
    simp only[List.length_append,List.length_cons,List.length_nil] at h hi
    omega
   apply hk
   unfold wd vH
   rw[List.getElem?_append_right (by omega),e,Nat.sub_self]; rfl
 ·rcases Me (s:=s) i with h | h
  ·have:=(JD _ _ _ h).1
   omega
  ·rw[h.2]; exact Nat.zero_le _
 ·rcases Me (s:=s) i with h | h
  ·exact(JD _ _ _ h).2.2 hk
  ·rw[h.1] at hk; cases hk
end
end Go.Proofs.YthodfojhbbendaaGreatDoor
end
section
set_option linter.all false
set_option maxRecDepth 100000
set_option maxHeartbeats 4000000
namespace Go.Proofs.YthodfojhbbendaaGreatDoor
open Go Go.Ev
noncomputable section
attribute [local congr] n7 sW
def PK (R:Nat)(s:List UInt8)(m:Sm):Prop:=(nM s).2=none∧ ∃ z',Hf (vH s) R Og=.some (m,z')∧z'.e=0∧(wd (vH s) z'.i).1=0
theorem R6 {cs:List AV}:shift (.pM cs) 0=.some (.pM cs):=by
 show cond (Nat.ble 0 cs.length) (Option.some (AV.pM (cs.drop 0))) none=_
 rw[eW (Nat.ble_eq_true_of_le (Nat.zero_le _)),List.drop_zero]
theorem KP.kn {p:Nat}{a b c:St}(h:KP p p a b)(k:KN c a)(hp:c.next≤p):KN c b:=
 ⟨Nat.le_trans k.1 h.1,fun i hi=>(h.2.1 i (Nat.lt_of_lt_of_le hi k.1) (by omega) (by omega)).trans (k.2.1 i hi),h.2.2.trans k.2.2⟩
theorem Pp {x:AV}{st:St}(h:x.one=true):oQ 126 (.agg [x,.int .i64 0,.int .i64 0,.int .i64 0,.int .i64 0,.int .i64 0]) st=.some (.ref st.next 0,st.push (.cells 126 true [x,.int .i64 0,.int .i64 0,.int .i64 0,.int .i64 0,.int .i64 0])):=by
 have:List.all [x,.int .i64 0,.int .i64 0,.int .i64 0,.int .i64 0,.int .i64 0] AV.one=true:=by
  simp only[List.all_cons,List.all_nil,Kq,h,Bool.and_self]
 exact if_pos this
theorem Qn {s:List UInt8}:Gd (vH s) Og:=⟨by unfold vH; simp[Og],by decide,by decide,fun _=>by decide⟩
theorem NV {R : Nat} (hR : 3000 < R) {s : List UInt8} (hs : s.length ≤ 1050) {st : St} (hD : (nM s).2 = none → G5 (vH s) Og) {φ : Int × List UInt8 × List UInt8 × Int × List UInt8 × Int × Bool × Int × List UInt8 × AV × AV × AV × AV × AV × AV × Int × List UInt8 × Int × Bool × Int × List UInt8 × AV × AV × AV × AV × AV × Bool × Bool × List UInt8 × Bool × Int × Int × Int × St → Prop}
 (hbad:∀ a e st1,(¬ ∃ m,PK R s m)→e≠0→KN st st1→φ (0,[],[],0,[],0,false,0,[],.aF,.aF,.aF,.aF,.aF,.aF,0,[],0,false,0,[],.aF,.aF,.aF,.aF,.aF,false,false,[],false,0,a,e,st1))
 (hgood:∀ m st1 vk vn nv ev wk wn cv,PK R s m→RS m vk vn nv ev wk wn cv→SG m→KN st st1→φ (m.k,m.t,m.f,m.v.k,m.v.s,m.v.v.k,m.v.v.b,m.v.v.n,m.v.v.s,.aF,.aF,vk,vn,nv,ev,m.w.k,m.w.s,m.w.v.k,m.w.v.b,m.w.v.n,m.w.v.s,.aF,.aF,wk,wn,cv,m.c,m.h,m.o,m.d,m.l,0,0,st1)):T φ (rK R s st):=by
 have W:=Pv (s:=s) (by omega)
 have hwl:=IK (s:=s)
 unfold rK
 refine T.bind (NQ (by omega) hR (fun j st1 hw k1=>?_) (fun x st1 hw hrow hl k1=>?_))
 ·refine T.gY (by decide) ?_
  have n_k1:=k1.le; (try simp only[aB,aE] at n_k1)
  have gr1:st1.aS.get st.next=.some (.cells 58 true [.int .i64 0,.str [],.str [],(.int .i64 0),(.str []),(.int .i64 0),(.bool false),(.int .i64 0),(.str []),AV.aF,AV.aF,AV.aF,AV.aF,.aF,.aF,(.int .i64 0),(.str []),(.int .i64 0),(.bool false),(.int .i64 0),(.str []),AV.aF,AV.aF,AV.aF,AV.aF,.aF,.bool false,.bool false,.str [],.bool false,.int .i64 0]):=by simp(disch:=(first | ((repeat(first | rw[aB] | rw[aE] | rw[List.length_cons] | rw[List.length_nil])) <;> omega) | (refine(?_:_∧True).1; constructor; simp only[aL, *]; exact True.intro))) only[cD,k1.2.1]
  repeat(refine T.step (by simp(disch:=(first | ((repeat(first | rw[aB] | rw[aE] | rw[List.length_cons] | rw[List.length_nil])) <;> omega) | (refine(?_:_∧True).1; constructor; simp only[aL, *]; exact True.intro))) only[aX,gr1]; try exact rfl) ?_)
  have K1:KN st st1:=(by repeat' (first | exact KN.trans (by repeat' (first | exact KN.refl | exact KN.refl | refine KN.dX ?_ | refine KN.loc ?_ ?_ | ((try simp only[aB,aE]) <;> omega))) k1 | refine KN.dX ?_ | refine KN.loc ?_ ?_ | ((try simp only[aB,aE]) <;> omega)))
  exact T.some (hbad _ _ _ (fun h=>by obtain⟨m,h,_⟩:=h; rw[h] at hw; cases hw) (by decide) (by repeat' (first | exact K1 | exact KN.refl | refine KN.dX ?_ | refine KN.loc ?_ ?_ | ((try simp only[aB,aE]) <;> omega))))
 ·refine T.fA rfl ?_
  have n_k1:=k1.le; (try simp only[aB,aE] at n_k1)
  have gr1:st1.aS.get st.next=.some (.cells 58 true [.int .i64 0,.str [],.str [],(.int .i64 0),(.str []),(.int .i64 0),(.bool false),(.int .i64 0),(.str []),AV.aF,AV.aF,AV.aF,AV.aF,.aF,.aF,(.int .i64 0),(.str []),(.int .i64 0),(.bool false),(.int .i64 0),(.str []),AV.aF,AV.aF,AV.aF,AV.aF,.aF,.bool false,.bool false,.str [],.bool false,.int .i64 0]):=by simp(disch:=(first | ((repeat(first | rw[aB] | rw[aE] | rw[List.length_cons] | rw[List.length_nil])) <;> omega) | (refine(?_:_∧True).1; constructor; simp only[aL, *]; exact True.intro))) only[cD,k1.2.1]
  have K1:KN st st1:=(by repeat' (first | exact KN.trans (by repeat' (first | exact KN.refl | exact KN.refl | refine KN.dX ?_ | refine KN.loc ?_ ?_ | ((try simp only[aB,aE]) <;> omega))) k1 | refine KN.dX ?_ | refine KN.loc ?_ ?_ | ((try simp only[aB,aE]) <;> omega)))
  have ox:=Row.one hrow
  refine T.step (OM ox) ?_
  refine T.step (Pp ox) ?_
  have hi0:=(Qn (s:=s)).lt
  have h2:PS (vH s) (st1.push (.cells 126 true [x,.int .i64 0,.int .i64 0,.int .i64 0,.int .i64 0,.int .i64 0])) st1.next Og:=PS.of (i:=0) (Qa rfl) hrow hi0 (Nat.lt_succ_self _)
  have K2:KN st (st1.push (.cells 126 true [x,.int .i64 0,.int .i64 0,.int .i64 0,.int .i64 0,.int .i64 0])):=K1.dX
  obtain⟨m,z',q1,q2,q3⟩:=Om W (by omega) hR (Qn (s:=s)) (hD hw)
  refine T.bind (Ol W (hD hw) h2 q1 fun st3 vk vn nv ev wk wn cv hm h3 k3=>?_)
  have n_k3:=k3.le; (try simp only[aB,aE] at n_k3)
  have K3:KN st st3:=KP.kn k3 K2 (by omega)
  have gr3:st3.aS.get st.next=.some (.cells 58 true [.int .i64 0,.str [],.str [],(.int .i64 0),(.str []),(.int .i64 0),(.bool false),(.int .i64 0),(.str []),AV.aF,AV.aF,AV.aF,AV.aF,.aF,.aF,(.int .i64 0),(.str []),(.int .i64 0),(.bool false),(.int .i64 0),(.str []),AV.aF,AV.aF,AV.aF,AV.aF,.aF,.bool false,.bool false,.str [],.bool false,.int .i64 0]):=by simp(disch:=(first | ((repeat(first | rw[aB] | rw[aE] | rw[List.length_cons] | rw[List.length_nil])) <;> omega) | (refine(?_:_∧True).1; constructor; simp only[aL, *]; exact True.intro))) only[cD,k3.2.1,gr1]
  obtain⟨o1,o2,o3,o4,o5,o6,o7⟩:=hm.Po
  have h30:=h3
  obtain⟨x3,a3,t3,u3,hg3,hr3,hi3,hp3⟩:=h3
  have hz3:=q2.lt
  repeat(refine T.step (by simp(disch:=(first | ((repeat(first | rw[aB] | rw[aE] | rw[List.length_cons] | rw[List.length_nil])) <;> omega) | (refine(?_:_∧True).1; constructor; simp only[aL, *]; exact True.intro))) only[aX,hg3,Jh hr3 hi3,R6,v3]; try exact rfl) ?_)
  by_cases hk:(wd (vH s) z'.i).1=0
  ·refine T.fA hk ?_
   unfold lT
   refine T.step rfl ?_
   repeat(refine T.step (by simp(disch:=(first | ((repeat(first | rw[aB] | rw[aE] | rw[List.length_cons] | rw[List.length_nil])) <;> omega) | (refine(?_:_∧True).1; constructor; simp only[aL, *]; exact True.intro))) only[aX,hg3]; try exact rfl) ?_)
   by_cases he:z'.e=0
   ·refine T.fA he ?_
    repeat(refine T.step (by simp(disch:=(first | ((repeat(first | rw[aB] | rw[aE] | rw[List.length_cons] | rw[List.length_nil])) <;> omega) | (refine(?_:_∧True).1; constructor; simp only[aL, *]; exact True.intro))) only[aX,gr3]; try exact rfl) ?_)
    exact T.some (hgood m _ _ _ _ _ _ _ _ ⟨hw,z',q1,he,hk⟩ hm (q3 he) (by repeat' (first | exact K3 | exact KN.refl | refine KN.dX ?_ | refine KN.loc ?_ ?_ | ((try simp only[aB,aE]) <;> omega))))
   ·refine T.gY he ?_
    have hno:¬ ∃ m,PK R s m:=by
     rintro⟨m',_,z2,p1,p2,p3⟩
     rw[q1] at p1
     obtain⟨rfl,rfl⟩:=Prod.mk.inj (Option.some.inj p1)
     exact he p2
    repeat(refine T.step (by simp(disch:=(first | ((repeat(first | rw[aB] | rw[aE] | rw[List.length_cons] | rw[List.length_nil])) <;> omega) | (refine(?_:_∧True).1; constructor; simp only[aL, *]; exact True.intro))) only[aX,hg3,gr3]; try exact rfl) ?_)
    refine T.fA (vF _ _) ?_
    repeat(refine T.step (by simp(disch:=(first | ((repeat(first | rw[aB] | rw[aE] | rw[List.length_cons] | rw[List.length_nil])) <;> omega) | (refine(?_:_∧True).1; constructor; simp only[aL, *]; exact True.intro))) only[aX,hg3]; try exact rfl) ?_)
    refine T.fA (vF _ _) ?_
    repeat(refine T.step (by simp(disch:=(first | ((repeat(first | rw[aB] | rw[aE] | rw[List.length_cons] | rw[List.length_nil])) <;> omega) | (refine(?_:_∧True).1; constructor; simp only[aL, *]; exact True.intro))) only[aX]; try exact rfl) ?_)
    exact T.some (hbad _ _ _ hno he (by repeat' (first | exact K3 | exact KN.refl | refine KN.dX ?_ | refine KN.loc ?_ ?_ | ((try simp only[aB,aE]) <;> omega))))
  ·refine T.gY hk ?_
   have hno:¬ ∃ m,PK R s m:=by
    rintro⟨m',_,z2,p1,p2,p3⟩
    rw[q1] at p1
    obtain⟨rfl,rfl⟩:=Prod.mk.inj (Option.some.inj p1)
    exact hk p3
   unfold kO
   refine T.bind (T.bind (A2 (ws:=vH s) (z:=z') (p:=st1.next) (by repeat' (first | exact h30 | refine PS.push ?_ _ | refine PS.put ?_ _ ?_ | ((try simp only[aB,aE]) <;> omega))) fun st4 h4 k4 hn4=>T.some ?_))
   have n_k4:=k4.le; (try simp only[aB,aE] at n_k4)
   have hne:(qD z' 120).e≠0:=FL (by decide)
   have K4:KN st st4:=KP.kn k4 (by repeat' (first | exact K3 | exact KN.refl | refine KN.dX ?_ | refine KN.loc ?_ ?_ | ((try simp only[aB,aE]) <;> omega))) (by omega)
   have gr4:st4.aS.get st.next=.some (.cells 58 true [.int .i64 0,.str [],.str [],(.int .i64 0),(.str []),(.int .i64 0),(.bool false),(.int .i64 0),(.str []),AV.aF,AV.aF,AV.aF,AV.aF,.aF,.aF,(.int .i64 0),(.str []),(.int .i64 0),(.bool false),(.int .i64 0),(.str []),AV.aF,AV.aF,AV.aF,AV.aF,.aF,.bool false,.bool false,.str [],.bool false,.int .i64 0]):=by simp(disch:=(first | ((repeat(first | rw[aB] | rw[aE] | rw[List.length_cons] | rw[List.length_nil])) <;> omega) | (refine(?_:_∧True).1; constructor; simp only[aL, *]; exact True.intro))) only[cD,k4.2.1,gr3]
   obtain⟨x4,a4,t4,u4,hg4,hr4,hi4,hp4⟩:=h4
   repeat(refine T.step (by simp(disch:=(first | ((repeat(first | rw[aB] | rw[aE] | rw[List.length_cons] | rw[List.length_nil])) <;> omega) | (refine(?_:_∧True).1; constructor; simp only[aL, *]; exact True.intro))) only[aX,hg4]; try exact rfl) ?_)
   refine T.gY hne ?_
   repeat(refine T.step (by simp(disch:=(first | ((repeat(first | rw[aB] | rw[aE] | rw[List.length_cons] | rw[List.length_nil])) <;> omega) | (refine(?_:_∧True).1; constructor; simp only[aL, *]; exact True.intro))) only[aX,hg4,gr4]; try exact rfl) ?_)
   refine T.fA (vF _ _) ?_
   repeat(refine T.step (by simp(disch:=(first | ((repeat(first | rw[aB] | rw[aE] | rw[List.length_cons] | rw[List.length_nil])) <;> omega) | (refine(?_:_∧True).1; constructor; simp only[aL, *]; exact True.intro))) only[aX,hg4]; try exact rfl) ?_)
   refine T.fA (vF _ _) ?_
   repeat(refine T.step (by simp(disch:=(first | ((repeat(first | rw[aB] | rw[aE] | rw[List.length_cons] | rw[List.length_nil])) <;> omega) | (refine(?_:_∧True).1; constructor; simp only[aL, *]; exact True.intro))) only[aX]; try exact rfl) ?_)
   exact T.some (hbad _ _ _ hno hne (by repeat' (first | exact K4 | exact KN.refl | refine KN.dX ?_ | refine KN.loc ?_ ?_ | ((try simp only[aB,aE]) <;> omega))))
end
end Go.Proofs.YthodfojhbbendaaGreatDoor
end
section
set_option linter.all false
set_option maxRecDepth 100000
set_option maxHeartbeats 4000000
namespace Go.Proofs.YthodfojhbbendaaGreatDoor
open Go Go.Ev
noncomputable section
attribute [local congr] n7 sW
theorem Cp : ∀ (k : Nat) {e x : Ex}, x ∈ n9 k e → x.wt ≤ e.wt
 | 0,_,_,h=>by cases h
 | k + 1, e, x, h => by
   unfold n9 at h
   split at h
   ·cases h
   ·split at h
    ·split at h
     ·rename_i a b h2
      have:=D9 h2
      rcases List.mem_append.1 h with h | h
      ·have:=Cp k h; omega
      ·have:=Cp k h; omega
     ·rw[List.mem_singleton.1 h]; exact Nat.le_refl _
    ·rw[List.mem_singleton.1 h]; exact Nat.le_refl _
theorem yG.kp {p q:Nat}{st st1:St}(h:yG st)(k:KP p q st st1):yG st1:=h.eq k.2.2
theorem KD {R:Nat}(hR:100000000<R){ix:AV}{names:List (List UInt8)}(hix:Row 1 ix (names.map .str))(hn:names.length≤1000){x:AV}{kcs:List AV}{l:List Ex}(hx:Row 10 x kcs)(hl:AQ l kcs)(hw:∀ e ∈ l,e.wt≤10000000)(hll:l.length≤100000000){d1 d:Nat}
 {st0:St} (hd:d<st0.next) (hO:yG st0) {φ:St→Prop} {p0:Pl} (h:∀ st1,KP d d st0 st1→Nr st1 d p0→φ st1):
 ∀(r i:Nat) {st:St} {p:Pl},i≤l.length→l.length - i<r→KP d d st0 st→Nr st d p→(l.drop i).foldl (uC names) p=p0→T φ (jT R ix d1 d x (l.length:Int) r (i:Int) st)
 | 0,_,_,_,_,hr,_,_,_=>absurd hr (Nat.not_lt_zero _)
 | r + 1, i, st, p, hi, hr, hK, hp, he => by
   unfold jT
   have hk1:=hK.1
   by_cases hlt:i<l.length
   ·refine T.fA (by omega) ?_
    have e1:IntKind.wrap .i64 ((i:Int)+1)=((i+1:Nat):Int):=by rw[wrap64 (by omega) (by omega)]; omega
    rw[e1]
    refine T.bind (Nq hR hix hn hx hl hlt hp (by omega) (hO.kp hK) (hw _ (List.getElem_mem hlt)) fun st1 k1 hp1=>?_)
    rw[List.drop_eq_getElem_cons hlt,List.foldl_cons] at he
    exact KD hR hix hn hx hl hw hll hd hO h r (i+1) hlt (by omega) (hK.trans k1) hp1 he
   ·refine T.gY (by omega) ?_
    rw[List.drop_eq_nil_of_le (by omega)] at he
    have he:p=p0:=he
    subst he
    exact T.some (h _ hK hp)
theorem KY {R:Nat}(hR:100000000<R){ix:AV}{names:List (List UInt8)}(hix:Row 1 ix (names.map .str))(hn:names.length≤1000){x:AV}{kcs:List AV}{l:List Ex}(hx:Row 10 x kcs)(hl:AQ l kcs)(hw:∀ e ∈ l,e.wt≤10000000)(hll:l.length≤100000000){d1 d:Nat}
 {st0:St} (hd:d<st0.next) {φ:St→Prop} {p0:Pl} (h:∀ st1,KP d d st0 st1→Nr st1 d p0→φ st1):
 ∀(r i:Nat) {st:St} {p:Pl},i≤l.length→l.length - i<r→KP d d st0 st→Nr st d p→(l.drop i).foldl (uC names) p=p0→T φ (eA R ix d1 d x r (i:Int) st)
 | 0,_,_,_,_,hr,_,_,_=>absurd hr (Nat.not_lt_zero _)
 | r + 1, i, st, p, hi, hr, hK, hp, he => by
   unfold eA
   have hk1:=hK.1
   have hlen:lenOf x=.some l.length:=by rw[sO hx (by decide),hl.1,Nat.mul_div_cancel _ (by decide)]
   refine T.step hlen ?_
   by_cases hlt:i<l.length
   ·refine T.fA (by omega) ?_
    have e1:IntKind.wrap .i64 ((i:Int)+1)=((i+1:Nat):Int):=by rw[wrap64 (by omega) (by omega)]; omega
    rw[e1]
    refine T.bind (Nz hR hix hn hx hl hlt hp (by omega) (hw _ (List.getElem_mem hlt)) fun st1 k1 hp1=>?_)
    rw[List.drop_eq_getElem_cons hlt,List.foldl_cons] at he
    rw[step_eq] at hp1
    exact KY hR hix hn hx hl hw hll hd h r (i+1) hlt (by omega) (hK.trans k1) hp1 he
   ·refine T.gY (by omega) ?_
    rw[List.drop_eq_nil_of_le (by omega)] at he
    have he:p=p0:=he
    subst he
    exact T.some (h _ hK hp)
def P0:Pl:=⟨[],[],[]⟩
def rL (names:List (List UInt8))(e:Ex):Pl:=(n9 4001 e).foldl (uC names) P0
theorem LM {R:Nat}(hR:100000000<R){ix:AV}{names:List (List UInt8)}(hix:Row 1 ix (names.map .str))(hn:names.length≤1000){e:Ex}{kv nv:AV}(hx:RX e kv nv)(hf:Fits e 3999){st:St}(hO:yG st)
 {φ:List UInt8×List UInt8×List UInt8×St→Prop} (h:∀ st1,KN st st1→φ ((rL names e).f,(rL names e).lo,(rL names e).hi,st1)):T φ (uF R e.k e.s e.v.k e.v.b e.v.n e.v.s .aF .aF kv nv ix st):=by
 have hx1:=hx.one
 obtain⟨ok1,ok2⟩:=hx1
 unfold uF
 refine T.step (Ku hx) ?_
 repeat(refine T.step (by simp(disch:=(first | ((repeat(first | rw[aB] | rw[aE] | rw[List.length_cons] | rw[List.length_nil])) <;> omega) | (refine(?_:_∧True).1; constructor; simp only[aL, *]; exact True.intro))) only[aX,Km]; try exact rfl) ?_)
 refine T.bind (zM R _ _ _ _ _ hx (Nat.le_trans hf.1 (by decide)) hf.2.1 fun st1 x hr=>?_)
 obtain⟨cells,s1,r1,o1,k1,f1⟩:=hr
 have n_k1:=k1.le; (try simp only[aB,aE] at n_k1)
 have hlen:lenOf x=.some (n9 4001 e).length:=by rw[sO s1.row (by decide),r1.1,Nat.mul_div_cancel _ (by decide)]
 refine T.step hlen ?_
 unfold oT
 refine T.bind ?_
 have hal:=uB 4001 e
 have hw:=hf.2.1
 have gp:st1.aS.get (st.next+1+1)=.some (.cells 35 true [.str [],.str [],.str []]):=by simp(disch:=(first | ((repeat(first | rw[aB] | rw[aE] | rw[List.length_cons] | rw[List.length_nil])) <;> omega) | (refine(?_:_∧True).1; constructor; simp only[aL, *]; exact True.intro))) only[cD,k1.2.1]
 have gr:st1.aS.get (st.next+1)=.some (.cells 35 true [.str [],.str [],.str []]):=by simp(disch:=(first | ((repeat(first | rw[aB] | rw[aE] | rw[List.length_cons] | rw[List.length_nil])) <;> omega) | (refine(?_:_∧True).1; constructor; simp only[aL, *]; exact True.intro))) only[cD,k1.2.1]
 refine T.bind (KD hR hix hn s1.row r1 (fun x hx=>Nat.le_trans (Cp _ hx) hw) (by omega) (by(try simp only[aB,aE]); omega) ?_ (p0:=rL names e) (fun st2 k2 hp2=>?_) R 0 (p:=P0) (Nat.zero_le _) (by omega) KP.refl gp (by rw[List.drop_zero]; rfl))
 ·exact hO.eq k1.2.2
 ·refine T.some ?_
  have n2:=k2.1
  have gp2:st2.aS.get (st.next+1+1)=.some (.cells 35 true [.str (rL names e).f,.str (rL names e).lo,.str (rL names e).hi]):=hp2
  have gr2:st2.aS.get (st.next+1)=.some (.cells 35 true [.str [],.str [],.str []]):=by rw[k2.2.1 (st.next+1) (by omega) (by(try simp only[aB]); omega) (by(try simp only[aB]); omega)]; exact gr
  repeat(refine T.step (by simp(disch:=(first | ((repeat(first | rw[aB] | rw[aE] | rw[List.length_cons] | rw[List.length_nil])) <;> omega) | (refine(?_:_∧True).1; constructor; simp only[aL, *]; exact True.intro))) only[aX,gp2,gr2,Km]; try exact rfl) ?_)
  have K1:KN st st1:=KN.trans (by repeat' (first | exact KN.refl | exact KN.refl | refine KN.dX ?_ | refine KN.loc ?_ ?_ | ((try simp only[aB,aE]) <;> omega))) k1
  have K2:KN st st2:=KP.kn k2 K1 (by(try simp only[aB]); omega)
  exact T.some (h _ (by repeat' (first | exact K2 | exact KN.refl | refine KN.dX ?_ | refine KN.loc ?_ ?_ | ((try simp only[aB,aE]) <;> omega))))
theorem Lb {R:Nat}(hR:100000000<R){ix:AV}{names:List (List UInt8)}(hix:Row 1 ix (names.map .str))(hn:names.length≤1000){e:Ex}{kv nv:AV}(hx:RX e kv nv)(hf:Fits e 3999){st:St}
 {φ:List UInt8×List UInt8×List UInt8×St→Prop} (h:∀ st1,KN st st1→φ ((rL names e).f,(rL names e).lo,(rL names e).hi,st1)):T φ (jJ R e.k e.s e.v.k e.v.b e.v.n e.v.s .aF .aF kv nv ix st):=by
 have hx1:=hx.one
 obtain⟨ok1,ok2⟩:=hx1
 unfold jJ
 refine T.step (Ku hx) ?_
 repeat(refine T.step (by simp(disch:=(first | ((repeat(first | rw[aB] | rw[aE] | rw[List.length_cons] | rw[List.length_nil])) <;> omega) | (refine(?_:_∧True).1; constructor; simp only[aL, *]; exact True.intro))) only[aX,Km]; try exact rfl) ?_)
 refine T.bind (sA R _ _ _ _ _ hx (Nat.le_trans hf.1 (by decide)) hf.2.1 fun st1 x hr=>?_)
 obtain⟨cells,s1,r1,o1,k1,f1⟩:=hr
 have n_k1:=k1.le; (try simp only[aB,aE] at n_k1)
 unfold iF
 refine T.bind ?_
 have hal:=uB 4001 e
 have hw:=hf.2.1
 have gp:st1.aS.get (st.next+1+1)=.some (.cells 35 true [.str [],.str [],.str []]):=by simp(disch:=(first | ((repeat(first | rw[aB] | rw[aE] | rw[List.length_cons] | rw[List.length_nil])) <;> omega) | (refine(?_:_∧True).1; constructor; simp only[aL, *]; exact True.intro))) only[cD,k1.2.1]
 have gr:st1.aS.get (st.next+1)=.some (.cells 35 true [.str [],.str [],.str []]):=by simp(disch:=(first | ((repeat(first | rw[aB] | rw[aE] | rw[List.length_cons] | rw[List.length_nil])) <;> omega) | (refine(?_:_∧True).1; constructor; simp only[aL, *]; exact True.intro))) only[cD,k1.2.1]
 refine T.bind (KY hR hix hn s1.row r1 (fun x hx=>Nat.le_trans (Cp _ hx) hw) (by omega) (by(try simp only[aB,aE]); omega) (p0:=rL names e) (fun st2 k2 hp2=>?_) R 0 (p:=P0) (Nat.zero_le _) (by omega) KP.refl gp (by rw[List.drop_zero]; rfl))
 refine T.some ?_
 have n2:=k2.1
 have gp2:st2.aS.get (st.next+1+1)=.some (.cells 35 true [.str (rL names e).f,.str (rL names e).lo,.str (rL names e).hi]):=hp2
 have gr2:st2.aS.get (st.next+1)=.some (.cells 35 true [.str [],.str [],.str []]):=by rw[k2.2.1 (st.next+1) (by omega) (by(try simp only[aB]); omega) (by(try simp only[aB]); omega)]; exact gr
 repeat(refine T.step (by simp(disch:=(first | ((repeat(first | rw[aB] | rw[aE] | rw[List.length_cons] | rw[List.length_nil])) <;> omega) | (refine(?_:_∧True).1; constructor; simp only[aL, *]; exact True.intro))) only[aX,gp2,gr2,Km]; try exact rfl) ?_)
 have K1:KN st st1:=KN.trans (by repeat' (first | exact KN.refl | exact KN.refl | refine KN.dX ?_ | refine KN.loc ?_ ?_ | ((try simp only[aB,aE]) <;> omega))) k1
 have K2:KN st st2:=KP.kn k2 K1 (by(try simp only[aB]); omega)
 exact T.some (h _ (by repeat' (first | exact K2 | exact KN.refl | refine KN.dX ?_ | refine KN.loc ?_ ?_ | ((try simp only[aB,aE]) <;> omega))))
def Pg (old:Nat→Nat→Option AV)(x:AV)(names:List (List UInt8)):Prop:=lenOf x=.some names.length∧ ∀(i:Nat) (hi:i<names.length),∃ a,bA C0.P 22 x (.int .i64 (i:Int))=.some a∧ ∀ st:St,st.old=old→loadAt C0.P st 9 a=.some (.str names[i])
theorem Ji {R : Nat} {x : AV} {names : List (List UInt8)} {d : Nat} {st0 : St} (hx : Pg st0.old x names) {φ : AV × St → Prop} (h : ∀ y st1, Sl st1 1 y ((names.take 8).map .str) → KN st0 st1 → φ (y, st1)) :
 ∀(r i:Nat) {y:AV} {st:St},i≤8→8 - i<r→i≤names.length→Sl st 1 y ((names.take i).map .str)→KN st0 st→(∀ id,eL y id→st0.next≤id)→T φ (cY R x d r y (i:Int) st)
 | 0,_,_,_,_,hr,_,_,_,_=>absurd hr (Nat.not_lt_zero _)
 | r + 1, i, y, st, hi, hr, hin, hS, hK, hf => by
   unfold cY eK
   refine T.step hx.1 ?_
   by_cases hlt:i<names.length
   ·refine T.fA (by omega) ?_
    by_cases h8:i<8
    ·refine T.fA (by omega) ?_
     obtain⟨a,ha,hla⟩:=hx.2 i hlt
     refine T.bind ?_
     refine T.step ha ?_
     refine T.step (hla _ hK.2.2) ?_
     refine T.step Pd ?_
     have e1:IntKind.wrap .i64 ((i:Int)+1)=((i+1:Nat):Int):=by rw[wrap64 (by omega) (by omega)]; omega
     rw[e1]
     refine PU (t:=22) (sz:=1) hK hS hf (v:=.str names[i]) rfl rfl (by rw[List.length_map,List.length_take]; unfold iL; omega) (by decide) fun y' st1 K1 S1 F1 _ _=>?_
     refine T.some ?_
     refine Ji hx h r (i+1) (by omega) (by omega) hlt ?_ K1 F1
     have e2:(names.take (i+1)).map AV.str=(names.take i).map AV.str ++ (AV.str names[i]).cells:=by
      rw[List.take_add_one,List.getElem?_eq_getElem hlt,List.map_append]; rfl
     rw[e2]
     exact S1
    ·refine T.gY (by omega) ?_
     have:i=8:=by omega
     subst this
     exact T.some (h _ _ hS hK)
   ·refine T.gY (by omega) ?_
    have:names.take 8=names.take i:=by rw[List.take_of_length_le (by omega),List.take_of_length_le (by omega)]
    rw[← this] at hS
    exact T.some (h _ _ hS hK)
end
end Go.Proofs.YthodfojhbbendaaGreatDoor
end
section
set_option linter.all false
set_option maxRecDepth 100000
set_option maxHeartbeats 4000000
namespace Go.Proofs.YthodfojhbbendaaGreatDoor
open Go Go.Ev
noncomputable section
attribute [local congr] n7 sW
theorem OL {a0 a1 a2 a3 a4 a5 a6 a7 a8 a9 a10 a11 a12 a13 a14 a15 a16 a17 a18 a19 a20 a21 a22 a23 a24 a25 a26 a27 a28 a29 a30:AV}{t:TypeId}{u:Bool}:PI (.some (.cells t u [a0,a1,a2,a3,a4,a5,a6,a7,a8,a9,a10,a11,a12,a13,a14,a15,a16,a17,a18,a19,a20,a21,a22,a23,a24,a25,a26,a27,a28,a29,a30])) 15 10=.some (.agg [a15,a16,a17,a18,a19,a20,a21,a22,a23,a24]):=rfl
theorem LU (s:List UInt8)(_:(nM ([68,69,76,69,84,69,32,70,82,79,77,32,116,32,87,72,69,82,69,32] ++ s)).2=none):G5 (vH ([68,69,76,69,84,69,32,70,82,79,77,32,116,32,87,72,69,82,69,32] ++ s)) Og:=by
 have h0:iJ Fb ([68,69,76,69,84,69,32,70,82,79,77,32,116,32,87,72,69,82,69,32] ++ s) 0=0:=by kernel_rfl
 have h1:wQ ([68,69,76,69,84,69,32,70,82,79,77,32,116,32,87,72,69,82,69,32] ++ s) 0=.some (2,[68,69,76,69,84,69],6):=by kernel_rfl
 have h2:∃ l,(nM ([68,69,76,69,84,69,32,70,82,79,77,32,116,32,87,72,69,82,69,32] ++ s)).1=(2,[68,69,76,69,84,69],((0:Nat):Int)) :: l:=by
  unfold nM
  rw[h0]
  unfold tk
  rw[if_pos (by simp),h1]
  exact⟨_,rfl⟩
 obtain⟨l,h2⟩:=h2
 have h3:wd (vH ([68,69,76,69,84,69,32,70,82,79,77,32,116,32,87,72,69,82,69,32] ++ s)) Og.i=(2,[68,69,76,69,84,69],((0:Nat):Int)):=by
  unfold vH
  rw[h2]
  rfl
 exact⟨rfl,by rw[h3],by rw[h3]⟩
theorem MU {R:Nat}(hR:100000000<R){s:List UInt8}{st:St}{φ:Int×List UInt8×Int×Bool×Int×List UInt8×AV×AV×AV×AV×Bool×St→Prop}
 (hbad:∀ st1,KN st st1→φ (0,[],0,false,0,[],.aF,.aF,.aF,.aF,false,st1))
 (hgood:∀ e kv nv st1,RX e kv nv→Fits e 3999→KN st st1→φ (e.k,e.s,e.v.k,e.v.b,e.v.n,e.v.s,.aF,.aF,kv,nv,true,st1)):T φ (jM R s st):=by
 unfold jM
 by_cases hl:((List.length s:Int)>1000)
 ·refine T.fA hl ?_
  repeat(refine T.step (by simp(disch:=(first | ((repeat(first | rw[aB] | rw[aE] | rw[List.length_cons] | rw[List.length_nil])) <;> omega) | (refine(?_:_∧True).1; constructor; simp only[aL, *]; exact True.intro))) only[aX]; try exact rfl) ?_)
  exact T.some (hbad _ (by repeat' (first | exact KN.refl | exact KN.refl | refine KN.dX ?_ | refine KN.loc ?_ ?_ | ((try simp only[aB,aE]) <;> omega))))
 ·refine T.gY hl ?_
  refine T.step (lS (by simp only[List.length_cons,List.length_nil]; omega)) ?_
  have K1:KN st (st.push (.cells 28 true [.int .i64 0,.str [],.int .i64 0,.bool false,.int .i64 0,.str [],.aF,.aF,.aF,.aF])):=KN.refl.dX
  refine T.bind (NV (by omega) (by simp only[List.length_append,List.length_cons,List.length_nil]; omega) (LU s) (fun a e st1 hno hne k1=>?_) (fun m st1 vk vn nv ev wk wn cv hpk hm hsg k1=>?_))
  ·have n_k1:=k1.le; (try simp only[aB,aE] at n_k1)
   have g1:st1.aS.get st.next=.some (.cells 28 true [.int .i64 0,.str [],.int .i64 0,.bool false,.int .i64 0,.str [],.aF,.aF,.aF,.aF]):=by simp(disch:=(first | ((repeat(first | rw[aB] | rw[aE] | rw[List.length_cons] | rw[List.length_nil])) <;> omega) | (refine(?_:_∧True).1; constructor; simp only[aL, *]; exact True.intro))) only[cD,k1.2.1]
   repeat(refine T.step (by simp(disch:=(first | ((repeat(first | rw[aB] | rw[aE] | rw[List.length_cons] | rw[List.length_nil])) <;> omega) | (refine(?_:_∧True).1; constructor; simp only[aL, *]; exact True.intro))) only[aX,OL]; try exact rfl) ?_)
   refine T.gY hne ?_
   repeat(refine T.step (by simp(disch:=(first | ((repeat(first | rw[aB] | rw[aE] | rw[List.length_cons] | rw[List.length_nil])) <;> omega) | (refine(?_:_∧True).1; constructor; simp only[aL, *]; exact True.intro))) only[aX,g1]; try exact rfl) ?_)
   exact T.some (hbad _ (by repeat' (first | exact(K1.trans k1) | exact KN.refl | refine KN.dX ?_ | refine KN.loc ?_ ?_ | ((try simp only[aB,aE]) <;> omega))))
  ·obtain⟨o1,o2,o3,o4,o5,o6,o7⟩:=hm.Po
   have n_k1:=k1.le; (try simp only[aB,aE] at n_k1)
   have g1:st1.aS.get st.next=.some (.cells 28 true [.int .i64 0,.str [],.int .i64 0,.bool false,.int .i64 0,.str [],.aF,.aF,.aF,.aF]):=by simp(disch:=(first | ((repeat(first | rw[aB] | rw[aE] | rw[List.length_cons] | rw[List.length_nil])) <;> omega) | (refine(?_:_∧True).1; constructor; simp only[aL, *]; exact True.intro))) only[cD,k1.2.1]
   repeat(refine T.step (by simp(disch:=(first | ((repeat(first | rw[aB] | rw[aE] | rw[List.length_cons] | rw[List.length_nil])) <;> omega) | (refine(?_:_∧True).1; constructor; simp only[aL, *]; exact True.intro))) only[aX,OL]; try exact rfl) ?_)
   refine T.fA rfl ?_
   repeat(refine T.step (by simp(disch:=(first | ((repeat(first | rw[aB] | rw[aE] | rw[List.length_cons] | rw[List.length_nil])) <;> omega) | (refine(?_:_∧True).1; constructor; simp only[aL, *]; exact True.intro))) only[aX,g1]; try exact rfl) ?_)
   exact T.some (hgood m.w wk wn _ hm.w hsg (by repeat' (first | exact(K1.trans k1) | exact KN.refl | refine KN.dX ?_ | refine KN.loc ?_ ?_ | ((try simp only[aB,aE]) <;> omega))))
theorem Nb (st:St):eV (aY C0.P (C0.cQ 3) 22 0 []) st=.some (.sl st.next 0 0 1 (.some 0) [],st.push (.nE 0)):=by kernel_rfl
theorem QB {a b c : List UInt8} : (AB C0.P .eql 35 (.tmp 0) (.tmp 1) (.agg [.str a, .str b, .str c]) (.agg [.str a, .str b, .str c])).bind zP = .some true := by
 have e:AB C0.P .eql 35 (.tmp 0) (.tmp 1) (.agg [.str a,.str b,.str c]) (.agg [.str a,.str b,.str c])=Option.bind (match gT a a with
  | true => Option.bind (match gT b b with
    | true => (match gT c c with
      | true=>Option.some true
      | false=>.some false)
    | false => .some false) fun r => (match r with
      | true=>Option.some true
      | false=>.some false)
  | false=>.some false) fun r=>.some (AV.bool r):=by kernel_rfl
 rw[e,dM rfl,dM rfl,dM rfl]
 rfl
theorem Fk {R:Nat}(hR:100000000<R){s:List UInt8}{x:AV}{names:List (List UInt8)}{st:St}(hO:yG st)(hx:Pg st.old x names):T (fun r:Bool×St=>r.1=true) (gH R s x st):=by
 unfold gH
 refine T.bind (MU hR (fun st1 k1=>?_) (fun e kv nv st1 hE hf k1=>?_))
 ·have n_k1:=k1.le; (try simp only[aB,aE] at n_k1)
  repeat(refine T.step (by simp(disch:=(first | ((repeat(first | rw[aB] | rw[aE] | rw[List.length_cons] | rw[List.length_nil])) <;> omega) | (refine(?_:_∧True).1; constructor; simp only[aL, *]; exact True.intro))) only[aX]; try exact rfl) ?_)
  refine T.gY (by decide) ?_
  refine T.step rfl ?_
  exact T.some rfl
 ·have hx1:=hE.one
  obtain⟨ok1,ok2⟩:=hx1
  have n_k1:=k1.le; (try simp only[aB,aE] at n_k1)
  repeat(refine T.step (by simp(disch:=(first | ((repeat(first | rw[aB] | rw[aE] | rw[List.length_cons] | rw[List.length_nil])) <;> omega) | (refine(?_:_∧True).1; constructor; simp only[aL, *]; exact True.intro))) only[aX]; try exact rfl) ?_)
  refine T.fA rfl ?_
  refine T.step (Nb _) ?_
  unfold fG
  refine T.bind ?_
  have K2:KN st ((st1.push (.cells 28 true [.int .i64 0,.str [],.int .i64 0,.bool false,.int .i64 0,.str [],.aF,.aF,.aF,.aF])).put st1.next (.cells 28 true [.int .i64 e.k,.str e.s,.int .i64 e.v.k,.bool e.v.b,.int .i64 e.v.n,.str e.v.s,.aF,.aF,kv,nv])):=(by repeat' (first | exact k1 | exact KN.refl | refine KN.dX ?_ | refine KN.loc ?_ ?_ | ((try simp only[aB,aE]) <;> omega)))
  refine T.bind (Ji (names:=names) (st0:=(st1.push (.cells 28 true [.int .i64 0,.str [],.int .i64 0,.bool false,.int .i64 0,.str [],.aF,.aF,.aF,.aF])).put st1.next (.cells 28 true [.int .i64 e.k,.str e.s,.int .i64 e.v.k,.bool e.v.b,.int .i64 e.v.n,.str e.v.s,.aF,.aF,kv,nv])) ?_ (fun y st2 hS k2=>?_) R 0 (Nat.zero_le _) (by omega) (Nat.zero_le _) ?_ KN.refl.dX ?_)
  ·rw[K2.2.2]; exact hx
  ·refine T.some ?_
   have n_k2:=k2.le; (try simp only[aB,aE] at n_k2)
   have K3:=K2.trans k2
   have g2:st2.aS.get st1.next=.some (.cells 28 true [.int .i64 e.k,.str e.s,.int .i64 e.v.k,.bool e.v.b,.int .i64 e.v.n,.str e.v.s,.aF,.aF,kv,nv]):=by simp(disch:=(first | ((repeat(first | rw[aB] | rw[aE] | rw[List.length_cons] | rw[List.length_nil])) <;> omega) | (refine(?_:_∧True).1; constructor; simp only[aL, *]; exact True.intro))) only[cD,k2.2.1]
   refine T.step rfl ?_
   refine T.fA rfl ?_
   repeat(refine T.step (by simp(disch:=(first | ((repeat(first | rw[aB] | rw[aE] | rw[List.length_cons] | rw[List.length_nil])) <;> omega) | (refine(?_:_∧True).1; constructor; simp only[aL, *]; exact True.intro))) only[aX,g2]; try exact rfl) ?_)
   have hl8:(names.take 8).length≤1000:=by rw[List.length_take]; omega
   refine T.bind (LM hR hS.row hl8 hE hf (hO.kn K3) fun st3 k3=>?_)
   have n_k3:=k3.le; (try simp only[aB,aE] at n_k3)
   have g3:st3.aS.get st1.next=.some (.cells 28 true [.int .i64 e.k,.str e.s,.int .i64 e.v.k,.bool e.v.b,.int .i64 e.v.n,.str e.v.s,.aF,.aF,kv,nv]):=by simp(disch:=(first | ((repeat(first | rw[aB] | rw[aE] | rw[List.length_cons] | rw[List.length_nil])) <;> omega) | (refine(?_:_∧True).1; constructor; simp only[aL, *]; exact True.intro))) only[cD,k3.2.1,g2]
   repeat(refine T.step (by simp(disch:=(first | ((repeat(first | rw[aB] | rw[aE] | rw[List.length_cons] | rw[List.length_nil])) <;> omega) | (refine(?_:_∧True).1; constructor; simp only[aL, *]; exact True.intro))) only[aX,g3]; try exact rfl) ?_)
   refine T.fA (LX hE) ?_
   refine T.bind (Lb hR hS.row hl8 hE hf fun st4 k4=>?_)
   have n_k4:=k4.le; (try simp only[aB,aE] at n_k4)
   have g4:st4.aS.get st1.next=.some (.cells 28 true [.int .i64 e.k,.str e.s,.int .i64 e.v.k,.bool e.v.b,.int .i64 e.v.n,.str e.v.s,.aF,.aF,kv,nv]):=by simp(disch:=(first | ((repeat(first | rw[aB] | rw[aE] | rw[List.length_cons] | rw[List.length_nil])) <;> omega) | (refine(?_:_∧True).1; constructor; simp only[aL, *]; exact True.intro))) only[cD,k4.2.1,g3]
   refine T.step QB ?_
   refine T.fA rfl ?_
   repeat(refine T.step (by simp(disch:=(first | ((repeat(first | rw[aB] | rw[aE] | rw[List.length_cons] | rw[List.length_nil])) <;> omega) | (refine(?_:_∧True).1; constructor; simp only[aL, *]; exact True.intro))) only[aX,g4]; try exact rfl) ?_)
   refine T.bind (zM R _ _ _ _ _ hE (Nat.le_trans hf.1 (by decide)) hf.2.1 fun st5 x5 hr5=>?_)
   obtain⟨c5,s5,r5,q5,k5,f5⟩:=hr5
   have n_k5:=k5.le; (try simp only[aB,aE] at n_k5)
   have g5:st5.aS.get st1.next=.some (.cells 28 true [.int .i64 e.k,.str e.s,.int .i64 e.v.k,.bool e.v.b,.int .i64 e.v.n,.str e.v.s,.aF,.aF,kv,nv]):=by simp(disch:=(first | ((repeat(first | rw[aB] | rw[aE] | rw[List.length_cons] | rw[List.length_nil])) <;> omega) | (refine(?_:_∧True).1; constructor; simp only[aL, *]; exact True.intro))) only[cD,k5.2.1,g4]
   repeat(refine T.step (by simp(disch:=(first | ((repeat(first | rw[aB] | rw[aE] | rw[List.length_cons] | rw[List.length_nil])) <;> omega) | (refine(?_:_∧True).1; constructor; simp only[aL, *]; exact True.intro))) only[aX,g5]; try exact rfl) ?_)
   refine T.fA (LX hE) ?_
   have l5:lenOf x5=.some (n9 4001 e).length:=by rw[sO s5.row (by decide),r5.1,Nat.mul_div_cancel _ (by decide)]
   refine T.step l5 ?_
   refine T.bind (sA R _ _ _ _ _ hE (Nat.le_trans hf.1 (by decide)) hf.2.1 fun st6 x6 hr6=>?_)
   obtain⟨c6,s6,r6,q6,k6,f6⟩:=hr6
   have l6:lenOf x6=.some (n9 4001 e).length:=by rw[sO s6.row (by decide),r6.1,Nat.mul_div_cancel _ (by decide)]
   refine T.step l6 ?_
   refine T.fA rfl ?_
   refine T.bind (zM R E0 .aF .aF _ _ RX.e0 (by decide) (by decide) fun st7 x7 hr7=>?_)
   obtain⟨c7,s7,r7,q7,k7,f7⟩:=hr7
   have l7:lenOf x7=.some 0:=by rw[sO s7.row (by decide),r7.1]; rfl
   refine T.step l7 ?_
   refine T.fA rfl ?_
   exact T.some rfl
  ·exact .inr ⟨_,_,_,_,rfl,rfl,Nat.lt_succ_self _,.inl rfl⟩
  ·intro id hi
   rw[show id=_ from hi]
   (try simp only[aB,aE]); exact Nat.le_refl _
theorem D3 {R:Nat}(hR:100000000<R){s:List UInt8}{x:AV}{names:List (List UInt8)}{st:St}(hO:yG st)(hx:Pg st.old x names):∃ st',gH R s x st=.some (true,st'):=by
 obtain⟨⟨b,st'⟩,h,hb⟩:=Fk hR (s:=s) hO hx
 have hb:b=true:=hb
 subst hb
 exact⟨st',h⟩
end
end Go.Proofs.YthodfojhbbendaaGreatDoor
end
section
set_option linter.all false
set_option maxRecDepth 100000
set_option maxHeartbeats 1000000
namespace Go.Proofs.YthodfojhbbendaaGreatDoor
open Go Go.Ev Go.RowKit
noncomputable section
def Fu (b0 o0 n:Nat)(nm:Nat→List UInt8):Nat→Nat→Option AV:=fun b off=>
 if b=b0∧o0≤off∧off<o0+n then some (.str (nm (off - o0))) else if b=0∧off=0 then some (.wF .i64 1 0 (-9223372036854775808) 9223372036854775807) else none
def laidL:List (String×DataW Unit):=[("math/bits.deBruijn32tab",Rows.laid_math_bits_deBruijn32tab),("math/bits.deBruijn64tab",Rows.laid_math_bits_deBruijn64tab),("internal/strconv.uint64pow10",Rows.laid_internal_strconv_uint64pow10),("unicode/utf8.acceptRanges",Rows.laid_unicode_utf8_acceptRanges),("strconv.ErrRange",Rows.laid_strconv_ErrRange),("strconv.ErrSyntax",Rows.laid_strconv_ErrSyntax),("unicode/utf8.first",Rows.laid_unicode_utf8_first)]
theorem HV {W : World} (hb : Go.RowKit.Below W.heap.size W W) {m : Int} (hm : W.cell? ⟨0, 0, none⟩ = some (.int .i64 m)) (hm1 : -9223372036854775808 ≤ m) (hm2 : m ≤ 9223372036854775807)
 {b0 o0 n:Nat} {nm:Nat→ByteArray} (hs:∀ i,i<n→W.cell? ⟨b0,o0+i,none⟩=some (.string (nm i))):
 yG ⟨.leaf,0,Fu b0 o0 n (fun i=>(nm i).data.toList)⟩∧Inv W ⟨fun _=>none,fun _=>none⟩ ⟨.leaf,0,Fu b0 o0 n (fun i=>(nm i).data.toList)⟩ W:=by
 have n0:¬ (0=b0∧o0≤0∧0<o0+n):=by
  rintro⟨rfl,h1,h2⟩
  have:=hs 0 (by omega)
  rw[show o0+0=0 by omega,hm] at this
  cases this
 refine⟨⟨?_⟩,?_⟩
 ·show isNum (Fu b0 o0 n (fun i=>(nm i).data.toList) 0 0)=true
  unfold Fu
  rw[if_neg n0]; rfl
 exact {
  below:=hb
  blt:=fun _ _ _ _ h=>by cases h
  AW:=fun _ _ _ _ _ _ _ h=>by cases h
  vJ:=fun _ _ _ _ h=>by cases h
  Ac:=fun _ _ _ _ h=>by cases h
  qK:=fun _ _ _ _ _ h=>by cases h
  nI:=fun _ _ _ _ _ _ _ h=>by cases h
  pL:=fun _ _ _ _ _ h=>by cases h
  fresh:=fun id _=>by simp[Tr.get]
  old := fun b off a h => by
   change Fu b0 o0 n (fun i=>(nm i).data.toList) b off=some a at h
   unfold Fu at h
   split at h
   ·rename_i hh
    obtain⟨rfl,h1,h2⟩:=hh
    cases h
    have hc:=hs (off - o0) (by omega)
    rw[show o0+(off - o0)=off by omega] at hc
    refine⟨World.block_lt_of_cell? _ _ hc,fun _=>⟨_,hc,fun G st w=>by simp only[aV]⟩,fun cs hc=>by cases hc⟩
   ·split at h
    ·rename_i hh
     obtain⟨rfl,rfl⟩:=hh
     cases h
     refine⟨World.block_lt_of_cell? _ _ hm,fun _=>⟨_,hm,fun G st w=>?_⟩,fun cs hc=>by cases hc⟩
     simp only[aV]
     exact⟨m,rfl,by omega,hm1,hm2⟩
    ·cases h }
theorem Nw {b0 o0 n i:Nat}{nm:Nat→List UInt8}(h:i<n):Fu b0 o0 n nm b0 (o0+i)=some (.str (nm i)):=by
 unfold Fu
 rw[if_pos ⟨rfl,by omega,by omega⟩,Nat.add_sub_cancel_left]
theorem PD (old:Nat→Nat→Option AV):Pg old .aF []:=⟨rfl,fun i hi=>absurd hi (Nat.not_lt_zero _)⟩
theorem QH {b o len cap:Nat}{nm:Nat→List UInt8}:Pg (Fu b o len nm) (.L6 b o len cap) ((List.range len).map nm):=by
 refine⟨by simp[lenOf],fun i hi=>?_⟩
 have hi':i<len:=by simpa using hi
 obtain⟨e,bs,z,t1,t2,t3,t4,t5,t6,t7,t8⟩:=(inferInstance:xO C0.P 22 1).ok
 refine⟨.CV b (o+i * 1),?_,fun st hst=>?_⟩
 ·show(C0.P.underlying 22).bind _=_
  rw[t1]
  show(size? C0.P e).bind _=_
  rw[t2]
  show cond _ _ _=_
  rw[eW (show Nat.blt i len=true from Nat.ble_eq_true_of_le hi')]
 ·have L:=(inferInstance:nT C0.P 9 false 1)
  have e1:Fu b o len nm b (o+i * 1)=some (.str (nm i)):=by rw[Nat.mul_one]; exact Nw hi'
  simp only[loadAt,L.agg,L.size,Option.bind_some,cond_false,tA,hst,tW,e1]
  simp[AV.one,shaped]
open Classical in
theorem OO (a0:ByteArray)(W:World){v1:Value}{x:AV}{names:List (List UInt8)}{old:Nat→Nat→Option AV}(hO:yG ⟨.leaf,0,old⟩)(I:Inv W ⟨fun _=>none,fun _=>none⟩ ⟨.leaf,0,old⟩ W)(hx:Pg old x names)
 (hr:∀(G:Gh) (st:St) (w:World),aV G st w x v1):
 Calls Tryz.prog 3 #[.string a0,v1] W fun e W'=>e=.returned (.bool true)∧Go.RowKit.Below W.heap.size W W':=by
 obtain⟨st',h⟩:=D3 (R:=200000000) (by decide) (s:=a0.data.toList) hO hx
 obtain⟨p,hc⟩:=u0 0 h
 have h2:aW C0 bK 200000000 (0+24008) false 3 [.str a0.data.toList,x] ⟨.leaf,0,old⟩ (fun _ v' _=>decide (v'=.bool true))=true:=by rw[hc]; exact decide_eq_true rfl
 rcases(AI (C:=C0) (W0:=W) FW Nd I7 200000000 _).1 3 _ _ _ h2 _ W #[.string a0,v1] I (aT.cons (by simp only[aV]) (aT.cons (hr _ _ _) aT.nil)) with⟨u,w',v,st',G',c1,_⟩ | ⟨_,c2,_⟩
 ·exact(tK (by kernel_rfl) c1).elim
 ·refine Calls.mono (callsIn_wide.1 c2) fun e w' he=>?_
  obtain⟨u,v,st',G',rfl,hk,hg,hr⟩:=he
  simp only[Bool.or_self] at hk
  have:=of_decide_eq_true hk
  subst this
  simp only[aV] at hr
  subst hr
  exact⟨rfl,hg.inv.below⟩
theorem walk (a0:ByteArray)(W:World){v1:Value}(hv:v1=.slice none 0 0∨ ∃(b o len cap:Nat) (nm:Nat→ByteArray),v1=.slice (some ⟨b,o,none⟩) len cap∧len≤cap∧ ∀ i,i<len→W.cell? ⟨b,o+i,none⟩=some (.string (nm i)))
 (hM:∃ m:Int,W.cell? ⟨0,0,none⟩=some (.int .i64 m)∧ -9223372036854775808≤m∧m≤9223372036854775807):
 Calls Tryz.prog 3 #[.string a0,v1] W fun e W'=>e=.returned (.bool true)∧Go.RowKit.Below W.heap.size W W':=by
 obtain⟨m,hm,hm1,hm2⟩:=hM
 rcases hv with rfl | ⟨b,o,len,cap,nm,rfl,hc,hs⟩
 ·obtain⟨hO,I⟩:=HV (Go.RowKit.Below.refl _ _) hm hm1 hm2 (b0:=0) (o0:=0) (n:=0) (nm:=fun _=>ByteArray.empty) (fun i hi=>absurd hi (Nat.not_lt_zero _))
  exact OO a0 W hO I (PD _) fun G st w=>by simp only[aV]
 ·obtain⟨hO,I⟩:=HV (Go.RowKit.Below.refl _ _) hm hm1 hm2 hs
  exact OO a0 W hO I QH fun G st w=>by simp only[aV]; exact⟨rfl,hc⟩
end
end Go.Proofs.YthodfojhbbendaaGreatDoor
end
