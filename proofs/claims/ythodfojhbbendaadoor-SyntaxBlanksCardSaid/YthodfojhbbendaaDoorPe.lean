/- SyntaxBlanks, part 5 of 10 of its proof (what is proved: whatever the text is, the law answers true; conditions: those each theorem states). Joined and shortened by a program. In order: SxH -/
import Derived.Test.YthodfojhbbendaaDoorPd
section
set_option linter.all false
set_option maxRecDepth 100000
namespace Go.Proofs.YthodfojhbbendaaDoor
open Go Go.Ev
noncomputable section
noncomputable def iY (R:Nat)(a:List UInt8)(b:Int):Option (Bool):=
 if(b<(List.length a:Int)) then
  (Al a b).bind fun c=>
  (nC R c).bind fun d=>
  some d
 else
  some false
theorem nA {R:Nat}(n:Nat){c:List UInt8}{d:Int}(a:St){r:Bool}(h:iY R c d=some r):
 cM 25 (bN C0 (aR C0 pJ R (n+1)) 15 R none (aQ C0.P 15 [1,1,0,0,0,0,0])) (bG (aQ C0.P 15 [1,1,0,0,0,0,0])) [(0,(.str c)),(2,(.func (.func 34) [] [])),(7,(.int .i64 d))] a .normal [(19,.bool r)] a:=by
 revert h;unfold iY;refine bD (fun b=>?_) (fun b=>?_)
 ·refine aA fun e f=>?_;refine aA fun g i=>?_;intro h;obtain rfl:=cB h;exact aO (hs:=[.run 3,.dec true,.run 4,.val (.int .u8 e),.call (.bool g) a,.run 1]) (want:=[19]) (by kernel_rfl) (aK (uR R n e a _ i)<|aK (iL (k:=.i64) (P:=C0.P) (t:=9) (by kernel_rfl) f)<|aK (decide_eq_true b) gD)
 ·intro h;obtain rfl:=cB h;exact aO (hs:=[.run 3,.dec false,.run 2]) (want:=[19]) (by kernel_rfl) (aK (decide_eq_false b) gD)
noncomputable def gF (R:Nat)(b:List UInt8)(c:Int):Nat→Int→Option ((Int))
 | 0,_=>none
 | r + 1, a =>
   (iY R b a).bind fun d=>
   if d=true then
    gF R b c r (IntKind.wrap .i64 (a+1))
   else
    some a
noncomputable def lT (st:St)(o:(Int)):cZ×List (Nat×AV)×St:=match o with
 | a0=>((.exit 0),[(7,.int .i64 a0)],st)
theorem vF (R n:Nat)(d:List UInt8)(e:Int)(a:St):∀(r:Nat) (b:Int) (o:(Int)),gF R d e r b=some o →
 cM 25 (lO (fun fr k=>bN C0 (aR C0 pJ R (n+1)) 15 R none (aQ C0.P 15 [1,1,0,0,0]) fr k) r) (bG (aQ C0.P 15 [1,1,0,0,0])) [(0,(.str d)),(1,(.int .i64 e)),(2,(.func (.func 34) [] [])),(7,(.int .i64 b))] a (lT a o).1 (lT a o).2.1 (lT a o).2.2:=by
 intro r
 induction r with
 | zero=>intro b o h; exact nomatch h
 | succ r ih =>
   intro b o
   unfold gF;refine aA fun g f=>?_;refine bD (fun c=>?_) (fun c=>?_)
   ·subst c;intro h;exact dP (aO (hs:=[.zX [0,2,7] .normal [(19,(.bool true))] a,.aJ,.aJ,.run 3]) (want:=[0,1,2,7]) (by kernel_rfl) (.cons (nA n a f) .nil)) (ih (IntKind.wrap .i64 (b+1)) _ h)
   ·obtain rfl:=bF c;intro h;obtain rfl:=cB h;exact cF (aO (hs:=[.zX [0,2,7] .normal [(19,(.bool false))] a,.aJ]) (want:=[7]) (by kernel_rfl) (.cons (nA n a f) .nil)) (by kernel_rfl)
noncomputable def kU (R:Nat)(a:List UInt8)(b:Int)(c:Int):Option (Int):=
 (gF R a b R c).bind fun d=>
 some d
theorem vU {R:Nat}(n:Nat){b:List UInt8}{c:Int}{d:Int}(a:St){r:Int}(h:kU R b c d=some r):
 cM 25 (bN C0 (aR C0 pJ R (n+1)) 15 R none (aQ C0.P 15 [1,1,0])) (bG (aQ C0.P 15 [1,1,0])) [(0,(.str b)),(1,(.int .i64 c)),(2,(.func (.func 34) [] [])),(7,(.int .i64 d))] a .normal [(7,.int .i64 r)] a:=by
 revert h;unfold kU;refine aA fun e f=>?_;intro h;obtain rfl:=cB h;exact aO (hs:=[.aJ,.abs [0,1,2,7] (.exit 0) [(7,(.int .i64 e))] a]) (want:=[7]) (by kernel_rfl) (aK (cW (vF R n b c a R d _ f)) gD)
noncomputable def mC (R:Nat)(b:List UInt8)(a:Int):Option (Int):=
 (kU R b a a).bind fun c=>
 some (IntKind.wrap .i64 (c - a))
theorem AM {R:Nat}(n:Nat){b:List UInt8}{c:Int}(a:St){r:Int}(h:mC R b c=some r):
 b7 (aR C0 pJ R (n+2)) false 15 [(.str b),(.int .i64 c),(.func (.func 34) [] [])] a (.int .i64 r) a:=by
 revert h;unfold mC;refine aA fun d e=>?_;intro h;obtain rfl:=cB h;exact aL (hs:=[.run 3,.rX [0,1,2,7] .normal [(7,(.int .i64 d))] a,.run 4]) (by kernel_rfl) (aK (vU n a e) gD) (by kernel_rfl) (by kernel_rfl)
noncomputable def jJ (R:Nat)(b:List UInt8)(a:List UInt8):Option (Bool):=
 if((List.length b:Int)≥(List.length a:Int)) then
  (Am b 0 (List.length a:Int)).bind fun c=>
  if(c=a) then
   some true
  else
   some false
 else
  some false
theorem tD {R:Nat}(n:Nat){c:List UInt8}{d:List UInt8}(e:St){r:Bool}(h:jJ R c d=some r):
 cM 18 (bN C0 (aR C0 pJ R n) 49 R none (aQ C0.P 49 [1,0])) (bG (aQ C0.P 49 [1,0])) [(0,(.str c)),(1,(.str d))] e .normal [(4,.bool r)] e:=by
 revert h;unfold jJ;refine bD (fun a=>?_) (fun a=>?_)
 ·refine aA fun f g=>?_;refine bD (fun b=>?_) (fun b=>?_)
  ·intro h;obtain rfl:=cB h;exact aO (hs:=[.run 4,.dec true,.run 4,.val (.str f),.run 1,.dec true,.run 2]) (want:=[4]) (by kernel_rfl) (aK (mK b)<|aK (LO (k':=.i64) (P:=C0.P) (t:=9) (by kernel_rfl) g)<|aK (decide_eq_true a) gD)
  ·intro h;obtain rfl:=cB h;exact aO (hs:=[.run 4,.dec true,.run 4,.val (.str f),.run 1,.dec false,.run 2]) (want:=[4]) (by kernel_rfl) (aK (kY b)<|aK (LO (k':=.i64) (P:=C0.P) (t:=9) (by kernel_rfl) g)<|aK (decide_eq_true a) gD)
 ·intro h;obtain rfl:=cB h;exact aO (hs:=[.run 4,.dec false,.run 3]) (want:=[4]) (by kernel_rfl) (aK (decide_eq_false a) gD)
noncomputable def lR (R:Nat)(a:List UInt8)(b:List UInt8):Option (Bool):=
 (jJ R a b).bind fun c=>
 some c
theorem wV {R:Nat}(n:Nat){b:List UInt8}{c:List UInt8}(a:St){r:Bool}(h:lR R b c=some r):
 b7 (aR C0 pJ R (n+1)) false 49 [(.str b),(.str c)] a (.bool r) a:=by
 revert h;unfold lR;refine aA fun d e=>?_;intro h;obtain rfl:=cB h;exact aL (hs:=[.run 1,.zX [0,1] .normal [(4,(.bool d))] a]) (by kernel_rfl) (aK (tD n a e) gD) (by kernel_rfl) (by kernel_rfl)
noncomputable def kJ (R:Nat)(a:List UInt8)(b:List UInt8):Option (Bool):=
 (lR R a b).bind fun c=>
 some c
theorem sQ {R:Nat}(n:Nat){b:List UInt8}{c:List UInt8}(a:St){r:Bool}(h:kJ R b c=some r):
 b7 (aR C0 pJ R (n+2)) false 35 [(.str b),(.str c)] a (.bool r) a:=by
 revert h;unfold kJ;refine aA fun d e=>?_;intro h;obtain rfl:=cB h;exact aL (hs:=[.run 3,.call (.bool d) a,.run 1]) (by kernel_rfl) (aK (wV n a e) gD) (by kernel_rfl) (by kernel_rfl)
noncomputable def nL (R:Nat)(a:List UInt8)(b:Int)(c:Int):Option (Bool):=
 if (c = 120) then
  if((IntKind.wrap .i64 (b+1))<(List.length a:Int)) then
   (Al a (IntKind.wrap .i64 (b+1))).bind fun d=>
   if(d=39) then
    some true
   else
    some false
  else
   some false
 else
  some false
theorem BT {R : Nat} (n : Nat) {d : List UInt8} {e : Int} {f : Int} (g : St) {r : Bool} (h : nL R d e f = some r):
 cM 140 (bN C0 (aR C0 pJ R (n+2)) 17 R none (aQ C0.P 17 [1,1,0,0,0])) (bG (aQ C0.P 17 [1,1,0,0,0])) [(0,(.str d)),(1,(.int .i64 e)),(6,(.int .u8 f))] g .normal [(20,.bool r)] g:=by
 revert h;unfold nL;refine bD (fun a=>?_) (fun a=>?_)
 ·refine bD (fun b=>?_) (fun b=>?_)
  ·refine aA fun i j=>?_;have q9001:=aK (iL (k:=.i64) (P:=C0.P) (t:=9) (by kernel_rfl) j)<|aK (decide_eq_true b)<|aK (gA a) gD
   refine bD (fun c=>?_) (fun c=>?_)
   ·intro h;obtain rfl:=cB h;exact aO (hs:=[.run 1,.dec true,.run 5,.dec true,.run 5,.val (.int .u8 i),.dec true,.run 2]) (want:=[20]) (by kernel_rfl) (aK (gA c) q9001)
   ·intro h;obtain rfl:=cB h;exact aO (hs:=[.run 1,.dec true,.run 5,.dec true,.run 5,.val (.int .u8 i),.dec false,.run 2]) (want:=[20]) (by kernel_rfl) (aK (eW c) q9001)
  ·intro h;obtain rfl:=cB h;exact aO (hs:=[.run 1,.dec true,.run 5,.dec false,.run 4]) (want:=[20]) (by kernel_rfl) (aK (decide_eq_false b)<|aK (gA a) gD)
 ·intro h;obtain rfl:=cB h;exact aO (hs:=[.run 1,.dec false,.run 5]) (want:=[20]) (by kernel_rfl) (aK (eW a) gD)
noncomputable def iN (R:Nat)(a:Int)(b:Bool):Option (Bool):=
 if(a=0) then
  some true
 else
  if b=true then
   some false
  else
   some true
theorem qB {R:Nat}(n:Nat){c:Int}{d:Bool}(e:St){r:Bool}(h:iN R c d=some r):
 cM 140 (bN C0 (aR C0 pJ R (n+2)) 17 R none (aQ C0.P 17 [1,1,0,0,1,0,1,1,0,0])) (bG (aQ C0.P 17 [1,1,0,0,1,0,1,1,0,0])) [(8,(.int .i64 c)),(10,(.bool d))] e .normal [(55,.bool r)] e:=by
 revert h;unfold iN;refine bD (fun a=>?_) (fun a=>?_)
 ·intro h;obtain rfl:=cB h;exact aO (hs:=[.run 1,.dec true,.run 2]) (want:=[55]) (by kernel_rfl) (aK (gA a) gD)
 ·refine bD (fun b=>?_) (fun b=>?_)
  ·subst b;intro h;obtain rfl:=cB h;exact aO (hs:=[.run 1,.dec false,.run 4]) (want:=[55]) (by kernel_rfl) (aK (eW a) gD)
  ·obtain rfl:=bF b;intro h;obtain rfl:=cB h;exact aO (hs:=[.run 1,.dec false,.run 4]) (want:=[55]) (by kernel_rfl) (aK (eW a) gD)
noncomputable def fW (R:Nat)(c:Int)(a:Int)(b:List UInt8):Option (Bool):=
 if (a > 1) then
  if(c=48) then
   some true
  else
   if(a>19) then
    some true
   else
    if(a=19) then
     if(!(strLt b [57,50,50,51,51,55,50,48,51,54,56,53,52,55,55,53,56,48,55] || kG b [57,50,50,51,51,55,50,48,51,54,56,53,52,55,55,53,56,48,55]))=true then
      some true
     else
      some false
    else
     some false
 else
  some false
theorem nX {R : Nat} (n : Nat) {g : Int} {a : Int} {i : List UInt8} (j : St) {r : Bool} (h : fW R g a i = some r):
 cM 140 (bN C0 (aR C0 pJ R (n+2)) 17 R none (aQ C0.P 17 [1,1,0,0,1,1,1,1,1,0,1,1,0,0])) (bG (aQ C0.P 17 [1,1,0,0,1,1,1,1,1,0,1,1,0,0])) [(6,(.int .u8 g)),(11,(.int .i64 a)),(12,(.str i))] j .normal [(100,.bool r)] j:=by
 revert h;unfold fW;refine bD (fun d=>?_) (fun d=>?_)
 ·have q9002:=aK (decide_eq_true d) gD
  refine bD (fun b=>?_) (fun b=>?_)
  ·intro h;obtain rfl:=cB h;exact aO (hs:=[.run 1,.dec true,.run 2,.dec true,.run 5]) (want:=[100]) (by kernel_rfl) (aK (gA b) q9002)
  ·refine bD (fun e=>?_) (fun e=>?_)
   ·intro h;obtain rfl:=cB h;exact aO (hs:=[.run 1,.dec true,.run 2,.dec false,.run 3,.dec true,.run 3]) (want:=[100]) (by kernel_rfl) (aK (decide_eq_true e)<|aK (eW b) q9002)
   ·have q9003:=aK (decide_eq_false e)<|aK (eW b) q9002
    refine bD (fun c=>?_) (fun c=>?_)
    ·refine bD (fun f=>?_) (fun f=>?_)
     ·intro h;obtain rfl:=cB h;exact aO (hs:=[.run 1,.dec true,.run 2,.dec false,.run 3,.dec false,.run 3,.dec true,.run 2,.dec true,.run 2]) (want:=[100]) (by kernel_rfl) (aK f<|aK (gA c) q9003)
     ·intro h;obtain rfl:=cB h;exact aO (hs:=[.run 1,.dec true,.run 2,.dec false,.run 3,.dec false,.run 3,.dec true,.run 2,.dec false,.run 2]) (want:=[100]) (by kernel_rfl) (aK (bF f)<|aK (gA c) q9003)
    ·intro h;obtain rfl:=cB h;exact aO (hs:=[.run 1,.dec true,.run 2,.dec false,.run 3,.dec false,.run 3,.dec false,.run 3]) (want:=[100]) (by kernel_rfl) (aK (eW c) q9003)
 ·intro h;obtain rfl:=cB h;exact aO (hs:=[.run 1,.dec false,.run 4,.dec false,.run 3,.dec false,.run 3]) (want:=[100]) (by kernel_rfl) (aK (eW (show ¬ (a=19) by omega))<|aK (decide_eq_false (show ¬ (a>19) by omega))<|aK (decide_eq_false d) gD)
noncomputable def iP (R:Nat)(b:List UInt8)(c:Int)(f:Nat)(g:AV)(h:Int):Nat→Int→St→Option ((Int×St) ⊕ (St))
 | 0,_,_=>none
 | r + 1, d, a =>
   if(d<h) then
    (cV C0.P 22 g (.int .i64 d)).bind fun i=>
    (loadAt C0.P a 9 i).bind fun j=>
    (iZ j).bind fun e=>
    (Am b c (List.length b:Nat)).bind fun k=>
    (kJ R k e).bind fun l=>
    if l=true then
     (storeAt C0.P a 26 (.ref f 0) (.agg [(.int .i64 6),(.str e),(.int .i64 c)])).bind fun m=>
     some (.inl ((List.length e:Int),m))
    else
     iP R b c f g h r (IntKind.wrap .i64 (d+1)) a
   else
    some (.inr a)
noncomputable def pX (o:(Int×St) ⊕ (St)):cZ×List (Nat×AV)×St:=match o with
 | .inl (a0,a1)=>(.ret,[(5,.int .i64 a0)],a1)
 | .inr a0=>((.exit 1),[],a0)
theorem tN (R n : Nat) (e : List UInt8) (f : Int) (g : Nat) (i : AV) (j : Int) : ∀ (r : Nat) (b : Int) (a : St) (o : (Int × St) ⊕ (St)), iP R e f g i j r b a = some o →
 cM 140 (lO (fun fr k=>bN C0 (aR C0 pJ R (n+2)) 17 R none (aQ C0.P 17 [1,1,1,0,1,0,0]) fr k) r) (bG (aQ C0.P 17 [1,1,1,0,1,0,0])) [(0,(.str e)),(1,(.int .i64 f)),(4,(.ref g 0)),(121,i),(122,(.int .i64 j)),(123,(.int .i64 b))] a (pX o).1 (pX o).2.1 (pX o).2.2:=by
 intro r
 induction r with
 | zero=>intro b a o h; exact nomatch h
 | succ r ih =>
   intro b a o
   unfold iP;refine bD (fun c=>?_) (fun c=>?_)
   ·refine aA fun l m=>?_;refine aA fun z p=>?_;refine aA fun q w=>?_;obtain rfl:=dY w;refine aA fun s u=>?_;refine aA fun A v=>?_;refine bD (fun d=>?_) (fun d=>?_)
    ·subst d;refine aA fun x y=>?_;intro h;obtain rfl:=cB h;exact cF (aO (hs:=[.dec true,.aJ,.aJ,.val l,.val (.str q),.run 3,.val (.str s),.run 1,.call (.bool true) a,.aJ,.run 5,.bM AV.undef x,.run 1]) (want:=[5]) (by kernel_rfl) (.cons (aP y)<|.cons (sQ n a v)<|.cons (H9 (k:=.i64) (P:=C0.P) (t:=9) (by kernel_rfl) u)<|.cons p<|.cons m<|.cons (decide_eq_true c) .nil)) (by kernel_rfl)
    ·obtain rfl:=bF d;intro h;exact dP (aO (hs:=[.dec true,.aJ,.aJ,.val l,.val (.str q),.run 3,.val (.str s),.run 1,.call (.bool false) a,.aJ,.run 2]) (want:=[0,1,4,121,122,123]) (by kernel_rfl) (.cons (sQ n a v)<|.cons (H9 (k:=.i64) (P:=C0.P) (t:=9) (by kernel_rfl) u)<|.cons p<|.cons m<|.cons (decide_eq_true c) .nil)) (ih (IntKind.wrap .i64 (b+1)) a _ h)
   ·intro h;obtain rfl:=cB h;exact cF (aO (hs:=[.dec false,.aJ]) (want:=[]) (by kernel_rfl) (.cons (decide_eq_false c) .nil)) (by kernel_rfl)
noncomputable def AI (R:Nat)(s2:List UInt8)(i3:Int)(st4:St):Option (Int×List UInt8×Int×Int×St):=
 (Al s2 i3).bind fun i6=>
 (nL R s2 i3 i6).bind fun m=>
 if m=true then
  (Am s2 (IntKind.wrap .i64 (i3+1)) (List.length s2:Nat)).bind fun n=>
  (mF R n).bind fun(O5,b)=>
  (pO R O5).bind fun(p,q)=>
  (iN R b q).bind fun r=>
  if r=true then
   (storeAt C0.P (St.push st4 (.cells 26 true [(.int .i64 0),(.str []),(.int .i64 0)])) 26 (.ref (St.next st4) 0) (.agg [(.int .i64 0),(.str []),(.int .i64 i3)])).bind fun c=>
   (loadAt C0.P c 26 (.ref (St.next st4) 0)).bind fun s=>
   (cD s).bind fun(t,u,v)=>
   some (t,u,v,0,c)
  else
   (storeAt C0.P (St.push st4 (.cells 26 true [(.int .i64 0),(.str []),(.int .i64 0)])) 26 (.ref (St.next st4) 0) (.agg [(.int .i64 5),(.str p),(.int .i64 i3)])).bind fun d=>
   (loadAt C0.P d 26 (.ref (St.next st4) 0)).bind fun w=>
   (cD w).bind fun(x,y,z)=>
   some (x,y,z,(IntKind.wrap .i64 (b+1)),d)
 else
  (oM R i6).bind fun A=>
  if A=true then
   (q8 R s2 i3).bind fun(B,C,D,E)=>
   (storeAt C0.P (St.push st4 (.cells 26 true [(.int .i64 0),(.str []),(.int .i64 0)])) 26 (.ref (St.next st4) 0) (.agg [(.int .i64 B),(.str C),(.int .i64 D)])).bind fun e=>
   (loadAt C0.P e 26 (.ref (St.next st4) 0)).bind fun F=>
   (cD F).bind fun(G,H,I)=>
   some (G,H,I,E,e)
  else
   (nC R i6).bind fun J=>
   if J=true then
    (mC R s2 i3).bind fun a=>
    (Am s2 i3 (IntKind.wrap .i64 (i3+a))).bind fun f=>
    (fW R i6 a f).bind fun K=>
    if K=true then
     (storeAt C0.P (St.push st4 (.cells 26 true [(.int .i64 0),(.str []),(.int .i64 0)])) 26 (.ref (St.next st4) 0) (.agg [(.int .i64 0),(.str []),(.int .i64 i3)])).bind fun g=>
     (loadAt C0.P g 26 (.ref (St.next st4) 0)).bind fun L=>
     (cD L).bind fun(M,N,O)=>
     some (M,N,O,0,g)
    else
     (storeAt C0.P (St.push st4 (.cells 26 true [(.int .i64 0),(.str []),(.int .i64 0)])) 26 (.ref (St.next st4) 0) (.agg [(.int .i64 3),(.str f),(.int .i64 i3)])).bind fun h=>
     (loadAt C0.P h 26 (.ref (St.next st4) 0)).bind fun Q=>
     (cD Q).bind fun(S,T,U)=>
     some (S,T,U,a,h)
   else
    if(i6=39) then
     (Am s2 i3 (List.length s2:Nat)).bind fun V=>
     (mF R V).bind fun(W,X)=>
     (storeAt C0.P (St.push st4 (.cells 26 true [(.int .i64 0),(.str []),(.int .i64 0)])) 26 (.ref (St.next st4) 0) (.agg [(.int .i64 4),(.str W),(.int .i64 i3)])).bind fun i=>
     (loadAt C0.P i 26 (.ref (St.next st4) 0)).bind fun Y=>
     (cD Y).bind fun(Z,a0,a1)=>
     some (Z,a0,a1,X,i)
    else
     (eK (aU C0.P (C0.bU 17) 22 18 [(0,(.str [60,62])),(1,(.str [60,61])),(2,(.str [62,61])),(3,(.str [61])),(4,(.str [60])),(5,(.str [62])),(6,(.str [43])),(7,(.str [45])),(8,(.str [42])),(9,(.str [40])),(10,(.str [41])),(11,(.str [123])),(12,(.str [125])),(13,(.str [91])),(14,(.str [93])),(15,(.str [44])),(16,(.str [58])),(17,(.str [46]))]) (St.push st4 (.cells 26 true [(.int .i64 0),(.str []),(.int .i64 0)]))).bind fun(j,a2)=>
     (lenOf j).bind fun n239=>
     (iP R s2 i3 (St.next st4) j (n239:Int) R 0 a2).bind fun o=>match o with
     | .inl (a3,k)=>
      (loadAt C0.P k 26 (.ref (St.next st4) 0)).bind fun a4=>
      (cD a4).bind fun(a5,a6,a7)=>
      some (a5,a6,a7,a3,k)
     | .inr a8=>
      (storeAt C0.P a8 26 (.ref (St.next st4) 0) (.agg [(.int .i64 0),(.str []),(.int .i64 i3)])).bind fun l=>
      (loadAt C0.P l 26 (.ref (St.next st4) 0)).bind fun a9=>
      (cD a9).bind fun(b0,b1,b2)=>
      some (b0,b1,b2,0,l)
theorem Hj {R : Nat} (n : Nat) {s2 : List UInt8} {i3 : Int} {st4 : St} {r : Int × List UInt8 × Int × Int × St} (h : AI R s2 i3 st4 = some r):
 b7 (aR C0 pJ R (n+3)) false 17 [(.str s2),(.int .i64 i3)] st4 (.tuple [(.agg [.int .i64 r.1,.str r.2.1,.int .i64 r.2.2.1]),(.int .i64 r.2.2.2.1)]) r.2.2.2.2:=by
 revert h;unfold AI;refine aA fun i6 h5=>?_;refine aA fun f2 F=>?_;have q9004:=aK (BT n (St.push st4 (.cells 26 true kZ)) F)<|aK (iL (k:=.i64) (P:=C0.P) (t:=9) (by kernel_rfl) h5) gD
 refine bD (fun f=>?_) (fun f=>?_)
 ·subst f;refine aA fun a m=>?_;refine aA fun o p=>?_;obtain⟨O5,q⟩:=o;refine aA fun o s=>?_;obtain⟨u,v⟩:=o;refine aA fun f3 w=>?_;refine bD (fun g=>?_) (fun g=>?_)
  ·subst g;refine aA fun G H=>?_;refine aA fun f4 I=>?_;refine aA fun o J=>?_;obtain⟨K,L,M⟩:=o;obtain rfl:=bT J;intro h;obtain rfl:=cB h;exact aL (hs:=[.run 4,.val (.int .u8 i6),.run 1,.aJ,.zX [0,1,6] .normal [(20,(.bool true))] (St.push st4 (.cells 26 true kZ)),.aJ,.run 3,.val (.str a),.call (.tuple [(.str O5),(.int .i64 q)]) (St.push st4 (.cells 26 true kZ)),.run 6,.call (.tuple [(.str u),(.bool v)]) (St.push st4 (.cells 26 true kZ)),.run 5,.zX [8,10] .normal [(55,(.bool true))] (St.push st4 (.cells 26 true kZ)),.aJ,.run 2,.bM AV.undef G,.run 1,.val (eZ K L M)]) (by kernel_rfl) (aK I<|aK (aP H)<|aK (qB n (St.push st4 (.cells 26 true kZ)) w)<|aK (xX R (n+1) O5 (St.push st4 (.cells 26 true kZ)) _ s)<|aK (p9 R (n+1) a (St.push st4 (.cells 26 true kZ)) _ p)<|aK (H9 (k:=.i64) (P:=C0.P) (t:=9) (by kernel_rfl) m) q9004) (by kernel_rfl) (by kernel_rfl)
  ·obtain rfl:=bF g;refine aA fun N O=>?_;refine aA fun f5 Q=>?_;refine aA fun o S=>?_;obtain⟨T,U,V⟩:=o;obtain rfl:=bT S;intro h;obtain rfl:=cB h;exact aL (hs:=[.run 4,.val (.int .u8 i6),.run 1,.aJ,.zX [0,1,6] .normal [(20,(.bool true))] (St.push st4 (.cells 26 true kZ)),.aJ,.run 3,.val (.str a),.call (.tuple [(.str O5),(.int .i64 q)]) (St.push st4 (.cells 26 true kZ)),.run 6,.call (.tuple [(.str u),(.bool v)]) (St.push st4 (.cells 26 true kZ)),.run 5,.zX [8,10] .normal [(55,(.bool false))] (St.push st4 (.cells 26 true kZ)),.aJ,.run 5,.bM AV.undef N,.run 1,.val (eZ T U V)]) (by kernel_rfl) (aK Q<|aK (aP O)<|aK (qB n (St.push st4 (.cells 26 true kZ)) w)<|aK (xX R (n+1) O5 (St.push st4 (.cells 26 true kZ)) _ s)<|aK (p9 R (n+1) a (St.push st4 (.cells 26 true kZ)) _ p)<|aK (H9 (k:=.i64) (P:=C0.P) (t:=9) (by kernel_rfl) m) q9004) (by kernel_rfl) (by kernel_rfl)
 ·obtain rfl:=bF f;refine aA fun f6 W=>?_;have q9005:=aK (Ap R (n+1) i6 (St.push st4 (.cells 26 true kZ)) _ W) q9004
  refine bD (fun i=>?_) (fun i=>?_)
  ·subst i;refine aA fun o X=>?_;obtain⟨Y,Z,a0,a1⟩:=o;refine aA fun a2 a3=>?_;refine aA fun f7 a4=>?_;refine aA fun o a5=>?_;obtain⟨a6,a7,a8⟩:=o;obtain rfl:=bT a5;intro h;obtain rfl:=cB h;exact aL (hs:=[.run 4,.val (.int .u8 i6),.run 1,.aJ,.zX [0,1,6] .normal [(20,(.bool false))] (St.push st4 (.cells 26 true kZ)),.aJ,.run 1,.call (.bool true) (St.push st4 (.cells 26 true kZ)),.run 1,.aJ,.run 2,.call (.tuple [(eZ Y Z a0),(.int .i64 a1)]) (St.push st4 (.cells 26 true kZ)),.run 2,.bM AV.undef a2,.run 1,.val (eZ a6 a7 a8)]) (by kernel_rfl) (aK a4<|aK (aP a3)<|aK (BN R (n+1) s2 i3 (St.push st4 (.cells 26 true kZ)) _ X) q9005) (by kernel_rfl) (by kernel_rfl)
  ·obtain rfl:=bF i;refine aA fun f8 a9=>?_;have q9006:=aK (uR R (n+1) i6 (St.push st4 (.cells 26 true kZ)) _ a9) q9005
   refine bD (fun j=>?_) (fun j=>?_)
   ·subst j;refine aA fun x b0=>?_;refine aA fun y z=>?_;refine aA fun f9 A=>?_;have q9007:=aK (AM n (St.push st4 (.cells 26 true kZ)) b0) q9006
    refine bD (fun l=>?_) (fun l=>?_)
    ·subst l;refine aA fun b1 b2=>?_;refine aA fun g0 b3=>?_;refine aA fun o b4=>?_;obtain⟨b5,b6,b8⟩:=o;obtain rfl:=bT b4;intro h;obtain rfl:=cB h;exact aL (hs:=[.run 4,.val (.int .u8 i6),.run 1,.aJ,.zX [0,1,6] .normal [(20,(.bool false))] (St.push st4 (.cells 26 true kZ)),.aJ,.run 1,.call (.bool false) (St.push st4 (.cells 26 true kZ)),.run 1,.aJ,.run 1,.call (.bool true) (St.push st4 (.cells 26 true kZ)),.run 1,.aJ,.run 2,.call (.int .i64 x) (St.push st4 (.cells 26 true kZ)),.run 6,.val (.str y),.run 1,.zX [6,11,12] .normal [(100,(.bool true))] (St.push st4 (.cells 26 true kZ)),.aJ,.run 2,.bM AV.undef b1,.run 1,.val (eZ b5 b6 b8)]) (by kernel_rfl) (aK b3<|aK (aP b2)<|aK (nX n (St.push st4 (.cells 26 true kZ)) A)<|aK (HG (k:=.i64) (k':=.i64) (P:=C0.P) (t:=9) (by kernel_rfl) z) q9007) (by kernel_rfl) (by kernel_rfl)
    ·obtain rfl:=bF l;refine aA fun b9 c0=>?_;refine aA fun g1 c1=>?_;refine aA fun o c2=>?_;obtain⟨c3,c4,c5⟩:=o;obtain rfl:=bT c2;intro h;obtain rfl:=cB h;exact aL (hs:=[.run 4,.val (.int .u8 i6),.run 1,.aJ,.zX [0,1,6] .normal [(20,(.bool false))] (St.push st4 (.cells 26 true kZ)),.aJ,.run 1,.call (.bool false) (St.push st4 (.cells 26 true kZ)),.run 1,.aJ,.run 1,.call (.bool true) (St.push st4 (.cells 26 true kZ)),.run 1,.aJ,.run 2,.call (.int .i64 x) (St.push st4 (.cells 26 true kZ)),.run 6,.val (.str y),.run 1,.zX [6,11,12] .normal [(100,(.bool false))] (St.push st4 (.cells 26 true kZ)),.aJ,.run 4,.bM AV.undef b9,.run 1,.val (eZ c3 c4 c5)]) (by kernel_rfl) (aK c1<|aK (aP c0)<|aK (nX n (St.push st4 (.cells 26 true kZ)) A)<|aK (HG (k:=.i64) (k':=.i64) (P:=C0.P) (t:=9) (by kernel_rfl) z) q9007) (by kernel_rfl) (by kernel_rfl)
   ·obtain rfl:=bF j;refine bD (fun b=>?_) (fun b=>?_)
    ·refine aA fun B c6=>?_;refine aA fun o c7=>?_;obtain⟨c8,c9⟩:=o;refine aA fun d0 d1=>?_;refine aA fun g2 d2=>?_;refine aA fun o d3=>?_;obtain⟨d4,d5,d6⟩:=o;obtain rfl:=bT d3;intro h;obtain rfl:=cB h;exact aL (hs:=[.run 4,.val (.int .u8 i6),.run 1,.aJ,.zX [0,1,6] .normal [(20,(.bool false))] (St.push st4 (.cells 26 true kZ)),.aJ,.run 1,.call (.bool false) (St.push st4 (.cells 26 true kZ)),.run 1,.aJ,.run 1,.call (.bool false) (St.push st4 (.cells 26 true kZ)),.run 1,.aJ,.run 1,.dec true,.run 1,.aJ,.run 2,.val (.str B),.call (.tuple [(.str c8),(.int .i64 c9)]) (St.push st4 (.cells 26 true kZ)),.run 9,.bM AV.undef d0,.run 1,.val (eZ d4 d5 d6)]) (by kernel_rfl) (aK d2<|aK (aP d1)<|aK (p9 R (n+1) B (St.push st4 (.cells 26 true kZ)) _ c7)<|aK (H9 (k:=.i64) (P:=C0.P) (t:=9) (by kernel_rfl) c6)<|aK (gA b) q9006) (by kernel_rfl) (by kernel_rfl)
    ·refine aA fun o C=>?_;obtain⟨c,d⟩:=o;refine aA fun n239 D=>?_;refine aA fun o E=>?_
     rcases o with⟨d7,d8⟩ | d9
     ·refine aA fun g3 e0=>?_;refine aA fun o e1=>?_;obtain⟨e2,e3,e4⟩:=o;obtain rfl:=bT e1;intro h;obtain rfl:=cB h;exact aL (hs:=[.run 4,.val (.int .u8 i6),.run 1,.aJ,.zX [0,1,6] .normal [(20,(.bool false))] (St.push st4 (.cells 26 true kZ)),.aJ,.run 1,.call (.bool false) (St.push st4 (.cells 26 true kZ)),.run 1,.aJ,.run 1,.call (.bool false) (St.push st4 (.cells 26 true kZ)),.run 1,.aJ,.run 1,.dec false,.run 1,.aJ,.bM c d,.val (.int .i64 (n239:Int)),.run 1,.aJ,.abs [0,1,4,121,122,123] .ret [(5,(.int .i64 d7))] d8,.val (eZ e2 e3 e4)]) (by kernel_rfl) (aK e0<|aK (cW (tN R n s2 i3 (St.next st4) c (n239:Int) R 0 d _ E))<|aK (fD (P:=C0.P) (t:=22) (e:=9) (by kernel_rfl) D)<|aK C<|aK (eW b) q9006) (by kernel_rfl) (by kernel_rfl)
     ·refine aA fun e5 e6=>?_;refine aA fun g4 e7=>?_;refine aA fun o e8=>?_;obtain⟨e9,f0,f1⟩:=o;obtain rfl:=bT e8;intro h;obtain rfl:=cB h;exact aL (hs:=[.run 4,.val (.int .u8 i6),.run 1,.aJ,.zX [0,1,6] .normal [(20,(.bool false))] (St.push st4 (.cells 26 true kZ)),.aJ,.run 1,.call (.bool false) (St.push st4 (.cells 26 true kZ)),.run 1,.aJ,.run 1,.call (.bool false) (St.push st4 (.cells 26 true kZ)),.run 1,.aJ,.run 1,.dec false,.run 1,.aJ,.bM c d,.val (.int .i64 (n239:Int)),.run 1,.aJ,.abs [0,1,4,121,122,123] (.exit 1) [] d9,.run 2,.bM AV.undef e5,.run 1,.val (eZ e9 f0 f1)]) (by kernel_rfl) (aK e7<|aK (aP e6)<|aK (cW (tN R n s2 i3 (St.next st4) c (n239:Int) R 0 d _ E))<|aK (fD (P:=C0.P) (t:=22) (e:=9) (by kernel_rfl) D)<|aK C<|aK (eW b) q9006) (by kernel_rfl) (by kernel_rfl)
noncomputable def rP (R:Nat)(a0:List UInt8)(a1:Int):Option (Int×List UInt8×Int×Int):=(AI 2000000 a0 a1 St.empty).map fun r=>(r.1,r.2.1,r.2.2.1,r.2.2.2.1)
noncomputable def wQ (args:List AV):Option AV:=match args with
 | [.str a0,.int .i64 a1]=>(rP 0 a0 a1).map fun r=>(.tuple [(.agg [.int .i64 r.1,.str r.2.1,.int .i64 r.2.2.1]),(.int .i64 r.2.2.2)])
 | _=>none
theorem HJ:nN C0 pJ (17,wQ):=by
 intro args v h0
 have h:wQ args=some v:=h0
 unfold wQ at h
 split at h
 ·obtain⟨q0,h2,rfl⟩:=Option.map_eq_some_iff.1 h
  obtain⟨q,h1,rfl⟩:=Option.map_eq_some_iff.1 h2
  exact⟨rfl,rfl,2000000,0+3,_,Hj 0 h1⟩
 ·cases h
noncomputable def Hz:List (Nat×(List AV→Option AV)):=[(17,wQ)]
noncomputable def cK:Ext:=wL (sG Hz) pJ
theorem NX:oX C0.P cK:=Dx F4 Jx HY Jx (by kernel_rfl) (.cons HJ<|.nil)
theorem CY (R:Nat)(a0:List UInt8)(a1:Int)(r:Int×List UInt8×Int×Int)(h:rP R a0 a1=some r):cK 17 [.str a0,.int .i64 a1]=some (.tuple [(.agg [.int .i64 r.1,.str r.2.1,.int .i64 r.2.2.1]),(.int .i64 r.2.2.2)]):=
 mL ((by kernel_rfl:sG Hz 17 [.str a0,.int .i64 a1]=(rP R a0 a1).map fun r=>(.tuple [(.agg [.int .i64 r.1,.str r.2.1,.int .i64 r.2.2.1]),(.int .i64 r.2.2.2)])).trans (by rw[h]; rfl))
theorem wM (R n:Nat)(a0:List UInt8)(a1:Int)(st:St)(r:Int×List UInt8×Int×Int)(h:rP R a0 a1=some r):b7 (aR C0 cK R (n+1)) false 17 [.str a0,.int .i64 a1] st (.tuple [(.agg [.int .i64 r.1,.str r.2.1,.int .i64 r.2.2.1]),(.int .i64 r.2.2.2)]) st:=lE (CY R a0 a1 r h) st
theorem Bz (R:Nat)(a0:Int)(r:Bool)(h:nD R a0=some r):cK 16 [.int .u8 a0]=some (.bool r):=
 (by kernel_rfl:cK 16 [.int .u8 a0]=pJ 16 [.int .u8 a0]).trans (C8 R a0 r h)
theorem vE (R n:Nat)(a0:Int)(st:St)(r:Bool)(h:nD R a0=some r):b7 (aR C0 cK R (n+1)) false 16 [.int .u8 a0] st (.bool r) st:=lE (Bz R a0 r h) st
noncomputable def P9 (R:Nat)(s:List UInt8)(b z:Int):Option (Int×AV):=if b=10∧z=64 then(rB s).map fun n=>(n,.tV) else none
theorem Oh {R:Nat}(n:Nat){s:List UInt8}{b:Int}{z:Int}(st:St){r:Int×AV}(h:P9 R s b z=some r):b7 (aR C0 cK R (n+1)) false 66 [.str s,.int .i64 b,.int .i64 z] st (.tuple [.int .i64 r.1,r.2]) st:=by
 unfold P9 at h
 split at h
 ·rename_i hb
  obtain⟨rfl,rfl⟩:=hb;obtain⟨q,h1,rfl⟩:=Option.map_eq_some_iff.1 h
  have e:cK 66 [.str s,.int .i64 10,.int .i64 64]=(rB s).map fun n=>.tuple [.int .i64 n,.tV]:=by kernel_rfl
  exact lE (by rw[e,h1]; rfl) st
 ·cases h
noncomputable def Ny (R:Nat)(s:List UInt8)(st:St):Option (Int×AV×St):=(I6 108 1 2 s st).map fun r=>(r.1,r.2,st)
theorem OO {R:Nat}(n:Nat){s:List UInt8}{st:St}{r:Int×AV×St}(h:Ny R s st=some r):b7 (aR C0 cK R (n+1)) false 57 [.str s] st (.tuple [.int .i64 r.1,r.2.1]) r.2.2:=by
 unfold Ny at h
 obtain⟨q,h1,rfl⟩:=Option.map_eq_some_iff.1 h
 exact Dp (by kernel_rfl) (by simp only[C0,CH,Bh,show Nat.beq 57 51=false from rfl,cond_false,show Nat.beq 57 57=true from rfl,cond_true,h1]; rfl)
noncomputable def Om (R:Nat)(n b:Int)(st:St):Option (List UInt8×St):=if b=10 then(N8 0 n st).map fun s=>(s,st) else none
theorem M3 {R:Nat}(n:Nat){a:Int}{b:Int}{st:St}{r:List UInt8×St}(h:Om R a b st=some r):b7 (aR C0 cK R (n+1)) false 51 [.int .i64 a,.int .i64 b] st (.str r.1) r.2:=by
 unfold Om at h
 split at h
 ·rename_i hb
  subst hb;obtain⟨q,h1,rfl⟩:=Option.map_eq_some_iff.1 h
  exact Dp (by kernel_rfl) (by simp[C0,CH,h1])
 ·cases h
noncomputable def xI (R:Nat):Option Bool:=some true
end
end Go.Proofs.YthodfojhbbendaaDoor
end
